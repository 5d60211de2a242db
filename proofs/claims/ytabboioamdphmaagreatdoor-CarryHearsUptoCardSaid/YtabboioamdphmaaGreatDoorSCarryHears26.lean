/- Walks of WireOf, bulk, messagesFit. -/
import Derived.Test.YtabboioamdphmaaGreatDoorSCarryHears23
import Derived.Test.YtabboioamdphmaaGreatDoorSCarryHears25
import Derived.Deep.QuietTactic
import Derived.Test.YtabboioamdphmaaGreatDoorSCarryHears18
import Derived.Test.YtabboioamdphmaaGreatDoorSCarryHears15
import Derived.BigQuiet
import Derived.Test.YtabboioamdphmaaGreatDoorSCarryHears01
import Derived.Maps.AppendAt
import Derived.Laws.AppendOwnNone
import Derived.Below
namespace Go.Proofs.YtabboioamdphmaaGreatDoor
section
open Go.RowKit Go.Maps Go.BigFrame

theorem KeptBut.set1 {F : Nat → Prop} {a w : World} (h : KeptBut F a w) {p : Addr} (hp : F p.block) (v : Value) : KeptBut F a (w.setCell p v) :=
  ⟨h.os, h.tape, h.output, by simp [World.setCell]; exact h.size, fun k hk hf => (Below.heap_setCell _ _ _ _ (fun e => hf (by rw [e]; exact hp))).trans (h.block k hk hf)⟩
theorem KeptBut.alloc1 {F : Nat → Prop} {a w : World} (h : KeptBut F a w) (o : Obj) : KeptBut F a (w.alloc o) :=
  ⟨h.os, h.tape, h.output, by simp; have := h.size; omega, fun k hk hf => (Below.heap_alloc _ _ _ (Nat.lt_of_lt_of_le hk h.size)).trans (h.block k hk hf)⟩
theorem KeptBut.frozen {F : Nat → Prop} {a b : World} (h : KeptBut F a b) {p : Addr} (hl : p.block < a.heap.size) (hp : ¬ F p.block) : b.frozen? p = a.frozen? p :=
  World.frozen?_of_block (h.block p.block hl hp)
theorem append_versR {ops : Array Oper} {rest : List Oper} {o : Oper} {a : Act} {Q : Exit → Act → World → Prop} {w : World} (s x : Nat) (hgd : o.guard = none)
    (ho : o.op = .call { callee := .builtin .append, args := #[.tmp s, .tmp x], argTypes := #[53, 53] }) (B : Nat) (v : Value) (L : List Ver) (n₀ : Nat) (ad : Option Addr) (len cap : Nat) (M : List Ver)
    (hs : a.eval (.tmp s) = v) (hx : a.eval (.tmp x) = .slice ad len cap) (hown : OwnV B w v L) (hlen : M.length = len) (hl : (L.length + M.length) * 48 ≤ 140737488355328) (ha : ad = none → cap = 0) (hI : VrR n₀ w ad M) (hB : B ≤ w.heap.size)
    (h : ∀ v' w', OwnV B w' v' (L ++ M) → w.grownBy w' v.ownBlock → (v' = .slice none 0 0 ↔ v = .slice none 0 0 ∧ len = 0) → (v'.ownBlock = v.ownBlock ∨ v'.ownBlock = some w.heap.size) → wpList Tryz.prog ops Q rest (a.put o.dst v') w') :
    wpList Tryz.prog ops Q (o :: rest) a w := by
  obtain ⟨i, hi, hz0, hz1, hz2⟩ := info_parts info_version
  subst hlen
  have at_ : ∀ y : Addr, ad = some y → (∀ j u, (vrV M)[j]? = some u → w.cell? (y.add j) = some u) → wpList Tryz.prog ops Q (o :: rest) a w := fun y e hc => by
    refine wpList_append_own_at _ hgd (.tmp s) (.tmp x) 53 ho B 76 i _ 5 48 Tryz.underlying53 hi hz0 hz1 hz2 rfl (by decide) v L.length (vrV L) hs hown y M.length cap (vrV M) (hx.trans (by rw [e])) (vrV_length M) hc (vrV_one M) (by unfold maxLen; omega) (by omega) hB ?_
    intro v' w' h1 h2 h3 h4
    refine h v' w' ?_ h2 h3 h4
    unfold OwnV
    rw [vrV_append, List.length_append]
    exact h1
  rcases hI with rfl | ⟨b, off, e, _, hcell⟩
  · cases ad with
    | none =>
      obtain rfl := ha rfl
      refine wpList_append_own_none hgd (.tmp s) (.tmp x) 53 ho B 76 i 5 Tryz.underlying53 hi v L.length (vrV L) hs hown hx ?_
      exact h v w (by simpa using hown) (World.grownBy.refl _ _) ⟨fun e => ⟨e, rfl⟩, fun e => e.1⟩ (.inl rfl)
    | some ad => exact at_ ad rfl (fun j u hj => by simp [vrV] at hj)
  · refine at_ _ e (fun j u hj => ?_)
    have hj2 : j < M.length * 5 := by have := (List.getElem?_eq_some_iff.1 hj).1; rw [vrV_length] at this; exact this
    have h9 := vrV_at M (j / 5) (j % 5) (by omega) (by omega)
    have e5 : j / 5 * 5 + j % 5 = j := by omega
    rw [e5, hj] at h9
    rw [Go.WideShapes.add_plain, h9, ← hcell (j / 5) (j % 5) (by omega) (by omega)]
    rw [show off + j / 5 * 5 + j % 5 = off + j by omega]
set_option maxRecDepth 100000 in
set_option maxHeartbeats 4000000 in
theorem wireof_walk (w : World) (fr dst kind key : ByteArray) (op cf : Int) (sl : Bool) (a : Option Addr) (len cap : Nat) (L : List Ver) (hlen : L.length = len) (hl : len * 48 ≤ 140737488351232) (ha : a = none → cap = 0) (hL : VrR w.heap.size w a L) :
    Calls Tryz.prog 19 #[.agg #[.string fr, .string dst, .string kind, .string key, .int .i64 op, .int .i64 cf, .bool sl, .slice a len cap]] w fun e w' => Below w.heap.size w w' ∧ ∃ v, e = .returned (.agg #[.string fr, .string dst, .string kind, .string key, .int .i64 op, .int .i64 cf, .bool sl, v]) ∧ OwnV w.heap.size w' v L := by
  have hul : (([] : List Ver).length + L.length) * 48 ≤ 140737488355328 := by simp; omega
  have H := Lib.hid (And.intro hlen (And.intro hul (And.intro ha hL)))
  clear hlen hl ha hL hul
  go_enter Tryz.func19, Tryz.ntmps19
  go_wp2_with (at_builtin; refine append_versR 20 22 rfl rfl w.heap.size (.slice none 0 0) [] w.heap.size a len cap L rfl rfl (OwnV.nil _ _) H.out.1 H.out.2.1 H.out.2.2.1 (H.out.2.2.2.below ((((Below.refl w.heap.size w).alloc (Nat.le_refl _) _).alloc (by simp) _).alloc (by simp; omega) _)) (by simp; omega) ?_)
  intro v' w' k1 k2 _ k4
  obtain ⟨Wa, hWa⟩ : ∃ Wa, w.alloc (.cells #[.string fr, .string dst, .string kind, .string key, .int .i64 op, .int .i64 cf, .bool sl, .slice a len cap] 57) = Wa := ⟨_, rfl⟩
  rw [hWa] at k2
  obtain ⟨Wb, hWb⟩ : ∃ Wb, Wa.alloc (.cells #[.string ⟨#[]⟩, .string ⟨#[]⟩, .string ⟨#[]⟩, .string ⟨#[]⟩, .int .i64 0, .int .i64 0, .bool false, .slice none 0 0] 55) = Wb := ⟨_, rfl⟩
  rw [hWb] at k2
  obtain ⟨W3, hW3⟩ : ∃ W3, Wb.alloc (.cells #[.string fr, .string dst, .string kind, .string key, .int .i64 op, .int .i64 cf, .bool sl, .slice none 0 0] 55) = W3 := ⟨_, rfl⟩
  rw [hW3] at k2
  have hsa : Wa.heap.size = w.heap.size + 1 := by rw [← hWa]; simp
  have hsb : Wb.heap.size = w.heap.size + 1 + 1 := by rw [← hWb]; simp [hsa]
  have hs3 : W3.heap.size = w.heap.size + 1 + 1 + 1 := by rw [← hW3]; simp [hsb]
  have hba : Below w.heap.size w Wa := by rw [← hWa]; exact (Below.refl _ _).alloc (Nat.le_refl _) _
  have hbb : Below Wa.heap.size Wa Wb := by rw [← hWb]; exact (Below.refl _ _).alloc (Nat.le_refl _) _
  have hb3 : Below Wb.heap.size Wb W3 := by rw [← hW3]; exact (Below.refl _ _).alloc (Nat.le_refl _) _
  have hB : Below W3.heap.size W3 w' := Below.grown (Below.refl _ _) k2 (Nat.le_refl _) (fun j e => by simp [Value.ownBlock] at e)
  have hB2 : Below Wb.heap.size Wb w' := hb3.trans (hB.mono hb3.size)
  have p0 : w'.cell? ⟨w.heap.size + 1, 0, none⟩ = some (.string ⟨#[]⟩) := (hB2.cell (p := ⟨w.heap.size + 1, 0, none⟩) (by show w.heap.size + 1 < Wb.heap.size; omega)).trans (by rw [← hsa, ← hWb]; simp)
  have pz0 : w'.frozen? ⟨w.heap.size + 1, 0, none⟩ = false := (hB2.frozen (p := ⟨w.heap.size + 1, 0, none⟩) (by show w.heap.size + 1 < Wb.heap.size; omega)).trans (by rw [← hsa, ← hWb]; simp)
  have p1 : w'.cell? ⟨w.heap.size + 1, 1, none⟩ = some (.string ⟨#[]⟩) := (hB2.cell (p := ⟨w.heap.size + 1, 1, none⟩) (by show w.heap.size + 1 < Wb.heap.size; omega)).trans (by rw [← hsa, ← hWb]; simp)
  have pz1 : w'.frozen? ⟨w.heap.size + 1, 1, none⟩ = false := (hB2.frozen (p := ⟨w.heap.size + 1, 1, none⟩) (by show w.heap.size + 1 < Wb.heap.size; omega)).trans (by rw [← hsa, ← hWb]; simp)
  have p2 : w'.cell? ⟨w.heap.size + 1, 2, none⟩ = some (.string ⟨#[]⟩) := (hB2.cell (p := ⟨w.heap.size + 1, 2, none⟩) (by show w.heap.size + 1 < Wb.heap.size; omega)).trans (by rw [← hsa, ← hWb]; simp)
  have pz2 : w'.frozen? ⟨w.heap.size + 1, 2, none⟩ = false := (hB2.frozen (p := ⟨w.heap.size + 1, 2, none⟩) (by show w.heap.size + 1 < Wb.heap.size; omega)).trans (by rw [← hsa, ← hWb]; simp)
  have p3 : w'.cell? ⟨w.heap.size + 1, 3, none⟩ = some (.string ⟨#[]⟩) := (hB2.cell (p := ⟨w.heap.size + 1, 3, none⟩) (by show w.heap.size + 1 < Wb.heap.size; omega)).trans (by rw [← hsa, ← hWb]; simp)
  have pz3 : w'.frozen? ⟨w.heap.size + 1, 3, none⟩ = false := (hB2.frozen (p := ⟨w.heap.size + 1, 3, none⟩) (by show w.heap.size + 1 < Wb.heap.size; omega)).trans (by rw [← hsa, ← hWb]; simp)
  have p4 : w'.cell? ⟨w.heap.size + 1, 4, none⟩ = some (.int .i64 0) := (hB2.cell (p := ⟨w.heap.size + 1, 4, none⟩) (by show w.heap.size + 1 < Wb.heap.size; omega)).trans (by rw [← hsa, ← hWb]; simp)
  have pz4 : w'.frozen? ⟨w.heap.size + 1, 4, none⟩ = false := (hB2.frozen (p := ⟨w.heap.size + 1, 4, none⟩) (by show w.heap.size + 1 < Wb.heap.size; omega)).trans (by rw [← hsa, ← hWb]; simp)
  have p5 : w'.cell? ⟨w.heap.size + 1, 5, none⟩ = some (.int .i64 0) := (hB2.cell (p := ⟨w.heap.size + 1, 5, none⟩) (by show w.heap.size + 1 < Wb.heap.size; omega)).trans (by rw [← hsa, ← hWb]; simp)
  have pz5 : w'.frozen? ⟨w.heap.size + 1, 5, none⟩ = false := (hB2.frozen (p := ⟨w.heap.size + 1, 5, none⟩) (by show w.heap.size + 1 < Wb.heap.size; omega)).trans (by rw [← hsa, ← hWb]; simp)
  have p6 : w'.cell? ⟨w.heap.size + 1, 6, none⟩ = some (.bool false) := (hB2.cell (p := ⟨w.heap.size + 1, 6, none⟩) (by show w.heap.size + 1 < Wb.heap.size; omega)).trans (by rw [← hsa, ← hWb]; simp)
  have pz6 : w'.frozen? ⟨w.heap.size + 1, 6, none⟩ = false := (hB2.frozen (p := ⟨w.heap.size + 1, 6, none⟩) (by show w.heap.size + 1 < Wb.heap.size; omega)).trans (by rw [← hsa, ← hWb]; simp)
  have p7 : w'.cell? ⟨w.heap.size + 1, 7, none⟩ = some (.slice none 0 0) := (hB2.cell (p := ⟨w.heap.size + 1, 7, none⟩) (by show w.heap.size + 1 < Wb.heap.size; omega)).trans (by rw [← hsa, ← hWb]; simp)
  have pz7 : w'.frozen? ⟨w.heap.size + 1, 7, none⟩ = false := (hB2.frozen (p := ⟨w.heap.size + 1, 7, none⟩) (by show w.heap.size + 1 < Wb.heap.size; omega)).trans (by rw [← hsa, ← hWb]; simp)
  have q0 : w'.cell? ⟨w.heap.size + 1 + 1, 0, none⟩ = some (.string fr) := (hB.cell (p := ⟨w.heap.size + 1 + 1, 0, none⟩) (by show w.heap.size + 1 + 1 < W3.heap.size; omega)).trans (by rw [← hsb, ← hW3]; simp)
  have q1 : w'.cell? ⟨w.heap.size + 1 + 1, 1, none⟩ = some (.string dst) := (hB.cell (p := ⟨w.heap.size + 1 + 1, 1, none⟩) (by show w.heap.size + 1 + 1 < W3.heap.size; omega)).trans (by rw [← hsb, ← hW3]; simp)
  have q2 : w'.cell? ⟨w.heap.size + 1 + 1, 2, none⟩ = some (.string kind) := (hB.cell (p := ⟨w.heap.size + 1 + 1, 2, none⟩) (by show w.heap.size + 1 + 1 < W3.heap.size; omega)).trans (by rw [← hsb, ← hW3]; simp)
  have q3 : w'.cell? ⟨w.heap.size + 1 + 1, 3, none⟩ = some (.string key) := (hB.cell (p := ⟨w.heap.size + 1 + 1, 3, none⟩) (by show w.heap.size + 1 + 1 < W3.heap.size; omega)).trans (by rw [← hsb, ← hW3]; simp)
  have q4 : w'.cell? ⟨w.heap.size + 1 + 1, 4, none⟩ = some (.int .i64 op) := (hB.cell (p := ⟨w.heap.size + 1 + 1, 4, none⟩) (by show w.heap.size + 1 + 1 < W3.heap.size; omega)).trans (by rw [← hsb, ← hW3]; simp)
  have q5 : w'.cell? ⟨w.heap.size + 1 + 1, 5, none⟩ = some (.int .i64 cf) := (hB.cell (p := ⟨w.heap.size + 1 + 1, 5, none⟩) (by show w.heap.size + 1 + 1 < W3.heap.size; omega)).trans (by rw [← hsb, ← hW3]; simp)
  have q6 : w'.cell? ⟨w.heap.size + 1 + 1, 6, none⟩ = some (.bool sl) := (hB.cell (p := ⟨w.heap.size + 1 + 1, 6, none⟩) (by show w.heap.size + 1 + 1 < W3.heap.size; omega)).trans (by rw [← hsb, ← hW3]; simp)
  have q7 : w'.cell? ⟨w.heap.size + 1 + 1, 7, none⟩ = some (.slice none 0 0) := (hB.cell (p := ⟨w.heap.size + 1 + 1, 7, none⟩) (by show w.heap.size + 1 + 1 < W3.heap.size; omega)).trans (by rw [← hsb, ← hW3]; simp)
  have qz7 : w'.frozen? ⟨w.heap.size + 1 + 1, 7, none⟩ = false := (hB.frozen (p := ⟨w.heap.size + 1 + 1, 7, none⟩) (by show w.heap.size + 1 + 1 < W3.heap.size; omega)).trans (by rw [← hsb, ← hW3]; simp)
  have hne : ∀ g, v'.ownBlock = some g → g ≠ w.heap.size + 1 ∧ g ≠ w.heap.size + 1 + 1 := fun g hg => by
    rcases k4 with h9 | h9
    · rw [hg] at h9; simp [Value.ownBlock] at h9
    · rw [hg] at h9
      simp only [Option.some.injEq] at h9
      omega
  have HF := Lib.hid (And.intro k1 (And.intro (hba.trans ((hbb.trans (hB2.mono hbb.size)).mono hba.size)) hne))
  obtain ⟨a', c', rfl, _⟩ := k1.read
  obtain ⟨m, hm⟩ : ∃ m, L.length = m := ⟨_, rfl⟩
  rw [hm] at HF ⊢
  clear hba hbb hb3 hB hB2 hsa hsb hs3 hW3 hWa hWb k1 k2 k4 hne
  go_wp2
  refine bodyPost_ret (v := .agg #[.string fr, .string dst, .string kind, .string key, .int .i64 op, .int .i64 cf, .bool sl, .slice a' m c']) (by simp [results, Tryz.results19, go_sem, p0, p1, p2, p3, p4, p5, p6, p7]) rfl ⟨?_, _, rfl, ?_⟩
  · have h1 : w.heap.size ≤ w.heap.size + 1 := Nat.le_succ _
    have h2 : w.heap.size ≤ w.heap.size + 1 + 1 := by omega
    exact ((((((((HF.out.2.1.setCell h2 _).setCell h1 _).setCell h1 _).setCell h1 _).setCell h1 _).setCell h1 _).setCell h1 _).setCell h1 _).setCell h1 _
  · refine HF.out.1.heap fun g hg => ?_
    obtain ⟨h1, h2⟩ := HF.out.2.2 g hg
    rw [Below.heap_setCell _ _ _ _ h1, Below.heap_setCell _ _ _ _ h1, Below.heap_setCell _ _ _ _ h1, Below.heap_setCell _ _ _ _ h1, Below.heap_setCell _ _ _ _ h1, Below.heap_setCell _ _ _ _ h1, Below.heap_setCell _ _ _ _ h1, Below.heap_setCell _ _ _ _ h1, Below.heap_setCell _ _ _ _ h2]
set_option maxRecDepth 100000 in
set_option maxHeartbeats 4000000 in
theorem bulk_walk (w : World) (fr dst kind key : ByteArray) (op cf : Int) (sl : Bool) (a : Option Addr) (len cap : Nat) (L : List Ver) (hlen : L.length = len) (hlm : len ≤ maxLen) (hL : VrR w.heap.size w a L) :
    Calls Tryz.prog 32 #[.agg #[.string fr, .string dst, .string kind, .string key, .int .i64 op, .int .i64 cf, .bool sl, .slice a len cap]] w fun e w' => (∃ z : Int, e = .returned (.int .i64 z)) ∧ Below w.heap.size w w' := by
  obtain ⟨W1, hW1⟩ : ∃ W1, w.alloc (.cells #[.string fr, .string dst, .string kind, .string key, .int .i64 op, .int .i64 cf, .bool sl, .slice a len cap] 57) = W1 := ⟨_, rfl⟩
  obtain ⟨ab, hab⟩ : ∃ ab, w.heap.size = ab := ⟨_, rfl⟩
  have hb1 : Below w.heap.size w W1 := by rw [← hW1]; exact (Below.refl _ _).alloc (Nat.le_refl _) _
  have r0 : W1.cell? ⟨ab, 0, none⟩ = some (.string fr) := by rw [← hW1, ← hab]; simp
  have r1 : W1.cell? ⟨ab, 1, none⟩ = some (.string dst) := by rw [← hW1, ← hab]; simp
  have r2 : W1.cell? ⟨ab, 2, none⟩ = some (.string kind) := by rw [← hW1, ← hab]; simp
  have r3 : W1.cell? ⟨ab, 3, none⟩ = some (.string key) := by rw [← hW1, ← hab]; simp
  have r7 : W1.cell? ⟨ab, 7, none⟩ = some (.slice a len cap) := by rw [← hW1, ← hab]; simp
  have hm9 : len ≤ 9223372036854775807 := by unfold maxLen at hlm; omega
  have HM := Lib.hid (And.intro hb1 (And.intro hW1 (And.intro hab (And.intro hlen hL))))
  have H7 := Lib.hid r7
  clear hb1 hW1 hab hlen hL hlm
  go_enter Tryz.func32, Tryz.ntmps32
  go_wp2_with (first
    | (rw [HM.out.2.1, HM.out.2.2.1])
    | fail)
  go_loopw [3, 4] (fun vn vi wr => ∃ (i : Nat) (z : Int), i ≤ len ∧ vi = .int .i64 i ∧ vn = .int .i64 z ∧ wr = W1) (fun _ vi _ => len - (intOf vi).toNat)
  case atStart => exact ⟨0, _, by omega, rfl, rfl, rfl⟩
  case round =>
    obtain ⟨i, z, hi, rfl, rfl, rfl⟩ := hrel
    have hi2 : i < len ∨ i = len := by omega
    rcases hi2 with hilt | rfl
    · have hilt2 : (i : Int) < len := by omega
      rcases HM.out.2.2.2.2.below HM.out.1 with he | ⟨b, off, rfl, _, hcx⟩
      · exfalso
        have := HM.out.2.2.2.1
        rw [he] at this; simp at this; omega
      obtain ⟨_, _, _, _, f4⟩ := VrR.at5 hcx (i := i) (by rw [HM.out.2.2.2.1]; exact hilt)
      obtain ⟨⟨x1, x2, x3, x4, x5⟩, hx⟩ : ∃ x, L[i]?.getD ver0 = x := ⟨_, rfl⟩
      rw [hx] at f4
      dsimp only at f4
      have f4' : wr.cell? ⟨b, off + i * 5 + 3 + 1, none⟩ = some (.string x5) := f4
      clear hcx hx f4
      go_wp2
      go_roundw
      case rel => exact ⟨i + 1, _, by omega, by go_num, rfl, trivial⟩
      case measure => simp [intOf]; omega
    · go_wp2
      go_ret
      exact ⟨⟨_, rfl⟩, HM.out.1⟩
set_option maxRecDepth 100000 in
set_option maxHeartbeats 8000000 in
theorem mfit_walk (w : World) (a : Option Addr) (len cap : Nat) (l : List Msg) (hA : MsgsIn w a len cap l) :
    Calls Tryz.prog 7 #[.slice a len cap] w fun e w' => (∃ r, e = .returned (.bool r)) ∧ Below w.heap.size w w' := by
  obtain ⟨hl, hc, hm, ha, hR, hok⟩ := hA
  have hm9 : len ≤ 9223372036854775807 := by unfold maxLen at hm; omega
  have Hl := Lib.hid (And.intro hl hR)
  clear hl ha hR hok hm
  go_enter Tryz.func7, Tryz.ntmps7
  go_wp2
  go_loopw [3, 4] (fun vn vi wr => ∃ (i : Nat) (z : Int), i ≤ len ∧ vi = .int .i64 i ∧ vn = .int .i64 z ∧ Hid (Below w.heap.size w wr)) (fun _ vi _ => len - (intOf vi).toNat)
  case atStart => exact ⟨0, 0, by omega, rfl, rfl, Lib.hid (Below.refl _ _)⟩
  case round =>
    obtain ⟨i, z, hi, rfl, rfl, Hr⟩ := hrel
    have hi2 : i < len ∨ i = len := by omega
    rcases hi2 with hilt | rfl
    · have hilt2 : (i : Int) < len := by omega
      rcases Hl.out.2.below Hr.out with he | ⟨b, off, rfl, hbl, hcx⟩
      · exfalso
        have := Hl.out.1
        rw [he] at this; simp at this; omega
      obtain ⟨k0, k1, k2, k3, k4, k5, k6, ad, cp, k7, q1, q2, q3, q4⟩ := hcx i (by rw [Hl.out.1]; exact hilt)
      obtain ⟨⟨fr, dst, kind, key, op, cf, sl, L⟩, hx⟩ : ∃ x, l[i]?.getD msg0 = x := ⟨_, rfl⟩
      rw [hx] at k0 k1 k2 k3 k4 k5 k6 k7 q1 q4
      dsimp only at k0 k1 k2 k3 k4 k5 k6 k7 q1 q4
      obtain ⟨n, hn⟩ : ∃ n, L.length = n := ⟨_, rfl⟩
      rw [hn] at k7 q1
      have hn9 : n ≤ 9223372036854775807 := by unfold maxLen at q2; omega
      have Hb := Lib.hid (bulk_walk wr fr dst kind key op cf sl ad n cp L hn (by omega) (VrR.mono Hr.out.size q4))
      have HQ := Lib.hid (And.intro q4 (And.intro hn (And.intro Hr.out hbl)))
      clear hcx hx q1 q2 q3 q4 hn hbl Hr
      go_wp2_with fail
      refine Hb.out.mono ?_
      rintro e w2 ⟨⟨z2, rfl⟩, hb2⟩
      have k7' := (hb2.cell (p := ⟨b, off + i * 8 + 7, none⟩) (lt_of_cell k7)).trans k7
      have HQ2 := Lib.hid (And.intro (HQ.out.2.2.1.trans (hb2.mono HQ.out.2.2.1.size)) (HQ.out.1.below (hb2.mono HQ.out.2.2.1.size)))
      clear hb2 k0 k1 k2 k3 k4 k5 k6 k7 Hb
      go_wp2
      go_loopw [5] (fun vj wi => ∃ (j : Nat), j ≤ n ∧ vj = .int .i64 j ∧ wi = w2) (fun vj _ => n - (intOf vj).toNat)
      case atStart => exact ⟨0, by omega, rfl, rfl⟩
      case round =>
        obtain ⟨j, hj, rfl, rfl⟩ := hrel
        have hj2 : j < n ∨ j = n := by omega
        rcases hj2 with hjlt | rfl
        · have hjlt2 : (j : Int) < n := by omega
          rcases HQ2.out.2 with he | ⟨b', off', rfl, _, hcx⟩
          · exfalso
            have := HQ.out.2.1
            rw [he] at this; simp at this; omega
          obtain ⟨_, _, f2, _, _⟩ := VrR.at5 hcx (i := j) (by rw [HQ.out.2.1]; exact hjlt)
          obtain ⟨⟨x1, x2, x3, x4, x5⟩, hx⟩ : ∃ x, L[j]?.getD ver0 = x := ⟨_, rfl⟩
          rw [hx] at f2
          dsimp only at f2
          clear hcx hx
          have hcs : (200 < x3 ∧ x3 ≤ 1000) ∨ (200 < x3 ∧ ¬ x3 ≤ 1000) ∨ ¬ 200 < x3 := by omega
          rcases hcs with ⟨h1, h2⟩ | ⟨h1, h2⟩ | h1
          · go_wp2
            go_ret
            exact ⟨⟨_, rfl⟩, HQ2.out.1⟩
          · go_wp2
            go_roundw
            case rel => exact ⟨j + 1, by omega, by go_num, trivial⟩
            case measure => simp [intOf]; omega
          · go_wp2
            go_roundw
            case rel => exact ⟨j + 1, by omega, by go_num, trivial⟩
            case measure => simp [intOf]; omega
        · go_wp2
          go_roundw
          case rel => exact ⟨i + 1, _, by omega, by go_num, rfl, Lib.hid HQ2.out.1⟩
          case measure => simp [intOf]; omega
    · go_wp2
      go_ret
      exact ⟨⟨_, rfl⟩, Hr.out⟩
end
end Go.Proofs.YtabboioamdphmaaGreatDoor
/- The walk of SameVersions. -/
namespace Go.Proofs.YtabboioamdphmaaGreatDoor
section
open Go.RowKit

theorem txt_neW {a b : ByteArray} (h : a ≠ b) : (a.toList == b.toList) = false := by
  rw [beq_eq_false_iff_ne]
  intro e
  apply h
  rw [ByteArray.toList_eq, ByteArray.toList_eq] at e
  cases a; cases b
  exact congrArg ByteArray.mk (Array.toList_inj.1 e)
theorem vers_ext {A B : List Ver} (hl : A.length = B.length) (h : ∀ j, j < A.length → (A[j]?.getD ver0) = (B[j]?.getD ver0)) : A = B := by
  apply List.ext_getElem hl
  intro i h1 h2
  have := h i h1
  rw [List.getElem?_eq_getElem h1, List.getElem?_eq_getElem h2] at this
  exact this
set_option maxRecDepth 100000 in
set_option maxHeartbeats 4000000 in
theorem samev_walk (n₀ : Nat) (a : Option Addr) (la ca : Nat) (A : List Ver) (b : Option Addr) (lb cb : Nat) (B : List Ver) (r : Bool) (w : World) (hla : A.length = la) (hlb : B.length = lb) (hm : la ≤ maxLen) (hA : VrR n₀ w a A) (hB : VrR n₀ w b B) (hr : decide (A = B) = r) :
    Calls Tryz.prog 64 #[.slice a la ca, .slice b lb cb] w fun e w' => e = .returned (.bool r) ∧ Below w.heap.size w w' := by
  have hm9 : la ≤ 9223372036854775807 := hm
  have HA := Lib.hid hA
  have HB := Lib.hid hB
  have Hl := Lib.hid (And.intro hla hlb)
  have Hr := Lib.hid hr
  by_cases hlen : la = lb
  · subst hlen
    clear hA hB hla hlb hr hm
    go_enter Tryz.func64, Tryz.ntmps64
    go_wp2
    go_loopw [5] (fun vi wr => ∃ k : Nat, k ≤ la ∧ vi = .int .i64 k ∧ Hid ((∀ j, j < k → (A[j]?.getD ver0) = (B[j]?.getD ver0)) ∧ ∃ q, wr = w.drewN q)) (fun i _ => la - (intOf i).toNat)
    case atStart => exact ⟨0, by omega, rfl, Lib.hid ⟨fun j hj => by omega, 0, rfl⟩⟩
    case round =>
      obtain ⟨k, hk, rfl, H⟩ := hrel
      have hbw : Below w.heap.size w wr := by
        obtain ⟨_, q, rfl⟩ := H.out
        exact ⟨rfl, rfl, rfl, Nat.le_refl _, fun _ _ => rfl⟩
      have Hbw := Lib.hid hbw
      have hk2 : k < la ∨ k = la := by omega
      rcases hk2 with hlt | rfl
      · have hlt2 : (k : Int) < la := by omega
        have hcA : ∀ n, VrR n w a A → VrR n wr a A := fun n h => by
          obtain ⟨_, q, rfl⟩ := H.out
          exact h
        have hcB : ∀ n, VrR n w b B → VrR n wr b B := fun n h => by
          obtain ⟨_, q, rfl⟩ := H.out
          exact h
        rcases hcA _ HA.out with he | ⟨ba, oa, rfl, _, h1⟩
        · exfalso
          have := Hl.out.1
          rw [he] at this; simp at this; omega
        rcases hcB _ HB.out with he | ⟨bb, ob, rfl, _, h2⟩
        · exfalso
          have := Hl.out.2
          rw [he] at this; simp at this; omega
        obtain ⟨p0, p1, p2, p3, p4⟩ := VrR.at5 h1 (i := k) (by have := Hl.out.1; omega)
        obtain ⟨q0, q1, q2, q3, q4⟩ := VrR.at5 h2 (i := k) (by have := Hl.out.2; omega)
        obtain ⟨⟨x1, x2, x3, x4, x5⟩, hx⟩ : ∃ x, A[k]?.getD ver0 = x := ⟨_, rfl⟩
        obtain ⟨⟨y1, y2, y3, y4, y5⟩, hy⟩ : ∃ y, B[k]?.getD ver0 = y := ⟨_, rfl⟩
        rw [hx] at p0 p1 p2 p3 p4
        rw [hy] at q0 q1 q2 q3 q4
        dsimp only at p0 p1 p2 p3 p4 q0 q1 q2 q3 q4
        have Hxy := Lib.hid (And.intro hx hy)
        clear hx hy hcA hcB hbw h1 h2
        have hcs : (x1 = y1 ∧ x2 = y2 ∧ x3 = y3 ∧ x4 = y4 ∧ x5 = y5) ∨ x1 ≠ y1 ∨ (x1 = y1 ∧ x2 ≠ y2) ∨ (x1 = y1 ∧ x2 = y2 ∧ x3 ≠ y3) ∨ (x1 = y1 ∧ x2 = y2 ∧ x3 = y3 ∧ x4 ≠ y4) ∨ (x1 = y1 ∧ x2 = y2 ∧ x3 = y3 ∧ x4 = y4 ∧ x5 ≠ y5) := by
          by_cases e1 : x1 = y1
          · by_cases e2 : x2 = y2
            · by_cases e3 : x3 = y3
              · by_cases e4 : x4 = y4
                · by_cases e5 : x5 = y5
                  · exact .inl ⟨e1, e2, e3, e4, e5⟩
                  · exact .inr (.inr (.inr (.inr (.inr ⟨e1, e2, e3, e4, e5⟩))))
                · exact .inr (.inr (.inr (.inr (.inl ⟨e1, e2, e3, e4⟩))))
              · exact .inr (.inr (.inr (.inl ⟨e1, e2, e3⟩)))
            · exact .inr (.inr (.inl ⟨e1, e2⟩))
          · exact .inr (.inl e1)
        rcases hcs with ⟨rfl, rfl, rfl, rfl, rfl⟩ | hne
        · go_wp2
          go_quiet (fail)
          go_wp2
          go_roundw
          case rel => exact ⟨k + 1, by omega, by go_num, Lib.hid ⟨fun j hj => by
            by_cases e : j = k
            · rw [e, Hxy.out.1, Hxy.out.2]
            · exact H.out.1 j (by omega), by
              obtain ⟨_, q, hq⟩ := H.out
              exact ⟨q + nq, by rw [hq, World.drewN_drewN]⟩⟩⟩
          case measure => simp [intOf]; omega
        · have hrf : r = false := by
            rw [← Hr.out]
            apply decide_eq_false
            intro hAB
            have h9 : ((x1, x2, x3, x4, x5) : Ver) = (y1, y2, y3, y4, y5) := by rw [← Hxy.out.1, ← Hxy.out.2, hAB]
            simp only [Prod.mk.injEq] at h9
            obtain ⟨rfl, rfl, rfl, rfl, rfl⟩ := h9
            simp at hne
          subst hrf
          clear Hxy
          rcases hne with h9 | ⟨rfl, h9⟩ | ⟨rfl, rfl, h9⟩ | ⟨rfl, rfl, rfl, h9⟩ | ⟨rfl, rfl, rfl, rfl, h9⟩
          · have e1 : (x1 == y1) = false := beq_eq_false_iff_ne.2 h9
            clear h9
            go_wp2
            go_quiet (fail)
            go_wp2
            go_ret
            exact ⟨rfl, Hbw.out.trans ⟨rfl, rfl, rfl, Nat.le_refl _, fun _ _ => rfl⟩⟩
          · have e1 : (x2 == y2) = false := beq_eq_false_iff_ne.2 h9
            clear h9
            go_wp2
            go_quiet (fail)
            go_wp2
            go_ret
            exact ⟨rfl, Hbw.out.trans ⟨rfl, rfl, rfl, Nat.le_refl _, fun _ _ => rfl⟩⟩
          · have e1 : (x3 == y3) = false := beq_eq_false_iff_ne.2 h9
            clear h9
            go_wp2
            go_quiet (fail)
            go_wp2
            go_ret
            exact ⟨rfl, Hbw.out.trans ⟨rfl, rfl, rfl, Nat.le_refl _, fun _ _ => rfl⟩⟩
          · have e1 : (x4 == y4) = false := beq_eq_false_iff_ne.2 h9
            clear h9
            go_wp2
            go_quiet (fail)
            go_wp2
            go_ret
            exact ⟨rfl, Hbw.out.trans ⟨rfl, rfl, rfl, Nat.le_refl _, fun _ _ => rfl⟩⟩
          · have e1 := txt_neW h9
            clear h9
            go_wp2
            go_quiet (fail)
            go_wp2
            go_ret
            exact ⟨rfl, Hbw.out.trans ⟨rfl, rfl, rfl, Nat.le_refl _, fun _ _ => rfl⟩⟩
      · have hrt : r = true := by
          rw [← Hr.out]
          exact decide_eq_true (vers_ext (by have := Hl.out; omega) (fun j hj => H.out.1 j (by have := Hl.out.1; omega)))
        subst hrt
        clear hbw
        go_wp2
        go_ret
        exact ⟨rfl, Hbw.out⟩
  · have hrf : r = false := by
      rw [← hr]
      exact decide_eq_false (fun e => hlen (by rw [← hla, ← hlb, e]))
    subst hrf
    have e1 : ((la : Int) == (lb : Int)) = false := beq_eq_false_iff_ne.2 (by omega)
    have e2 : ((la : Int) != (lb : Int)) = true := bne_iff_ne.2 (by omega)
    have e3 : (la == lb) = false := beq_eq_false_iff_ne.2 hlen
    clear hA hB hla hlb hr hm hlen
    go_enter Tryz.func64, Tryz.ntmps64
    go_wp2
    go_ret
    exact ⟨rfl, Below.refl _ _⟩
end
end Go.Proofs.YtabboioamdphmaaGreatDoor
/- Slices of structs of the call's own, whatever the struct. -/
namespace Go.Proofs.YtabboioamdphmaaGreatDoor
open Go.RowKit

theorem flat_length (m : Nat) : ∀ l : List (List Value), (∀ x ∈ l, x.length = m) → l.flatten.length = l.length * m
  | [], _ => by simp
  | x :: r, h => by
    rw [List.flatten_cons, List.length_append, flat_length m r (fun y hy => h y (List.mem_cons_of_mem _ hy)), h x (List.mem_cons_self ..), List.length_cons, Nat.add_mul]
    omega
theorem flat_at (m : Nat) : ∀ (l : List (List Value)) (i j : Nat), (∀ x ∈ l, x.length = m) → i < l.length → j < m → l.flatten[i * m + j]? = (l[i]?.getD [])[j]?
  | [], _, _, _, h, _ => by simp at h
  | x :: r, 0, j, h, _, hj => by
    rw [List.flatten_cons, List.getElem?_append_left (by rw [h x (List.mem_cons_self ..)]; omega)]
    simp
  | x :: r, i + 1, j, h, hi, hj => by
    have hx := h x (List.mem_cons_self ..)
    rw [List.flatten_cons, List.getElem?_append_right (by rw [hx, Nat.add_mul]; omega)]
    have e : (i + 1) * m + j - x.length = i * m + j := by rw [hx, Nat.add_mul]; omega
    rw [e, flat_at m r i j (fun y hy => h y (List.mem_cons_of_mem _ hy)) (by simpa using hi) hj]
    simp
def OwnRec (T : TypeId) (m B : Nat) (w : World) (v : Value) (l : List (List Value)) : Prop := (∀ x ∈ l, x.length = m) ∧ w.ownsRow B T m v l.length l.flatten
theorem OwnRec.nil (T : TypeId) (m B : Nat) (w : World) : OwnRec T m B w (.slice none 0 0) [] := ⟨(fun _ h => by cases h), World.ownsRow_nil _ _ _ _⟩
theorem OwnRec.lt {T : TypeId} {m B : Nat} {w : World} {v : Value} {l : List (List Value)} (h : OwnRec T m B w v l) : ∀ k, v.ownBlock = some k → B ≤ k ∧ k < w.heap.size := World.ownsRow.lt h.2
theorem OwnRec.kept {T : TypeId} {m B : Nat} {w w' : World} {row : Option Nat} {v : Value} {l : List (List Value)} (h : OwnRec T m B w v l) (hg : w.grownBy w' row) (hne : v.ownBlock = none ∨ v.ownBlock ≠ row) : OwnRec T m B w' v l := ⟨h.1, World.ownsRow.kept h.2 hg hne⟩
theorem OwnRec.below {T : TypeId} {m B n₀ : Nat} {w w' : World} {v : Value} {l : List (List Value)} (h : OwnRec T m B w v l) (hb : Below n₀ w w') (hn : w.heap.size ≤ n₀ := by exact Nat.le_refl _) : OwnRec T m B w' v l :=
  OwnRec.kept (row := none) h ⟨hb.os, hb.tape, hb.output, hb.size, fun k hk _ => hb.block k (by omega)⟩ (by cases v.ownBlock <;> simp)
theorem OwnRec.lower {T : TypeId} {m B B' : Nat} {w : World} {v : Value} {l : List (List Value)} (h : OwnRec T m B w v l) (hB : B' ≤ B) : OwnRec T m B' w v l := by
  refine ⟨h.1, ?_⟩
  have h0 := h.2
  unfold World.ownsRow at *
  refine ⟨h0.1, ?_⟩
  rcases h0.2 with h2 | ⟨g, cap, cur, e, hb, h3⟩
  · exact .inl h2
  · exact .inr ⟨g, cap, cur, e, Nat.le_trans hB hb, h3⟩
theorem OwnRec.heap {T : TypeId} {m B : Nat} {w w' : World} {v : Value} {l : List (List Value)} (h : OwnRec T m B w v l) (hg : ∀ g, v.ownBlock = some g → w'.heap[g]? = w.heap[g]?) : OwnRec T m B w' v l := by
  refine ⟨h.1, h.2.1, ?_⟩
  rcases h.2.2 with hn | ⟨g, cap, cur, rfl, hb, hgg, rest⟩
  · exact .inl hn
  · exact .inr ⟨g, cap, cur, rfl, hb, (hg g rfl).trans hgg, rest⟩
def RecR (m n₀ : Nat) (w : World) (a : Option Addr) (l : List (List Value)) : Prop :=
  l = [] ∨ ∃ b off, a = some ⟨b, off, none⟩ ∧ b < n₀ ∧ ∀ i j, i < l.length → j < m → w.cell? ⟨b, off + i * m + j, none⟩ = (l[i]?.getD [])[j]?
theorem RecR.below {m n₀ : Nat} {A B : World} (h : Below n₀ A B) {a : Option Addr} {l : List (List Value)} : RecR m n₀ A a l → RecR m n₀ B a l
  | .inl e => .inl e
  | .inr ⟨b, off, e, hb, hc⟩ => .inr ⟨b, off, e, hb, fun i j hi hj => (h.cell (p := ⟨b, off + i * m + j, none⟩) hb).trans (hc i j hi hj)⟩
theorem RecR.mono {m n₀ n₁ : Nat} {A : World} (h : n₀ ≤ n₁) {a : Option Addr} {l : List (List Value)} : RecR m n₀ A a l → RecR m n₁ A a l
  | .inl e => .inl e
  | .inr ⟨b, off, e, hb, hc⟩ => .inr ⟨b, off, e, by omega, hc⟩
theorem OwnRec.read {T : TypeId} {m B : Nat} {w : World} {v : Value} {l : List (List Value)} (h : OwnRec T m B w v l) :
    ∃ a cap, v = .slice a l.length cap ∧ l.length ≤ cap ∧ cap ≤ maxLen ∧ (a = none → cap = 0) ∧ (∀ x, a = some x → B ≤ x.block ∧ x.block < w.heap.size ∧ x.off = 0) ∧ RecR m w.heap.size w a l := by
  rcases h.2.2 with ⟨rfl, hn⟩ | ⟨g, cap, cur, rfl, hb, hg, hc, hm, hs, ht⟩
  · have : l = [] := List.length_eq_zero_iff.1 hn
    subst this
    exact ⟨none, 0, rfl, Nat.le_refl _, by simp [maxLen], fun _ => rfl, (fun x e => by cases e), .inl rfl⟩
  · have hh : w.ownsRow B T m (.slice (some ⟨g, 0, none⟩) l.length cap) l.length l.flatten := ⟨h.2.1, .inr ⟨g, cap, cur, rfl, hb, hg, hc, hm, hs, ht⟩⟩
    have hlt : g < w.heap.size := (Array.getElem?_eq_some_iff.1 hg).1
    refine ⟨_, cap, rfl, hc, hm, (fun e => by cases e), (fun x e => by cases e; exact ⟨hb, hlt, rfl⟩), .inr ⟨g, 0, rfl, hlt, fun i j hi hj => ?_⟩⟩
    have hlen := flat_length m l h.1
    rw [Nat.zero_add, ← flat_at m l i j h.1 hi hj]
    refine hh.cellAt (i * m + j) ?_
    have : (i + 1) * m ≤ l.length * m := Nat.mul_le_mul_right _ hi
    rw [Nat.add_mul] at this
    omega
theorem append_rec {P : Program} {ops : Array Oper} {rest : List Oper} {o : Oper} {a : Act} {Q : Exit → Act → World → Prop} {w0 : World} (T E : TypeId) (z : Value) (m bytes : Nat) (hT : P.underlying T = some (.slice E))
    (hE : (P.info? E).map (fun i => (i.zero, i.size, i.bytes)) = some (some z, m, bytes)) (hz : z.cells.size = m) (hm : 0 < m) (s x : Nat) (hgd : o.guard = none)
    (ho : o.op = .call { callee := .builtin .append, args := #[.tmp s, .tmp x], argTypes := #[T, T] }) (B : Nat) (v : Value) (l : List (List Value)) (us : List Value) (hul : us.length = m) (hu : ∀ u ∈ us, u.oneCell' = true)
    (hs : a.eval (.tmp s) = v) (hx : a.eval (.tmp x) = .slice (some ⟨w0.heap.size, 0, none⟩) 1 1) (hown : OwnRec E m B w0 v l) (hl : (l.length + 1) * bytes ≤ 140737488355328) (hl2 : l.length + 1 ≤ maxLen) (hB : B ≤ w0.heap.size)
    (h : ∀ v' w', OwnRec E m B w' v' (l ++ [us]) → (w0.alloc (.cells us.toArray E)).grownBy w' v.ownBlock → (v'.ownBlock = v.ownBlock ∨ v'.ownBlock = some (w0.heap.size + 1)) → wpList P ops Q rest (a.put o.dst v') w') :
    wpList P ops Q (o :: rest) a (w0.alloc (.cells us.toArray E)) := by
  obtain ⟨i, hi, hz0, hz1, hz2⟩ := info_parts hE
  refine wpList_append_own_at _ hgd (.tmp s) (.tmp x) T ho B E i z m bytes hT hi hz0 hz1 hz2 hz hm v l.length l.flatten hs (World.ownsRow.alloc hown.2 _) ⟨w0.heap.size, 0, none⟩ 1 1 us hx (by rw [hul, Nat.one_mul]) (fun j u hj => ?_) hu hl2 hl (by simp; omega) ?_
  · rw [Go.WideShapes.add_plain, Nat.zero_add, World.cell?_alloc_at _ _ _ _ rfl]
    simpa using hj
  · intro v' w' h1 h2 _ h4
    refine h v' w' ⟨fun y hy => ?_, ?_⟩ h2 (by simpa using h4)
    · rcases List.mem_append.1 hy with hy | hy
      · exact hown.1 y hy
      · rw [List.mem_singleton.1 hy, hul]
    · rw [List.length_append, List.flatten_append]
      simpa using h1
end Go.Proofs.YtabboioamdphmaaGreatDoor
