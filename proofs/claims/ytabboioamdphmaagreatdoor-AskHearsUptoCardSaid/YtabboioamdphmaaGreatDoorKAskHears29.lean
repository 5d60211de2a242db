/- Lists of versions of the call's own. -/
import Derived.Test.YtabboioamdphmaaGreatDoorKAskHears22
import Derived.Test.YtabboioamdphmaaGreatDoorKAskHears17
import Derived.Test.YtabboioamdphmaaGreatDoorKAskHears26
import Derived.Deep.QuietTactic
import Derived.Test.YtabboioamdphmaaGreatDoorKAskHears21
import Derived.BigQuiet
namespace Go.Proofs.YtabboioamdphmaaGreatDoor
section
open Go.RowKit Go.BigFrame

theorem ownv_heap {B : Nat} {w : World} {v : Value} {l : List Ver} (h : OwnV B w v l) {g : Nat} (hg : v.ownBlock = some g) : ∃ cs, w.heap[g]? = some (.cells cs 76 (0, 0)) := by
  rcases h.2 with ⟨rfl, _⟩ | ⟨g', cap, cur, rfl, _, h2, _⟩
  · cases hg
  · have e : g' = g := by simpa [Value.ownBlock] using hg
    exact ⟨cur, by rw [← e]; exact h2⟩
theorem OwnV.heapK {B : Nat} {w w' : World} {v : Value} {l : List Ver} (h : OwnV B w v l) (hg : ∀ g, v.ownBlock = some g → w'.heap[g]? = w.heap[g]?) : OwnV B w' v l := by
  refine ⟨h.1, ?_⟩
  rcases h.2 with hn | ⟨g, cap, cur, rfl, hb, hgg, rest⟩
  · exact .inl hn
  · exact .inr ⟨g, cap, cur, rfl, hb, (hg g rfl).trans hgg, rest⟩
/-- v owns lists that are owned themselves. -/
structure OwnVs (B : Nat) (w : World) (v : Value) (ls : List (List Ver)) (us : List Value) : Prop where
  lenu : us.length = ls.length
  own : Own1 53 B w v us
  row : ∀ i, i < ls.length → OwnV B w (us[i]?.getD undef) (ls[i]?.getD [])
theorem OwnVs.nil (B : Nat) (w : World) : OwnVs B w (.slice none 0 0) [] [] := ⟨rfl, Own1.nil _ _ _, fun i hi => (by simp at hi)⟩
theorem OwnVs.heapK {B : Nat} {w w' : World} {v : Value} {ls : List (List Ver)} {us : List Value} (h : OwnVs B w v ls us) (hb : Below w.heap.size w w') : OwnVs B w' v ls us :=
  ⟨h.lenu, Own1.below h.own hb (Nat.le_refl _), fun i hi => OwnV.below (h.row i hi) hb (Nat.le_refl _)⟩
theorem OwnVs.snoc {B : Nat} {w w' : World} {v v' u : Value} {ls : List (List Ver)} {us : List Value} {l : List Ver} {o : Obj} (h : OwnVs B w v ls us) (hu : OwnV B w u l) (hp : Own1 53 B w' v' (us ++ [u])) (hg : (w.alloc o).grownBy w' v.ownBlock) : OwnVs B w' v' (ls ++ [l]) (us ++ [u]) := by
  have key : ∀ (x : Value) (m : List Ver), OwnV B w x m → OwnV B w' x m := fun x m hx => hx.heapK (fun g e => by
    obtain ⟨cs, e2⟩ := ownv_heap hx e
    have hlt := (Array.getElem?_eq_some_iff.1 e2).1
    refine (hg.block g (by simp; omega) (fun e3 => ?_)).trans (Below.heap_alloc _ _ _ hlt)
    obtain ⟨cs', e4⟩ := own1_heap h.own e3.symm
    rw [e2] at e4
    simp at e4)
  refine ⟨by simp [h.lenu], hp, fun i hi => ?_⟩
  by_cases hil : i < ls.length
  · have h1 : (us ++ [u])[i]?.getD undef = us[i]?.getD undef := by rw [List.getElem?_append_left (by rw [h.lenu]; exact hil)]
    have h2 : (ls ++ [l])[i]?.getD [] = ls[i]?.getD [] := by rw [List.getElem?_append_left hil]
    rw [h1, h2]
    exact key _ _ (h.row i hil)
  · have hie : i = ls.length := by simp at hi; omega
    have h1 : (us ++ [u])[i]?.getD undef = u := by rw [hie, ← h.lenu]; simp
    have h2 : (ls ++ [l])[i]?.getD [] = l := by rw [hie]; simp
    rw [h1, h2]
    exact key _ _ hu
theorem OwnVs.read {B : Nat} {w : World} {v : Value} {ls : List (List Ver)} {us : List Value} (h : OwnVs B w v ls us) : ∃ a cap, v = .slice a ls.length cap ∧ VssR w a ls := by
  rcases h.own.shape with ⟨rfl, hl⟩ | ⟨g, cap, rfl, _, hg, hc, hm, _, hcell⟩
  · have : us = [] := by simpa using hl
    have h0 : ls = [] := List.length_eq_zero_iff.1 (by rw [← h.lenu, this]; rfl)
    subst h0
    exact ⟨none, 0, rfl, .inl rfl⟩
  · refine ⟨_, cap, by rw [h.lenu], .inr ⟨g, 0, rfl, hg, fun i hi => ?_⟩⟩
    obtain ⟨ad, cp, e, q1, q2, q3, q4⟩ := (h.row i hi).read
    refine ⟨ad, cp, ?_, q1, q2, q3, q4⟩
    have hiu : i < us.length := by rw [h.lenu]; exact hi
    rw [Nat.zero_add, hcell i hiu, ← e, List.getElem?_eq_getElem hiu]; rfl
theorem info_vers : (Tryz.prog.info? 53).map (fun i => (i.zero, i.size, i.bytes)) = some (some (.slice none 0 0), 1, 24) := by kernel_rfl
end
end Go.Proofs.YtabboioamdphmaaGreatDoor
/- The walks of shardkeeplaw2's faulted and coded. -/
namespace Go.Proofs.YtabboioamdphmaaGreatDoor
open Go.RowKit

set_option maxRecDepth 100000 in
set_option maxHeartbeats 1000000 in
theorem faulted2_walk (E : Nat → Addr) (f g : Nat × Int) (v : Value) (r : Bool) (w : World) (hE : ErrEnv w E) (h : FltV w E f v) (hr : r = decide (f.1 = g.1 ∧ (f.1 = 0 ∨ f.2 = g.2))) :
    Calls Tryz.prog 13 #[v, .agg #[.int .i64 (g.1 : Nat), .int .i64 g.2]] w fun e w' => e = .returned (.bool r) ∧ Below w.heap.size w w' := by
  obtain ⟨c, at'⟩ := f
  obtain ⟨d, bt⟩ := g
  simp only at hr
  have hB0 : Below w.heap.size w (w.alloc (.cells #[.int .i64 (d : Nat), .int .i64 bt] 36)) := (Below.refl _ w).alloc (Nat.le_refl _) _
  have Hc := Lib.hid (code_flt (hE.below hB0 (Nat.le_refl _)) (h.below hB0 (Nat.le_refl _)))
  have Hb := Lib.hid hB0
  have z0 : (w.alloc (.cells #[.int .i64 (d : Nat), .int .i64 bt] 36)).cell? ⟨w.heap.size, 0, none⟩ = some (.int .i64 (d : Nat)) := by simp
  have z1 : (w.alloc (.cells #[.int .i64 (d : Nat), .int .i64 bt] 36)).cell? ⟨w.heap.size, 1, none⟩ = some (.int .i64 bt) := by simp
  have hz : w.heap.size < (w.alloc (.cells #[.int .i64 (d : Nat), .int .i64 bt] 36)).heap.size := by simp
  have Hz := Lib.hid (And.intro z0 (And.intro z1 hz))
  clear hE h hB0 z0 z1 hz
  have hcs : (c ≠ d ∧ r = false) ∨ (c = d ∧ c = 0 ∧ r = true) ∨ (c = d ∧ c ≠ 0 ∧ at' = bt ∧ r = true) ∨ (c = d ∧ c ≠ 0 ∧ at' ≠ bt ∧ r = false) := by
    rw [hr]
    by_cases h1 : c = d
    · by_cases h2 : c = 0
      · exact .inr (.inl ⟨h1, h2, decide_eq_true ⟨h1, .inl h2⟩⟩)
      · by_cases h3 : at' = bt
        · exact .inr (.inr (.inl ⟨h1, h2, h3, decide_eq_true ⟨h1, .inr h3⟩⟩))
        · exact .inr (.inr (.inr ⟨h1, h2, h3, decide_eq_false (fun ⟨_, h⟩ => h.elim h2 h3)⟩))
    · exact .inl ⟨h1, decide_eq_false (fun ⟨h, _⟩ => h1 h)⟩
  clear hr
  rcases hcs with ⟨h1, rfl⟩ | ⟨rfl, rfl, rfl⟩ | ⟨rfl, h2, rfl, rfl⟩ | ⟨rfl, h2, h3, rfl⟩
  case' inl =>
    have e1 : ((c : Int) == (d : Int)) = false := beq_eq_false_iff_ne.2 (by omega)
    have e1b : decide (c = d) = false := by simpa using h1
    have e1c : (c == d) = false := by simpa using h1
  case' inr.inr.inl =>
    have e2 : ((c : Int) == 0) = false := beq_eq_false_iff_ne.2 (by omega)
    have e2b : (c == 0) = false := by simpa using h2
  case' inr.inr.inr =>
    have e2 : ((c : Int) == 0) = false := beq_eq_false_iff_ne.2 (by omega)
    have e2b : (c == 0) = false := by simpa using h2
    have e3 : (at' == bt) = false := by simpa using h3
  all_goals
    try clear h1
    try clear h2
    try clear h3
    go_enter Tryz.func13, Tryz.ntmps13
    go_wp2_with fail
    refine Hc.out.mono ?_
    rintro e w1 ⟨rfl, hb1⟩
    have k0 := (hb1.cell (p := ⟨w.heap.size, 0, none⟩) Hz.out.2.2).trans Hz.out.1
    have k1 := (hb1.cell (p := ⟨w.heap.size, 1, none⟩) Hz.out.2.2).trans Hz.out.2.1
    have HB := Lib.hid (Hb.out.trans (hb1.mono Hb.out.size))
    clear hb1
    go_wp2
    go_ret
    exact ⟨rfl, HB.out⟩
end Go.Proofs.YtabboioamdphmaaGreatDoor
/- Walks of WireOf, bulk, messagesFit. -/
namespace Go.Proofs.YtabboioamdphmaaGreatDoor
section
open Go.RowKit Go.Maps Go.BigFrame

theorem KeptBut.drew1 {F : Nat → Prop} {a w : World} (h : KeptBut F a w) : KeptBut F a w.drew := ⟨h.os, h.tape, h.output, h.size, h.block⟩
theorem KeptBut.set1 {F : Nat → Prop} {a w : World} (h : KeptBut F a w) {p : Addr} (hp : F p.block) (v : Value) : KeptBut F a (w.setCell p v) :=
  ⟨h.os, h.tape, h.output, by simp [World.setCell]; exact h.size, fun k hk hf => (Below.heap_setCell _ _ _ _ (fun e => hf (by rw [e]; exact hp))).trans (h.block k hk hf)⟩
theorem KeptBut.alloc1 {F : Nat → Prop} {a w : World} (h : KeptBut F a w) (o : Obj) : KeptBut F a (w.alloc o) :=
  ⟨h.os, h.tape, h.output, by simp; have := h.size; omega, fun k hk hf => (Below.heap_alloc _ _ _ (Nat.lt_of_lt_of_le hk h.size)).trans (h.block k hk hf)⟩
theorem KeptBut.frozen {F : Nat → Prop} {a b : World} (h : KeptBut F a b) {p : Addr} (hl : p.block < a.heap.size) (hp : ¬ F p.block) : b.frozen? p = a.frozen? p :=
  World.frozen?_of_block (h.block p.block hl hp)
/-- append(s, l...) of versions that came in. -/
theorem append_versR {ops : Array Oper} {rest : List Oper} {o : Oper} {a : Act} {Q : Exit → Act → World → Prop} {w : World} (s x : Nat) (hgd : o.guard = none)
    (ho : o.op = .call { callee := .builtin .append, args := #[.tmp s, .tmp x], argTypes := #[53, 53] }) (B : Nat) (v : Value) (L : List Ver) (n₀ : Nat) (ad : Option Addr) (len cap : Nat) (M : List Ver)
    (hs : a.eval (.tmp s) = v) (hx : a.eval (.tmp x) = .slice ad len cap) (hown : OwnV B w v L) (hlen : M.length = len) (hl : (L.length + M.length) * 48 ≤ 140737488355328) (ha : ad = none → cap = 0) (hI : VrR n₀ w ad M) (hB : B ≤ w.heap.size)
    (h : ∀ v' w', OwnV B w' v' (L ++ M) → w.grownBy w' v.ownBlock → (v' = .slice none 0 0 ↔ v = .slice none 0 0 ∧ len = 0) → (v'.ownBlock = v.ownBlock ∨ v'.ownBlock = some w.heap.size) → wpList Tryz.prog ops Q rest (a.put o.dst v') w') :
    wpList Tryz.prog ops Q (o :: rest) a w := by
  obtain ⟨i, hi, hz0, hz1, hz2⟩ := info_parts info_version
  subst hlen
  have at_ : ∀ y : Addr, ad = some y → (∀ j u, (vrV M)[j]? = some u → w.cell? (y.add j) = some u) → wpList Tryz.prog ops Q (o :: rest) a w := fun y e hc => by
    refine wpList_append_own_at _ hgd (.tmp s) (.tmp x) 53 ho B 76 i _ 5 48 Tryz.underlying53 hi hz0 hz1 hz2 rfl (by decide) v L.length (vrV L) hs hown y M.length cap (vrV M) (hx.trans (by rw [e])) (vrV_length M) hc (vrV_one M) (by unfold maxLen; omega) (by omega) hB ?_
    intro v' w' h1 h2 h3 h4
    refine h v' w' ?_ h2 h3 h4
    unfold OwnV
    rw [vrV_append, List.length_append]
    exact h1
  rcases hI with rfl | ⟨b, off, e, _, hcell⟩
  · cases ad with
    | none =>
      obtain rfl := ha rfl
      refine wpList_append_own_none hgd (.tmp s) (.tmp x) 53 ho B 76 i 5 Tryz.underlying53 hi v L.length (vrV L) hs hown hx ?_
      exact h v w (by simpa using hown) (World.grownBy.refl _ _) ⟨fun e => ⟨e, rfl⟩, fun e => e.1⟩ (.inl rfl)
    | some ad => exact at_ ad rfl (fun j u hj => by simp [vrV] at hj)
  · refine at_ _ e (fun j u hj => ?_)
    have hj2 : j < M.length * 5 := by have := (List.getElem?_eq_some_iff.1 hj).1; rw [vrV_length] at this; exact this
    have h9 := vrV_at M (j / 5) (j % 5) (by omega) (by omega)
    have e5 : j / 5 * 5 + j % 5 = j := by omega
    rw [e5, hj] at h9
    rw [Go.WideShapes.add_plain, h9, ← hcell (j / 5) (j % 5) (by omega) (by omega)]
    rw [show off + j / 5 * 5 + j % 5 = off + j by omega]
/-- a message as a value. -/
def msgV (m : Msg) (v : Value) : Value := .agg #[.string m.fr, .string m.dst, .string m.kind, .string m.key, .int .i64 m.op, .int .i64 m.cf, .bool m.sl, v]
set_option maxRecDepth 100000 in
set_option maxHeartbeats 4000000 in
theorem wireof_walk (w : World) (fr dst kind key : ByteArray) (op cf : Int) (sl : Bool) (a : Option Addr) (len cap : Nat) (L : List Ver) (hlen : L.length = len) (hl : len * 48 ≤ 140737488351232) (ha : a = none → cap = 0) (hL : VrR w.heap.size w a L) :
    Calls Tryz.prog 19 #[.agg #[.string fr, .string dst, .string kind, .string key, .int .i64 op, .int .i64 cf, .bool sl, .slice a len cap]] w fun e w' => Below w.heap.size w w' ∧ ∃ v, e = .returned (.agg #[.string fr, .string dst, .string kind, .string key, .int .i64 op, .int .i64 cf, .bool sl, v]) ∧ OwnV w.heap.size w' v L := by
  have hul : (([] : List Ver).length + L.length) * 48 ≤ 140737488355328 := by simp; omega
  have H := Lib.hid (And.intro hlen (And.intro hul (And.intro ha hL)))
  clear hlen hl ha hL hul
  go_enter Tryz.func19, Tryz.ntmps19
  go_wp2_with (at_builtin; refine append_versR 20 22 rfl rfl w.heap.size (.slice none 0 0) [] w.heap.size a len cap L rfl rfl (OwnV.nil _ _) H.out.1 H.out.2.1 H.out.2.2.1 (H.out.2.2.2.below ((((Below.refl w.heap.size w).alloc (Nat.le_refl _) _).alloc (by simp) _).alloc (by simp; omega) _)) (by simp; omega) ?_)
  intro v' w' k1 k2 _ k4
  obtain ⟨Wa, hWa⟩ : ∃ Wa, w.alloc (.cells #[.string fr, .string dst, .string kind, .string key, .int .i64 op, .int .i64 cf, .bool sl, .slice a len cap] 57) = Wa := ⟨_, rfl⟩
  rw [hWa] at k2
  obtain ⟨Wb, hWb⟩ : ∃ Wb, Wa.alloc (.cells #[.string ⟨#[]⟩, .string ⟨#[]⟩, .string ⟨#[]⟩, .string ⟨#[]⟩, .int .i64 0, .int .i64 0, .bool false, .slice none 0 0] 55) = Wb := ⟨_, rfl⟩
  rw [hWb] at k2
  obtain ⟨W3, hW3⟩ : ∃ W3, Wb.alloc (.cells #[.string fr, .string dst, .string kind, .string key, .int .i64 op, .int .i64 cf, .bool sl, .slice none 0 0] 55) = W3 := ⟨_, rfl⟩
  rw [hW3] at k2
  have hsa : Wa.heap.size = w.heap.size + 1 := by rw [← hWa]; simp
  have hsb : Wb.heap.size = w.heap.size + 1 + 1 := by rw [← hWb]; simp [hsa]
  have hs3 : W3.heap.size = w.heap.size + 1 + 1 + 1 := by rw [← hW3]; simp [hsb]
  have hba : Below w.heap.size w Wa := by rw [← hWa]; exact (Below.refl _ _).alloc (Nat.le_refl _) _
  have hbb : Below Wa.heap.size Wa Wb := by rw [← hWb]; exact (Below.refl _ _).alloc (Nat.le_refl _) _
  have hb3 : Below Wb.heap.size Wb W3 := by rw [← hW3]; exact (Below.refl _ _).alloc (Nat.le_refl _) _
  have hB : Below W3.heap.size W3 w' := Below.grown (Below.refl _ _) k2 (Nat.le_refl _) (fun j e => by simp [Value.ownBlock] at e)
  have hB2 : Below Wb.heap.size Wb w' := hb3.trans (hB.mono hb3.size)
  have p0 : w'.cell? ⟨w.heap.size + 1, 0, none⟩ = some (.string ⟨#[]⟩) := (hB2.cell (p := ⟨w.heap.size + 1, 0, none⟩) (by show w.heap.size + 1 < Wb.heap.size; omega)).trans (by rw [← hsa, ← hWb]; simp)
  have pz0 : w'.frozen? ⟨w.heap.size + 1, 0, none⟩ = false := (hB2.frozen (p := ⟨w.heap.size + 1, 0, none⟩) (by show w.heap.size + 1 < Wb.heap.size; omega)).trans (by rw [← hsa, ← hWb]; simp)
  have p1 : w'.cell? ⟨w.heap.size + 1, 1, none⟩ = some (.string ⟨#[]⟩) := (hB2.cell (p := ⟨w.heap.size + 1, 1, none⟩) (by show w.heap.size + 1 < Wb.heap.size; omega)).trans (by rw [← hsa, ← hWb]; simp)
  have pz1 : w'.frozen? ⟨w.heap.size + 1, 1, none⟩ = false := (hB2.frozen (p := ⟨w.heap.size + 1, 1, none⟩) (by show w.heap.size + 1 < Wb.heap.size; omega)).trans (by rw [← hsa, ← hWb]; simp)
  have p2 : w'.cell? ⟨w.heap.size + 1, 2, none⟩ = some (.string ⟨#[]⟩) := (hB2.cell (p := ⟨w.heap.size + 1, 2, none⟩) (by show w.heap.size + 1 < Wb.heap.size; omega)).trans (by rw [← hsa, ← hWb]; simp)
  have pz2 : w'.frozen? ⟨w.heap.size + 1, 2, none⟩ = false := (hB2.frozen (p := ⟨w.heap.size + 1, 2, none⟩) (by show w.heap.size + 1 < Wb.heap.size; omega)).trans (by rw [← hsa, ← hWb]; simp)
  have p3 : w'.cell? ⟨w.heap.size + 1, 3, none⟩ = some (.string ⟨#[]⟩) := (hB2.cell (p := ⟨w.heap.size + 1, 3, none⟩) (by show w.heap.size + 1 < Wb.heap.size; omega)).trans (by rw [← hsa, ← hWb]; simp)
  have pz3 : w'.frozen? ⟨w.heap.size + 1, 3, none⟩ = false := (hB2.frozen (p := ⟨w.heap.size + 1, 3, none⟩) (by show w.heap.size + 1 < Wb.heap.size; omega)).trans (by rw [← hsa, ← hWb]; simp)
  have p4 : w'.cell? ⟨w.heap.size + 1, 4, none⟩ = some (.int .i64 0) := (hB2.cell (p := ⟨w.heap.size + 1, 4, none⟩) (by show w.heap.size + 1 < Wb.heap.size; omega)).trans (by rw [← hsa, ← hWb]; simp)
  have pz4 : w'.frozen? ⟨w.heap.size + 1, 4, none⟩ = false := (hB2.frozen (p := ⟨w.heap.size + 1, 4, none⟩) (by show w.heap.size + 1 < Wb.heap.size; omega)).trans (by rw [← hsa, ← hWb]; simp)
  have p5 : w'.cell? ⟨w.heap.size + 1, 5, none⟩ = some (.int .i64 0) := (hB2.cell (p := ⟨w.heap.size + 1, 5, none⟩) (by show w.heap.size + 1 < Wb.heap.size; omega)).trans (by rw [← hsa, ← hWb]; simp)
  have pz5 : w'.frozen? ⟨w.heap.size + 1, 5, none⟩ = false := (hB2.frozen (p := ⟨w.heap.size + 1, 5, none⟩) (by show w.heap.size + 1 < Wb.heap.size; omega)).trans (by rw [← hsa, ← hWb]; simp)
  have p6 : w'.cell? ⟨w.heap.size + 1, 6, none⟩ = some (.bool false) := (hB2.cell (p := ⟨w.heap.size + 1, 6, none⟩) (by show w.heap.size + 1 < Wb.heap.size; omega)).trans (by rw [← hsa, ← hWb]; simp)
  have pz6 : w'.frozen? ⟨w.heap.size + 1, 6, none⟩ = false := (hB2.frozen (p := ⟨w.heap.size + 1, 6, none⟩) (by show w.heap.size + 1 < Wb.heap.size; omega)).trans (by rw [← hsa, ← hWb]; simp)
  have p7 : w'.cell? ⟨w.heap.size + 1, 7, none⟩ = some (.slice none 0 0) := (hB2.cell (p := ⟨w.heap.size + 1, 7, none⟩) (by show w.heap.size + 1 < Wb.heap.size; omega)).trans (by rw [← hsa, ← hWb]; simp)
  have pz7 : w'.frozen? ⟨w.heap.size + 1, 7, none⟩ = false := (hB2.frozen (p := ⟨w.heap.size + 1, 7, none⟩) (by show w.heap.size + 1 < Wb.heap.size; omega)).trans (by rw [← hsa, ← hWb]; simp)
  have q0 : w'.cell? ⟨w.heap.size + 1 + 1, 0, none⟩ = some (.string fr) := (hB.cell (p := ⟨w.heap.size + 1 + 1, 0, none⟩) (by show w.heap.size + 1 + 1 < W3.heap.size; omega)).trans (by rw [← hsb, ← hW3]; simp)
  have q1 : w'.cell? ⟨w.heap.size + 1 + 1, 1, none⟩ = some (.string dst) := (hB.cell (p := ⟨w.heap.size + 1 + 1, 1, none⟩) (by show w.heap.size + 1 + 1 < W3.heap.size; omega)).trans (by rw [← hsb, ← hW3]; simp)
  have q2 : w'.cell? ⟨w.heap.size + 1 + 1, 2, none⟩ = some (.string kind) := (hB.cell (p := ⟨w.heap.size + 1 + 1, 2, none⟩) (by show w.heap.size + 1 + 1 < W3.heap.size; omega)).trans (by rw [← hsb, ← hW3]; simp)
  have q3 : w'.cell? ⟨w.heap.size + 1 + 1, 3, none⟩ = some (.string key) := (hB.cell (p := ⟨w.heap.size + 1 + 1, 3, none⟩) (by show w.heap.size + 1 + 1 < W3.heap.size; omega)).trans (by rw [← hsb, ← hW3]; simp)
  have q4 : w'.cell? ⟨w.heap.size + 1 + 1, 4, none⟩ = some (.int .i64 op) := (hB.cell (p := ⟨w.heap.size + 1 + 1, 4, none⟩) (by show w.heap.size + 1 + 1 < W3.heap.size; omega)).trans (by rw [← hsb, ← hW3]; simp)
  have q5 : w'.cell? ⟨w.heap.size + 1 + 1, 5, none⟩ = some (.int .i64 cf) := (hB.cell (p := ⟨w.heap.size + 1 + 1, 5, none⟩) (by show w.heap.size + 1 + 1 < W3.heap.size; omega)).trans (by rw [← hsb, ← hW3]; simp)
  have q6 : w'.cell? ⟨w.heap.size + 1 + 1, 6, none⟩ = some (.bool sl) := (hB.cell (p := ⟨w.heap.size + 1 + 1, 6, none⟩) (by show w.heap.size + 1 + 1 < W3.heap.size; omega)).trans (by rw [← hsb, ← hW3]; simp)
  have q7 : w'.cell? ⟨w.heap.size + 1 + 1, 7, none⟩ = some (.slice none 0 0) := (hB.cell (p := ⟨w.heap.size + 1 + 1, 7, none⟩) (by show w.heap.size + 1 + 1 < W3.heap.size; omega)).trans (by rw [← hsb, ← hW3]; simp)
  have qz7 : w'.frozen? ⟨w.heap.size + 1 + 1, 7, none⟩ = false := (hB.frozen (p := ⟨w.heap.size + 1 + 1, 7, none⟩) (by show w.heap.size + 1 + 1 < W3.heap.size; omega)).trans (by rw [← hsb, ← hW3]; simp)
  have hne : ∀ g, v'.ownBlock = some g → g ≠ w.heap.size + 1 ∧ g ≠ w.heap.size + 1 + 1 := fun g hg => by
    rcases k4 with h9 | h9
    · rw [hg] at h9; simp [Value.ownBlock] at h9
    · rw [hg] at h9
      simp only [Option.some.injEq] at h9
      omega
  have HF := Lib.hid (And.intro k1 (And.intro (hba.trans ((hbb.trans (hB2.mono hbb.size)).mono hba.size)) hne))
  obtain ⟨a', c', rfl, _⟩ := k1.read
  obtain ⟨m, hm⟩ : ∃ m, L.length = m := ⟨_, rfl⟩
  rw [hm] at HF ⊢
  clear hba hbb hb3 hB hB2 hsa hsb hs3 hW3 hWa hWb k1 k2 k4 hne
  go_wp2
  refine bodyPost_ret (v := .agg #[.string fr, .string dst, .string kind, .string key, .int .i64 op, .int .i64 cf, .bool sl, .slice a' m c']) (by simp [results, Tryz.results19, go_sem, p0, p1, p2, p3, p4, p5, p6, p7]) rfl ⟨?_, _, rfl, ?_⟩
  · have h1 : w.heap.size ≤ w.heap.size + 1 := Nat.le_succ _
    have h2 : w.heap.size ≤ w.heap.size + 1 + 1 := by omega
    exact ((((((((HF.out.2.1.setCell h2 _).setCell h1 _).setCell h1 _).setCell h1 _).setCell h1 _).setCell h1 _).setCell h1 _).setCell h1 _).setCell h1 _
  · refine HF.out.1.heap fun g hg => ?_
    obtain ⟨h1, h2⟩ := HF.out.2.2 g hg
    rw [Below.heap_setCell _ _ _ _ h1, Below.heap_setCell _ _ _ _ h1, Below.heap_setCell _ _ _ _ h1, Below.heap_setCell _ _ _ _ h1, Below.heap_setCell _ _ _ _ h1, Below.heap_setCell _ _ _ _ h1, Below.heap_setCell _ _ _ _ h1, Below.heap_setCell _ _ _ _ h1, Below.heap_setCell _ _ _ _ h2]
set_option maxRecDepth 100000 in
set_option maxHeartbeats 4000000 in
/-- bulk answers, whatever; it reads alone. -/
theorem bulk_walk (w : World) (fr dst kind key : ByteArray) (op cf : Int) (sl : Bool) (a : Option Addr) (len cap : Nat) (L : List Ver) (hlen : L.length = len) (hlm : len ≤ maxLen) (hL : VrR w.heap.size w a L) :
    Calls Tryz.prog 32 #[.agg #[.string fr, .string dst, .string kind, .string key, .int .i64 op, .int .i64 cf, .bool sl, .slice a len cap]] w fun e w' => (∃ z : Int, e = .returned (.int .i64 z)) ∧ Below w.heap.size w w' := by
  obtain ⟨W1, hW1⟩ : ∃ W1, w.alloc (.cells #[.string fr, .string dst, .string kind, .string key, .int .i64 op, .int .i64 cf, .bool sl, .slice a len cap] 57) = W1 := ⟨_, rfl⟩
  obtain ⟨ab, hab⟩ : ∃ ab, w.heap.size = ab := ⟨_, rfl⟩
  have hb1 : Below w.heap.size w W1 := by rw [← hW1]; exact (Below.refl _ _).alloc (Nat.le_refl _) _
  have r0 : W1.cell? ⟨ab, 0, none⟩ = some (.string fr) := by rw [← hW1, ← hab]; simp
  have r1 : W1.cell? ⟨ab, 1, none⟩ = some (.string dst) := by rw [← hW1, ← hab]; simp
  have r2 : W1.cell? ⟨ab, 2, none⟩ = some (.string kind) := by rw [← hW1, ← hab]; simp
  have r3 : W1.cell? ⟨ab, 3, none⟩ = some (.string key) := by rw [← hW1, ← hab]; simp
  have r7 : W1.cell? ⟨ab, 7, none⟩ = some (.slice a len cap) := by rw [← hW1, ← hab]; simp
  have hm9 : len ≤ 9223372036854775807 := by unfold maxLen at hlm; omega
  have HM := Lib.hid (And.intro hb1 (And.intro hW1 (And.intro hab (And.intro hlen hL))))
  have H7 := Lib.hid r7
  clear hb1 hW1 hab hlen hL hlm
  go_enter Tryz.func32, Tryz.ntmps32
  go_wp2_with (first
    | (rw [HM.out.2.1, HM.out.2.2.1])
    | fail)
  go_loopw [3, 4] (fun vn vi wr => ∃ (i : Nat) (z : Int), i ≤ len ∧ vi = .int .i64 i ∧ vn = .int .i64 z ∧ wr = W1) (fun _ vi _ => len - (intOf vi).toNat)
  case atStart => exact ⟨0, _, by omega, rfl, rfl, rfl⟩
  case round =>
    obtain ⟨i, z, hi, rfl, rfl, rfl⟩ := hrel
    have hi2 : i < len ∨ i = len := by omega
    rcases hi2 with hilt | rfl
    · have hilt2 : (i : Int) < len := by omega
      rcases HM.out.2.2.2.2.below HM.out.1 with he | ⟨b, off, rfl, _, hcx⟩
      · exfalso
        have := HM.out.2.2.2.1
        rw [he] at this; simp at this; omega
      obtain ⟨_, _, _, _, f4⟩ := VrR.at5 hcx (i := i) (by rw [HM.out.2.2.2.1]; exact hilt)
      obtain ⟨⟨x1, x2, x3, x4, x5⟩, hx⟩ : ∃ x, L[i]?.getD ver0 = x := ⟨_, rfl⟩
      rw [hx] at f4
      dsimp only at f4
      have f4' : wr.cell? ⟨b, off + i * 5 + 3 + 1, none⟩ = some (.string x5) := f4
      clear hcx hx f4
      go_wp2
      go_roundw
      case rel => exact ⟨i + 1, _, by omega, by go_num, rfl, trivial⟩
      case measure => simp [intOf]; omega
    · go_wp2
      go_ret
      exact ⟨⟨_, rfl⟩, HM.out.1⟩
set_option maxRecDepth 100000 in
set_option maxHeartbeats 8000000 in
/-- messagesFit answers, whatever; it reads alone. -/
theorem mfit_walk (w : World) (a : Option Addr) (len cap : Nat) (l : List Msg) (hA : MsgsIn w a len cap l) :
    Calls Tryz.prog 7 #[.slice a len cap] w fun e w' => (∃ r, e = .returned (.bool r)) ∧ Below w.heap.size w w' := by
  obtain ⟨hl, hc, hm, ha, hR, hok⟩ := hA
  have hm9 : len ≤ 9223372036854775807 := by unfold maxLen at hm; omega
  have Hl := Lib.hid (And.intro hl hR)
  clear hl ha hR hok hm
  go_enter Tryz.func7, Tryz.ntmps7
  go_wp2
  go_loopw [3, 4] (fun vn vi wr => ∃ (i : Nat) (z : Int), i ≤ len ∧ vi = .int .i64 i ∧ vn = .int .i64 z ∧ Hid (Below w.heap.size w wr)) (fun _ vi _ => len - (intOf vi).toNat)
  case atStart => exact ⟨0, 0, by omega, rfl, rfl, Lib.hid (Below.refl _ _)⟩
  case round =>
    obtain ⟨i, z, hi, rfl, rfl, Hr⟩ := hrel
    have hi2 : i < len ∨ i = len := by omega
    rcases hi2 with hilt | rfl
    · have hilt2 : (i : Int) < len := by omega
      rcases Hl.out.2.below Hr.out with he | ⟨b, off, rfl, hbl, hcx⟩
      · exfalso
        have := Hl.out.1
        rw [he] at this; simp at this; omega
      obtain ⟨k0, k1, k2, k3, k4, k5, k6, ad, cp, k7, q1, q2, q3, q4⟩ := hcx i (by rw [Hl.out.1]; exact hilt)
      obtain ⟨⟨fr, dst, kind, key, op, cf, sl, L⟩, hx⟩ : ∃ x, l[i]?.getD msg0 = x := ⟨_, rfl⟩
      rw [hx] at k0 k1 k2 k3 k4 k5 k6 k7 q1 q4
      dsimp only at k0 k1 k2 k3 k4 k5 k6 k7 q1 q4
      obtain ⟨n, hn⟩ : ∃ n, L.length = n := ⟨_, rfl⟩
      rw [hn] at k7 q1
      have hn9 : n ≤ 9223372036854775807 := by unfold maxLen at q2; omega
      have Hb := Lib.hid (bulk_walk wr fr dst kind key op cf sl ad n cp L hn (by omega) (VrR.mono Hr.out.size q4))
      have HQ := Lib.hid (And.intro q4 (And.intro hn (And.intro Hr.out hbl)))
      clear hcx hx q1 q2 q3 q4 hn hbl Hr
      go_wp2_with fail
      refine Hb.out.mono ?_
      rintro e w2 ⟨⟨z2, rfl⟩, hb2⟩
      have k7' := (hb2.cell (p := ⟨b, off + i * 8 + 7, none⟩) (lt_of_cell k7)).trans k7
      have HQ2 := Lib.hid (And.intro (HQ.out.2.2.1.trans (hb2.mono HQ.out.2.2.1.size)) (HQ.out.1.below (hb2.mono HQ.out.2.2.1.size)))
      clear hb2 k0 k1 k2 k3 k4 k5 k6 k7 Hb
      go_wp2
      go_loopw [5] (fun vj wi => ∃ (j : Nat), j ≤ n ∧ vj = .int .i64 j ∧ wi = w2) (fun vj _ => n - (intOf vj).toNat)
      case atStart => exact ⟨0, by omega, rfl, rfl⟩
      case round =>
        obtain ⟨j, hj, rfl, rfl⟩ := hrel
        have hj2 : j < n ∨ j = n := by omega
        rcases hj2 with hjlt | rfl
        · have hjlt2 : (j : Int) < n := by omega
          rcases HQ2.out.2 with he | ⟨b', off', rfl, _, hcx⟩
          · exfalso
            have := HQ.out.2.1
            rw [he] at this; simp at this; omega
          obtain ⟨_, _, f2, _, _⟩ := VrR.at5 hcx (i := j) (by rw [HQ.out.2.1]; exact hjlt)
          obtain ⟨⟨x1, x2, x3, x4, x5⟩, hx⟩ : ∃ x, L[j]?.getD ver0 = x := ⟨_, rfl⟩
          rw [hx] at f2
          dsimp only at f2
          clear hcx hx
          have hcs : (200 < x3 ∧ x3 ≤ 1000) ∨ (200 < x3 ∧ ¬ x3 ≤ 1000) ∨ ¬ 200 < x3 := by omega
          rcases hcs with ⟨h1, h2⟩ | ⟨h1, h2⟩ | h1
          · go_wp2
            go_ret
            exact ⟨⟨_, rfl⟩, HQ2.out.1⟩
          · go_wp2
            go_roundw
            case rel => exact ⟨j + 1, by omega, by go_num, trivial⟩
            case measure => simp [intOf]; omega
          · go_wp2
            go_roundw
            case rel => exact ⟨j + 1, by omega, by go_num, trivial⟩
            case measure => simp [intOf]; omega
        · go_wp2
          go_roundw
          case rel => exact ⟨i + 1, _, by omega, by go_num, rfl, Lib.hid HQ2.out.1⟩
          case measure => simp [intOf]; omega
    · go_wp2
      go_ret
      exact ⟨⟨_, rfl⟩, Hr.out⟩
end
end Go.Proofs.YtabboioamdphmaaGreatDoor
/- The walk of SameVersions. -/
namespace Go.Proofs.YtabboioamdphmaaGreatDoor
section
open Go.RowKit

theorem txt_neW {a b : ByteArray} (h : a ≠ b) : (a.toList == b.toList) = false := by
  rw [beq_eq_false_iff_ne]
  intro e
  apply h
  rw [ByteArray.toList_eq, ByteArray.toList_eq] at e
  cases a; cases b
  exact congrArg ByteArray.mk (Array.toList_inj.1 e)
theorem vers_ext {A B : List Ver} (hl : A.length = B.length) (h : ∀ j, j < A.length → (A[j]?.getD ver0) = (B[j]?.getD ver0)) : A = B := by
  apply List.ext_getElem hl
  intro i h1 h2
  have := h i h1
  rw [List.getElem?_eq_getElem h1, List.getElem?_eq_getElem h2] at this
  exact this
set_option maxRecDepth 100000 in
set_option maxHeartbeats 4000000 in
theorem samev_walk (n₀ : Nat) (a : Option Addr) (la ca : Nat) (A : List Ver) (b : Option Addr) (lb cb : Nat) (B : List Ver) (r : Bool) (w : World) (hla : A.length = la) (hlb : B.length = lb) (hm : la ≤ maxLen) (hA : VrR n₀ w a A) (hB : VrR n₀ w b B) (hr : decide (A = B) = r) :
    Calls Tryz.prog 64 #[.slice a la ca, .slice b lb cb] w fun e w' => e = .returned (.bool r) ∧ Below w.heap.size w w' := by
  have hm9 : la ≤ 9223372036854775807 := hm
  have HA := Lib.hid hA
  have HB := Lib.hid hB
  have Hl := Lib.hid (And.intro hla hlb)
  have Hr := Lib.hid hr
  by_cases hlen : la = lb
  · subst hlen
    clear hA hB hla hlb hr hm
    go_enter Tryz.func64, Tryz.ntmps64
    go_wp2
    go_loopw [5] (fun vi wr => ∃ k : Nat, k ≤ la ∧ vi = .int .i64 k ∧ Hid ((∀ j, j < k → (A[j]?.getD ver0) = (B[j]?.getD ver0)) ∧ ∃ q, wr = w.drewN q)) (fun i _ => la - (intOf i).toNat)
    case atStart => exact ⟨0, by omega, rfl, Lib.hid ⟨fun j hj => by omega, 0, rfl⟩⟩
    case round =>
      obtain ⟨k, hk, rfl, H⟩ := hrel
      have hbw : Below w.heap.size w wr := by
        obtain ⟨_, q, rfl⟩ := H.out
        exact ⟨rfl, rfl, rfl, Nat.le_refl _, fun _ _ => rfl⟩
      have Hbw := Lib.hid hbw
      have hk2 : k < la ∨ k = la := by omega
      rcases hk2 with hlt | rfl
      · have hlt2 : (k : Int) < la := by omega
        have hcA : ∀ n, VrR n w a A → VrR n wr a A := fun n h => by
          obtain ⟨_, q, rfl⟩ := H.out
          exact h
        have hcB : ∀ n, VrR n w b B → VrR n wr b B := fun n h => by
          obtain ⟨_, q, rfl⟩ := H.out
          exact h
        rcases hcA _ HA.out with he | ⟨ba, oa, rfl, _, h1⟩
        · exfalso
          have := Hl.out.1
          rw [he] at this; simp at this; omega
        rcases hcB _ HB.out with he | ⟨bb, ob, rfl, _, h2⟩
        · exfalso
          have := Hl.out.2
          rw [he] at this; simp at this; omega
        obtain ⟨p0, p1, p2, p3, p4⟩ := VrR.at5 h1 (i := k) (by have := Hl.out.1; omega)
        obtain ⟨q0, q1, q2, q3, q4⟩ := VrR.at5 h2 (i := k) (by have := Hl.out.2; omega)
        obtain ⟨⟨x1, x2, x3, x4, x5⟩, hx⟩ : ∃ x, A[k]?.getD ver0 = x := ⟨_, rfl⟩
        obtain ⟨⟨y1, y2, y3, y4, y5⟩, hy⟩ : ∃ y, B[k]?.getD ver0 = y := ⟨_, rfl⟩
        rw [hx] at p0 p1 p2 p3 p4
        rw [hy] at q0 q1 q2 q3 q4
        dsimp only at p0 p1 p2 p3 p4 q0 q1 q2 q3 q4
        have Hxy := Lib.hid (And.intro hx hy)
        clear hx hy hcA hcB hbw h1 h2
        have hcs : (x1 = y1 ∧ x2 = y2 ∧ x3 = y3 ∧ x4 = y4 ∧ x5 = y5) ∨ x1 ≠ y1 ∨ (x1 = y1 ∧ x2 ≠ y2) ∨ (x1 = y1 ∧ x2 = y2 ∧ x3 ≠ y3) ∨ (x1 = y1 ∧ x2 = y2 ∧ x3 = y3 ∧ x4 ≠ y4) ∨ (x1 = y1 ∧ x2 = y2 ∧ x3 = y3 ∧ x4 = y4 ∧ x5 ≠ y5) := by
          by_cases e1 : x1 = y1
          · by_cases e2 : x2 = y2
            · by_cases e3 : x3 = y3
              · by_cases e4 : x4 = y4
                · by_cases e5 : x5 = y5
                  · exact .inl ⟨e1, e2, e3, e4, e5⟩
                  · exact .inr (.inr (.inr (.inr (.inr ⟨e1, e2, e3, e4, e5⟩))))
                · exact .inr (.inr (.inr (.inr (.inl ⟨e1, e2, e3, e4⟩))))
              · exact .inr (.inr (.inr (.inl ⟨e1, e2, e3⟩)))
            · exact .inr (.inr (.inl ⟨e1, e2⟩))
          · exact .inr (.inl e1)
        rcases hcs with ⟨rfl, rfl, rfl, rfl, rfl⟩ | hne
        · go_wp2
          go_quiet (fail)
          go_wp2
          go_roundw
          case rel => exact ⟨k + 1, by omega, by go_num, Lib.hid ⟨fun j hj => by
            by_cases e : j = k
            · rw [e, Hxy.out.1, Hxy.out.2]
            · exact H.out.1 j (by omega), by
              obtain ⟨_, q, hq⟩ := H.out
              exact ⟨q + nq, by rw [hq, World.drewN_drewN]⟩⟩⟩
          case measure => simp [intOf]; omega
        · have hrf : r = false := by
            rw [← Hr.out]
            apply decide_eq_false
            intro hAB
            have h9 : ((x1, x2, x3, x4, x5) : Ver) = (y1, y2, y3, y4, y5) := by rw [← Hxy.out.1, ← Hxy.out.2, hAB]
            simp only [Prod.mk.injEq] at h9
            obtain ⟨rfl, rfl, rfl, rfl, rfl⟩ := h9
            simp at hne
          subst hrf
          clear Hxy
          rcases hne with h9 | ⟨rfl, h9⟩ | ⟨rfl, rfl, h9⟩ | ⟨rfl, rfl, rfl, h9⟩ | ⟨rfl, rfl, rfl, rfl, h9⟩
          · have e1 : (x1 == y1) = false := beq_eq_false_iff_ne.2 h9
            clear h9
            go_wp2
            go_quiet (fail)
            go_wp2
            go_ret
            exact ⟨rfl, Hbw.out.trans ⟨rfl, rfl, rfl, Nat.le_refl _, fun _ _ => rfl⟩⟩
          · have e1 : (x2 == y2) = false := beq_eq_false_iff_ne.2 h9
            clear h9
            go_wp2
            go_quiet (fail)
            go_wp2
            go_ret
            exact ⟨rfl, Hbw.out.trans ⟨rfl, rfl, rfl, Nat.le_refl _, fun _ _ => rfl⟩⟩
          · have e1 : (x3 == y3) = false := beq_eq_false_iff_ne.2 h9
            clear h9
            go_wp2
            go_quiet (fail)
            go_wp2
            go_ret
            exact ⟨rfl, Hbw.out.trans ⟨rfl, rfl, rfl, Nat.le_refl _, fun _ _ => rfl⟩⟩
          · have e1 : (x4 == y4) = false := beq_eq_false_iff_ne.2 h9
            clear h9
            go_wp2
            go_quiet (fail)
            go_wp2
            go_ret
            exact ⟨rfl, Hbw.out.trans ⟨rfl, rfl, rfl, Nat.le_refl _, fun _ _ => rfl⟩⟩
          · have e1 := txt_neW h9
            clear h9
            go_wp2
            go_quiet (fail)
            go_wp2
            go_ret
            exact ⟨rfl, Hbw.out.trans ⟨rfl, rfl, rfl, Nat.le_refl _, fun _ _ => rfl⟩⟩
      · have hrt : r = true := by
          rw [← Hr.out]
          exact decide_eq_true (vers_ext (by have := Hl.out; omega) (fun j hj => H.out.1 j (by have := Hl.out.1; omega)))
        subst hrt
        clear hbw
        go_wp2
        go_ret
        exact ⟨rfl, Hbw.out⟩
  · have hrf : r = false := by
      rw [← hr]
      exact decide_eq_false (fun e => hlen (by rw [← hla, ← hlb, e]))
    subst hrf
    have e1 : ((la : Int) == (lb : Int)) = false := beq_eq_false_iff_ne.2 (by omega)
    have e2 : ((la : Int) != (lb : Int)) = true := bne_iff_ne.2 (by omega)
    have e3 : (la == lb) = false := beq_eq_false_iff_ne.2 hlen
    clear hA hB hla hlb hr hm hlen
    go_enter Tryz.func64, Tryz.ntmps64
    go_wp2
    go_ret
    exact ⟨rfl, Below.refl _ _⟩
end
end Go.Proofs.YtabboioamdphmaaGreatDoor
