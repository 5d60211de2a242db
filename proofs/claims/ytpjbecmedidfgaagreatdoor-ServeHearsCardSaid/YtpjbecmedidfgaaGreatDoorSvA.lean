/- A member in memory: its holds by configuration; of. -/
import Derived.Test.YtpjbecmedidfgaaGreatDoorHpA
import Derived.Test.YtpjbecmedidfgaaGreatDoorMsg
namespace Go.Proofs.YtpjbecmedidfgaaGreatDoor
section
open Go.RowKit Go.Maps

/-- a hold of a configuration: where it lies, and what it has. -/
structure HSt where
  hb : Nat
  F : Nat → Prop
  sd : Bool
  l : List Kp
  ks : List ByteArray
  S : ByteArray → Value
def HSt.At (h : HSt) (w : World) : Prop := HoldAt h.F w h.hb h.sd (getL h.l) h.ks h.S
theorem keyedI : Keyed Tryz.prog 3 := int_keyed Tryz.underlying3
def litI (c : Int) : Lit := .int .i64 c
theorem keyLitI (c : Int) : WideAt.IsKeyLit (litI c) := trivial
theorem litI_inj {a b : Int} (h : litI a = litI b) : a = b := by
  unfold litI at h
  simpa using h
theorem keyI {c : Int} (hc : Int64 c) : keyOf Tryz.prog 3 (.int .i64 c) = some (litI c) := keyOf_int_mk Tryz.underlying3 (WalkArith.wf_i64 hc)
theorem zeroPtr (w : World) : (zeroValue 46).run Tryz.prog w = .ok (.pointer none) w := by kernel_rfl
def Fine' (l : List Kp) : Prop := Srt l ∧ l.length ≤ 60
/-- the value under a configuration. -/
def ptrOf (cs : List Int) (H : Int → HSt) (c : Int) : Value := if c ∈ cs then .pointer (some ⟨(H c).hb, 0, none⟩) else .pointer none
/-- a member lies at mp: its name, its configurations. -/
structure MemAt (P : Nat → Prop) (w : World) (mp : Nat) (name : ByteArray) (cs : List Int) (H : Int → HSt) : Prop where
  nP : ¬ P mp
  lt : mp < w.heap.size
  n0 : w.cell? ⟨mp, 0, none⟩ = some (.string name)
  new : ∀ b, w.heap.size ≤ b → P b
  map : ∃ bm D, w.cell? ⟨mp, 1, none⟩ = some (.map (some bm)) ∧ P bm ∧ w.ownsMap Tryz.prog 3 Rv bm cs.length D ∧ (∀ c, D.atKey (litI c) (.held (.pointer none)) = .held (ptrOf cs H c)) ∧ (∀ c, Maps.has D (litI c) = decide (c ∈ cs)) ∧ Maps.size D = cs.length ∧ ∀ c ∈ cs, ¬ (H c).F bm
  hold : ∀ c ∈ cs, (H c).At w
  inP : ∀ c ∈ cs, ∀ b, (H c).F b → P b ∧ b < w.heap.size
  apart : ∀ c ∈ cs, ∀ c' ∈ cs, c ≠ c' → ∀ b, (H c).F b → ¬ (H c').F b
  fine : ∀ c ∈ cs, Srt (H c).l ∧ (H c).l.length ≤ 60
  len : cs.length ≤ 12
  nodup : cs.Nodup
theorem MemAt.kept {P : Nat → Prop} {w w' : World} {mp : Nat} {name : ByteArray} {cs : List Int} {H : Int → HSt} (h : MemAt P w mp name cs H) (hk : Below w.heap.size w w') : MemAt P w' mp name cs H := by
  obtain ⟨bm, D, m0, m1, m2, m3⟩ := h.map
  refine ⟨h.nP, Nat.lt_of_lt_of_le h.lt hk.size, (hk.cell (p := ⟨mp, 0, none⟩) h.lt).trans h.n0, fun b hb => h.new b (Nat.le_trans hk.size hb), ⟨bm, D, (hk.cell (p := ⟨mp, 1, none⟩) h.lt).trans m0, m1, ?_, m3⟩, fun c hc => HoldAt.below (h.hold c hc) hk (Nat.le_refl _), fun c hc b hb => ⟨(h.inP c hc b hb).1, Nat.lt_of_lt_of_le (h.inP c hc b hb).2 hk.size⟩, h.apart, h.fine, h.len, h.nodup⟩
  exact m2.kept (row := none) ⟨hk.os, hk.tape, hk.output, hk.size, fun k hk2 _ => hk.block k hk2⟩ (by simp)
theorem MemAt.below {P : Nat → Prop} {w w' : World} {mp : Nat} {name : ByteArray} {cs : List Int} {H : Int → HSt} (h : MemAt P w mp name cs H) {n : Nat} (hk : Below n w w') (hn : w.heap.size ≤ n) : MemAt P w' mp name cs H := h.kept (hk.mono hn)
/-- blocks more, which are none of its. -/
theorem MemAt.past {P : Nat → Prop} {w w' : World} {mp : Nat} {name : ByteArray} {cs : List Int} {H : Int → HSt} (h : MemAt P w mp name cs H) (hk : Below w.heap.size w w') : MemAt (fun b => P b ∧ (b < w.heap.size ∨ w'.heap.size ≤ b)) w' mp name cs H := by
  have h' := h.kept hk
  obtain ⟨bm, D, m0, m1, m2, m3⟩ := h.map
  obtain ⟨bm', D', m0', m1', m2', m3'⟩ := h'.map
  have e : bm' = bm := by
    have h9 := (hk.cell (p := ⟨mp, 1, none⟩) h.lt).trans m0
    rw [m0'] at h9
    simpa using h9
  subst e
  exact ⟨fun h9 => h.nP h9.1, h'.lt, h'.n0, fun b hb => ⟨h'.new b hb, .inr hb⟩, ⟨bm', D', m0', ⟨m1', .inl m2.lt⟩, m2', m3'⟩, h'.hold, fun c hc b hb => ⟨⟨(h.inP c hc b hb).1, .inl (h.inP c hc b hb).2⟩, (h'.inP c hc b hb).2⟩, h'.apart, h'.fine, h'.len, h'.nodup⟩
theorem MemAt.mono {P Q : Nat → Prop} {w : World} {mp : Nat} {name : ByteArray} {cs : List Int} {H : Int → HSt} (h : MemAt P w mp name cs H) (hPQ : ∀ b, P b → Q b) (hQ : ¬ Q mp) : MemAt Q w mp name cs H := by
  obtain ⟨bm, D, m0, m1, m2, m3⟩ := h.map
  exact ⟨hQ, h.lt, h.n0, fun b hb => hPQ b (h.new b hb), ⟨bm, D, m0, hPQ _ m1, m2, m3⟩, h.hold, fun c hc b hb => ⟨hPQ _ (h.inP c hc b hb).1, (h.inP c hc b hb).2⟩, h.apart, h.fine, h.len, h.nodup⟩
def updH (H : Int → HSt) (c : Int) (x : HSt) : Int → HSt := fun k => if k = c then x else H k
theorem updH_same (H : Int → HSt) (c : Int) (x : HSt) : updH H c x c = x := by unfold updH; rw [if_pos rfl]
theorem updH_other (H : Int → HSt) {c k : Int} (x : HSt) (h : k ≠ c) : updH H c x k = H k := by unfold updH; rw [if_neg h]
/-- an act on one of its holds. -/
theorem MemAt.turn {P : Nat → Prop} {w w' : World} {mp : Nat} {name : ByteArray} {cs : List Int} {H : Int → HSt} {c : Int} {F' : Nat → Prop} {sd' : Bool} {l' : List Kp} {ks' : List ByteArray} {S' : ByteArray → Value} (h : MemAt P w mp name cs H) (hc : c ∈ cs) (hk : KeptBut (H c).F w w') (hF : ∀ b, F' b → (H c).F b ∨ w.heap.size ≤ b) (hh : HoldAt F' w' (H c).hb sd' (getL l') ks' S') (hf : Srt l' ∧ l'.length ≤ 60) :
    MemAt P w' mp name cs (updH H c ⟨(H c).hb, fun b => F' b ∧ b < w'.heap.size, sd', l', ks', S'⟩) ∧ KeptBut P w w' := by
  obtain ⟨bm, D, m0, m1, m2, m3, m4, m5, m6⟩ := h.map
  have hmp : ¬ (H c).F mp := fun h9 => h.nP (h.inP c hc mp h9).1
  have eb : w'.heap[mp]? = w.heap[mp]? := hk.block mp h.lt hmp
  have hNF : ∀ b, b < w.heap.size → F' b → (H c).F b := fun b hb h9 => by
    rcases hF b h9 with h9 | h9
    · exact h9
    · omega
  refine ⟨⟨h.nP, Nat.lt_of_lt_of_le h.lt hk.size, (World.cell?_of_block (a := ⟨mp, 0, none⟩) eb).trans h.n0, fun b hb => h.new b (Nat.le_trans hk.size hb), ⟨bm, D, (World.cell?_of_block (a := ⟨mp, 1, none⟩) eb).trans m0, m1, ?_, ?_, m4, m5, ?_⟩, ?_, ?_, ?_, ?_, h.len, h.nodup⟩, hk.mono (fun k _ h9 => (h.inP c hc k h9).1)⟩
  · obtain ⟨es, clock, hm, hr⟩ := m2
    exact ⟨es, clock, (hk.block bm (Array.getElem?_eq_some_iff.1 hm).1 (m6 c hc)).trans hm, hr⟩
  · intro k
    rw [m3 k]
    unfold ptrOf
    by_cases e : k = c
    · subst e; rw [updH_same]
    · rw [updH_other _ _ e]
  · intro k hkc
    by_cases e : k = c
    · subst e; rw [updH_same]
      exact fun h9 => m6 k hc (hNF bm m2.lt h9.1)
    · rw [updH_other _ _ e]; exact m6 k hkc
  · intro k hkc
    by_cases e : k = c
    · subst e; rw [updH_same]
      exact ⟨⟨hh.hF, hh.hlt⟩, hh.hlt, hh.c1, hh.f0, hh.f1, hh.restrict.map, hh.row, hh.restrict.rowF, hh.apart, hh.nodup, hh.mem, hh.no, hh.kz⟩
    · rw [updH_other _ _ e]
      exact HoldAt.kept (h.hold k hkc) hk (fun b _ h1 h2 => h.apart k hkc c hc e b h1 h2)
  · intro k hkc b hb
    by_cases e : k = c
    · subst e; rw [updH_same] at hb
      refine ⟨?_, hb.2⟩
      rcases hF b hb.1 with h9 | h9
      · exact (h.inP k hc b h9).1
      · exact h.new b h9
    · rw [updH_other _ _ e] at hb
      exact ⟨(h.inP k hkc b hb).1, Nat.lt_of_lt_of_le (h.inP k hkc b hb).2 hk.size⟩
  · intro k hkc k' hkc' hne b h1 h2
    by_cases e : k = c
    · subst e
      rw [updH_same] at h1
      rw [updH_other _ _ (fun e2 => hne e2.symm)] at h2
      have hb := (h.inP k' hkc' b h2).2
      exact h.apart k hc k' hkc' hne b (hNF b hb h1.1) h2
    · rw [updH_other _ _ e] at h1
      by_cases e2 : k' = c
      · subst e2
        rw [updH_same] at h2
        have hb := (h.inP k hkc b h1).2
        exact h.apart k hkc k' hc hne b h1 (hNF b hb h2.1)
      · rw [updH_other _ _ e2] at h2
        exact h.apart k hkc k' hkc' hne b h1 h2
  · intro k hkc
    by_cases e : k = c
    · subst e; rw [updH_same]; exact hf
    · rw [updH_other _ _ e]; exact h.fine k hkc
def newH (b : Nat) : HSt := ⟨b, fun k => k = b, false, [], [], fun _ => .slice none 0 0⟩
/-- a new hold is put into its map. -/
theorem MemAt.add {P : Nat → Prop} {w w3 : World} {mp : Nat} {name : ByteArray} {cs : List Int} {H : Int → HSt} {c : Int} {bm : Nat} {D : DataW Value} (h : MemAt P w mp name cs H) (hm0 : w.cell? ⟨mp, 1, none⟩ = some (.map (some bm))) (hm2 : w.ownsMap Tryz.prog 3 Rv bm cs.length D)
    (hm3 : (∀ c, D.atKey (litI c) (.held (.pointer none)) = .held (ptrOf cs H c)) ∧ (∀ c, Maps.has D (litI c) = decide (c ∈ cs)) ∧ Maps.size D = cs.length ∧ P bm ∧ ∀ c ∈ cs, ¬ (H c).F bm) (hc : c ∉ cs) (hl : cs.length < 12)
    (hown : w3.ownsMap Tryz.prog 3 Rv bm (cs.length + 1) (D.put (litI c) (.held (.pointer (some ⟨w.heap.size, 0, none⟩))))) (hg3 : (w.alloc (.cells #[.map none, .bool false] 129)).grownBy w3 (some bm)) :
    MemAt P w3 mp name (cs ++ [c]) (updH H c (newH w.heap.size)) ∧ KeptBut P w w3 := by
  obtain ⟨m3, m4, m5, m1, m6⟩ := hm3
  have hB : Below w.heap.size w (w.alloc (.cells #[.map none, .bool false] 129)) := (Below.refl _ w).alloc (Nat.le_refl _) _
  have hbm : bm < w.heap.size := hm2.lt
  have hk1 : KeptBut (fun b => b = bm) (w.alloc (.cells #[.map none, .bool false] 129)) w3 := KeptBut.of_grown hg3 (fun k e => (Option.some.inj e).symm)
  have hk : KeptBut (fun b => b = bm) w w3 := (KeptBut.of_below hB (fun k h1 h2 => by omega)).trans hk1
  have hmpb : mp ≠ bm := fun e => h.nP (by rw [e]; exact m1)
  have eb : w3.heap[mp]? = w.heap[mp]? := hk.block mp h.lt hmpb
  have hsz : w.heap.size < w3.heap.size := Nat.lt_of_lt_of_le (by simp) hg3.size
  have hnew : HoldAt (fun k => k = w.heap.size) w3 w.heap.size false (getL []) [] (fun _ => .slice none 0 0) := by
    have h0 : HoldAt (fun k => k = w.heap.size) (w.alloc (.cells #[.map none, .bool false] 129)) w.heap.size false (fun _ => []) [] (fun _ => .slice none 0 0) := HoldAt.empty rfl (by simp) (by simp) (by simp) (by simp)
    exact HoldAt.kept h0 hk1 (fun b _ h1 h2 => by omega)
  have hne : ∀ k ∈ cs, k ≠ c := fun k hk e => hc (by rw [← e]; exact hk)
  have hmem : ∀ k, k ∈ cs ++ [c] ↔ k ∈ cs ∨ k = c := fun k => by simp
  refine ⟨⟨h.nP, Nat.lt_trans h.lt hsz, (World.cell?_of_block (a := ⟨mp, 0, none⟩) eb).trans h.n0, fun b hb => h.new b (by omega), ⟨bm, D.put (litI c) (.held (.pointer (some ⟨w.heap.size, 0, none⟩))), (World.cell?_of_block (a := ⟨mp, 1, none⟩) eb).trans hm0, m1, ?_, ?_, ?_, ?_, ?_⟩, ?_, ?_, ?_, ?_, by simp; omega, ?_⟩, hk.mono (fun k _ e => by rw [e]; exact m1)⟩
  · have e : (cs ++ [c]).length = cs.length + 1 := by simp
    rw [e]; exact hown
  · intro k
    unfold ptrOf
    by_cases e : k = c
    · rw [e, atKey_put_same (hm2.tidy keyedI).isMap (keyLitI c), if_pos (by simp), updH_same]
      rfl
    · rw [atKey_put_other (fun e2 => e (litI_inj e2)), m3 k, updH_other _ _ e]
      unfold ptrOf
      by_cases e3 : k ∈ cs
      · rw [if_pos e3, if_pos ((hmem k).2 (.inl e3))]
      · rw [if_neg e3, if_neg (fun h9 => ((hmem k).1 h9).elim e3 e)]
  · intro k
    by_cases e : k = c
    · rw [e, has_put_same (hm2.tidy keyedI).isMap (keyLitI c)]
      exact (decide_eq_true (by simp)).symm
    · rw [has_put_other (fun e2 => e (litI_inj e2)), m4 k, decide_eq_decide, hmem]
      exact ⟨.inl, fun h9 => h9.resolve_right e⟩
  · rw [size_put (hm2.tidy keyedI), m4 c, m5]
    simp [hc]
  · intro k hkc
    by_cases e : k = c
    · rw [e, updH_same]
      show ¬ bm = w.heap.size
      omega
    · rw [updH_other _ _ e]
      exact m6 k (((hmem k).1 hkc).resolve_right e)
  · intro k hkc
    by_cases e : k = c
    · rw [e, updH_same]; exact hnew
    · have hk2 := ((hmem k).1 hkc).resolve_right e
      rw [updH_other _ _ e]
      exact HoldAt.kept (h.hold k hk2) hk (fun b _ h1 h2 => m6 k hk2 (by rw [← h2]; exact h1))
  · intro k hkc b hb
    by_cases e : k = c
    · rw [e, updH_same] at hb
      have hb2 : b = w.heap.size := hb
      rw [hb2]
      exact ⟨h.new _ (Nat.le_refl _), hsz⟩
    · rw [updH_other _ _ e] at hb
      have h9 := h.inP k (((hmem k).1 hkc).resolve_right e) b hb
      exact ⟨h9.1, Nat.lt_trans h9.2 hsz⟩
  · intro k hkc k' hkc' hkk b h1 h2
    by_cases e : k = c
    · rw [e, updH_same] at h1
      have hb2 : b = w.heap.size := h1
      have e2 : k' ≠ c := fun e2 => hkk (e.trans e2.symm)
      rw [updH_other _ _ e2] at h2
      have h9 := (h.inP k' (((hmem k').1 hkc').resolve_right e2) b h2).2
      omega
    · rw [updH_other _ _ e] at h1
      have hk2 := ((hmem k).1 hkc).resolve_right e
      by_cases e2 : k' = c
      · rw [e2, updH_same] at h2
        have hb2 : b = w.heap.size := h2
        have h9 := (h.inP k hk2 b h1).2
        omega
      · rw [updH_other _ _ e2] at h2
        exact h.apart k hk2 k' (((hmem k').1 hkc').resolve_right e2) hkk b h1 h2
  · intro k hkc
    by_cases e : k = c
    · rw [e, updH_same]; exact ⟨List.Pairwise.nil, Nat.zero_le _⟩
    · rw [updH_other _ _ e]; exact h.fine k (((hmem k).1 hkc).resolve_right e)
  · rw [List.nodup_append]
    exact ⟨h.nodup, by simp, fun a ha b hb => by rw [List.mem_singleton.1 hb]; exact hne a ha⟩
/-- what 'of' leaves. -/
def OfPost (P : Nat → Prop) (w w' : World) (mp : Nat) (name : ByteArray) (cs : List Int) (H : Int → HSt) (c : Int) (e : Ending) : Prop :=
  KeptBut P w w' ∧
  ((c ∈ cs ∧ e = .returned (.pointer (some ⟨(H c).hb, 0, none⟩)) ∧ MemAt P w' mp name cs H) ∨
   (c ∉ cs ∧ cs.length < 12 ∧ ∃ H', e = .returned (.pointer (some ⟨(H' c).hb, 0, none⟩)) ∧ MemAt P w' mp name (cs ++ [c]) H' ∧ (∀ k, k ≠ c → H' k = H k) ∧ (H' c).sd = false ∧ (H' c).l = []) ∨
   (c ∉ cs ∧ 12 ≤ cs.length ∧ e = .returned (.pointer none) ∧ MemAt P w' mp name cs H))
set_option maxRecDepth 100000 in
set_option maxHeartbeats 4000000 in
theorem of_walk (P : Nat → Prop) (w : World) (mp : Nat) (name : ByteArray) (cs : List Int) (H : Int → HSt) (c : Int) (h : MemAt P w mp name cs H) (hc : Int64 c) :
    Calls Tryz.prog 33 #[.pointer (some ⟨mp, 0, none⟩), .int .i64 c] w fun e w' => OfPost P w w' mp name cs H c e := by
  have HM := Lib.hid h
  obtain ⟨bm, D, m0, m1, m2, m3, m4, m5, m6⟩ := h.map
  obtain ⟨v, ps, hr, hv⟩ := m2.look_ok keyedI Tryz.underlying78 (zeroPtr w) (z := .pointer none) (zd := .held (.pointer none)) (zp := []) rfl (keyI hc)
  rw [m4 c] at hr
  have hv2 : v = ptrOf cs H c := by
    unfold Rv at hv
    rw [m3 c] at hv
    simp at hv
    exact hv.1
  subst hv2
  have hlen := m2.len Tryz.underlying78
  rw [m5] at hlen
  have hl12 := h.len
  obtain ⟨n, hn⟩ : ∃ n, cs.length = n := ⟨_, rfl⟩
  have Hn := Lib.hid hn
  have Hm := Lib.hid (And.intro m0 (And.intro m2 (And.intro m3 (And.intro m4 (And.intro m5 (And.intro m1 m6))))))
  rw [hn] at hlen hl12
  clear h m1 m2 m3 m4 m5 m6 hv hn
  have hcs : (c ∈ cs) ∨ (c ∉ cs ∧ n < 12) ∨ (c ∉ cs ∧ ¬ n < 12) := by
    by_cases e : c ∈ cs
    · exact .inl e
    · by_cases e2 : n < 12
      · exact .inr (.inl ⟨e, e2⟩)
      · exact .inr (.inr ⟨e, e2⟩)
  rcases hcs with hc1 | ⟨hc1, hc2⟩ | ⟨hc1, hc2⟩
  · unfold ptrOf at hr
    rw [if_pos hc1, decide_eq_true hc1] at hr
    have HC := Lib.hid hc1
    clear hc1
    go_enter Tryz.func33, Tryz.ntmps33
    go_wp2
    go_ret
    exact ⟨KeptBut.refl _ _, .inl ⟨HC.out, rfl, HM.out⟩⟩
  · unfold ptrOf at hr
    rw [if_neg hc1, decide_eq_false hc1] at hr
    have hB : Below w.heap.size w (w.alloc (.cells #[.map none, .bool false] 129)) := (Below.refl _ w).alloc (Nat.le_refl _) _
    have hown1 : (w.alloc (.cells #[.map none, .bool false] 129)).ownsMap Tryz.prog 3 Rv bm cs.length D := Hm.out.2.1.kept (row := none) ⟨hB.os, hB.tape, hB.output, hB.size, fun k hk _ => hB.block k hk⟩ (by simp)
    obtain ⟨w3, hrun, hown, hg⟩ := hown1.update keyedI Tryz.underlying78 (by rw [Hn.out]; unfold maxLen; omega) (keyI hc) (val := .pointer (some ⟨w.heap.size, 0, none⟩)) (d := .held (.pointer (some ⟨w.heap.size, 0, none⟩))) (ps := []) rfl
    obtain ⟨q1, q2⟩ := MemAt.add HM.out Hm.out.1 Hm.out.2.1 ⟨Hm.out.2.2.1, Hm.out.2.2.2.1, Hm.out.2.2.2.2.1, Hm.out.2.2.2.2.2.1, Hm.out.2.2.2.2.2.2⟩ hc1 (by rw [Hn.out]; exact hc2) hown hg
    have HC := Lib.hid (And.intro hc1 (And.intro q1 q2))
    have m0a : (w.alloc (.cells #[.map none, .bool false] 129)).cell? ⟨mp, 1, none⟩ = some (.map (some bm)) := by
      have hB : Below w.heap.size w (w.alloc (.cells #[.map none, .bool false] 129)) := (Below.refl _ w).alloc (Nat.le_refl _) _
      exact (hB.cell (p := ⟨mp, 1, none⟩) HM.out.lt).trans m0
    have hn12 : (n : Int) < 12 := by omega
    have hn12b : decide ((n : Int) < 12) = true := decide_eq_true hn12
    clear hc1 q1 q2 hown1 hown hg hB
    go_enter Tryz.func33, Tryz.ntmps33
    go_wp2
    go_ret
    exact ⟨HC.out.2.2, .inr (.inl ⟨HC.out.1, by rw [Hn.out]; exact hc2, updH H c (newH w.heap.size), by rw [updH_same]; rfl, HC.out.2.1, fun k hk => updH_other _ _ hk, by rw [updH_same]; rfl, by rw [updH_same]; rfl⟩)⟩
  · unfold ptrOf at hr
    rw [if_neg hc1, decide_eq_false hc1] at hr
    have HC := Lib.hid hc1
    have hn12 : ¬ (n : Int) < 12 := by omega
    have hn12b : decide ((n : Int) < 12) = false := decide_eq_false hn12
    clear hc1
    go_enter Tryz.func33, Tryz.ntmps33
    go_wp2
    go_ret
    exact ⟨KeptBut.refl _ _, .inr (.inr ⟨HC.out, by rw [Hn.out]; omega, rfl, HM.out⟩)⟩
end
end Go.Proofs.YtpjbecmedidfgaaGreatDoor
