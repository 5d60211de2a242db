/- Walks: the order of two tags: hold.order, hold.Less, the document's Less. -/
import Derived.Test.YthdicfcgkbepdaaGreatDoorCmpA
import Derived.Lib.QuietBelow
namespace Go.Proofs.YthdicfcgkbepdaaGreatDoor
open Go.RowKit

def or2 (a b : Int) : Int := if a ≠ 0 then a else b
set_option maxRecDepth 100000 in
set_option maxHeartbeats 1000000 in
theorem or2_walk (g : Nat) (f : Nat → Int) (w : World) (hc : ∀ j, j < 2 → w.cell? ⟨g, j, none⟩ = some (.int .i64 (f j))) :
    Calls Tryz.prog 62 #[.slice (some ⟨g, 0, none⟩) 2 2] w fun e w' => e = .returned (.int .i64 (or2 (f 0) (f 1))) ∧ w = w' := by
  have Hc := Lib.hid hc
  obtain ⟨r, hr⟩ : ∃ r, or2 (f 0) (f 1) = r := ⟨_, rfl⟩
  have Hr := Lib.hid hr
  rw [hr]
  clear hc hr
  go_enter Tryz.func62, Tryz.ntmps62
  go_wp2
  go_loop [8] (fun vi => ∃ i : Nat, i ≤ 2 ∧ vi = .int .i64 i ∧ Hid (∀ j, j < i → f j = 0)) (fun i => 2 - (intOf i).toNat)
  case atStart => exact ⟨0, by omega, rfl, Lib.hid (fun j hj => by omega)⟩
  case round =>
    obtain ⟨i, hi, rfl, Hj⟩ := hrel
    have hi2 : i < 2 ∨ i = 2 := by omega
    rcases hi2 with hlt | rfl
    · have hlt2 : (i : Int) < 2 := by omega
      have h1 := Hc.out i hlt
      obtain ⟨x, hx⟩ : ∃ x, f i = x := ⟨_, rfl⟩
      rw [hx] at h1
      have Hx := Lib.hid hx
      clear hx
      by_cases h0 : x = 0
      · subst h0
        go_wp2
        go_round
        case rel => exact ⟨i + 1, by omega, by go_num, Lib.hid (fun j hj => by
          by_cases e : j = i
          · rw [e, Hx.out]
          · exact Hj.out j (by omega))⟩
        case measure => simp [intOf]; omega
      · have e1 : (x == 0) = false := by simpa using h0
        have hrx : x = r := by
          rw [← Hr.out, ← Hx.out]
          have h9 := Hj.out
          have h8 := Hx.out
          unfold or2
          rcases (show i = 0 ∨ i = 1 by omega) with rfl | rfl
          · rw [if_pos (by rw [h8]; exact h0)]
          · rw [if_neg (by rw [h9 0 (by omega)]; decide)]
        subst hrx
        clear h0
        go_wp2
        go_ret
        exact ⟨rfl, rfl⟩
    · have hr0 : r = 0 := by
        rw [← Hr.out]
        have h9 := Hj.out
        unfold or2
        rw [if_neg (by rw [h9 0 (by omega)]; decide), h9 1 (by omega)]
      subst hr0
      go_wp2
      go_ret
      exact ⟨rfl, rfl⟩
/-- a tag's order. -/
def tagO (n1 w1 n2 w2 : Int) : Int := or2 (cmpI n1 n2) (cmpI w1 w2)
def tagLt (n1 w1 n2 w2 : Int) : Bool := decide (n1 < n2 ∨ (n1 = n2 ∧ w1 < w2))
theorem cmpI_sgn (x y : Int) : (cmpI x y < 0 ↔ x < y) ∧ (cmpI x y = 0 ↔ x = y) := by
  unfold cmpI
  by_cases h1 : x < y
  · rw [if_pos h1]; omega
  · rw [if_neg h1]
    by_cases h2 : y < x
    · rw [if_pos h2]; omega
    · rw [if_neg h2]; omega
theorem tagO_lt (n1 w1 n2 w2 : Int) : decide (tagO n1 w1 n2 w2 < 0) = tagLt n1 w1 n2 w2 := by
  obtain ⟨a1, a2⟩ := cmpI_sgn n1 n2
  obtain ⟨b1, b2⟩ := cmpI_sgn w1 w2
  unfold tagLt tagO or2
  rw [decide_eq_decide]
  by_cases h : cmpI n1 n2 = 0
  · rw [if_neg (by simpa using h), b1]
    have := a2.1 h
    omega
  · rw [if_pos h, a1]
    have : n1 ≠ n2 := fun e => h (a2.2 e)
    omega
theorem tagO_eq (n1 w1 n2 w2 : Int) : tagO n1 w1 n2 w2 = 0 ↔ n1 = n2 ∧ w1 = w2 := by
  obtain ⟨a1, a2⟩ := cmpI_sgn n1 n2
  obtain ⟨b1, b2⟩ := cmpI_sgn w1 w2
  unfold tagO or2
  by_cases h : cmpI n1 n2 = 0
  · rw [if_neg (by simpa using h), b2]
    have := a2.1 h
    omega
  · rw [if_pos h]
    have : n1 ≠ n2 := fun e => h (a2.2 e)
    omega
def tagV (n w : Int) : Value := .agg #[.int .i64 n, .int .i64 w]
set_option maxRecDepth 100000 in
set_option maxHeartbeats 2000000 in
/-- the order of two tags: blocks of its own and draws alone. -/
theorem order_walk (n1 w1 n2 w2 : Int) (w : World) :
    Calls Tryz.prog 44 #[tagV n1 w1, tagV n2 w2] w fun e w' => e = .returned (.int .i64 (tagO n1 w1 n2 w2)) ∧ ∃ q os', w' = Go.Sort.grow (w.drewN q) os' := by
  have h1 := Lib.hid (fun W => (cmpi_walk n1 n2 W).mono fun e w' h => And.intro h.1 h.2.symm)
  have h2 := Lib.hid (fun W => (cmpi_walk w1 w2 W).mono fun e w' h => And.intro h.1 h.2.symm)
  unfold tagO
  generalize cmpI n1 n2 = c1 at *
  generalize cmpI w1 w2 = c2 at *
  show Calls Tryz.prog 44 #[.agg #[.int .i64 n1, .int .i64 w1], .agg #[.int .i64 n2, .int .i64 w2]] w _
  obtain ⟨W, hW⟩ : ∃ W, (w.alloc (.cells #[.int .i64 n1, .int .i64 w1] 45)).alloc (.cells #[.int .i64 n2, .int .i64 w2] 45) = W := ⟨_, rfl⟩
  have ha : ∀ j, W.cell? ⟨w.heap.size, j, none⟩ = (#[.int .i64 n1, .int .i64 w1] : Array Value)[j]? := fun j => by
    rw [← hW, World.cell?_alloc_lt _ _ _ (by simp), World.cell?_alloc_at _ _ _ _ rfl]
  have hb : ∀ j, W.cell? ⟨w.heap.size + 1, j, none⟩ = (#[.int .i64 n2, .int .i64 w2] : Array Value)[j]? := fun j => by
    rw [← hW, World.cell?_alloc_at _ _ _ _ (by simp)]
  have x0 := ha 0
  have x1 := ha 1
  have y0 := hb 0
  have y1 := hb 1
  simp at x0 x1 y0 y1
  have HW := Lib.hid hW
  obtain ⟨b, hb0⟩ : ∃ b, w.heap.size = b := ⟨_, rfl⟩
  rw [hb0] at x0 x1 y0 y1
  have Hb := Lib.hid hb0
  clear ha hb hW hb0
  go_enter Tryz.func44, Tryz.ntmps44
  go_wp2
  rw [HW.out, Hb.out]
  refine wp_region_still_tail 10 (by kernel_rfl) (by kernel_rfl) ?_
  simp only [List.take_succ_cons, List.take_zero, List.drop_succ_cons, List.drop_zero]
  repeat still_step
  still_call (h1.out _)
  repeat still_step
  still_call (h2.out _)
  repeat still_step
  refine wpStill_nil ?_
  clear x0 x1 y0 y1
  change wpList _ _ _ _ _ W.drew
  have Ho := Lib.hid (or2_walk W.heap.size (fun j => if j = 0 then c1 else c2) (W.drew.alloc (.cells #[.int .i64 c1, .int .i64 c2] 3)) (fun j hj => by
    have e : W.heap.size = W.drew.heap.size := rfl
    rw [e, World.cell?_alloc_at _ _ _ _ rfl]
    rcases (show j = 0 ∨ j = 1 by omega) with rfl | rfl <;> rfl))
  have hfin : ∃ q os', W.drew.alloc (.cells #[.int .i64 c1, .int .i64 c2] 3) = Go.Sort.grow (w.drewN q) os' := by
    rw [← HW.out]
    refine ⟨1, #[.cells #[.int .i64 n1, .int .i64 w1] 45] ++ #[.cells #[.int .i64 n2, .int .i64 w2] 45] ++ #[.cells #[.int .i64 c1, .int .i64 c2] 3], ?_⟩
    rw [Go.Sort.alloc_eq_grow, Go.Sort.alloc_eq_grow, Go.Sort.alloc_eq_grow, Go.Sort.grow_grow, Go.Sort.drew_grow, Go.Sort.grow_grow]
    rfl
  have HF := Lib.hid hfin
  clear hfin
  go_wp2_with fail
  refine Ho.out.mono ?_
  rintro e w' ⟨rfl, rfl⟩
  go_wp2
  go_ret
  exact ⟨rfl, HF.out⟩
theorem below_grow {B : Nat} {w w' : World} (hB : B ≤ w.heap.size) (h : ∃ q os', w' = Go.Sort.grow (w.drewN q) os') : Below B w w' := by
  obtain ⟨q, os', rfl⟩ := h
  refine ⟨rfl, rfl, rfl, ?_, fun k hk => ?_⟩
  · show w.heap.size ≤ (w.heap ++ os').size
    simp
  · show (w.heap ++ os')[k]? = w.heap[k]?
    rw [Array.getElem?_append, if_pos (by omega)]
set_option maxRecDepth 100000 in
set_option maxHeartbeats 1000000 in
theorem less_walk (n1 w1 n2 w2 : Int) (w : World) :
    Calls Tryz.prog 18 #[.agg #[.int .i64 n1, .int .i64 w1], .agg #[.int .i64 n2, .int .i64 w2]] w fun e w' => e = .returned (.bool (tagLt n1 w1 n2 w2)) ∧ Below w.heap.size w w' := by
  have Ho := Lib.hid (fun W => order_walk n1 w1 n2 w2 W)
  have hlt := tagO_lt n1 w1 n2 w2
  obtain ⟨r, hr⟩ : ∃ r, tagLt n1 w1 n2 w2 = r := ⟨_, rfl⟩
  obtain ⟨o, ho⟩ : ∃ o, tagO n1 w1 n2 w2 = o := ⟨_, rfl⟩
  rw [hr] at hlt ⊢
  rw [ho] at hlt Ho
  unfold tagV at Ho
  have hB : Below w.heap.size w ((w.alloc (.cells #[.int .i64 n1, .int .i64 w1] 45)).alloc (.cells #[.int .i64 n2, .int .i64 w2] 45)) := ((Below.refl _ w).alloc (Nat.le_refl _) _).alloc (by simp) _
  have HB := Lib.hid hB
  have Hlt := Lib.hid hlt
  clear hlt hB ho hr
  go_enter Tryz.func18, Tryz.ntmps18
  go_wp2_with fail
  refine (Ho.out _).mono ?_
  rintro e w' ⟨rfl, hg⟩
  have Hg := Lib.hid (HB.out.trans ((below_grow (Nat.le_refl _) hg).mono HB.out.size))
  clear hg
  have hlt := Hlt.out
  go_wp2
  go_ret
  exact ⟨by simp [← hlt], Hg.out⟩
set_option maxRecDepth 100000 in
set_option maxHeartbeats 1000000 in
theorem rless_walk (n1 w1 n2 w2 : Int) (w : World) :
    Calls Tryz.prog 58 #[.agg #[.int .i64 n1, .int .i64 w1], .agg #[.int .i64 n2, .int .i64 w2]] w fun e w' => e = .returned (.bool (tagLt n1 w1 n2 w2)) ∧ Below w.heap.size w w' := by
  have hB : Below w.heap.size w ((w.alloc (.cells #[.int .i64 n1, .int .i64 w1] 45)).alloc (.cells #[.int .i64 n2, .int .i64 w2] 45)) := ((Below.refl _ w).alloc (Nat.le_refl _) _).alloc (by simp) _
  have HB := Lib.hid hB
  clear hB
  by_cases h1 : n1 < n2
  · rw [show tagLt n1 w1 n2 w2 = true from decide_eq_true (.inl h1)]
    go_enter Tryz.func58, Tryz.ntmps58
    go_wp2
    go_ret
    exact ⟨rfl, HB.out⟩
  · by_cases h2 : n1 = n2
    · subst h2
      by_cases h3 : w1 < w2
      · rw [show tagLt n1 w1 n1 w2 = true from decide_eq_true (.inr ⟨rfl, h3⟩)]
        go_enter Tryz.func58, Tryz.ntmps58
        go_wp2
        go_ret
        exact ⟨by simp, HB.out⟩
      · rw [show tagLt n1 w1 n1 w2 = false from decide_eq_false (by omega)]
        go_enter Tryz.func58, Tryz.ntmps58
        go_wp2
        go_ret
        exact ⟨by simp, HB.out⟩
    · rw [show tagLt n1 w1 n2 w2 = false from decide_eq_false (by omega)]
      have e1 : (n1 == n2) = false := by simpa using h2
      go_enter Tryz.func58, Tryz.ntmps58
      go_wp2
      go_ret
      exact ⟨by simp, HB.out⟩
end Go.Proofs.YthdicfcgkbepdaaGreatDoor
