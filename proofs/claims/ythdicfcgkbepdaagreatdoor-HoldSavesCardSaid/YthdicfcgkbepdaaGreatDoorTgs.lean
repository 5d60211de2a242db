/- The walks of hold.Tag, the document's IsTag. -/
import Derived.Test.YthdicfcgkbepdaaGreatDoorTagA
namespace Go.Proofs.YthdicfcgkbepdaaGreatDoor
section
open Go.RowKit

def tagB (n m : Int) : Bool := decide (0 ≤ n ∧ n ≤ 1099511627776 ∧ 0 ≤ m ∧ m ≤ 1099511627776)
set_option maxRecDepth 100000 in
set_option maxHeartbeats 2000000 in
theorem tagb_walk (n m : Int) (w : World) :
    Calls Tryz.prog 61 #[.agg #[.int .i64 n, .int .i64 m]] w fun e w' => e = .returned (.bool (tagB n m)) ∧ Below w.heap.size w w' := by
  have hB : Below w.heap.size w (w.alloc (.cells #[.int .i64 n, .int .i64 m] 45)) := (Below.refl _ w).alloc (Nat.le_refl _) _
  have HB := Lib.hid hB
  clear hB
  have hcs : (¬ 0 ≤ n ∧ tagB n m = false) ∨ (0 ≤ n ∧ ¬ n ≤ 1099511627776 ∧ tagB n m = false) ∨ (0 ≤ n ∧ n ≤ 1099511627776 ∧ ¬ 0 ≤ m ∧ tagB n m = false) ∨ (0 ≤ n ∧ n ≤ 1099511627776 ∧ 0 ≤ m ∧ ¬ m ≤ 1099511627776 ∧ tagB n m = false) ∨ (0 ≤ n ∧ n ≤ 1099511627776 ∧ 0 ≤ m ∧ m ≤ 1099511627776 ∧ tagB n m = true) := by
    unfold tagB
    simp only [decide_eq_false_iff_not, decide_eq_true_eq]
    omega
  rcases hcs with ⟨h1, hr⟩ | ⟨h1, h2, hr⟩ | ⟨h1, h2, h3, hr⟩ | ⟨h1, h2, h3, h4, hr⟩ | ⟨h1, h2, h3, h4, hr⟩
  all_goals
    rw [hr]
    clear hr
    go_enter Tryz.func61, Tryz.ntmps61
    go_wp2
    go_ret
    exact ⟨by simp, HB.out⟩
set_option maxRecDepth 100000 in
set_option maxHeartbeats 2000000 in
theorem rtag_walk (n m : Int) (w : World) :
    Calls Tryz.prog 85 #[.agg #[.int .i64 n, .int .i64 m]] w fun e w' => e = .returned (.bool (tagB n m)) ∧ Below w.heap.size w w' := by
  have hB : Below w.heap.size w (w.alloc (.cells #[.int .i64 n, .int .i64 m] 45)) := (Below.refl _ w).alloc (Nat.le_refl _) _
  have HB := Lib.hid hB
  clear hB
  have hcs : (¬ 0 ≤ n ∧ tagB n m = false) ∨ (0 ≤ n ∧ ¬ n ≤ 1099511627776 ∧ tagB n m = false) ∨ (0 ≤ n ∧ n ≤ 1099511627776 ∧ ¬ 0 ≤ m ∧ tagB n m = false) ∨ (0 ≤ n ∧ n ≤ 1099511627776 ∧ 0 ≤ m ∧ ¬ m ≤ 1099511627776 ∧ tagB n m = false) ∨ (0 ≤ n ∧ n ≤ 1099511627776 ∧ 0 ≤ m ∧ m ≤ 1099511627776 ∧ tagB n m = true) := by
    unfold tagB
    simp only [decide_eq_false_iff_not, decide_eq_true_eq]
    omega
  rcases hcs with ⟨h1, hr⟩ | ⟨h1, h2, hr⟩ | ⟨h1, h2, h3, hr⟩ | ⟨h1, h2, h3, h4, hr⟩ | ⟨h1, h2, h3, h4, hr⟩
  all_goals
    rw [hr]
    clear hr
    go_enter Tryz.func85, Tryz.ntmps85
    go_wp2
    go_ret
    exact ⟨by simp, HB.out⟩
end
end Go.Proofs.YthdicfcgkbepdaaGreatDoor
