/- Walks: the order of two tags: hold.order, hold.Less, the document's Less. -/
import Derived.Test.YtgcnohejmofhkaaDoorCmpA
import Derived.Lib.QuietBelow
namespace Go.Proofs.YtgcnohejmofhkaaDoor
open Go.RowKit

def or2 (a b : Int) : Int := if a ≠ 0 then a else b
/-- a tag's order. -/
def tagO (n1 w1 n2 w2 : Int) : Int := or2 (cmpI n1 n2) (cmpI w1 w2)
def tagLt (n1 w1 n2 w2 : Int) : Bool := decide (n1 < n2 ∨ (n1 = n2 ∧ w1 < w2))
theorem cmpI_sgn (x y : Int) : (cmpI x y < 0 ↔ x < y) ∧ (cmpI x y = 0 ↔ x = y) := by
  unfold cmpI
  by_cases h1 : x < y
  · rw [if_pos h1]; omega
  · rw [if_neg h1]
    by_cases h2 : y < x
    · rw [if_pos h2]; omega
    · rw [if_neg h2]; omega
theorem tagO_lt (n1 w1 n2 w2 : Int) : decide (tagO n1 w1 n2 w2 < 0) = tagLt n1 w1 n2 w2 := by
  obtain ⟨a1, a2⟩ := cmpI_sgn n1 n2
  obtain ⟨b1, b2⟩ := cmpI_sgn w1 w2
  unfold tagLt tagO or2
  rw [decide_eq_decide]
  by_cases h : cmpI n1 n2 = 0
  · rw [if_neg (by simpa using h), b1]
    have := a2.1 h
    omega
  · rw [if_pos h, a1]
    have : n1 ≠ n2 := fun e => h (a2.2 e)
    omega
theorem tagO_eq (n1 w1 n2 w2 : Int) : tagO n1 w1 n2 w2 = 0 ↔ n1 = n2 ∧ w1 = w2 := by
  obtain ⟨a1, a2⟩ := cmpI_sgn n1 n2
  obtain ⟨b1, b2⟩ := cmpI_sgn w1 w2
  unfold tagO or2
  by_cases h : cmpI n1 n2 = 0
  · rw [if_neg (by simpa using h), b2]
    have := a2.1 h
    omega
  · rw [if_pos h]
    have : n1 ≠ n2 := fun e => h (a2.2 e)
    omega
def tagV (n w : Int) : Value := .agg #[.int .i64 n, .int .i64 w]
theorem below_grow {B : Nat} {w w' : World} (hB : B ≤ w.heap.size) (h : ∃ q os', w' = Go.Sort.grow (w.drewN q) os') : Below B w w' := by
  obtain ⟨q, os', rfl⟩ := h
  refine ⟨rfl, rfl, rfl, ?_, fun k hk => ?_⟩
  · show w.heap.size ≤ (w.heap ++ os').size
    simp
  · show (w.heap ++ os')[k]? = w.heap[k]?
    rw [Array.getElem?_append, if_pos (by omega)]
end Go.Proofs.YtgcnohejmofhkaaDoor
