/- The walks of slices.Index and slices.Contains at bytes, and of field.Between. -/
import Derived.Test.YtmaalkjimppnkaaDoorFieldB
import Derived.Test.YtmaalkjimppnkaaDoorBytes
namespace Go.Proofs.YtmaalkjimppnkaaDoor
open Go.RowKit

/-- where c stands in l, or -1. -/
def idxI (c : Nat) (l : List Nat) : Int := if c ∈ l then (l.findIdx (· == c) : Int) else -1
theorem idxI_hit {c : Nat} {l : List Nat} {k : Nat} (hk : k < l.length) (h : l[k]?.getD 0 = c) (hn : ∀ j, j < k → l[j]?.getD 0 ≠ c) : idxI c l = k := by
  have e : l[k] = c := by rw [List.getElem?_eq_getElem hk] at h; exact h
  have hm : c ∈ l := e ▸ List.getElem_mem hk
  unfold idxI
  rw [if_pos hm]
  have h2 : l.findIdx (· == c) = k := by
    rw [List.findIdx_eq hk]
    refine ⟨by simp [e], fun j hj => ?_⟩
    have := hn j hj
    rw [List.getElem?_eq_getElem (by omega)] at this
    simpa using this
  rw [h2]
theorem idxI_miss {c : Nat} {l : List Nat} (hn : ∀ j, j < l.length → l[j]?.getD 0 ≠ c) : idxI c l = -1 := by
  unfold idxI
  rw [if_neg]
  intro hm
  obtain ⟨j, hj, e⟩ := List.getElem_of_mem hm
  exact hn j hj (by rw [List.getElem?_eq_getElem hj]; exact e)

/-- the two products of the i-th point, when k points are over. -/
def lagN (xs : List Nat) (i x a y : Nat) : Nat → Nat × Nat
  | 0 => (y, 1)
  | k + 1 => if k = i then lagN xs i x a y k else (Gf.mul (lagN xs i x a y k).1 (x ^^^ xs[k]?.getD 0), Gf.mul (lagN xs i x a y k).2 (a ^^^ xs[k]?.getD 0))
theorem lagN_lt {xs : List Nat} (hx : Bytes xs) {i x a y : Nat} (hy : y < 256) : ∀ k, (lagN xs i x a y k).1 < 256 ∧ (lagN xs i x a y k).2 < 256
  | 0 => ⟨hy, (by decide : (1 : Nat) < 256)⟩
  | k + 1 => by
    unfold lagN
    split
    · exact lagN_lt hx hy k
    · exact ⟨Gf.mul_lt _ (lagN_lt hx hy k).1, Gf.mul_lt _ (lagN_lt hx hy k).2⟩
theorem lagN_skip {xs : List Nat} {i x a y k : Nat} (h : k = i) : lagN xs i x a y (k + 1) = lagN xs i x a y k := by rw [lagN, if_pos h]
theorem lagN_step {xs : List Nat} {i x a y k : Nat} (h : k ≠ i) : lagN xs i x a y (k + 1) = (Gf.mul (lagN xs i x a y k).1 (x ^^^ xs[k]?.getD 0), Gf.mul (lagN xs i x a y k).2 (a ^^^ xs[k]?.getD 0)) := by rw [lagN, if_neg h]
/-- the i-th term. -/
def lagT (xs ys : List Nat) (x i : Nat) : Nat :=
  let p := lagN xs i x (xs[i]?.getD 0) (ys[i]?.getD 0) xs.length
  Gf.mul p.1 (Gf.inv p.2)
/-- the sum of the first i terms. -/
def btwN (xs ys : List Nat) (x : Nat) : Nat → Nat
  | 0 => 0
  | i + 1 => btwN xs ys x i ^^^ lagT xs ys x i
theorem lagT_lt {xs ys : List Nat} (hx : Bytes xs) (hy : Bytes ys) (x i : Nat) : lagT xs ys x i < 256 := Gf.mul_lt _ (lagN_lt hx (hy.at i) _).1
theorem btwN_lt {xs ys : List Nat} (hx : Bytes xs) (hy : Bytes ys) (x : Nat) : ∀ i, btwN xs ys x i < 256
  | 0 => (by decide : 0 < 256)
  | i + 1 => Gf.xor_lt (btwN_lt hx hy x i) (lagT_lt hx hy x i)

end Go.Proofs.YtmaalkjimppnkaaDoor
