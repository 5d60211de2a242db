/- Walks: slices.Clone and slices.BinarySearchFunc of versions. -/
import Derived.Test.YtgcnohejmofhkaaDoorVer
import Derived.Test.YtgcnohejmofhkaaDoorTagA
import Derived.Shelf.Abstract
import Derived.Lib.QuietBelow
import Derived.BigQuiet
namespace Go.Proofs.YtgcnohejmofhkaaDoor
section
open Go.RowKit

theorem OwnV.fresh (w : World) : OwnV w.heap.size (w.alloc (.cells #[] 50)) (.slice (some ⟨w.heap.size, 0, none⟩) 0 0) [] :=
  World.ownsRow_made w #[] 0 (Nat.le_refl _) (by simp [maxLen]) rfl
def VCloneOut (w w' : World) (M : List Ver) (e : Ending) : Prop := Below w.heap.size w w' ∧ ∃ v, e = .returned v ∧ OwnV w.heap.size w' v M
/-! ### the search -/
/-- the versions' tags rise. -/
def VSorted (M : List Ver) : Prop := M.Pairwise fun x y => tagLt x.1 x.2.1 y.1 y.2.1 = true
/-- where a tag belongs: the number of those below it. -/
def posV (M : List Ver) (n m : Int) : Nat := (M.takeWhile fun x => tagLt x.1 x.2.1 n m).length
theorem tagLt_trans {a b c d e f : Int} (h1 : tagLt a b c d = true) (h2 : tagLt c d e f = true) : tagLt a b e f = true := by
  unfold tagLt at *
  simp only [decide_eq_true_eq] at *
  omega
theorem posV_spec : ∀ {M : List Ver} (n m : Int), VSorted M → posV M n m ≤ M.length ∧ ∀ j, j < M.length → (tagLt (M[j]?.getD ver0).1 (M[j]?.getD ver0).2.1 n m = true ↔ j < posV M n m)
  | [], n, m, _ => ⟨by simp [posV], fun j hj => by simp at hj⟩
  | x :: r, n, m, h => by
    have h2 : VSorted r := h.tail
    obtain ⟨h3, h4⟩ := posV_spec n m h2
    by_cases hx : tagLt x.1 x.2.1 n m = true
    · have e : posV (x :: r) n m = posV r n m + 1 := by unfold posV; rw [List.takeWhile_cons, if_pos hx]; rfl
      rw [e]
      refine ⟨by simp; omega, fun j hj => ?_⟩
      cases j with
      | zero => simpa using hx
      | succ j =>
        have := h4 j (by simpa using hj)
        simpa using this
    · have e : posV (x :: r) n m = 0 := by unfold posV; rw [List.takeWhile_cons, if_neg hx]; rfl
      rw [e]
      refine ⟨Nat.zero_le _, fun j hj => ⟨fun h9 => ?_, fun h9 => by omega⟩⟩
      exfalso
      cases j with
      | zero => exact hx (by simpa using h9)
      | succ j =>
        have hj2 : j < r.length := by simpa using hj
        have h10 := List.rel_of_pairwise_cons h (List.getElem_mem hj2)
        have e2 : ((x :: r)[j + 1]?.getD ver0) = r[j] := by simp [List.getElem?_eq_getElem hj2]
        rw [e2] at h9
        exact hx (tagLt_trans h10 h9)
theorem posV_eq {M : List Ver} {n m : Int} (hs : VSorted M) {i : Nat} (hi : i ≤ M.length) (h1 : ∀ j, j < i → j < M.length → tagLt (M[j]?.getD ver0).1 (M[j]?.getD ver0).2.1 n m = true) (h2 : i < M.length → tagLt (M[i]?.getD ver0).1 (M[i]?.getD ver0).2.1 n m = false) : posV M n m = i := by
  obtain ⟨h3, h4⟩ := posV_spec n m hs
  rcases Nat.lt_trichotomy (posV M n m) i with h | h | h
  · have := (h4 _ (by omega)).1 (h1 _ h (by omega))
    omega
  · exact h
  · have := (h4 i (by omega)).2 h
    rw [h2 (by omega)] at this
    cases this
/-- is the tag there? -/
def hasV (M : List Ver) (n m : Int) : Bool := decide (posV M n m < M.length ∧ (M[posV M n m]?.getD ver0).1 = n ∧ (M[posV M n m]?.getD ver0).2.1 = m)
end
section
open Go.RowKit Go.BigFrame

/-- the cells of one version. -/
theorem VrR.at5 {w : World} {b off : Nat} {M : List Ver} (hc : ∀ i j, i < M.length → j < 5 → w.cell? ⟨b, off + i * 5 + j, none⟩ = (encVr (M[i]?.getD ver0))[j]?) {i : Nat} (hi : i < M.length) :
    w.cell? ⟨b, off + i * 5, none⟩ = some (.int .i64 (M[i]?.getD ver0).1) ∧ w.cell? ⟨b, off + i * 5 + 1, none⟩ = some (.int .i64 (M[i]?.getD ver0).2.1) ∧ w.cell? ⟨b, off + i * 5 + 2, none⟩ = some (.int .i64 (M[i]?.getD ver0).2.2.1) ∧
    w.cell? ⟨b, off + i * 5 + 3, none⟩ = some (.int .i64 (M[i]?.getD ver0).2.2.2.1) ∧ w.cell? ⟨b, off + i * 5 + 4, none⟩ = some (.string (M[i]?.getD ver0).2.2.2.2) :=
  ⟨hc i 0 hi (by omega), hc i 1 hi (by omega), hc i 2 hi (by omega), hc i 3 hi (by omega), hc i 4 hi (by omega)⟩
/-- the search's bounds. -/
structure Between (M : List Ver) (n m : Int) (i j : Nat) : Prop where
  ij : i ≤ j
  jl : j ≤ M.length
  lo : i ≤ posV M n m
  hi : posV M n m ≤ j
end
section
open Go.RowKit

/-- what Insert hands back. -/
def InsOut (B : Nat) (w w' : World) (v : Value) (L : List Ver) (e : Ending) : Prop := ∃ v', e = .returned v' ∧ OwnV B w' v' L ∧ w.grownBy w' v.ownBlock ∧ (v'.ownBlock = v.ownBlock ∨ ∃ g, v'.ownBlock = some g ∧ w.heap.size ≤ g)
/-- one version that is handed on as a row of its own. -/
def OneV (w : World) (gx : Nat) (x : Ver) : Prop := w.heap[gx]? = some (.cells (encVr x).toArray 50 (0, 0))
theorem OneV.lt {w : World} {gx : Nat} {x : Ver} (h : OneV w gx x) : gx < w.heap.size := (Array.getElem?_eq_some_iff.1 h).1
theorem OneV.read {w : World} {gx : Nat} {x : Ver} (h : OneV w gx x) : VrR w.heap.size w (some ⟨gx, 0, none⟩) [x] := by
  refine .inr ⟨gx, 0, rfl, h.lt, fun i j hi hj => ?_⟩
  obtain rfl : i = 0 := by simpa using hi
  unfold OneV at h
  simp only [World.cell?, h]
  rcases (show j = 0 ∨ j = 1 ∨ j = 2 ∨ j = 3 ∨ j = 4 by omega) with rfl | rfl | rfl | rfl | rfl <;> rfl
theorem OneV.new (w : World) (x : Ver) : OneV (w.alloc (.cells (encVr x).toArray 50)) w.heap.size x := Go.heap_alloc_new w _
end
end Go.Proofs.YtgcnohejmofhkaaDoor
