/- Walks of the document's IsTag, PutError. -/
import Derived.Test.YtdikigdlmlocmaaDoorMhA
import Derived.Test.YtdikigdlmlocmaaDoorSmV
import Derived.Test.YtdikigdlmlocmaaDoorHlF
import Derived.Deep.CutRange
import Derived.Deep.QuietTactic
import Derived.BigQuiet
namespace Go.Proofs.YtdikigdlmlocmaaDoor
section
open Go.RowKit

/-- has p the key and the tag? -/
def sameTag (key : ByteArray) (x : Ver) (p : Kp) : Bool := decide (p.1 = key ∧ p.2.1 = x.1 ∧ p.2.2.1 = x.2.1)
/-- what the document's PutError answers. -/
def errM (sd : Bool) (l : List Kp) (key : ByteArray) (x : Ver) : Int :=
  if sd = true then 10 else if nameB key = false then 4 else if rightB x = false then 2 else
    match l.find? (sameTag key x) with
    | some p => if p.2 = x then -1 else 6
    | none => if 60 ≤ l.length then 7 else 0
theorem errM_sd (l : List Kp) (key : ByteArray) (x : Ver) : errM true l key x = 10 := by unfold errM; rw [if_pos rfl]
theorem errM_name {l : List Kp} {key : ByteArray} {x : Ver} (h : nameB key = false) : errM false l key x = 4 := by unfold errM; rw [if_neg (by decide), if_pos h]
theorem errM_right {l : List Kp} {key : ByteArray} {x : Ver} (h : nameB key = true) (h2 : rightB x = false) : errM false l key x = 2 := by unfold errM; rw [if_neg (by decide), if_neg (by rw [h]; decide), if_pos h2]
theorem errM_find {l : List Kp} {key : ByteArray} {x : Ver} (h : nameB key = true) (h2 : rightB x = true) {i : Nat} (hi : i < l.length) (hj : ∀ j, j < i → sameTag key x (l[j]?.getD kp0) = false) (hs : sameTag key x (l[i]?.getD kp0) = true) :
    errM false l key x = if (l[i]?.getD kp0).2 = x then -1 else 6 := by
  unfold errM
  rw [if_neg (by decide), if_neg (by rw [h]; decide), if_neg (by rw [h2]; decide)]
  have hf : l.find? (sameTag key x) = some (l[i]?.getD kp0) := by
    rw [List.find?_eq_some_iff_getElem]
    refine ⟨hs, i, hi, by rw [List.getElem?_eq_getElem hi]; rfl, fun j hj2 => ?_⟩
    have h9 := hj j hj2
    rw [List.getElem?_eq_getElem (by omega)] at h9
    simpa using h9
  rw [hf]
theorem errM_none {l : List Kp} {key : ByteArray} {x : Ver} (h : nameB key = true) (h2 : rightB x = true) (hj : ∀ j, j < l.length → sameTag key x (l[j]?.getD kp0) = false) : errM false l key x = if 60 ≤ l.length then 7 else 0 := by
  unfold errM
  rw [if_neg (by decide), if_neg (by rw [h]; decide), if_neg (by rw [h2]; decide)]
  have hf : l.find? (sameTag key x) = none := by
    rw [List.find?_eq_none]
    intro p hp
    obtain ⟨j, hj2, rfl⟩ := List.getElem_of_mem hp
    have h9 := hj j hj2
    rw [List.getElem?_eq_getElem hj2] at h9
    simpa using h9
  rw [hf]
theorem rightB_cases (x1 x2 x3 x4 : Int) (x5 : ByteArray) :
    (tagB x1 x2 = false ∧ rightB (x1, x2, x3, x4, x5) = false) ∨ (tagB x1 x2 = true ∧ ¬ 0 ≤ x3 ∧ rightB (x1, x2, x3, x4, x5) = false) ∨
    (tagB x1 x2 = true ∧ 0 ≤ x3 ∧ ¬ x3 ≤ 1000 ∧ rightB (x1, x2, x3, x4, x5) = false) ∨ (tagB x1 x2 = true ∧ 0 ≤ x3 ∧ x3 ≤ 1000 ∧ ¬ 0 ≤ x4 ∧ rightB (x1, x2, x3, x4, x5) = false) ∨
    (tagB x1 x2 = true ∧ 0 ≤ x3 ∧ x3 ≤ 1000 ∧ 0 ≤ x4 ∧ ¬ x4 < 12 ∧ rightB (x1, x2, x3, x4, x5) = false) ∨ (tagB x1 x2 = true ∧ 0 ≤ x3 ∧ x3 ≤ 1000 ∧ 0 ≤ x4 ∧ x4 < 12 ∧ ¬ x5.size ≤ 1000 ∧ rightB (x1, x2, x3, x4, x5) = false) ∨
    (tagB x1 x2 = true ∧ 0 ≤ x3 ∧ x3 ≤ 1000 ∧ 0 ≤ x4 ∧ x4 < 12 ∧ x5.size ≤ 1000 ∧ rightB (x1, x2, x3, x4, x5) = true) := by
  unfold rightB
  dsimp only
  cases tagB x1 x2
  · exact .inl ⟨rfl, rfl⟩
  · right
    simp only [Bool.true_and, decide_eq_false_iff_not, decide_eq_true_eq, true_and]
    omega
end
end Go.Proofs.YtdikigdlmlocmaaDoor
