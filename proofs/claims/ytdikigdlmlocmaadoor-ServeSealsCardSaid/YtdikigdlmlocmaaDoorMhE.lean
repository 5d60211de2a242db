/- Walk of the document's Put of a hold. -/
import Derived.Test.YtdikigdlmlocmaaDoorMhC
import Derived.Test.YtdikigdlmlocmaaDoorTagA
namespace Go.Proofs.YtdikigdlmlocmaaDoor
section
open Go.RowKit Go.BigFrame

/-- is a row below a key and a tag? -/
def ltK (key : ByteArray) (n m : Int) (p : Kp) : Bool := Rg.tlt p.1 key || (decide (p.1 = key) && tagLt p.2.1 p.2.2.1 n m)
/-- how many rows lie ahead of a key and a tag. -/
def posL (l : List Kp) (key : ByteArray) (n m : Int) : Nat := (l.takeWhile (ltK key n m)).length
def insL (l : List Kp) (key : ByteArray) (x : Ver) : List Kp := l.take (posL l key x.1 x.2.1) ++ (key, x) :: l.drop (posL l key x.1 x.2.1)
theorem posL_is : ∀ (l : List Kp) (key : ByteArray) (n m : Int) (i : Nat), i ≤ l.length → (∀ j, j < i → ltK key n m (l[j]?.getD kp0) = true) → (i < l.length → ltK key n m (l[i]?.getD kp0) = false) → posL l key n m = i
  | [], _, _, _, i, h, _, _ => by
    have : i = 0 := by simpa using h
    subst this; rfl
  | p :: r, key, n, m, 0, _, _, h2 => by
    have h := h2 (by simp)
    unfold posL
    rw [List.takeWhile_cons_of_neg (by simpa using h)]
    rfl
  | p :: r, key, n, m, i + 1, h, h1, h2 => by
    have h0 := h1 0 (by omega)
    unfold posL
    rw [List.takeWhile_cons_of_pos (by simpa using h0), List.length_cons]
    have ih := posL_is r key n m i (by simpa using h) (fun j hj => by simpa using h1 (j + 1) (by omega)) (fun hi => by simpa using h2 (by simpa using hi))
    unfold posL at ih
    rw [ih]
/-- what the document's Put answers. -/
def putM (e : Int) : Int := if e < 0 then 0 else e
def MPutPost (G : Nat → Prop) (w w' : World) (mb : Nat) (sd : Bool) (l : List Kp) (key : ByteArray) (x : Ver) (e : Ending) : Prop :=
  e = .returned (.int .i64 (putM (errM sd l key x))) ∧ KeptBut (fun b => b = mb) w w' ∧
  ((errM sd l key x ≠ 0 ∧ MHAt G w' mb sd l) ∨ (errM sd l key x = 0 ∧ MHAt (fun b => b = mb ∨ (w.heap.size ≤ b ∧ b < w'.heap.size)) w' mb sd (insL l key x)))
theorem RecR.take {m n₀ : Nat} {w : World} {a : Option Addr} {l : List (List Value)} (h : RecR m n₀ w a l) (k : Nat) : RecR m n₀ w a (l.take k) := by
  rcases h with rfl | ⟨b, off, e, hb, hc⟩
  · left; simp
  · refine .inr ⟨b, off, e, hb, fun i j hi hj => ?_⟩
    have hi2 : i < l.length ∧ i < k := by rw [List.length_take] at hi; omega
    rw [List.getElem?_take_of_lt hi2.2]
    exact hc i j hi2.1 hj
theorem RecR.drop {m n₀ : Nat} {w : World} {b off : Nat} {l : List (List Value)} (h : RecR m n₀ w (some ⟨b, off, none⟩) l) (k : Nat) : RecR m n₀ w (some ⟨b, off + k * m, none⟩) (l.drop k) := by
  rcases h with rfl | ⟨b', off', e, hb, hc⟩
  · left; simp
  · cases e
    refine .inr ⟨b, off + k * m, rfl, hb, fun i j hi hj => ?_⟩
    rw [List.length_drop] at hi
    have h1 := hc (k + i) j (by omega) hj
    rw [List.getElem?_drop, show off + k * m + i * m + j = off + (k + i) * m + j by rw [Nat.add_mul]; omega]
    exact h1
end
end Go.Proofs.YtdikigdlmlocmaaDoor
