/- The walk of the document's Between: the three ways; and the program's Between where it is an error. -/
import Derived.Test.YtmaalkjimppnkaaDoorRefB
namespace Go.Proofs.YtmaalkjimppnkaaDoor
open Go.RowKit

theorem basis_q (n₀ : Nat) (ax : Option Addr) (cap : Nat) (xs : List Nat) (i x : Nat) (w : World) (n : Nat) (hx : Bytes xs) (hu : Unlike xs) (hxx : x < 256) (hl : xs.length ≤ maxLen) (hi : i < xs.length) (hI : RowAt n₀ (w.drewN n) ax xs) :
    Calls Tryd.prog 98 #[.slice ax xs.length cap, .int .i64 i, .int .u8 x] (w.drewN n) fun e w'' => e = .returned (.int .u8 (bas xs i x : Nat)) ∧ ∃ m, w'' = w.drewN m :=
  Calls.quiet_of (basis_walk n₀ ax cap xs i x (w.drewN n) hx hu hxx hl hi hI)
theorem RowAt.drewN {n₀ : Nat} {w : World} {a : Option Addr} {l : List Nat} (n : Nat) (h : RowAt n₀ w a l) : RowAt n₀ (w.drewN n) a l := h

/-- the sum of the first i terms. -/
def rbtN (xs ys : List Nat) (x : Nat) : Nat → Nat
  | 0 => 0
  | i + 1 => rbtN xs ys x i ^^^ Gf.mul (ys[i]?.getD 0) (bas xs i x)
theorem rbtN_lt {xs ys : List Nat} (hy : Bytes ys) (x : Nat) : ∀ i, rbtN xs ys x i < 256
  | 0 => (by decide : 0 < 256)
  | i + 1 => Gf.xor_lt (rbtN_lt hy x i) (Gf.mul_lt _ (hy.at i))
theorem rbtN_eq {xs ys : List Nat} (hx : Bytes xs) (hy : Bytes ys) (hu : Unlike xs) {x : Nat} (hxx : x < 256) : ∀ i, i ≤ xs.length → rbtN xs ys x i = btwN xs ys x i
  | 0, _ => rfl
  | i + 1, hi => by
    show rbtN xs ys x i ^^^ _ = btwN xs ys x i ^^^ _
    rw [rbtN_eq hx hy hu hxx i (by omega), lagT_bas hx hy hu hxx (by omega)]

/-- the first of xs that stands there before, if there is one. -/
theorem first_dup (xs : List Nat) : (∀ i, i < xs.length → xs[i]?.getD 0 ∉ xs.take i) ∨ ∃ d, d < xs.length ∧ xs[d]?.getD 0 ∈ xs.take d ∧ ∀ i, i < d → xs[i]?.getD 0 ∉ xs.take i := by
  suffices h : ∀ n, n ≤ xs.length → (∀ i, i < n → xs[i]?.getD 0 ∉ xs.take i) ∨ ∃ d, d < xs.length ∧ xs[d]?.getD 0 ∈ xs.take d ∧ ∀ i, i < d → xs[i]?.getD 0 ∉ xs.take i from h xs.length (Nat.le_refl _)
  intro n
  induction n with
  | zero => intro _; left; intro i hi; omega
  | succ n ih =>
    intro hn
    rcases ih (by omega) with h | h
    · by_cases hm : xs[n]?.getD 0 ∈ xs.take n
      · exact .inr ⟨n, by omega, hm, h⟩
      · left
        intro i hi
        rcases Nat.lt_or_ge i n with h1 | h1
        · exact h i h1
        · obtain rfl : i = n := by omega
          exact hm
    · exact .inr h
theorem mem_take_iff {xs : List Nat} {v k : Nat} (hk : k ≤ xs.length) : v ∈ xs.take k ↔ ∃ j, j < k ∧ xs[j]?.getD 0 = v := by
  constructor
  · intro h
    obtain ⟨j, hj, e⟩ := List.getElem_of_mem h
    have hj1 : j < k := by simp at hj; omega
    have hj2 : j < xs.length := by simp at hj; omega
    refine ⟨j, hj1, ?_⟩
    rw [List.getElem?_eq_getElem hj2, ← e, List.getElem_take]; rfl
  · rintro ⟨j, hj, rfl⟩
    rw [List.getElem?_eq_getElem (by omega)]
    exact List.mem_iff_getElem.2 ⟨j, by simp; omega, by rw [List.getElem_take]; rfl⟩
theorem unlike_of {xs : List Nat} (h : ∀ i, i < xs.length → xs[i]?.getD 0 ∉ xs.take i) : Unlike xs := by
  intro i k hi hk hne e
  rcases Nat.lt_or_ge i k with h1 | h1
  · exact h k hk ((mem_take_iff (by omega)).2 ⟨i, h1, e⟩)
  · exact h i hi ((mem_take_iff (by omega)).2 ⟨k, by omega, e.symm⟩)

end Go.Proofs.YtmaalkjimppnkaaDoor
