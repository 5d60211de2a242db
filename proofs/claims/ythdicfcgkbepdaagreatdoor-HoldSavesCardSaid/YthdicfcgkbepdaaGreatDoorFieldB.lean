/- The walks of field.Pow, field.Inv and field.Div: each way by a theorem of its own. -/
import Derived.Test.YthdicfcgkbepdaaGreatDoorFieldA
import Derived.Deep.QuietTactic
import Derived.BigQuiet
namespace Go.Proofs.YthdicfcgkbepdaaGreatDoor
open Go.RowKit

/-- what an error variable holds: a pointer to its text. -/
abbrev errV (a : Addr) : Value := .iface 171 (.pointer (some a))

theorem ret2_int {k : IntKind} {a b : Int} {v : Value} (h : a = b) : Ending.returned (.tuple #[.int k a, v]) = .returned (.tuple #[.int k b, v]) := by rw [h]

/-- the exponent that the program takes. -/
theorem tmod_bd (n : Int) : -255 < n.tmod 255 ∧ n.tmod 255 < 255 ∧ ∃ q, n = n.tmod 255 + 255 * q := by
  have h := Int.tmod_add_mul_tdiv n 255
  have h1 : n.tmod 255 < 255 := Int.tmod_lt_of_pos n (by decide)
  have h2 : -255 < n.tmod 255 := by
    have := Int.neg_tmod n 255
    have h3 : (-n).tmod 255 < 255 := Int.tmod_lt_of_pos _ (by decide)
    omega
  exact ⟨h2, h1, n.tdiv 255, by omega⟩
theorem exp_eq (n : Int) : (wrap64 (n.tmod 255 + 255)).tmod 255 = (((n % 255).toNat : Nat) : Int) := by
  obtain ⟨h1, h2, q, hq⟩ := tmod_bd n
  rw [IntWalk.wrap64_in _ ⟨by omega, by omega⟩, Int.tmod_eq_emod_of_nonneg (by omega)]
  omega

/-- the power that Pow answers where it is no error. -/
def powZ (a : Nat) (n : Int) : Nat := if n = 0 then 1 else if a = 0 then 0 else Gf.pow a (n % 255).toNat
theorem powZ_lt {a : Nat} (n : Int) (ha : a < 256) : powZ a n < 256 := by
  unfold powZ
  split
  · decide
  split
  · decide
  · exact Gf.pow_lt ha _
end Go.Proofs.YthdicfcgkbepdaaGreatDoor
