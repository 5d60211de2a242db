/- The walks of field.Pow, field.Inv and field.Div: each way by a theorem of its own. -/
import Derived.Test.YtpjbecmedidfgaaGreatDoorFieldA
import Derived.Deep.QuietTactic
import Derived.BigQuiet
namespace Go.Proofs.YtpjbecmedidfgaaGreatDoor
open Go.RowKit

/-- what an error variable holds: a pointer to its text. -/
abbrev errV (a : Addr) : Value := .iface 252 (.pointer (some a))

theorem ret2_int {k : IntKind} {a b : Int} {v : Value} (h : a = b) : Ending.returned (.tuple #[.int k a, v]) = .returned (.tuple #[.int k b, v]) := by rw [h]

/-- the exponent that the program takes. -/
theorem tmod_bd (n : Int) : -255 < n.tmod 255 ∧ n.tmod 255 < 255 ∧ ∃ q, n = n.tmod 255 + 255 * q := by
  have h := Int.tmod_add_mul_tdiv n 255
  have h1 : n.tmod 255 < 255 := Int.tmod_lt_of_pos n (by decide)
  have h2 : -255 < n.tmod 255 := by
    have := Int.neg_tmod n 255
    have h3 : (-n).tmod 255 < 255 := Int.tmod_lt_of_pos _ (by decide)
    omega
  exact ⟨h2, h1, n.tdiv 255, by omega⟩
theorem exp_eq (n : Int) : (wrap64 (n.tmod 255 + 255)).tmod 255 = (((n % 255).toNat : Nat) : Int) := by
  obtain ⟨h1, h2, q, hq⟩ := tmod_bd n
  rw [IntWalk.wrap64_in _ ⟨by omega, by omega⟩, Int.tmod_eq_emod_of_nonneg (by omega)]
  omega

set_option maxHeartbeats 400000 in
theorem pow_zero_walk (a : Nat) (w : World) :
    Calls Tryz.prog 106 #[.int .u8 a, .int .i64 0] w fun e w' => e = .returned (.tuple #[.int .u8 1, .nilIface]) ∧ w = w' := by
  go_enter Tryz.func106, Tryz.ntmps106
  go_wp2
  go_ret2
  exact ⟨rfl, rfl⟩
set_option maxHeartbeats 400000 in
theorem pow_of_zero_walk (n : Int) (w : World) (hn : 0 < n) :
    Calls Tryz.prog 106 #[.int .u8 0, .int .i64 n] w fun e w' => e = .returned (.tuple #[.int .u8 0, .nilIface]) ∧ w = w' := by
  go_enter Tryz.func106, Tryz.ntmps106
  go_wp2
  go_ret2
  exact ⟨rfl, rfl⟩
set_option maxHeartbeats 400000 in
theorem pow_bad_walk (n : Int) (w : World) (ez : Value) (hn : n < 0) (hz : w.cell? ⟨11, 0, none⟩ = some ez) :
    Calls Tryz.prog 106 #[.int .u8 0, .int .i64 n] w fun e w' => e = .returned (.tuple #[.int .u8 0, ez]) ∧ ∃ nq, w' = w.drewN nq := by
  go_enter Tryz.func106, Tryz.ntmps106
  go_wp2
  go_quiet (fail)
  go_wp2
  go_ret2
  exact ⟨rfl, _, rfl⟩
set_option maxHeartbeats 400000 in
theorem pow_walk (a : Nat) (n : Int) (w : World) (ha : a < 256) (h0 : a ≠ 0) (hn : n ≠ 0) (h1 : -9223372036854775808 ≤ n) (h2 : n ≤ 9223372036854775807) :
    Calls Tryz.prog 106 #[.int .u8 a, .int .i64 n] w fun e w' => e = .returned (.tuple #[.int .u8 (Gf.pow a (n % 255).toNat : Nat), .nilIface]) ∧ w = w' := by
  go_enter Tryz.func106, Tryz.ntmps106
  go_wp2_with fail
  have hk : (n % 255).toNat < 256 := by omega
  rw [exp_eq]
  refine (power_walk a (n % 255).toNat _ ha hk).mono ?_
  rintro e w' ⟨rfl, rfl⟩
  go_wp2
  go_ret2
  exact ⟨rfl, rfl⟩

/-- the power that Pow answers where it is no error. -/
def powZ (a : Nat) (n : Int) : Nat := if n = 0 then 1 else if a = 0 then 0 else Gf.pow a (n % 255).toNat
theorem powZ_lt {a : Nat} (n : Int) (ha : a < 256) : powZ a n < 256 := by
  unfold powZ
  split
  · decide
  split
  · decide
  · exact Gf.pow_lt ha _
theorem pow_any (a : Nat) (n : Int) (w : World) (ha : a < 256) (hb : ¬ (a = 0 ∧ n < 0)) (h1 : -9223372036854775808 ≤ n) (h2 : n ≤ 9223372036854775807) :
    Calls Tryz.prog 106 #[.int .u8 a, .int .i64 n] w fun e w' => e = .returned (.tuple #[.int .u8 (powZ a n : Nat), .nilIface]) ∧ w = w' := by
  by_cases hn : n = 0
  · subst hn; exact pow_zero_walk a w
  by_cases h0 : a = 0
  · subst h0
    have e : powZ 0 n = 0 := by unfold powZ; rw [if_neg hn, if_pos rfl]
    rw [e]
    exact pow_of_zero_walk n w (by omega)
  · have e : powZ a n = Gf.pow a (n % 255).toNat := by unfold powZ; rw [if_neg hn, if_neg h0]
    rw [e]
    exact pow_walk a n w ha h0 hn h1 h2

set_option maxHeartbeats 400000 in
theorem inv_walk (a : Nat) (w : World) (ha : a < 256) (h0 : a ≠ 0) :
    Calls Tryz.prog 134 #[.int .u8 a] w fun e w' => e = .returned (.tuple #[.int .u8 (Gf.inv a : Nat), .nilIface]) ∧ w = w' := by
  go_enter Tryz.func134, Tryz.ntmps134
  go_wp2_with fail
  refine (power_walk a 254 _ ha (by decide)).mono ?_
  rintro e w' ⟨rfl, rfl⟩
  go_wp2
  go_ret2
  exact ⟨rfl, rfl⟩
set_option maxHeartbeats 400000 in
theorem inv_bad_walk (w : World) (ez : Value) (hz : w.cell? ⟨11, 0, none⟩ = some ez) :
    Calls Tryz.prog 134 #[.int .u8 0] w fun e w' => e = .returned (.tuple #[.int .u8 0, ez]) ∧ ∃ nq, w' = w.drewN nq := by
  go_enter Tryz.func134, Tryz.ntmps134
  go_wp2
  go_quiet (fail)
  go_wp2
  go_ret2
  exact ⟨rfl, _, rfl⟩
end Go.Proofs.YtpjbecmedidfgaaGreatDoor
