/- The walks of field.Mul, field.Add, field.power and of the closed fact of the laws of chapter 1. -/
import Derived.Test.YtpjbecmedidfgaaGreatDoorProg
import Derived.Test.YtpjbecmedidfgaaGreatDoorGf
import Derived.WalkKit
import Derived.WalkSpells
import Derived.WalkLawsBesides
import Derived.Laws.BitsAllLaws
import Derived.Lib.Hide
namespace Go.Proofs.YtpjbecmedidfgaaGreatDoor
open Go.RowKit

theorem ret_int {k : IntKind} {a b : Int} (h : a = b) : Ending.returned (.int k a) = .returned (.int k b) := by rw [h]

theorem u8_xt (a : Nat) (ha : a < 256) : bits .xor .u8 ((a : Int) * 2 % 256) (29 * ((a : Int) / 128)) = ((Gf.xt a : Nat) : Int) := by
  have e1 : (a : Int) * 2 % 256 = ((a * 2 % 256 : Nat) : Int) := by omega
  have e2 : 29 * ((a : Int) / 128) = ((29 * (a / 128) : Nat) : Int) := by omega
  rw [e1, e2, u8_xor_nat _ _ (by omega) (by omega)]
  rfl
theorem u8_bit0 (b : Nat) (hb : b < 256) : bits .and .u8 (b : Int) 1 = ((b % 2 : Nat) : Int) := by
  rw [show (1 : Int) = ((1 : Nat) : Int) from rfl, u8_and_nat _ _ hb (by omega), nat_mask1]
theorem mulN_odd {n a b o : Nat} (h : b % 2 = 1) : Gf.mulN (n + 1) a b o = Gf.mulN n (Gf.xt a) (b / 2) (o ^^^ a) := by rw [Gf.mulN, if_pos h]
theorem mulN_even {n a b o : Nat} (h : ¬ b % 2 = 1) : Gf.mulN (n + 1) a b o = Gf.mulN n (Gf.xt a) (b / 2) o := by rw [Gf.mulN, if_neg h]

set_option maxHeartbeats 400000 in
theorem mul_walk (a b : Nat) (w : World) (ha : a < 256) (hb : b < 256) :
    Calls Tryz.prog 119 #[.int .u8 a, .int .u8 b] w fun e w' => e = .returned (.int .u8 (Gf.mul a b : Nat)) ∧ w = w' := by
  go_enter Tryz.func119, Tryz.ntmps119
  go_wp2
  go_loop [0, 1, 5, 7] (fun va vb vo vi => ∃ k a' b' o : Nat, k ≤ 8 ∧ a' < 256 ∧ b' < 256 ∧ o < 256 ∧ Gf.mulN (8 - k) a' b' o = Gf.mul a b ∧ va = .int .u8 a' ∧ vb = .int .u8 b' ∧ vo = .int .u8 o ∧ vi = .int .i64 k) (fun _ _ _ i => 8 - (intOf i).toNat)
  case atStart => exact ⟨0, a, b, 0, by omega, ha, hb, by omega, rfl, rfl, rfl, rfl, rfl⟩
  case round =>
    obtain ⟨k, a', b', o, hk, ha', hb', ho, hm, rfl, rfl, rfl, rfl⟩ := hrel
    clear ha hb
    have Hm := Lib.hid hm; clear hm
    by_cases hlt : k < 8
    · have e8 : 8 - k = (8 - (k + 1)) + 1 := by omega
      have E8 := Lib.hid e8; clear e8
      go_wp2
      · have h1 : b' % 2 = 1 := by
          have h : (bits BinOp.and IntKind.u8 (↑b') 1 == 1) = true := by assumption
          rw [u8_bit0 b' hb'] at h; simp at h; omega
        go_round
        case rel => exact ⟨k + 1, Gf.xt a', b' / 2, o ^^^ a', by omega, Gf.xt_lt ha', by omega, Gf.xor_lt ho ha', by rw [← Hm.out, E8.out, mulN_odd h1], by rw [u8_xt a' ha'], by go_num, by rw [u8_xor_nat _ _ ho ha'], by go_num⟩
        case measure => simp [intOf]; omega
      · have h1 : ¬ b' % 2 = 1 := by
          have h : (bits BinOp.and IntKind.u8 (↑b') 1 == 1) = false := by assumption
          rw [u8_bit0 b' hb'] at h; simp at h; omega
        go_round
        case rel => exact ⟨k + 1, Gf.xt a', b' / 2, o, by omega, Gf.xt_lt ha', by omega, ho, by rw [← Hm.out, E8.out, mulN_even h1], by rw [u8_xt a' ha'], by go_num, rfl, by go_num⟩
        case measure => simp [intOf]; omega
    · go_wp2
      go_ret
      obtain rfl : k = 8 := by omega
      exact ⟨ret_int (by rw [← Hm.out]; rfl), rfl⟩

theorem i64_bit0 (n : Nat) (hn : n < 9223372036854775808) : bits .and .i64 (n : Int) 1 = ((n % 2 : Nat) : Int) := by
  have h1 : (BitVec.ofInt 64 1).toNat = 2 ^ 1 - 1 := by decide
  have key : (BitVec.ofInt 64 (n : Int) &&& BitVec.ofInt 64 1).toNat = ((n : Int) % ((2 ^ 64 : Nat) : Int)).toNat % 2 ^ 1 := by
    rw [BitVec.toNat_and, BitVec.toNat_ofInt, h1, Nat.and_two_pow_sub_one_eq_mod]
  show IntKind.i64.wrap ((BitVec.ofInt 64 (n : Int) &&& BitVec.ofInt 64 1).toNat : Nat) = _
  rw [key, IntKind.wrap_i64]
  omega
set_option maxHeartbeats 400000 in
theorem power_walk (a n : Nat) (w : World) (ha : a < 256) (hn : n < 256) :
    Calls Tryz.prog 128 #[.int .u8 a, .int .i64 n] w fun e w' => e = .returned (.int .u8 (Gf.pow a n : Nat)) ∧ w = w' := by
  go_enter Tryz.func128, Tryz.ntmps128
  go_wp2
  go_loop [0, 1, 5] (fun va vn vo => ∃ f a' n' o : Nat, n' < 2 ^ f ∧ a' < 256 ∧ n' < 256 ∧ o < 256 ∧ Gf.mul o (Gf.pow a' n') = Gf.pow a n ∧ va = .int .u8 a' ∧ vn = .int .i64 n' ∧ vo = .int .u8 o) (fun _ n _ => (intOf n).toNat)
  case atStart => exact ⟨8, a, n, 1, hn, ha, hn, by omega, Gf.one_mul (Gf.pow_lt ha n), rfl, rfl, rfl⟩
  case round =>
    obtain ⟨f, a', n', o, hf, ha', hn', ho, hm, rfl, rfl, rfl⟩ := hrel
    clear ha hn hf
    have Hm := Lib.hid hm; clear hm
    by_cases hlt : 0 < n'
    · by_cases h1 : n' % 2 = 1
      · have hb : (bits BinOp.and IntKind.i64 (↑n') 1 == 1) = true := by rw [i64_bit0 n' (by omega)]; simp [h1]
        go_wp2_with fail
        refine (mul_walk _ _ _ ho ha').mono ?_
        rintro e w' ⟨rfl, rfl⟩
        go_wp2_with fail
        refine (mul_walk _ _ _ ha' ha').mono ?_
        rintro e w' ⟨rfl, rfl⟩
        go_wp2_with fail
        go_round
        case rel => exact ⟨8, Gf.mul a' a', n' / 2, Gf.mul o a', by omega, Gf.mul_lt _ ha', by omega, Gf.mul_lt _ ho, by rw [← Hm.out, Gf.mul_assoc _ ho ha' (Gf.pow_lt (Gf.mul_lt _ ha') _), Gf.pow_odd ha' h1], rfl, by go_num, rfl⟩
        case measure => simp [intOf]; omega
      · have hb : (bits BinOp.and IntKind.i64 (↑n') 1 == 1) = false := by rw [i64_bit0 n' (by omega)]; simp; omega
        go_wp2_with fail
        refine (mul_walk _ _ _ ha' ha').mono ?_
        rintro e w' ⟨rfl, rfl⟩
        go_wp2_with fail
        go_round
        case rel => exact ⟨8, Gf.mul a' a', n' / 2, o, by omega, Gf.mul_lt _ ha', by omega, ho, by rw [← Hm.out, Gf.pow_even ha' h1], rfl, by go_num, rfl⟩
        case measure => simp [intOf]; omega
    · go_wp2
      go_ret
      obtain rfl : n' = 0 := by omega
      exact ⟨ret_int (by rw [← Hm.out]; show _ = ((Gf.mul o 1 : Nat) : Int); rw [Gf.mul_one _ ho]), rfl⟩
end Go.Proofs.YtpjbecmedidfgaaGreatDoor
