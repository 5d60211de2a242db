/- The walks of field.Mul, field.Add, field.power and of the closed fact of the laws of chapter 1. -/
import Derived.Test.YthdicfcgkbepdaaGreatDoorProg
import Derived.Test.YthdicfcgkbepdaaGreatDoorGf
import Derived.WalkKit
import Derived.WalkSpells
import Derived.WalkLawsBesides
import Derived.Laws.BitsAllLaws
import Derived.Lib.Hide
namespace Go.Proofs.YthdicfcgkbepdaaGreatDoor
open Go.RowKit

theorem ret_int {k : IntKind} {a b : Int} (h : a = b) : Ending.returned (.int k a) = .returned (.int k b) := by rw [h]

theorem u8_xt (a : Nat) (ha : a < 256) : bits .xor .u8 ((a : Int) * 2 % 256) (29 * ((a : Int) / 128)) = ((Gf.xt a : Nat) : Int) := by
  have e1 : (a : Int) * 2 % 256 = ((a * 2 % 256 : Nat) : Int) := by omega
  have e2 : 29 * ((a : Int) / 128) = ((29 * (a / 128) : Nat) : Int) := by omega
  rw [e1, e2, u8_xor_nat _ _ (by omega) (by omega)]
  rfl
theorem u8_bit0 (b : Nat) (hb : b < 256) : bits .and .u8 (b : Int) 1 = ((b % 2 : Nat) : Int) := by
  rw [show (1 : Int) = ((1 : Nat) : Int) from rfl, u8_and_nat _ _ hb (by omega), nat_mask1]
theorem mulN_odd {n a b o : Nat} (h : b % 2 = 1) : Gf.mulN (n + 1) a b o = Gf.mulN n (Gf.xt a) (b / 2) (o ^^^ a) := by rw [Gf.mulN, if_pos h]
theorem mulN_even {n a b o : Nat} (h : ¬ b % 2 = 1) : Gf.mulN (n + 1) a b o = Gf.mulN n (Gf.xt a) (b / 2) o := by rw [Gf.mulN, if_neg h]

theorem i64_bit0 (n : Nat) (hn : n < 9223372036854775808) : bits .and .i64 (n : Int) 1 = ((n % 2 : Nat) : Int) := by
  have h1 : (BitVec.ofInt 64 1).toNat = 2 ^ 1 - 1 := by decide
  have key : (BitVec.ofInt 64 (n : Int) &&& BitVec.ofInt 64 1).toNat = ((n : Int) % ((2 ^ 64 : Nat) : Int)).toNat % 2 ^ 1 := by
    rw [BitVec.toNat_and, BitVec.toNat_ofInt, h1, Nat.and_two_pow_sub_one_eq_mod]
  show IntKind.i64.wrap ((BitVec.ofInt 64 (n : Int) &&& BitVec.ofInt 64 1).toNat : Nat) = _
  rw [key, IntKind.wrap_i64]
  omega
end Go.Proofs.YthdicfcgkbepdaaGreatDoor
