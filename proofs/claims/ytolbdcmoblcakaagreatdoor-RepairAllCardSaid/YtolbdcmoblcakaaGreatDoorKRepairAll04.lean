/- Plain arithmetic of the field of 256 elements on natural numbers below 256: the product as the program makes it, that it is bilinear, commutative, associative, and has inverses. No program in sight. -/
import Derived.Test.YtolbdcmoblcakaaGreatDoorProg
import Derived.WalkKit
import Derived.WalkSpells
import Derived.WalkLawsBesides
import Derived.Laws.BitsAllLaws
import Derived.Lib.Hide
import Derived.Deep.QuietTactic
import Derived.BigQuiet
import Derived.Test.YtolbdcmoblcakaaGreatDoorKRepairAll03
import Derived.Test.YtolbdcmoblcakaaGreatDoorKRepairAll01
namespace Go.Proofs.YtolbdcmoblcakaaGreatDoor
namespace Gf

/-- times x, modulo the polynomial 285. -/
def xt (a : Nat) : Nat := (a * 2 % 256) ^^^ (29 * (a / 128))
/-- n rounds of the product's loop. -/
def mulN : Nat → Nat → Nat → Nat → Nat
  | 0, _, _, out => out
  | n + 1, a, b, out => mulN n (xt a) (b / 2) (if b % 2 = 1 then out ^^^ a else out)
def mul (a b : Nat) : Nat := mulN 8 a b 0

theorem xor_lt {a b : Nat} (ha : a < 256) (hb : b < 256) : a ^^^ b < 256 := Nat.xor_lt_two_pow (n := 8) ha hb
theorem xt_lt {a : Nat} (ha : a < 256) : xt a < 256 := by
  unfold xt
  exact xor_lt (Nat.mod_lt _ (by decide)) (by omega)
theorem mulN_lt (n a b out : Nat) (ha : a < 256) (ho : out < 256) : mulN n a b out < 256 := by
  induction n generalizing a b out with
  | zero => exact ho
  | succ n ih =>
    unfold mulN
    refine ih _ _ _ (xt_lt ha) ?_
    split
    · exact xor_lt ho ha
    · exact ho
theorem mul_lt {a : Nat} (b : Nat) (ha : a < 256) : mul a b < 256 := mulN_lt _ _ _ _ ha (by decide)

theorem xor_mul_two (a b : Nat) : (a ^^^ b) * 2 = (a * 2) ^^^ (b * 2) := by
  have h := Nat.shiftLeft_xor_distrib (a := a) (b := b) (i := 1)
  simpa [Nat.shiftLeft_eq] using h
theorem xor_div_two (a b : Nat) : (a ^^^ b) / 2 = (a / 2) ^^^ (b / 2) := by
  have h := Nat.shiftRight_xor_distrib (a := a) (b := b) (i := 1)
  simpa [Nat.shiftRight_eq_div_pow] using h
theorem xor_div_128 (a b : Nat) : (a ^^^ b) / 128 = (a / 128) ^^^ (b / 128) := by
  have h := Nat.shiftRight_xor_distrib (a := a) (b := b) (i := 7)
  simpa [Nat.shiftRight_eq_div_pow] using h
theorem xor_mod_256 (a b : Nat) : (a ^^^ b) % 256 = (a % 256) ^^^ (b % 256) := Nat.xor_mod_two_pow (n := 8)
theorem xor_mod_2 (a b : Nat) : (a ^^^ b) % 2 = (a % 2) ^^^ (b % 2) := Nat.xor_mod_two_pow (n := 1)
theorem mul29 {p q : Nat} (hp : p < 2) (hq : q < 2) : 29 * (p ^^^ q) = (29 * p) ^^^ (29 * q) := by
  rcases (show p = 0 ∨ p = 1 by omega) with rfl | rfl <;> rcases (show q = 0 ∨ q = 1 by omega) with rfl | rfl <;> rfl
theorem xor4 (a b c d : Nat) : (a ^^^ b) ^^^ (c ^^^ d) = (a ^^^ c) ^^^ (b ^^^ d) := by ac_rfl
theorem xt_xor {a b : Nat} (ha : a < 256) (hb : b < 256) : xt (a ^^^ b) = xt a ^^^ xt b := by
  unfold xt
  rw [xor_mul_two, xor_mod_256, xor_div_128, mul29 (by omega) (by omega), xor4]
theorem mulN_xor_left (n : Nat) : ∀ (a a' b o o' : Nat), a < 256 → a' < 256 → mulN n (a ^^^ a') b (o ^^^ o') = mulN n a b o ^^^ mulN n a' b o' := by
  induction n with
  | zero => intros; rfl
  | succ n ih =>
    intro a a' b o o' ha ha'
    unfold mulN
    rw [xt_xor ha ha']
    split
    · rw [xor4]; exact ih _ _ _ _ _ (xt_lt ha) (xt_lt ha')
    · exact ih _ _ _ _ _ (xt_lt ha) (xt_lt ha')
theorem mulN_xor_right (n : Nat) : ∀ (a b b' o o' : Nat), mulN n a (b ^^^ b') (o ^^^ o') = mulN n a b o ^^^ mulN n a b' o' := by
  induction n with
  | zero => intros; rfl
  | succ n ih =>
    intro a b b' o o'
    unfold mulN
    rw [xor_div_two, xor_mod_2]
    have key : (if b % 2 ^^^ b' % 2 = 1 then o ^^^ o' ^^^ a else o ^^^ o') = (if b % 2 = 1 then o ^^^ a else o) ^^^ (if b' % 2 = 1 then o' ^^^ a else o') := by
      rcases (show b % 2 = 0 ∨ b % 2 = 1 by omega) with h | h <;> rcases (show b' % 2 = 0 ∨ b' % 2 = 1 by omega) with h' | h' <;> simp only [h, h']
      · simp
      · simp; ac_rfl
      · simp; ac_rfl
      · have : (o ^^^ a) ^^^ (o' ^^^ a) = o ^^^ o' := by rw [xor4, Nat.xor_self, Nat.xor_zero]
        simp [this]
    rw [key]
    exact ih _ _ _ _ _
theorem mul_xor_left {a a' : Nat} (b : Nat) (ha : a < 256) (ha' : a' < 256) : mul (a ^^^ a') b = mul a b ^^^ mul a' b := mulN_xor_left 8 a a' b 0 0 ha ha'
theorem mul_xor_right (a b b' : Nat) : mul a (b ^^^ b') = mul a b ^^^ mul a b' := mulN_xor_right 8 a b b' 0 0
theorem mulN_zero_right (n a o : Nat) : mulN n a 0 o = o := by
  induction n generalizing a with
  | zero => rfl
  | succ n ih => unfold mulN; simpa using ih _
theorem mul_zero (a : Nat) : mul a 0 = 0 := mulN_zero_right 8 a 0
theorem zero_mul (b : Nat) : mul 0 b = 0 := by
  have h := mul_xor_left (a := 0) (a' := 0) b (by decide) (by decide)
  rw [Nat.xor_self, Nat.xor_self] at h; exact h

/-- bit i of a, in its place. -/
def bitAt (a i : Nat) : Nat := a / 2 ^ i % 2 * 2 ^ i
theorem bits_of : ∀ a, a < 256 → bitAt a 0 ^^^ (bitAt a 1 ^^^ (bitAt a 2 ^^^ (bitAt a 3 ^^^ (bitAt a 4 ^^^ (bitAt a 5 ^^^ (bitAt a 6 ^^^ bitAt a 7)))))) = a := by decide +kernel
theorem bitAt_cases (a i : Nat) : bitAt a i = 0 ∨ bitAt a i = 2 ^ i := by
  unfold bitAt
  rcases (show a / 2 ^ i % 2 = 0 ∨ a / 2 ^ i % 2 = 1 by omega) with h | h <;> simp [h]
theorem bitAt_lt (a i : Nat) (hi : i < 8) : bitAt a i < 256 := by
  rcases bitAt_cases a i with h | h <;> rw [h]
  · decide
  · rcases (show i = 0 ∨ i = 1 ∨ i = 2 ∨ i = 3 ∨ i = 4 ∨ i = 5 ∨ i = 6 ∨ i = 7 by omega) with rfl | rfl | rfl | rfl | rfl | rfl | rfl | rfl <;> decide
/-- Two functions that turn sums into sums agree where they agree at the eight powers of 2. -/
theorem lin_ext (f g : Nat → Nat) (hf : ∀ x y, x < 256 → y < 256 → f (x ^^^ y) = f x ^^^ f y) (hg : ∀ x y, x < 256 → y < 256 → g (x ^^^ y) = g x ^^^ g y)
    (h : ∀ i, i < 8 → f (2 ^ i) = g (2 ^ i)) (a : Nat) (ha : a < 256) : f a = g a := by
  have f0 : f 0 = 0 := by have := hf 0 0 (by decide) (by decide); rw [Nat.xor_self, Nat.xor_self] at this; exact this
  have g0 : g 0 = 0 := by have := hg 0 0 (by decide) (by decide); rw [Nat.xor_self, Nat.xor_self] at this; exact this
  have at1 : ∀ i, i < 8 → f (bitAt a i) = g (bitAt a i) := by
    intro i hi
    rcases bitAt_cases a i with e | e <;> rw [e]
    · rw [f0, g0]
    · exact h i hi
  have hl := fun i hi => bitAt_lt a i hi
  have e := bits_of a ha
  have l7 := hl 7 (by decide)
  have l6 := xor_lt (hl 6 (by decide)) l7
  have l5 := xor_lt (hl 5 (by decide)) l6
  have l4 := xor_lt (hl 4 (by decide)) l5
  have l3 := xor_lt (hl 3 (by decide)) l4
  have l2 := xor_lt (hl 2 (by decide)) l3
  have l1 := xor_lt (hl 1 (by decide)) l2
  rw [← e, hf _ _ (hl 0 (by decide)) l1, hf _ _ (hl 1 (by decide)) l2, hf _ _ (hl 2 (by decide)) l3, hf _ _ (hl 3 (by decide)) l4, hf _ _ (hl 4 (by decide)) l5, hf _ _ (hl 5 (by decide)) l6, hf _ _ (hl 6 (by decide)) l7,
    hg _ _ (hl 0 (by decide)) l1, hg _ _ (hl 1 (by decide)) l2, hg _ _ (hl 2 (by decide)) l3, hg _ _ (hl 3 (by decide)) l4, hg _ _ (hl 4 (by decide)) l5, hg _ _ (hl 5 (by decide)) l6, hg _ _ (hl 6 (by decide)) l7,
    at1 0 (by decide), at1 1 (by decide), at1 2 (by decide), at1 3 (by decide), at1 4 (by decide), at1 5 (by decide), at1 6 (by decide), at1 7 (by decide)]
theorem pow2_lt {i : Nat} (hi : i < 8) : 2 ^ i < 256 := Nat.pow_lt_pow_right (a := 2) (m := i) (n := 8) (by decide) hi
theorem comm_base : ∀ i, i < 8 → ∀ j, j < 8 → mul (2 ^ i) (2 ^ j) = mul (2 ^ j) (2 ^ i) := by decide +kernel
theorem mul_comm {a b : Nat} (ha : a < 256) (hb : b < 256) : mul a b = mul b a := by
  refine lin_ext (fun x => mul x b) (fun x => mul b x) (fun x y hx hy => mul_xor_left b hx hy) (fun x y _ _ => mul_xor_right b x y) ?_ a ha
  intro i hi
  refine lin_ext (fun y => mul (2 ^ i) y) (fun y => mul y (2 ^ i)) (fun x y _ _ => mul_xor_right _ x y) (fun x y hx hy => mul_xor_left _ hx hy) ?_ b hb
  intro j hj
  exact comm_base i hi j hj
theorem assoc_base : ∀ i, i < 8 → ∀ j, j < 8 → ∀ k, k < 8 → mul (mul (2 ^ i) (2 ^ j)) (2 ^ k) = mul (2 ^ i) (mul (2 ^ j) (2 ^ k)) := by decide +kernel
theorem mul_assoc {a b : Nat} (c : Nat) (ha : a < 256) (hb : b < 256) (hc : c < 256) : mul (mul a b) c = mul a (mul b c) := by
  refine lin_ext (fun x => mul (mul x b) c) (fun x => mul x (mul b c)) (fun x y hx hy => by simp only [mul_xor_left b hx hy, mul_xor_left c (mul_lt b hx) (mul_lt b hy)]) (fun x y hx hy => mul_xor_left _ hx hy) ?_ a ha
  intro i hi
  refine lin_ext (fun x => mul (mul (2 ^ i) x) c) (fun x => mul (2 ^ i) (mul x c)) (fun x y hx hy => by simp only [mul_xor_right, mul_xor_left c (mul_lt x (pow2_lt hi)) (mul_lt y (pow2_lt hi))])
    (fun x y hx hy => by simp only [mul_xor_left c hx hy, mul_xor_right]) ?_ b hb
  intro j hj
  refine lin_ext (fun x => mul (mul (2 ^ i) (2 ^ j)) x) (fun x => mul (2 ^ i) (mul (2 ^ j) x)) (fun x y _ _ => mul_xor_right _ x y) (fun x y _ _ => by simp only [mul_xor_right]) ?_ c hc
  intro k hk
  exact assoc_base i hi j hj k hk
theorem mul_one : ∀ a, a < 256 → mul a 1 = a := by decide +kernel
theorem one_mul {a : Nat} (ha : a < 256) : mul 1 a = a := by rw [mul_comm (by decide) ha, mul_one a ha]

/-- 'power' of the program: n by halves, with fuel. -/
def powF : Nat → Nat → Nat → Nat → Nat
  | 0, _, _, out => out
  | f + 1, a, n, out => if n = 0 then out else powF f (mul a a) (n / 2) (if n % 2 = 1 then mul out a else out)
/-- so often with itself. -/
def pow (a : Nat) : Nat → Nat
  | 0 => 1
  | n + 1 => mul (pow a n) a
theorem pow_lt {a : Nat} (ha : a < 256) : ∀ n, pow a n < 256
  | 0 => (by decide : 1 < 256)
  | n + 1 => mul_lt a (pow_lt ha n)
theorem pow_add {a : Nat} (ha : a < 256) (m : Nat) : ∀ n, pow a (m + n) = mul (pow a m) (pow a n)
  | 0 => by show pow a m = mul (pow a m) 1; rw [mul_one _ (pow_lt ha m)]
  | n + 1 => by
    show mul (pow a (m + n)) a = mul (pow a m) (mul (pow a n) a)
    rw [pow_add ha m n, mul_assoc _ (pow_lt ha m) (pow_lt ha n) ha]
theorem pow_sq {a : Nat} (ha : a < 256) : ∀ n, pow (mul a a) n = pow a (2 * n)
  | 0 => rfl
  | n + 1 => by
    show mul (pow (mul a a) n) (mul a a) = pow a (2 * n + 2)
    rw [pow_sq ha n]
    show _ = mul (mul (pow a (2 * n)) a) a
    rw [mul_assoc _ (pow_lt ha _) ha ha]
theorem powF_eq (f : Nat) : ∀ (a n out : Nat), a < 256 → out < 256 → n < 2 ^ f → powF f a n out = mul out (pow a n) := by
  induction f with
  | zero =>
    intro a n out ha ho hn
    have hn : n < 1 := hn
    obtain rfl : n = 0 := by omega
    show out = mul out 1
    rw [mul_one _ ho]
  | succ f ih =>
    intro a n out ha ho hn
    unfold powF
    have hp : 2 ^ (f + 1) = 2 ^ f * 2 := Nat.pow_succ 2 f
    split
    · next h => subst h; show out = mul out 1; rw [mul_one _ ho]
    · next h =>
      rw [ih _ _ _ (mul_lt a ha) (by split; exact mul_lt a ho; exact ho) (by omega), pow_sq ha]
      split
      · next h1 =>
        have e : n = 2 * (n / 2) + 1 := by omega
        have e2 : pow a n = mul (pow a (2 * (n / 2))) a := by conv => lhs; rw [e]
                                                              rfl
        rw [e2, mul_assoc _ ho ha (pow_lt ha _), mul_comm ha (pow_lt ha _)]
      · next h1 =>
        have e : 2 * (n / 2) = n := by omega
        rw [e]
theorem pow_odd {a n : Nat} (ha : a < 256) (h : n % 2 = 1) : mul a (pow (mul a a) (n / 2)) = pow a n := by
  rw [pow_sq ha, mul_comm ha (pow_lt ha _)]
  have e : n = 2 * (n / 2) + 1 := by omega
  conv => rhs; rw [e]
  rfl
theorem pow_even {a n : Nat} (ha : a < 256) (h : ¬ n % 2 = 1) : pow (mul a a) (n / 2) = pow a n := by
  rw [pow_sq ha]
  have e : 2 * (n / 2) = n := by omega
  rw [e]
def inv (a : Nat) : Nat := pow a 254
theorem inv_lt {a : Nat} (ha : a < 256) : inv a < 256 := pow_lt ha _
theorem powF_inv : ∀ a, a < 256 → a ≠ 0 → mul a (powF 8 a 254 1) = 1 := by decide +kernel
theorem mul_inv {a : Nat} (ha : a < 256) (h : a ≠ 0) : mul a (inv a) = 1 := by
  have := powF_inv a ha h
  rw [powF_eq 8 a 254 1 ha (by decide) (by decide), one_mul (pow_lt ha _)] at this
  exact this
theorem inv_mul {a : Nat} (ha : a < 256) (h : a ≠ 0) : mul (inv a) a = 1 := by rw [mul_comm (inv_lt ha) ha, mul_inv ha h]
theorem mul_eq_zero {a b : Nat} (ha : a < 256) (hb : b < 256) (h : mul a b = 0) : a = 0 ∨ b = 0 := by
  by_cases h0 : a = 0
  · exact .inl h0
  · right
    have := congrArg (mul (inv a)) h
    rw [← mul_assoc b (inv_lt ha) ha hb, inv_mul ha h0, one_mul hb, mul_zero] at this
    exact this
theorem mul_ne_zero {a b : Nat} (ha : a < 256) (hb : b < 256) (h0 : a ≠ 0) (h1 : b ≠ 0) : mul a b ≠ 0 := fun h => (mul_eq_zero ha hb h).elim h0 h1
/-- an element whose product with a is 1 is the inverse. -/
theorem inv_unique {a b : Nat} (ha : a < 256) (hb : b < 256) (h : mul a b = 1) : b = inv a := by
  have h0 : a ≠ 0 := by intro h0; rw [h0, zero_mul] at h; exact absurd h (by decide)
  have := congrArg (mul (inv a)) h
  rw [← mul_assoc b (inv_lt ha) ha hb, inv_mul ha h0, one_mul hb, mul_one _ (inv_lt ha)] at this
  exact this
theorem fermat {a : Nat} (ha : a < 256) (h : a ≠ 0) : pow a 255 = 1 := inv_mul ha h
/-- a polynomial's value, the lowest coefficient first. -/
def horner (x : Nat) : List Nat → Nat
  | [] => 0
  | c :: r => mul (horner x r) x ^^^ c
end Gf
end Go.Proofs.YtolbdcmoblcakaaGreatDoor
/- The walks of field.Mul, field.Add, field.power and of the closed fact of the laws of chapter 1. -/
namespace Go.Proofs.YtolbdcmoblcakaaGreatDoor
open Go.RowKit

theorem ret_int {k : IntKind} {a b : Int} (h : a = b) : Ending.returned (.int k a) = .returned (.int k b) := by rw [h]

theorem u8_xt (a : Nat) (ha : a < 256) : bits .xor .u8 ((a : Int) * 2 % 256) (29 * ((a : Int) / 128)) = ((Gf.xt a : Nat) : Int) := by
  have e1 : (a : Int) * 2 % 256 = ((a * 2 % 256 : Nat) : Int) := by omega
  have e2 : 29 * ((a : Int) / 128) = ((29 * (a / 128) : Nat) : Int) := by omega
  rw [e1, e2, u8_xor_nat _ _ (by omega) (by omega)]
  rfl
theorem u8_bit0 (b : Nat) (hb : b < 256) : bits .and .u8 (b : Int) 1 = ((b % 2 : Nat) : Int) := by
  rw [show (1 : Int) = ((1 : Nat) : Int) from rfl, u8_and_nat _ _ hb (by omega), nat_mask1]
theorem mulN_odd {n a b o : Nat} (h : b % 2 = 1) : Gf.mulN (n + 1) a b o = Gf.mulN n (Gf.xt a) (b / 2) (o ^^^ a) := by rw [Gf.mulN, if_pos h]
theorem mulN_even {n a b o : Nat} (h : ¬ b % 2 = 1) : Gf.mulN (n + 1) a b o = Gf.mulN n (Gf.xt a) (b / 2) o := by rw [Gf.mulN, if_neg h]

set_option maxHeartbeats 400000 in
theorem mul_walk (a b : Nat) (w : World) (ha : a < 256) (hb : b < 256) :
    Calls Tryz.prog 104 #[.int .u8 a, .int .u8 b] w fun e w' => e = .returned (.int .u8 (Gf.mul a b : Nat)) ∧ w = w' := by
  go_enter Tryz.func104, Tryz.ntmps104
  go_wp2
  go_loop [0, 1, 5, 7] (fun va vb vo vi => ∃ k a' b' o : Nat, k ≤ 8 ∧ a' < 256 ∧ b' < 256 ∧ o < 256 ∧ Gf.mulN (8 - k) a' b' o = Gf.mul a b ∧ va = .int .u8 a' ∧ vb = .int .u8 b' ∧ vo = .int .u8 o ∧ vi = .int .i64 k) (fun _ _ _ i => 8 - (intOf i).toNat)
  case atStart => exact ⟨0, a, b, 0, by omega, ha, hb, by omega, rfl, rfl, rfl, rfl, rfl⟩
  case round =>
    obtain ⟨k, a', b', o, hk, ha', hb', ho, hm, rfl, rfl, rfl, rfl⟩ := hrel
    clear ha hb
    have Hm := Lib.hid hm; clear hm
    by_cases hlt : k < 8
    · have e8 : 8 - k = (8 - (k + 1)) + 1 := by omega
      have E8 := Lib.hid e8; clear e8
      go_wp2
      · have h1 : b' % 2 = 1 := by
          have h : (bits BinOp.and IntKind.u8 (↑b') 1 == 1) = true := by assumption
          rw [u8_bit0 b' hb'] at h; simp at h; omega
        go_round
        case rel => exact ⟨k + 1, Gf.xt a', b' / 2, o ^^^ a', by omega, Gf.xt_lt ha', by omega, Gf.xor_lt ho ha', by rw [← Hm.out, E8.out, mulN_odd h1], by rw [u8_xt a' ha'], by go_num, by rw [u8_xor_nat _ _ ho ha'], by go_num⟩
        case measure => simp [intOf]; omega
      · have h1 : ¬ b' % 2 = 1 := by
          have h : (bits BinOp.and IntKind.u8 (↑b') 1 == 1) = false := by assumption
          rw [u8_bit0 b' hb'] at h; simp at h; omega
        go_round
        case rel => exact ⟨k + 1, Gf.xt a', b' / 2, o, by omega, Gf.xt_lt ha', by omega, ho, by rw [← Hm.out, E8.out, mulN_even h1], by rw [u8_xt a' ha'], by go_num, rfl, by go_num⟩
        case measure => simp [intOf]; omega
    · go_wp2
      go_ret
      obtain rfl : k = 8 := by omega
      exact ⟨ret_int (by rw [← Hm.out]; rfl), rfl⟩

theorem i64_bit0 (n : Nat) (hn : n < 9223372036854775808) : bits .and .i64 (n : Int) 1 = ((n % 2 : Nat) : Int) := by
  have h1 : (BitVec.ofInt 64 1).toNat = 2 ^ 1 - 1 := by decide
  have key : (BitVec.ofInt 64 (n : Int) &&& BitVec.ofInt 64 1).toNat = ((n : Int) % ((2 ^ 64 : Nat) : Int)).toNat % 2 ^ 1 := by
    rw [BitVec.toNat_and, BitVec.toNat_ofInt, h1, Nat.and_two_pow_sub_one_eq_mod]
  show IntKind.i64.wrap ((BitVec.ofInt 64 (n : Int) &&& BitVec.ofInt 64 1).toNat : Nat) = _
  rw [key, IntKind.wrap_i64]
  omega
set_option maxHeartbeats 400000 in
theorem power_walk (a n : Nat) (w : World) (ha : a < 256) (hn : n < 256) :
    Calls Tryz.prog 108 #[.int .u8 a, .int .i64 n] w fun e w' => e = .returned (.int .u8 (Gf.pow a n : Nat)) ∧ w = w' := by
  go_enter Tryz.func108, Tryz.ntmps108
  go_wp2
  go_loop [0, 1, 5] (fun va vn vo => ∃ f a' n' o : Nat, n' < 2 ^ f ∧ a' < 256 ∧ n' < 256 ∧ o < 256 ∧ Gf.mul o (Gf.pow a' n') = Gf.pow a n ∧ va = .int .u8 a' ∧ vn = .int .i64 n' ∧ vo = .int .u8 o) (fun _ n _ => (intOf n).toNat)
  case atStart => exact ⟨8, a, n, 1, hn, ha, hn, by omega, Gf.one_mul (Gf.pow_lt ha n), rfl, rfl, rfl⟩
  case round =>
    obtain ⟨f, a', n', o, hf, ha', hn', ho, hm, rfl, rfl, rfl⟩ := hrel
    clear ha hn hf
    have Hm := Lib.hid hm; clear hm
    by_cases hlt : 0 < n'
    · by_cases h1 : n' % 2 = 1
      · have hb : (bits BinOp.and IntKind.i64 (↑n') 1 == 1) = true := by rw [i64_bit0 n' (by omega)]; simp [h1]
        go_wp2_with fail
        refine (mul_walk _ _ _ ho ha').mono ?_
        rintro e w' ⟨rfl, rfl⟩
        go_wp2_with fail
        refine (mul_walk _ _ _ ha' ha').mono ?_
        rintro e w' ⟨rfl, rfl⟩
        go_wp2_with fail
        go_round
        case rel => exact ⟨8, Gf.mul a' a', n' / 2, Gf.mul o a', by omega, Gf.mul_lt _ ha', by omega, Gf.mul_lt _ ho, by rw [← Hm.out, Gf.mul_assoc _ ho ha' (Gf.pow_lt (Gf.mul_lt _ ha') _), Gf.pow_odd ha' h1], rfl, by go_num, rfl⟩
        case measure => simp [intOf]; omega
      · have hb : (bits BinOp.and IntKind.i64 (↑n') 1 == 1) = false := by rw [i64_bit0 n' (by omega)]; simp; omega
        go_wp2_with fail
        refine (mul_walk _ _ _ ha' ha').mono ?_
        rintro e w' ⟨rfl, rfl⟩
        go_wp2_with fail
        go_round
        case rel => exact ⟨8, Gf.mul a' a', n' / 2, o, by omega, Gf.mul_lt _ ha', by omega, ho, by rw [← Hm.out, Gf.pow_even ha' h1], rfl, by go_num, rfl⟩
        case measure => simp [intOf]; omega
    · go_wp2
      go_ret
      obtain rfl : n' = 0 := by omega
      exact ⟨ret_int (by rw [← Hm.out]; show _ = ((Gf.mul o 1 : Nat) : Int); rw [Gf.mul_one _ ho]), rfl⟩
end Go.Proofs.YtolbdcmoblcakaaGreatDoor
/- The walks of field.Pow, field.Inv and field.Div: each way by a theorem of its own. -/
namespace Go.Proofs.YtolbdcmoblcakaaGreatDoor
open Go.RowKit

/-- what an error variable holds: a pointer to its text. -/
abbrev errV (a : Addr) : Value := .iface 218 (.pointer (some a))

theorem ret2_int {k : IntKind} {a b : Int} {v : Value} (h : a = b) : Ending.returned (.tuple #[.int k a, v]) = .returned (.tuple #[.int k b, v]) := by rw [h]

/-- the exponent that the program takes. -/
theorem tmod_bd (n : Int) : -255 < n.tmod 255 ∧ n.tmod 255 < 255 ∧ ∃ q, n = n.tmod 255 + 255 * q := by
  have h := Int.tmod_add_mul_tdiv n 255
  have h1 : n.tmod 255 < 255 := Int.tmod_lt_of_pos n (by decide)
  have h2 : -255 < n.tmod 255 := by
    have := Int.neg_tmod n 255
    have h3 : (-n).tmod 255 < 255 := Int.tmod_lt_of_pos _ (by decide)
    omega
  exact ⟨h2, h1, n.tdiv 255, by omega⟩
theorem exp_eq (n : Int) : (wrap64 (n.tmod 255 + 255)).tmod 255 = (((n % 255).toNat : Nat) : Int) := by
  obtain ⟨h1, h2, q, hq⟩ := tmod_bd n
  rw [IntWalk.wrap64_in _ ⟨by omega, by omega⟩, Int.tmod_eq_emod_of_nonneg (by omega)]
  omega

set_option maxHeartbeats 400000 in
theorem pow_zero_walk (a : Nat) (w : World) :
    Calls Tryz.prog 86 #[.int .u8 a, .int .i64 0] w fun e w' => e = .returned (.tuple #[.int .u8 1, .nilIface]) ∧ w = w' := by
  go_enter Tryz.func86, Tryz.ntmps86
  go_wp2
  go_ret2
  exact ⟨rfl, rfl⟩
set_option maxHeartbeats 400000 in
theorem pow_of_zero_walk (n : Int) (w : World) (hn : 0 < n) :
    Calls Tryz.prog 86 #[.int .u8 0, .int .i64 n] w fun e w' => e = .returned (.tuple #[.int .u8 0, .nilIface]) ∧ w = w' := by
  go_enter Tryz.func86, Tryz.ntmps86
  go_wp2
  go_ret2
  exact ⟨rfl, rfl⟩
set_option maxHeartbeats 400000 in
theorem pow_bad_walk (n : Int) (w : World) (ez : Value) (hn : n < 0) (hz : w.cell? ⟨11, 0, none⟩ = some ez) :
    Calls Tryz.prog 86 #[.int .u8 0, .int .i64 n] w fun e w' => e = .returned (.tuple #[.int .u8 0, ez]) ∧ ∃ nq, w' = w.drewN nq := by
  go_enter Tryz.func86, Tryz.ntmps86
  go_wp2
  go_quiet (fail)
  go_wp2
  go_ret2
  exact ⟨rfl, _, rfl⟩
set_option maxHeartbeats 400000 in
theorem pow_walk (a : Nat) (n : Int) (w : World) (ha : a < 256) (h0 : a ≠ 0) (hn : n ≠ 0) (h1 : -9223372036854775808 ≤ n) (h2 : n ≤ 9223372036854775807) :
    Calls Tryz.prog 86 #[.int .u8 a, .int .i64 n] w fun e w' => e = .returned (.tuple #[.int .u8 (Gf.pow a (n % 255).toNat : Nat), .nilIface]) ∧ w = w' := by
  go_enter Tryz.func86, Tryz.ntmps86
  go_wp2_with fail
  have hk : (n % 255).toNat < 256 := by omega
  rw [exp_eq]
  refine (power_walk a (n % 255).toNat _ ha hk).mono ?_
  rintro e w' ⟨rfl, rfl⟩
  go_wp2
  go_ret2
  exact ⟨rfl, rfl⟩

/-- the power that Pow answers where it is no error. -/
def powZ (a : Nat) (n : Int) : Nat := if n = 0 then 1 else if a = 0 then 0 else Gf.pow a (n % 255).toNat
theorem powZ_lt {a : Nat} (n : Int) (ha : a < 256) : powZ a n < 256 := by
  unfold powZ
  split
  · decide
  split
  · decide
  · exact Gf.pow_lt ha _
theorem pow_any (a : Nat) (n : Int) (w : World) (ha : a < 256) (hb : ¬ (a = 0 ∧ n < 0)) (h1 : -9223372036854775808 ≤ n) (h2 : n ≤ 9223372036854775807) :
    Calls Tryz.prog 86 #[.int .u8 a, .int .i64 n] w fun e w' => e = .returned (.tuple #[.int .u8 (powZ a n : Nat), .nilIface]) ∧ w = w' := by
  by_cases hn : n = 0
  · subst hn; exact pow_zero_walk a w
  by_cases h0 : a = 0
  · subst h0
    have e : powZ 0 n = 0 := by unfold powZ; rw [if_neg hn, if_pos rfl]
    rw [e]
    exact pow_of_zero_walk n w (by omega)
  · have e : powZ a n = Gf.pow a (n % 255).toNat := by unfold powZ; rw [if_neg hn, if_neg h0]
    rw [e]
    exact pow_walk a n w ha h0 hn h1 h2

set_option maxHeartbeats 400000 in
theorem inv_walk (a : Nat) (w : World) (ha : a < 256) (h0 : a ≠ 0) :
    Calls Tryz.prog 125 #[.int .u8 a] w fun e w' => e = .returned (.tuple #[.int .u8 (Gf.inv a : Nat), .nilIface]) ∧ w = w' := by
  go_enter Tryz.func125, Tryz.ntmps125
  go_wp2_with fail
  refine (power_walk a 254 _ ha (by decide)).mono ?_
  rintro e w' ⟨rfl, rfl⟩
  go_wp2
  go_ret2
  exact ⟨rfl, rfl⟩
set_option maxHeartbeats 400000 in
theorem inv_bad_walk (w : World) (ez : Value) (hz : w.cell? ⟨11, 0, none⟩ = some ez) :
    Calls Tryz.prog 125 #[.int .u8 0] w fun e w' => e = .returned (.tuple #[.int .u8 0, ez]) ∧ ∃ nq, w' = w.drewN nq := by
  go_enter Tryz.func125, Tryz.ntmps125
  go_wp2
  go_quiet (fail)
  go_wp2
  go_ret2
  exact ⟨rfl, _, rfl⟩
end Go.Proofs.YtolbdcmoblcakaaGreatDoor
/- errors.Is at errors of errors.New's make; plain.Code and the laws' coded, at nil and at the program's own errors. -/
namespace Go.Proofs.YtolbdcmoblcakaaGreatDoor
open Go.RowKit Go.Extern.Stop Go.Stop Go.Extern

theorem is_comparable (w : World) : ((Extern.ReflectliteType.method fun t => do Rtype.noPackHeld "Comparable" t; (fun a => Value.bool a.comparable) <$> typeInfo t) #[.agg #[.pointer (some ⟨14, 218, none⟩)]]).run Tryz.prog w = .ok (.bool true) w := by kernel_rfl
theorem is_methodComparable (v : Value) (w : World) : (Go.method 349 183 v "Comparable").run Tryz.prog w = .ok (157, v) w := by kernel_rfl
theorem is_comp : (Tryz.prog.info? 218).map (·.comparable) = some true := by kernel_rfl
theorem is_size : (Tryz.prog.info? 237).map (·.size) = some 1 := by kernel_rfl

theorem eql_same (a : Addr) (w : World) : (binOp .eql 35 (errV a) (errV a)).run Tryz.prog w = .ok (.bool true) w := by
  obtain ⟨i, hi, hc⟩ := Option.map_eq_some_iff.1 is_comp
  obtain ⟨j, hj, _⟩ := Option.map_eq_some_iff.1 is_size
  exact run_eql_iface_ptr_same w a Tryz.underlying35 Tryz.underlying218 hi hc hj
/-- the block of an error's text. -/
def Blk (w : World) (a : Addr) : Prop := ∃ c t, w.heap[a.block]? = some (.cells c t (0, 0))
theorem eql_other {a b : Addr} (w : World) (hne : a ≠ b) (ha : Blk w a) (hb : Blk w b) : (binOp .eql 35 (errV a) (errV b)).run Tryz.prog w = .ok (.bool false) w := by
  obtain ⟨i, hi, hc⟩ := Option.map_eq_some_iff.1 is_comp
  obtain ⟨j, hj, hs⟩ := Option.map_eq_some_iff.1 is_size
  obtain ⟨ca, ta, ha⟩ := ha
  obtain ⟨cb, tb, hb⟩ := hb
  exact run_eql_iface_ptr_other w Tryz.underlying35 Tryz.underlying218 hi hc hj (by rw [hs]; decide) hne ha hb

set_option maxRecDepth 100000 in
set_option maxHeartbeats 1000000 in
theorem is_same (a : Addr) (w : World) :
    Calls Tryz.prog 51 #[errV a, errV a] w fun e w' => e = .returned (.bool true) ∧ w = w' := by
  have h10 := @run_callFunc_extern Tryz.prog 78 _ ReflectliteType.typeOf Tryz.func78 (by kernel_rfl) (by kernel_rfl) (by kernel_rfl) (by kernel_rfl)
  have h30 := @run_callFunc_extern Tryz.prog 157 _ (Extern.ReflectliteType.method fun t => do Rtype.noPackHeld "Comparable" t; pure (.bool (← typeInfo t).comparable)) Tryz.func157 (by kernel_rfl) (by kernel_rfl) (by kernel_rfl) (by kernel_rfl)
  have tO := as_typeOfE
  have mC := is_methodComparable
  have cC := is_comparable
  have he := fun w => eql_same a w
  go_enter Tryz.func51, Tryz.ntmps51
  go_wp2
  refine wp_loop_rounds 1 ?_
  rw [rounds_succ]
  go_wp2
  go_ret
  exact ⟨rfl, rfl⟩
set_option maxRecDepth 100000 in
set_option maxHeartbeats 1000000 in
theorem is_other {a b : Addr} (w : World) (hne : a ≠ b) (ha : Blk w a) (hb : Blk w b) :
    Calls Tryz.prog 51 #[errV a, errV b] w fun e w' => e = .returned (.bool false) ∧ w = w' := by
  have h10 := @run_callFunc_extern Tryz.prog 78 _ ReflectliteType.typeOf Tryz.func78 (by kernel_rfl) (by kernel_rfl) (by kernel_rfl) (by kernel_rfl)
  have h30 := @run_callFunc_extern Tryz.prog 157 _ (Extern.ReflectliteType.method fun t => do Rtype.noPackHeld "Comparable" t; pure (.bool (← typeInfo t).comparable)) Tryz.func157 (by kernel_rfl) (by kernel_rfl) (by kernel_rfl) (by kernel_rfl)
  have tO := as_typeOfE
  have mC := is_methodComparable
  have cC := is_comparable
  have he := eql_other w hne ha hb
  have nI := noIsE
  have nU := noUnwrapE
  have nUs := noUnwrapsE
  clear hne ha hb
  go_enter Tryz.func51, Tryz.ntmps51
  go_wp2
  refine wp_loop_rounds 1 ?_
  rw [rounds_succ]
  go_wp2
  go_ret
  exact ⟨rfl, rfl⟩

/-- the twelve errors of package api: where their texts lie. -/
structure ErrEnv (w : World) (E : Nat → Addr) : Prop where
  c0 : w.cell? ⟨7, 0, none⟩ = some (errV (E 0))
  c1 : w.cell? ⟨3, 0, none⟩ = some (errV (E 1))
  c2 : w.cell? ⟨6, 0, none⟩ = some (errV (E 2))
  c3 : w.cell? ⟨2, 0, none⟩ = some (errV (E 3))
  c4 : w.cell? ⟨0, 0, none⟩ = some (errV (E 4))
  c5 : w.cell? ⟨4, 0, none⟩ = some (errV (E 5))
  c6 : w.cell? ⟨5, 0, none⟩ = some (errV (E 6))
  c7 : w.cell? ⟨8, 0, none⟩ = some (errV (E 7))
  c8 : w.cell? ⟨9, 0, none⟩ = some (errV (E 8))
  c9 : w.cell? ⟨1, 0, none⟩ = some (errV (E 9))
  c10 : w.cell? ⟨10, 0, none⟩ = some (errV (E 10))
  c11 : w.cell? ⟨11, 0, none⟩ = some (errV (E 11))
  hnd : w.cell? ⟨12, 0, none⟩ = some (.iface 183 (.agg #[.pointer (some ⟨14, 35, none⟩)]))
  blk : ∀ k, k < 12 → Blk w (E k)
  ne : ∀ i j, i < 12 → j < 12 → i ≠ j → E i ≠ E j
theorem lt_of_cell {w : World} {p : Addr} {v : Value} (h : w.cell? p = some v) : p.block < w.heap.size := by
  rcases Nat.lt_or_ge p.block w.heap.size with h1 | h1
  · exact h1
  · simp [World.cell?, Array.getElem?_eq_none h1] at h
theorem Blk.below {n : Nat} {w w' : World} {a : Addr} (hb : Below n w w') (hn : w.heap.size ≤ n) (h : Blk w a) : Blk w' a := by
  obtain ⟨c, t, h⟩ := h
  exact ⟨c, t, (hb.block _ (Nat.lt_of_lt_of_le (Array.getElem?_eq_some_iff.1 h).1 hn)).trans h⟩
theorem ErrEnv.below {n : Nat} {w w' : World} {E : Nat → Addr} (hb : Below n w w') (hn : w.heap.size ≤ n) (h : ErrEnv w E) : ErrEnv w' E := by
  have c : ∀ {p v}, w.cell? p = some v → w'.cell? p = some v := fun {p v} h => (hb.cell (Nat.lt_of_lt_of_le (lt_of_cell h) hn)).trans h
  exact ⟨c h.c0, c h.c1, c h.c2, c h.c3, c h.c4, c h.c5, c h.c6, c h.c7, c h.c8, c h.c9, c h.c10, c h.c11, c h.hnd, fun k hk => (h.blk k hk).below hb hn, h.ne⟩

/-- the list that Code builds. -/
def errCells (E : Nat → Addr) : Array Value := #[errV (E 0), errV (E 1), errV (E 2), errV (E 3), errV (E 4), errV (E 5), errV (E 6), errV (E 7), errV (E 8), errV (E 9), errV (E 10), errV (E 11)]
theorem errCells_at (E : Nat → Addr) {k : Nat} (hk : k < 12) : (errCells E)[k]? = some (errV (E k)) := by
  rcases (show k = 0 ∨ k = 1 ∨ k = 2 ∨ k = 3 ∨ k = 4 ∨ k = 5 ∨ k = 6 ∨ k = 7 ∨ k = 8 ∨ k = 9 ∨ k = 10 ∨ k = 11 by omega) with rfl | rfl | rfl | rfl | rfl | rfl | rfl | rfl | rfl | rfl | rfl | rfl <;> rfl

set_option maxHeartbeats 1000000 in
theorem code_nil (w : World) :
    Calls Tryz.prog 29 #[.nilIface] w fun e w' => e = .returned (.tuple #[.int .i64 0, .int .i64 (-1)]) ∧ w = w' := by
  go_enter Tryz.func29, Tryz.ntmps29
  go_wp2
  go_ret2
  exact ⟨rfl, rfl⟩

set_option maxRecDepth 100000 in
set_option maxHeartbeats 2000000 in
theorem code_err (E : Nat → Addr) (i : Nat) (hi : i < 12) (w : World) (hE : ErrEnv w E) :
    Calls Tryz.prog 29 #[errV (E i)] w fun e w' => e = .returned (.tuple #[.int .i64 ((i : Int) + 1), .int .i64 (-1)]) ∧ Below w.heap.size w w' := by
  go_enter Tryz.func29, Tryz.ntmps29
  go_wp2_with fail
  refine (as_miss (E i) ⟨w.heap.size, 0, none⟩ (.pointer none) _ ?_ ?_).mono ?_
  · exact (World.cell?_alloc_lt _ _ _ (lt_of_cell hE.hnd)).trans hE.hnd
  · simp
  rintro e w1 ⟨rfl, hb⟩
  simp only [World.size_alloc] at hb
  have hB : Below w.heap.size w w1 := ((Below.refl _ w).alloc (Nat.le_refl _) _).trans (hb.mono (by omega))
  have hE1 := hE.below hB (Nat.le_refl _)
  have hsz := hB.size
  obtain ⟨d0, d1, d2, d3, d4, d5, d6, d7, d8, d9, d10, d11, _, hblk, hne⟩ := hE1
  have Hblk := Lib.hid hblk; clear hblk
  have Hne := Lib.hid hne; clear hne
  clear hE hb
  go_wp2
  clear d0 d1 d2 d3 d4 d5 d6 d7 d8 d9 d10 d11
  obtain ⟨W, hW⟩ : ∃ W, w1.alloc (.cells #[errV (E 0), errV (E 1), errV (E 2), errV (E 3), errV (E 4), errV (E 5), errV (E 6), errV (E 7), errV (E 8), errV (E 9), errV (E 10), errV (E 11)] 35) = W := ⟨_, rfl⟩
  rw [hW]
  have hcs : ∀ k, k < 12 → W.cell? ⟨w1.heap.size, k, none⟩ = some (errV (E k)) := fun k hk => by
    rw [← hW, World.cell?_alloc_at _ _ _ _ rfl]
    exact errCells_at E hk
  have hBW : Below w.heap.size w W := by rw [← hW]; exact hB.alloc hsz _
  have hbk : ∀ k, k < 12 → Blk W (E k) := fun k hk => by
    rw [← hW]
    exact (Hblk.out k hk).below ((Below.refl w1.heap.size w1).alloc (Nat.le_refl _) _) (Nat.le_refl _)
  have Hcs := Lib.hid hcs; clear hcs
  have Hbk := Lib.hid hbk; clear hbk
  clear hW hB Hblk
  go_loop [30, 3] (fun vk va => ∃ k : Nat, k ≤ i ∧ vk = .int .i64 k ∧ va = .int .i64 (-1)) (fun k _ => 12 - (intOf k).toNat)
  case atStart => exact ⟨0, by omega, rfl, rfl⟩
  case round =>
    obtain ⟨k, hk, rfl, rfl⟩ := hrel
    have hck := Hcs.out k (by omega)
    have hk12 : (k : Int) < 12 := by omega
    by_cases hki : k = i
    · subst hki
      have His := Lib.hid (is_same (E k) W)
      go_wp2_with fail
      refine His.out.mono ?_
      rintro e w' ⟨rfl, rfl⟩
      go_wp2
      go_ret2
      exact ⟨rfl, hBW⟩
    · have His := Lib.hid (is_other (a := E i) (b := E k) W (Hne.out i k hi (by omega) (Ne.symm hki)) (Hbk.out i hi) (Hbk.out k (by omega)))
      go_wp2_with fail
      refine His.out.mono ?_
      rintro e w' ⟨rfl, rfl⟩
      go_wp2
      go_round
      case rel => exact ⟨k + 1, by omega, by go_num, rfl⟩
      case measure => simp [intOf]; omega

/-! ### the laws' coded -/
end Go.Proofs.YtolbdcmoblcakaaGreatDoor
