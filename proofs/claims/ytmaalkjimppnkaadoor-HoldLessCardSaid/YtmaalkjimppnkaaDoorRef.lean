/- The document's product, inverse and power of bytes: plain laws and walks. -/
import Derived.Test.YtmaalkjimppnkaaDoorFieldB
namespace Go.Proofs.YtmaalkjimppnkaaDoor
open Go.RowKit

namespace Rf
/-- the product of polynomials, i bits of b being over. -/
def ph1 (a b : Nat) : Nat → Nat
  | 0 => 0
  | i + 1 => if b / 2 ^ i % 2 = 1 then ph1 a b i ^^^ a * 2 ^ i else ph1 a b i
/-- what is left, k of the seven upper bits being over. -/
def ph2 (n : Nat) : Nat → Nat
  | 0 => n
  | k + 1 => if ph2 n k / 2 ^ (14 - k) % 2 = 1 then ph2 n k ^^^ 285 * 2 ^ (6 - k) else ph2 n k
def mul (a b : Nat) : Nat := ph2 (ph1 a b 8) 7 % 256

theorem xor_mul_pow (a b i : Nat) : (a ^^^ b) * 2 ^ i = (a * 2 ^ i) ^^^ (b * 2 ^ i) := by
  have h := Nat.shiftLeft_xor_distrib (a := a) (b := b) (i := i)
  simpa [Nat.shiftLeft_eq] using h
theorem xor_bit (a b i : Nat) : (a ^^^ b) / 2 ^ i % 2 = (a / 2 ^ i % 2) ^^^ (b / 2 ^ i % 2) := by
  have h := Nat.shiftRight_xor_distrib (a := a) (b := b) (i := i)
  simp only [Nat.shiftRight_eq_div_pow] at h
  rw [h, Gf.xor_mod_2]
theorem ph1_left (a a' b : Nat) : ∀ i, ph1 (a ^^^ a') b i = ph1 a b i ^^^ ph1 a' b i
  | 0 => (by decide : 0 = 0 ^^^ 0)
  | i + 1 => by
    unfold ph1
    rw [ph1_left a a' b i]
    split
    · rw [xor_mul_pow, Gf.xor4]
    · rfl
/-- one of two, by a bit of a sum. -/
theorem pick_xor {p q x y c : Nat} (hp : p < 2) (hq : q < 2) : (if p ^^^ q = 1 then (x ^^^ y) ^^^ c else x ^^^ y) = (if p = 1 then x ^^^ c else x) ^^^ (if q = 1 then y ^^^ c else y) := by
  rcases (show p = 0 ∨ p = 1 by omega) with rfl | rfl <;> rcases (show q = 0 ∨ q = 1 by omega) with rfl | rfl
  · simp
  · simp; ac_rfl
  · simp; ac_rfl
  · have : (x ^^^ c) ^^^ (y ^^^ c) = x ^^^ y := by rw [Gf.xor4, Nat.xor_self, Nat.xor_zero]
    simp [this]
theorem ph1_right (a b b' : Nat) : ∀ i, ph1 a (b ^^^ b') i = ph1 a b i ^^^ ph1 a b' i
  | 0 => (by decide : 0 = 0 ^^^ 0)
  | i + 1 => by
    unfold ph1
    rw [ph1_right a b b' i, xor_bit]
    exact pick_xor (by omega) (by omega)
theorem ph2_xor (n n' : Nat) : ∀ k, ph2 (n ^^^ n') k = ph2 n k ^^^ ph2 n' k
  | 0 => rfl
  | k + 1 => by
    unfold ph2
    rw [ph2_xor n n' k, xor_bit]
    exact pick_xor (by omega) (by omega)
theorem mul_left (a a' b : Nat) : mul (a ^^^ a') b = mul a b ^^^ mul a' b := by
  unfold mul; rw [ph1_left, ph2_xor, Gf.xor_mod_256]
theorem mul_right (a b b' : Nat) : mul a (b ^^^ b') = mul a b ^^^ mul a b' := by
  unfold mul; rw [ph1_right, ph2_xor, Gf.xor_mod_256]
theorem base : ∀ i, i < 8 → ∀ j, j < 8 → mul (2 ^ i) (2 ^ j) = Gf.mul (2 ^ i) (2 ^ j) := by decide +kernel
/-- the document's product is the program's. -/
theorem mul_eq {a b : Nat} (ha : a < 256) (hb : b < 256) : mul a b = Gf.mul a b := by
  refine Gf.lin_ext (fun x => mul x b) (fun x => Gf.mul x b) (fun x y _ _ => mul_left x y b) (fun x y hx hy => Gf.mul_xor_left b hx hy) (fun i hi => ?_) a ha
  refine Gf.lin_ext (fun y => mul (2 ^ i) y) (fun y => Gf.mul (2 ^ i) y) (fun x y _ _ => mul_right _ x y) (fun x y _ _ => Gf.mul_xor_right _ x y) (fun j hj => ?_) b hb
  exact base i hi j hj
theorem ph1_lt {a : Nat} (b : Nat) (ha : a < 256) : ∀ i, i ≤ 8 → ph1 a b i < 2 ^ (i + 8)
  | 0, _ => (by decide : 0 < 256)
  | i + 1, hi => by
    have ih := ph1_lt b ha i (by omega)
    have h1 : ph1 a b i < 2 ^ (i + 1 + 8) := Nat.lt_of_lt_of_le ih (Nat.pow_le_pow_right (by decide) (by omega))
    have h2 : a * 2 ^ i < 2 ^ (i + 1 + 8) := by
      have e : 2 ^ (i + 1 + 8) = 512 * 2 ^ i := by rw [show i + 1 + 8 = 9 + i by omega, Nat.pow_add]
      have := Nat.pos_of_ne_zero (Nat.pos_iff_ne_zero.1 (Nat.two_pow_pos i))
      rw [e]
      exact Nat.mul_lt_mul_of_pos_right (by omega) this
    unfold ph1
    split
    · exact Nat.xor_lt_two_pow h1 h2
    · exact h1
theorem ph2_lt {n : Nat} (hn : n < 65536) : ∀ k, k ≤ 7 → ph2 n k < 65536
  | 0, _ => hn
  | k + 1, hk => by
    have ih := ph2_lt hn k (by omega)
    unfold ph2
    split
    · refine Nat.xor_lt_two_pow (n := 16) ih ?_
      have : 2 ^ (6 - k) ≤ 2 ^ 6 := Nat.pow_le_pow_right (by decide) (by omega)
      omega
    · exact ih
end Rf

theorem int_pow (i : Nat) : (2 : Int) ^ i = ((2 ^ i : Nat) : Int) := by simp
theorem tbit (b i : Nat) : ((b : Int) / 2 ^ i).tmod 2 = ((b / 2 ^ i % 2 : Nat) : Int) := by
  rw [int_pow, ← Int.natCast_ediv]
  generalize b / 2 ^ i = m
  rw [Int.tmod_eq_emod_of_nonneg (by omega)]
  omega
theorem xor_i64_nat (a b : Nat) (ha : a < 65536) (hb : b < 65536) : bits .xor .i64 (a : Int) (b : Int) = ((a ^^^ b : Nat) : Int) := by
  have hx : a ^^^ b < 65536 := Nat.xor_lt_two_pow (n := 16) ha hb
  have e : ∀ n : Nat, n < 65536 → (BitVec.ofInt 64 (n : Int)).toNat = n := fun n hn => by
    rw [BitVec.toNat_ofInt]; omega
  show IntKind.i64.wrap ((BitVec.ofInt 64 (a : Int) ^^^ BitVec.ofInt 64 (b : Int)).toNat : Nat) = _
  rw [BitVec.toNat_xor, e a ha, e b hb, IntKind.wrap_i64]
  omega

set_option maxHeartbeats 1000000 in
theorem rmul_walk (a b : Nat) (w : World) (ha : a < 256) (hb : b < 256) :
    Calls Tryd.prog 100 #[.int .u8 a, .int .u8 b] w fun e w' => e = .returned (.int .u8 (Gf.mul a b : Nat)) ∧ w = w' := by
  rw [← Rf.mul_eq ha hb]
  go_enter Tryd.func100, Tryd.ntmps100
  go_wp2
  go_loop [6, 5] (fun vi vn => ∃ i : Nat, i ≤ 8 ∧ vi = .int .i64 i ∧ vn = .int .i64 (Rf.ph1 a b i : Nat)) (fun i _ => 8 - (intOf i).toNat)
  case atStart => exact ⟨0, by omega, rfl, rfl⟩
  case round =>
    obtain ⟨i, hi, rfl, rfl⟩ := hrel
    have hn := Rf.ph1_lt b ha i hi
    have hp : 2 ^ (i + 8) ≤ 65536 := Nat.pow_le_pow_right (n := 2) (j := 16) (by decide) (by omega)
    have hn2 : Rf.ph1 a b i < 65536 := by omega
    clear hn hp
    by_cases hlt : i < 8
    · by_cases h1 : b / 2 ^ i % 2 = 1
      · have ht : (((b : Int) / 2 ^ i).tmod 2 == 1) = true := by rw [tbit, h1]; rfl
        have hs : Rf.ph1 a b (i + 1) = Rf.ph1 a b i ^^^ a * 2 ^ i := by rw [Rf.ph1, if_pos h1]
        have Hs := Lib.hid hs; clear hs h1
        have h2 : 2 ^ i ≤ 128 := Nat.pow_le_pow_right (n := 2) (j := 7) (by decide) (by omega)
        have h3 : a * 2 ^ i < 65536 := Nat.lt_of_le_of_lt (Nat.mul_le_mul (Nat.le_of_lt_succ ha) h2) (by decide)
        have h4 : wrap64 ((a : Int) * 2 ^ i) = ((a * 2 ^ i : Nat) : Int) := by
          have e : (a : Int) * 2 ^ i = ((a * 2 ^ i : Nat) : Int) := by simp
          rw [e]
          have h5 : ((a * 2 ^ i : Nat) : Int) < 65536 := Int.ofNat_lt.2 h3
          have h6 : (0 : Int) ≤ ((a * 2 ^ i : Nat) : Int) := Int.natCast_nonneg _
          generalize ((a * 2 ^ i : Nat) : Int) = z at h5 h6
          exact IntWalk.wrap64_in _ ⟨by omega, by omega⟩
        have H3 := Lib.hid h3
        have H4 := Lib.hid h4
        clear h2 h3 h4
        go_wp2
        go_round
        case rel => exact ⟨i + 1, by omega, by go_num, by rw [Hs.out, H4.out, xor_i64_nat _ _ hn2 H3.out]⟩
        case measure => simp [intOf]; omega
      · have ht : (((b : Int) / 2 ^ i).tmod 2 == 1) = false := by
          have h0 : b / 2 ^ i % 2 = 0 := by omega
          rw [tbit, h0]; rfl
        have hs : Rf.ph1 a b (i + 1) = Rf.ph1 a b i := by rw [Rf.ph1, if_neg h1]
        have Hs := Lib.hid hs; clear hs h1
        go_wp2
        go_round
        case rel => exact ⟨i + 1, by omega, by go_num, by rw [Hs.out]⟩
        case measure => simp [intOf]; omega
    · obtain rfl : i = 8 := by omega
      clear hi hlt
      have e0 : Rf.mul a b = Rf.ph2 (Rf.ph1 a b 8) 7 % 256 := rfl
      have E0 := Lib.hid e0; clear e0
      generalize Rf.ph1 a b 8 = m at hn2 E0
      go_wp2
      go_loop [7, 5] (fun vi vn => ∃ k : Nat, k ≤ 7 ∧ vi = .int .i64 (14 - (k : Int)) ∧ vn = .int .i64 (Rf.ph2 m k : Nat)) (fun i _ => (intOf i).toNat)
      case atStart => exact ⟨0, by omega, by simp, rfl⟩
      case round =>
        obtain ⟨k, hk, rfl, rfl⟩ := hrel
        have hm2 := Rf.ph2_lt hn2 k hk
        by_cases hlk : k < 7
        · obtain ⟨j, hj⟩ : ∃ j : Nat, j + k = 14 := ⟨14 - k, by omega⟩
          have ej : (14 : Int) - (k : Int) = (j : Int) := by omega
          rw [ej]
          have hj8 : (8 : Int) ≤ (j : Int) := by omega
          have hj15 : (j : Int) < 15 := by omega
          have ek : 14 - k = j := by omega
          have ek6 : 6 - k = j - 8 := by omega
          by_cases h1 : Rf.ph2 m k / 2 ^ j % 2 = 1
          · have ht : (((Rf.ph2 m k : Nat) : Int) / 2 ^ j).tmod 2 = 1 := by rw [tbit, h1]; rfl
            have hs : Rf.ph2 m (k + 1) = Rf.ph2 m k ^^^ 285 * 2 ^ (j - 8) := by rw [Rf.ph2, ek, ek6, if_pos h1]
            have Hs := Lib.hid hs; clear hs h1
            have Hj := Lib.hid hj; clear hj
            clear ek ek6 ej
            generalize Rf.ph2 m k = q at hm2 ht Hs
            go_wp2
            go_round
            case rel => exact ⟨k + 1, by omega, by rw [show (14 : Int) - ((k + 1 : Nat) : Int) = (j : Int) - 1 from by have := Hj.out; omega], by
              have h2 : 2 ^ (j - 8) ≤ 64 := Nat.pow_le_pow_right (n := 2) (j := 6) (by decide) (by omega)
              have h4 : wrap64 (285 * 2 ^ (j - 8)) = ((285 * 2 ^ (j - 8) : Nat) : Int) := by
                rw [int_pow]
                generalize 2 ^ (j - 8) = m at h2 ⊢
                rw [IntWalk.wrap64_in _ ⟨by omega, by omega⟩]
                omega
              rw [Hs.out, h4, xor_i64_nat _ _ hm2 (by omega)]⟩
            case measure => simp [intOf]; omega
          · have ht : (((Rf.ph2 m k : Nat) : Int) / 2 ^ j).tmod 2 = 0 := by rw [tbit]; omega
            have hs : Rf.ph2 m (k + 1) = Rf.ph2 m k := by rw [Rf.ph2, ek, if_neg h1]
            have Hs := Lib.hid hs; clear hs h1
            have Hj := Lib.hid hj; clear hj
            clear ek ek6 ej
            generalize Rf.ph2 m k = q at hm2 ht Hs
            go_wp2
            go_round
            case rel => exact ⟨k + 1, by omega, by rw [show (14 : Int) - ((k + 1 : Nat) : Int) = (j : Int) - 1 from by have := Hj.out; omega], by rw [Hs.out]⟩
            case measure => simp [intOf]; omega
        · obtain rfl : k = 7 := by omega
          go_wp2
          go_ret
          exact ⟨ret_int (by rw [E0.out]; omega), rfl⟩

set_option maxHeartbeats 1000000 in
theorem rinv_walk (a : Nat) (w : World) (ha : a < 256) (h0 : a ≠ 0) :
    Calls Tryd.prog 143 #[.int .u8 a] w fun e w' => e = .returned (.int .u8 (Gf.inv a : Nat)) ∧ w = w' := by
  have hi := Gf.inv_lt ha
  have hm := Gf.mul_inv ha h0
  have hi0 : Gf.inv a ≠ 0 := fun e => by rw [e, Gf.mul_zero] at hm; exact absurd hm (by decide)
  have Hm := Lib.hid hm; clear hm
  go_enter Tryd.func143, Tryd.ntmps143
  go_wp2
  go_loop [3] (fun vi => ∃ i : Nat, i ≤ Gf.inv a ∧ 1 ≤ i ∧ vi = .int .i64 i) (fun i => 256 - (intOf i).toNat)
  case atStart => exact ⟨1, by omega, by omega, rfl⟩
  case round =>
    obtain ⟨i, hle, h1, rfl⟩ := hrel
    have hlt : (i : Int) < 256 := by omega
    go_wp2_with fail
    refine (rmul_walk a i _ ha (by omega)).mono ?_
    rintro e w' ⟨rfl, rfl⟩
    by_cases he : Gf.mul a i = 1
    · have hr : i = Gf.inv a := Gf.inv_unique ha (by omega) he
      have Hr := Lib.hid hr; clear hr
      go_wp2
      go_ret
      exact ⟨ret_int (by rw [← Hr.out]), rfl⟩
    · have ht : (((Gf.mul a i : Nat) : Int) == 1) = false := by simp; omega
      have hne : i ≠ Gf.inv a := fun e => he (by rw [e]; exact Hm.out)
      clear he
      go_wp2
      go_round
      case rel => exact ⟨i + 1, by omega, by omega, by go_num⟩
      case measure => simp [intOf]; omega

/-- what the document's Pow answers: the power, or an error's number. -/
def rpowE (a : Nat) (n : Int) : Int := if n = 0 then 0 else if a = 0 ∧ n < 0 then 12 else 0
def rpowV (a : Nat) (n : Int) : Nat := if a = 0 ∧ n < 0 then 0 else powZ a n
theorem ret2_ii {k : IntKind} {a b : Int} {c d : Int} {j : IntKind} (h : a = b) (h' : c = d) : Ending.returned (.tuple #[.int k a, .int j c]) = .returned (.tuple #[.int k b, .int j d]) := by rw [h, h']
theorem tmod_neg (n : Int) : (if n.tmod 255 < 0 then n.tmod 255 + 255 else n.tmod 255) = (((n % 255).toNat : Nat) : Int) := by
  obtain ⟨h1, h2, q, hq⟩ := tmod_bd n
  split <;> omega

end Go.Proofs.YtmaalkjimppnkaaDoor
