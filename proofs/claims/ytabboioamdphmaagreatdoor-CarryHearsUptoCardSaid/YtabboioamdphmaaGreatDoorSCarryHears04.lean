/- The document's product, inverse and power of bytes: plain laws and walks. -/
import Derived.Test.YtabboioamdphmaaGreatDoorSCarryHears02
import Derived.Deep.QuietTactic
import Derived.BigQuiet
import Derived.Test.YtabboioamdphmaaGreatDoorSCarryHears03
namespace Go.Proofs.YtabboioamdphmaaGreatDoor
open Go.RowKit

namespace Rf
def ph1 (a b : Nat) : Nat → Nat
  | 0 => 0
  | i + 1 => if b / 2 ^ i % 2 = 1 then ph1 a b i ^^^ a * 2 ^ i else ph1 a b i
def ph2 (n : Nat) : Nat → Nat
  | 0 => n
  | k + 1 => if ph2 n k / 2 ^ (14 - k) % 2 = 1 then ph2 n k ^^^ 285 * 2 ^ (6 - k) else ph2 n k
def mul (a b : Nat) : Nat := ph2 (ph1 a b 8) 7 % 256

theorem xor_mul_pow (a b i : Nat) : (a ^^^ b) * 2 ^ i = (a * 2 ^ i) ^^^ (b * 2 ^ i) := by
  have h := Nat.shiftLeft_xor_distrib (a := a) (b := b) (i := i)
  simpa [Nat.shiftLeft_eq] using h
theorem xor_bit (a b i : Nat) : (a ^^^ b) / 2 ^ i % 2 = (a / 2 ^ i % 2) ^^^ (b / 2 ^ i % 2) := by
  have h := Nat.shiftRight_xor_distrib (a := a) (b := b) (i := i)
  simp only [Nat.shiftRight_eq_div_pow] at h
  rw [h, Gf.xor_mod_2]
theorem ph1_left (a a' b : Nat) : ∀ i, ph1 (a ^^^ a') b i = ph1 a b i ^^^ ph1 a' b i
  | 0 => (by decide : 0 = 0 ^^^ 0)
  | i + 1 => by
    unfold ph1
    rw [ph1_left a a' b i]
    split
    · rw [xor_mul_pow, Gf.xor4]
    · rfl
theorem pick_xor {p q x y c : Nat} (hp : p < 2) (hq : q < 2) : (if p ^^^ q = 1 then (x ^^^ y) ^^^ c else x ^^^ y) = (if p = 1 then x ^^^ c else x) ^^^ (if q = 1 then y ^^^ c else y) := by
  rcases (show p = 0 ∨ p = 1 by omega) with rfl | rfl <;> rcases (show q = 0 ∨ q = 1 by omega) with rfl | rfl
  · simp
  · simp; ac_rfl
  · simp; ac_rfl
  · have : (x ^^^ c) ^^^ (y ^^^ c) = x ^^^ y := by rw [Gf.xor4, Nat.xor_self, Nat.xor_zero]
    simp [this]
theorem ph1_right (a b b' : Nat) : ∀ i, ph1 a (b ^^^ b') i = ph1 a b i ^^^ ph1 a b' i
  | 0 => (by decide : 0 = 0 ^^^ 0)
  | i + 1 => by
    unfold ph1
    rw [ph1_right a b b' i, xor_bit]
    exact pick_xor (by omega) (by omega)
theorem ph2_xor (n n' : Nat) : ∀ k, ph2 (n ^^^ n') k = ph2 n k ^^^ ph2 n' k
  | 0 => rfl
  | k + 1 => by
    unfold ph2
    rw [ph2_xor n n' k, xor_bit]
    exact pick_xor (by omega) (by omega)
theorem mul_left (a a' b : Nat) : mul (a ^^^ a') b = mul a b ^^^ mul a' b := by
  unfold mul; rw [ph1_left, ph2_xor, Gf.xor_mod_256]
theorem mul_right (a b b' : Nat) : mul a (b ^^^ b') = mul a b ^^^ mul a b' := by
  unfold mul; rw [ph1_right, ph2_xor, Gf.xor_mod_256]
theorem base : ∀ i, i < 8 → ∀ j, j < 8 → mul (2 ^ i) (2 ^ j) = Gf.mul (2 ^ i) (2 ^ j) := by decide +kernel
theorem mul_eq {a b : Nat} (ha : a < 256) (hb : b < 256) : mul a b = Gf.mul a b := by
  refine Gf.lin_ext (fun x => mul x b) (fun x => Gf.mul x b) (fun x y _ _ => mul_left x y b) (fun x y hx hy => Gf.mul_xor_left b hx hy) (fun i hi => ?_) a ha
  refine Gf.lin_ext (fun y => mul (2 ^ i) y) (fun y => Gf.mul (2 ^ i) y) (fun x y _ _ => mul_right _ x y) (fun x y _ _ => Gf.mul_xor_right _ x y) (fun j hj => ?_) b hb
  exact base i hi j hj
theorem ph1_lt {a : Nat} (b : Nat) (ha : a < 256) : ∀ i, i ≤ 8 → ph1 a b i < 2 ^ (i + 8)
  | 0, _ => (by decide : 0 < 256)
  | i + 1, hi => by
    have ih := ph1_lt b ha i (by omega)
    have h1 : ph1 a b i < 2 ^ (i + 1 + 8) := Nat.lt_of_lt_of_le ih (Nat.pow_le_pow_right (by decide) (by omega))
    have h2 : a * 2 ^ i < 2 ^ (i + 1 + 8) := by
      have e : 2 ^ (i + 1 + 8) = 512 * 2 ^ i := by rw [show i + 1 + 8 = 9 + i by omega, Nat.pow_add]
      have := Nat.pos_of_ne_zero (Nat.pos_iff_ne_zero.1 (Nat.two_pow_pos i))
      rw [e]
      exact Nat.mul_lt_mul_of_pos_right (by omega) this
    unfold ph1
    split
    · exact Nat.xor_lt_two_pow h1 h2
    · exact h1
theorem ph2_lt {n : Nat} (hn : n < 65536) : ∀ k, k ≤ 7 → ph2 n k < 65536
  | 0, _ => hn
  | k + 1, hk => by
    have ih := ph2_lt hn k (by omega)
    unfold ph2
    split
    · refine Nat.xor_lt_two_pow (n := 16) ih ?_
      have : 2 ^ (6 - k) ≤ 2 ^ 6 := Nat.pow_le_pow_right (by decide) (by omega)
      omega
    · exact ih
end Rf

theorem int_pow (i : Nat) : (2 : Int) ^ i = ((2 ^ i : Nat) : Int) := by simp
theorem tbit (b i : Nat) : ((b : Int) / 2 ^ i).tmod 2 = ((b / 2 ^ i % 2 : Nat) : Int) := by
  rw [int_pow, ← Int.natCast_ediv]
  generalize b / 2 ^ i = m
  rw [Int.tmod_eq_emod_of_nonneg (by omega)]
  omega
theorem xor_i64_nat (a b : Nat) (ha : a < 65536) (hb : b < 65536) : bits .xor .i64 (a : Int) (b : Int) = ((a ^^^ b : Nat) : Int) := by
  have hx : a ^^^ b < 65536 := Nat.xor_lt_two_pow (n := 16) ha hb
  have e : ∀ n : Nat, n < 65536 → (BitVec.ofInt 64 (n : Int)).toNat = n := fun n hn => by
    rw [BitVec.toNat_ofInt]; omega
  show IntKind.i64.wrap ((BitVec.ofInt 64 (a : Int) ^^^ BitVec.ofInt 64 (b : Int)).toNat : Nat) = _
  rw [BitVec.toNat_xor, e a ha, e b hb, IntKind.wrap_i64]
  omega

set_option maxHeartbeats 1000000 in
theorem rmul_walk (a b : Nat) (w : World) (ha : a < 256) (hb : b < 256) :
    Calls Tryz.prog 91 #[.int .u8 a, .int .u8 b] w fun e w' => e = .returned (.int .u8 (Gf.mul a b : Nat)) ∧ w = w' := by
  rw [← Rf.mul_eq ha hb]
  go_enter Tryz.func91, Tryz.ntmps91
  go_wp2
  go_loop [6, 5] (fun vi vn => ∃ i : Nat, i ≤ 8 ∧ vi = .int .i64 i ∧ vn = .int .i64 (Rf.ph1 a b i : Nat)) (fun i _ => 8 - (intOf i).toNat)
  case atStart => exact ⟨0, by omega, rfl, rfl⟩
  case round =>
    obtain ⟨i, hi, rfl, rfl⟩ := hrel
    have hn := Rf.ph1_lt b ha i hi
    have hp : 2 ^ (i + 8) ≤ 65536 := Nat.pow_le_pow_right (n := 2) (j := 16) (by decide) (by omega)
    have hn2 : Rf.ph1 a b i < 65536 := by omega
    clear hn hp
    by_cases hlt : i < 8
    · by_cases h1 : b / 2 ^ i % 2 = 1
      · have ht : (((b : Int) / 2 ^ i).tmod 2 == 1) = true := by rw [tbit, h1]; rfl
        have hs : Rf.ph1 a b (i + 1) = Rf.ph1 a b i ^^^ a * 2 ^ i := by rw [Rf.ph1, if_pos h1]
        have Hs := Lib.hid hs; clear hs h1
        have h2 : 2 ^ i ≤ 128 := Nat.pow_le_pow_right (n := 2) (j := 7) (by decide) (by omega)
        have h3 : a * 2 ^ i < 65536 := Nat.lt_of_le_of_lt (Nat.mul_le_mul (Nat.le_of_lt_succ ha) h2) (by decide)
        have h4 : wrap64 ((a : Int) * 2 ^ i) = ((a * 2 ^ i : Nat) : Int) := by
          have e : (a : Int) * 2 ^ i = ((a * 2 ^ i : Nat) : Int) := by simp
          rw [e]
          have h5 : ((a * 2 ^ i : Nat) : Int) < 65536 := Int.ofNat_lt.2 h3
          have h6 : (0 : Int) ≤ ((a * 2 ^ i : Nat) : Int) := Int.natCast_nonneg _
          generalize ((a * 2 ^ i : Nat) : Int) = z at h5 h6
          exact IntWalk.wrap64_in _ ⟨by omega, by omega⟩
        have H3 := Lib.hid h3
        have H4 := Lib.hid h4
        clear h2 h3 h4
        go_wp2
        go_round
        case rel => exact ⟨i + 1, by omega, by go_num, by rw [Hs.out, H4.out, xor_i64_nat _ _ hn2 H3.out]⟩
        case measure => simp [intOf]; omega
      · have ht : (((b : Int) / 2 ^ i).tmod 2 == 1) = false := by
          have h0 : b / 2 ^ i % 2 = 0 := by omega
          rw [tbit, h0]; rfl
        have hs : Rf.ph1 a b (i + 1) = Rf.ph1 a b i := by rw [Rf.ph1, if_neg h1]
        have Hs := Lib.hid hs; clear hs h1
        go_wp2
        go_round
        case rel => exact ⟨i + 1, by omega, by go_num, by rw [Hs.out]⟩
        case measure => simp [intOf]; omega
    · obtain rfl : i = 8 := by omega
      clear hi hlt
      have e0 : Rf.mul a b = Rf.ph2 (Rf.ph1 a b 8) 7 % 256 := rfl
      have E0 := Lib.hid e0; clear e0
      generalize Rf.ph1 a b 8 = m at hn2 E0
      go_wp2
      go_loop [7, 5] (fun vi vn => ∃ k : Nat, k ≤ 7 ∧ vi = .int .i64 (14 - (k : Int)) ∧ vn = .int .i64 (Rf.ph2 m k : Nat)) (fun i _ => (intOf i).toNat)
      case atStart => exact ⟨0, by omega, by simp, rfl⟩
      case round =>
        obtain ⟨k, hk, rfl, rfl⟩ := hrel
        have hm2 := Rf.ph2_lt hn2 k hk
        by_cases hlk : k < 7
        · obtain ⟨j, hj⟩ : ∃ j : Nat, j + k = 14 := ⟨14 - k, by omega⟩
          have ej : (14 : Int) - (k : Int) = (j : Int) := by omega
          rw [ej]
          have hj8 : (8 : Int) ≤ (j : Int) := by omega
          have hj15 : (j : Int) < 15 := by omega
          have ek : 14 - k = j := by omega
          have ek6 : 6 - k = j - 8 := by omega
          by_cases h1 : Rf.ph2 m k / 2 ^ j % 2 = 1
          · have ht : (((Rf.ph2 m k : Nat) : Int) / 2 ^ j).tmod 2 = 1 := by rw [tbit, h1]; rfl
            have hs : Rf.ph2 m (k + 1) = Rf.ph2 m k ^^^ 285 * 2 ^ (j - 8) := by rw [Rf.ph2, ek, ek6, if_pos h1]
            have Hs := Lib.hid hs; clear hs h1
            have Hj := Lib.hid hj; clear hj
            clear ek ek6 ej
            generalize Rf.ph2 m k = q at hm2 ht Hs
            go_wp2
            go_round
            case rel => exact ⟨k + 1, by omega, by rw [show (14 : Int) - ((k + 1 : Nat) : Int) = (j : Int) - 1 from by have := Hj.out; omega], by
              have h2 : 2 ^ (j - 8) ≤ 64 := Nat.pow_le_pow_right (n := 2) (j := 6) (by decide) (by omega)
              have h4 : wrap64 (285 * 2 ^ (j - 8)) = ((285 * 2 ^ (j - 8) : Nat) : Int) := by
                rw [int_pow]
                generalize 2 ^ (j - 8) = m at h2 ⊢
                rw [IntWalk.wrap64_in _ ⟨by omega, by omega⟩]
                omega
              rw [Hs.out, h4, xor_i64_nat _ _ hm2 (by omega)]⟩
            case measure => simp [intOf]; omega
          · have ht : (((Rf.ph2 m k : Nat) : Int) / 2 ^ j).tmod 2 = 0 := by rw [tbit]; omega
            have hs : Rf.ph2 m (k + 1) = Rf.ph2 m k := by rw [Rf.ph2, ek, if_neg h1]
            have Hs := Lib.hid hs; clear hs h1
            have Hj := Lib.hid hj; clear hj
            clear ek ek6 ej
            generalize Rf.ph2 m k = q at hm2 ht Hs
            go_wp2
            go_round
            case rel => exact ⟨k + 1, by omega, by rw [show (14 : Int) - ((k + 1 : Nat) : Int) = (j : Int) - 1 from by have := Hj.out; omega], by rw [Hs.out]⟩
            case measure => simp [intOf]; omega
        · obtain rfl : k = 7 := by omega
          go_wp2
          go_ret
          exact ⟨ret_int (by rw [E0.out]; omega), rfl⟩

set_option maxHeartbeats 1000000 in
theorem rinv_walk (a : Nat) (w : World) (ha : a < 256) (h0 : a ≠ 0) :
    Calls Tryz.prog 131 #[.int .u8 a] w fun e w' => e = .returned (.int .u8 (Gf.inv a : Nat)) ∧ w = w' := by
  have hi := Gf.inv_lt ha
  have hm := Gf.mul_inv ha h0
  have hi0 : Gf.inv a ≠ 0 := fun e => by rw [e, Gf.mul_zero] at hm; exact absurd hm (by decide)
  have Hm := Lib.hid hm; clear hm
  go_enter Tryz.func131, Tryz.ntmps131
  go_wp2
  go_loop [3] (fun vi => ∃ i : Nat, i ≤ Gf.inv a ∧ 1 ≤ i ∧ vi = .int .i64 i) (fun i => 256 - (intOf i).toNat)
  case atStart => exact ⟨1, by omega, by omega, rfl⟩
  case round =>
    obtain ⟨i, hle, h1, rfl⟩ := hrel
    have hlt : (i : Int) < 256 := by omega
    go_wp2_with fail
    refine (rmul_walk a i _ ha (by omega)).mono ?_
    rintro e w' ⟨rfl, rfl⟩
    by_cases he : Gf.mul a i = 1
    · have hr : i = Gf.inv a := Gf.inv_unique ha (by omega) he
      have Hr := Lib.hid hr; clear hr
      go_wp2
      go_ret
      exact ⟨ret_int (by rw [← Hr.out]), rfl⟩
    · have ht : (((Gf.mul a i : Nat) : Int) == 1) = false := by simp; omega
      have hne : i ≠ Gf.inv a := fun e => he (by rw [e]; exact Hm.out)
      clear he
      go_wp2
      go_round
      case rel => exact ⟨i + 1, by omega, by omega, by go_num⟩
      case measure => simp [intOf]; omega

end Go.Proofs.YtabboioamdphmaaGreatDoor
/- The walks of the document's Eval, Basis and Between. -/
namespace Go.Proofs.YtabboioamdphmaaGreatDoor
open Go.RowKit

theorem rmul_q (a b : Nat) (w : World) (ha : a < 256) (hb : b < 256) : Calls Tryz.prog 91 #[.int .u8 a, .int .u8 b] w fun e w' => e = .returned (.int .u8 (Gf.mul a b : Nat)) ∧ w' = w :=
  (rmul_walk a b w ha hb).mono fun _ _ ⟨h1, h2⟩ => ⟨h1, h2.symm⟩
theorem rinv_q (a : Nat) (w : World) (ha : a < 256) (h0 : a ≠ 0) : Calls Tryz.prog 131 #[.int .u8 a] w fun e w' => e = .returned (.int .u8 (Gf.inv a : Nat)) ∧ w' = w :=
  (rinv_walk a w ha h0).mono fun _ _ ⟨h1, h2⟩ => ⟨h1, h2.symm⟩

/-! ### Basis -/
def basN (xs : List Nat) (i x a : Nat) : Nat → Nat
  | 0 => 1
  | k + 1 => if k = i then basN xs i x a k else Gf.mul (basN xs i x a k) (Gf.mul (x ^^^ xs[k]?.getD 0) (Gf.inv (a ^^^ xs[k]?.getD 0)))
theorem basN_lt (xs : List Nat) (i x a : Nat) : ∀ k, basN xs i x a k < 256
  | 0 => (by decide : 1 < 256)
  | k + 1 => by
    unfold basN
    split
    · exact basN_lt xs i x a k
    · exact Gf.mul_lt _ (basN_lt xs i x a k)
def bas (xs : List Nat) (i x : Nat) : Nat := basN xs i x (xs[i]?.getD 0) xs.length
theorem inv_one : Gf.inv 1 = 1 := (Gf.inv_unique (by decide) (by decide) (by decide)).symm
theorem inv_mul_mul {a b : Nat} (ha : a < 256) (hb : b < 256) (h0 : a ≠ 0) (h1 : b ≠ 0) : Gf.inv (Gf.mul a b) = Gf.mul (Gf.inv a) (Gf.inv b) := by
  have la := Gf.inv_lt ha
  have lb := Gf.inv_lt hb
  refine (Gf.inv_unique (Gf.mul_lt _ ha) (Gf.mul_lt _ la) ?_).symm
  rw [Gf.mul_assoc _ ha hb (Gf.mul_lt _ la), ← Gf.mul_assoc _ hb la lb, Gf.mul_comm hb la, Gf.mul_assoc _ la hb lb, Gf.mul_inv hb h1, Gf.mul_one _ la, Gf.mul_inv ha h0]
theorem lag_bas {xs : List Nat} (hx : Bytes xs) (hu : Unlike xs) {i x y : Nat} (hxx : x < 256) (hy : y < 256) (hi : i < xs.length) : ∀ k, k ≤ xs.length →
    Gf.mul (lagN xs i x (xs[i]?.getD 0) y k).1 (Gf.inv (lagN xs i x (xs[i]?.getD 0) y k).2) = Gf.mul y (basN xs i x (xs[i]?.getD 0) k)
  | 0, _ => by show Gf.mul y (Gf.inv 1) = Gf.mul y 1; rw [inv_one]
  | k + 1, hk => by
    have ih := lag_bas hx hu hxx hy hi k (by omega)
    by_cases h : k = i
    · rw [lagN_skip h, basN, if_pos h]; exact ih
    · rw [lagN_step h, basN, if_neg h]
      have hd := lagN_down hx hu (x := x) (y := y) hi k (by omega)
      have hl := (lagN_lt hx (i := i) (x := x) (a := xs[i]?.getD 0) hy k).1
      have h1 := Gf.xor_lt hxx (hx.at k)
      have h2 := Gf.xor_lt (hx.at i) (hx.at k)
      have h3 := Gf.xor_ne_zero (hu i k hi (by omega) (Ne.symm h))
      show Gf.mul (Gf.mul _ _) (Gf.inv (Gf.mul _ _)) = _
      rw [inv_mul_mul hd.2 h2 hd.1 h3, ← Gf.mul_assoc _ hy (basN_lt _ _ _ _ _) (Gf.mul_lt _ h1), ← ih]
      have l1 := Gf.inv_lt hd.2
      have l2 := Gf.inv_lt h2
      generalize (lagN xs i x (xs[i]?.getD 0) y k).1 = u at hl
      generalize Gf.inv (lagN xs i x (xs[i]?.getD 0) y k).2 = v at l1
      generalize Gf.inv (xs[i]?.getD 0 ^^^ xs[k]?.getD 0) = t at l2
      generalize x ^^^ xs[k]?.getD 0 = s at h1
      rw [Gf.mul_assoc _ hl h1 (Gf.mul_lt _ l1), Gf.mul_assoc _ hl l1 (Gf.mul_lt _ h1), ← Gf.mul_assoc _ h1 l1 l2, ← Gf.mul_assoc _ l1 h1 l2, Gf.mul_comm h1 l1]
theorem lagT_bas {xs ys : List Nat} (hx : Bytes xs) (hy : Bytes ys) (hu : Unlike xs) {i x : Nat} (hxx : x < 256) (hi : i < xs.length) : lagT xs ys x i = Gf.mul (ys[i]?.getD 0) (bas xs i x) :=
  lag_bas hx hu hxx (hy.at i) hi xs.length (Nat.le_refl _)

set_option maxHeartbeats 1000000 in
theorem basis_walk (n₀ : Nat) (ax : Option Addr) (cap : Nat) (xs : List Nat) (i x : Nat) (w : World) (hx : Bytes xs) (hu : Unlike xs) (hxx : x < 256) (hl : xs.length ≤ maxLen) (hi : i < xs.length) (hI : RowAt n₀ w ax xs) :
    Calls Tryz.prog 108 #[.slice ax xs.length cap, .int .i64 i, .int .u8 x] w fun e w' => e = .returned (.int .u8 (bas xs i x : Nat)) ∧ ∃ nq, w' = w.drewN nq := by
  unfold maxLen at hl
  have ha : xs[i]?.getD 0 < 256 := hx.at i
  rcases hI with rfl | ⟨b, off, rfl, hb, hc⟩
  · simp at hi
  have hci := hc i hi
  have hdi : ∀ k, k < xs.length → k ≠ i → xs[i]?.getD 0 ^^^ xs[k]?.getD 0 ≠ 0 := fun k hk hn => Gf.xor_ne_zero (hu i k hi hk (Ne.symm hn))
  have Hd := Lib.hid hdi; clear hdi
  unfold bas
  generalize xs[i]?.getD 0 = a at ha hci Hd
  have Hc := Lib.hid hc; clear hc
  obtain ⟨len, hlen⟩ : ∃ len, len = xs.length := ⟨_, rfl⟩
  rw [← hlen] at hl hi ⊢
  have Hlen := Lib.hid hlen; clear hlen
  go_enter Tryz.func108, Tryz.ntmps108
  go_wp2
  go_loopw [8, 7] (fun vk vo wr => ∃ k nq : Nat, k ≤ len ∧ vk = .int .i64 k ∧ vo = .int .u8 (basN xs i x a k : Nat) ∧ wr = w.drewN nq) (fun k _ _ => len - (intOf k).toNat)
  case atStart => exact ⟨0, 0, by omega, rfl, rfl, rfl⟩
  case round =>
    rename_i wr
    obtain ⟨k, nq, hk, rfl, rfl, hw⟩ := hrel
    have h1 := basN_lt xs i x a k
    have hciw : wr.cell? ⟨b, off + i, none⟩ = some (.int .u8 (a : Int)) := by rw [hw]; exact hci
    have Hw := Lib.hid hw
    by_cases hlt : k < len
    · have hck : wr.cell? ⟨b, off + k, none⟩ = some (.int .u8 ((xs[k]?.getD 0 : Nat) : Int)) := by rw [hw]; exact Hc.out k (by have := Hlen.out; omega)
      clear hw
      have h3 : xs[k]?.getD 0 < 256 := hx.at k
      by_cases hki : k = i
      · have hs : basN xs i x a (k + 1) = basN xs i x a k := by rw [basN, if_pos hki]
        have Hs := Lib.hid hs; clear hs
        have hki2 : ((k : Int) != (i : Int)) = false := by rw [hki]; simp
        clear hki hck h3
        go_wp2
        go_roundw
        case rel => exact ⟨k + 1, nq, by omega, by go_num, by rw [Hs.out], Hw.out⟩
        case measure => simp [intOf]; omega
      · have hs : basN xs i x a (k + 1) = Gf.mul (basN xs i x a k) (Gf.mul (x ^^^ xs[k]?.getD 0) (Gf.inv (a ^^^ xs[k]?.getD 0))) := by rw [basN, if_neg hki]
        have hne := Hd.out k (by have := Hlen.out; omega) hki
        have hki2 : ((k : Int) != (i : Int)) = true := by simp; omega
        clear hki
        generalize xs[k]?.getD 0 = c at hck h3 hs hne
        have Hs := Lib.hid hs; clear hs
        have e1 := u8_xor_nat x c hxx h3
        have e2 := u8_xor_nat a c ha h3
        have l1 := Gf.xor_lt hxx h3
        have l2 := Gf.xor_lt ha h3
        have l3 := Gf.inv_lt l2
        have l4 := Gf.mul_lt (Gf.inv (a ^^^ c)) l1
        have Hne := Lib.hid hne; clear hne
        go_wp2
        go_quiet ((first | (go_at_call 131; exact Calls.quiet_of_same (rinv_q _ _ l2 Hne.out)) | (go_at_call 91; exact Calls.quiet_of_same (rmul_q _ _ _ (by assumption) (by assumption)))))
        go_wp2
        go_roundw
        case rel => exact ⟨k + 1, _, by omega, by go_num, by rw [Hs.out], by rw [Hw.out, World.drewN_drewN]⟩
        case measure => simp [intOf]; omega
    · clear hw
      go_wp2
      go_ret
      obtain rfl : k = len := by omega
      exact ⟨rfl, _, Hw.out⟩
end Go.Proofs.YtabboioamdphmaaGreatDoor
/- Plain laws: the document's rank (rows kept one by one), and Spread is Lagrange's. -/
namespace Go.Proofs.YtabboioamdphmaaGreatDoor
namespace Mx

structure Kept (K M : Nat → Nat → Nat) (q i c : Nat) (L : Nat → Nat) : Prop where
  by_ : ByM K
  ech : Ech K q c L
  tri : ∀ k k', k < k' → k' < q → K k' (L k) = 0
  ker : ∀ v, By v → (Ker K q c v ↔ Ker M i c v)
structure Off (K M : Nat → Nat → Nat) (q i c : Nat) (L : Nat → Nat) (r : Nat → Nat) (k : Nat) : Prop where
  by_ : By r
  dot : ∀ v, By v → Ker K q c v → Mx.dot r v c = Mx.dot (M i) v c
  zero : ∀ k', k' < k → r (L k') = 0
theorem Kept.start {K : Nat → Nat → Nat} (hK : ByM K) (M : Nat → Nat → Nat) (c : Nat) (L : Nat → Nat) : Kept K M 0 0 c L :=
  ⟨hK, ⟨fun _ h => by omega, fun _ h => by omega, fun _ h => by omega, fun _ _ h => by omega⟩, fun _ _ _ h => by omega, fun v _ => ⟨fun _ i hi => by omega, fun _ i hi => by omega⟩⟩
theorem Off.start {K M : Nat → Nat → Nat} {q i c : Nat} {L : Nat → Nat} (hM : ByM M) : Off K M q i c L (M i) 0 := ⟨hM i, fun _ _ _ => rfl, fun _ h => by omega⟩
theorem Off.step {K M : Nat → Nat → Nat} {q i c : Nat} {L : Nat → Nat} {r : Nat → Nat} {k : Nat} (hk : Kept K M q i c L) (h : Off K M q i c L r k) (hkq : k < q) :
    Off K M q i c L (fun j => r j ^^^ Gf.mul (Gf.mul (r (L k)) (Gf.inv (K k (L k)))) (K k j)) (k + 1) := by
  have hx : Gf.mul (r (L k)) (Gf.inv (K k (L k))) < 256 := Gf.mul_lt _ (h.by_ _)
  have hne := hk.ech.ne k hkq
  have hxe : Gf.mul (Gf.mul (r (L k)) (Gf.inv (K k (L k)))) (K k (L k)) = r (L k) := by
    rw [Gf.mul_assoc _ (h.by_ _) (Gf.inv_lt (hk.by_ k _)) (hk.by_ k _), Gf.inv_mul (hk.by_ k _) hne, Gf.mul_one _ (h.by_ _)]
  generalize Gf.mul (r (L k)) (Gf.inv (K k (L k))) = x at hx hxe
  have hf : (fun j => r j ^^^ Gf.mul x (K k j)) = fun j => r j ^^^ Gf.mul (K k j) x := by funext j; rw [Gf.mul_comm hx (hk.by_ k j)]
  refine ⟨fun j => Gf.xor_lt (h.by_ j) (Gf.mul_lt _ hx), fun v hv hK => ?_, fun k' hk' => ?_⟩
  · rw [hf, dot_add h.by_ (hk.by_ k) hv hx, hK k hkq, Gf.zero_mul, Nat.xor_zero]
    exact h.dot v hv hK
  · show r (L k') ^^^ Gf.mul x (K k (L k')) = 0
    by_cases e : k' = k
    · rw [e, hxe, Nat.xor_self]
    · have hlt : k' < k := by omega
      rw [h.zero k' hlt, hk.tri k' k hlt hkq, Gf.mul_zero]; rfl
theorem ker_succ {M : Nat → Nat → Nat} {n c : Nat} {v : Nat → Nat} : Ker M (n + 1) c v ↔ Ker M n c v ∧ dot (M n) v c = 0 :=
  ⟨fun h => ⟨fun i hi => h i (by omega), h n (by omega)⟩, fun h i hi => by
    by_cases e : i = n
    · rw [e]; exact h.2
    · exact h.1 i (by omega)⟩
def putR (K : Nat → Nat → Nat) (q : Nat) (r : Nat → Nat) : Nat → Nat → Nat := fun i => if i = q then r else K i
theorem putR_old {K : Nat → Nat → Nat} {q : Nat} {r : Nat → Nat} {i : Nat} (h : i < q) : putR K q r i = K i := by unfold putR; rw [if_neg (by omega)]
theorem putR_new {K : Nat → Nat → Nat} {q : Nat} {r : Nat → Nat} : putR K q r q = r := by unfold putR; rw [if_pos rfl]
theorem Kept.keep {K M : Nat → Nat → Nat} {q i c l : Nat} {L : Nat → Nat} {r : Nat → Nat} (hk : Kept K M q i c L) (h : Off K M q i c L r q) (hl : l < c) (hne : r l ≠ 0) (hz : ∀ j, j < l → r j = 0) :
    Kept (putR K q r) M (q + 1) (i + 1) c (upd L q l) := by
  have l1 : ∀ k, k < q → upd L q l k = L k := fun k hkq => by unfold upd; rw [if_neg (by omega)]
  have lq : upd L q l q = l := by unfold upd; rw [if_pos rfl]
  have hd : ∀ k, k < q → L k ≠ l := fun k hkq e => hne (by rw [← e]; exact h.zero k hkq)
  refine ⟨fun a => ?_, ⟨?_, ?_, ?_, ?_⟩, ?_, ?_⟩
  · unfold putR; split
    · exact h.by_
    · exact hk.by_ a
  · intro k hkq
    by_cases e : k = q
    · rw [e, lq]; exact hl
    · rw [l1 k (by omega)]; exact hk.ech.lt k (by omega)
  · intro k hkq
    by_cases e : k = q
    · rw [e, lq, putR_new]; exact hne
    · rw [l1 k (by omega), putR_old (by omega)]; exact hk.ech.ne k (by omega)
  · intro k hkq j hj
    by_cases e : k = q
    · rw [e, lq] at hj; rw [e, putR_new]; exact hz j hj
    · rw [l1 k (by omega)] at hj; rw [putR_old (by omega)]; exact hk.ech.zero k (by omega) j hj
  · intro a b ha hb e
    by_cases ea : a = q
    · by_cases eb : b = q
      · omega
      · rw [ea, lq, l1 b (by omega)] at e; exact absurd e.symm (hd b (by omega))
    · by_cases eb : b = q
      · rw [eb, lq, l1 a (by omega)] at e; exact absurd e (hd a (by omega))
      · rw [l1 a (by omega), l1 b (by omega)] at e; exact hk.ech.inj a b (by omega) (by omega) e
  · intro a b hab hb
    rw [l1 a (by omega)]
    by_cases eb : b = q
    · rw [eb, putR_new]; exact h.zero a (by omega)
    · rw [putR_old (by omega)]; exact hk.tri a b hab (by omega)
  · intro v hv
    rw [ker_succ, ker_succ, putR_new]
    have e1 : Ker (putR K q r) q c v ↔ Ker K q c v := ⟨fun hK a ha => by have := hK a ha; rwa [putR_old ha] at this, fun hK a ha => by rw [putR_old ha]; exact hK a ha⟩
    rw [e1]
    constructor
    · intro ⟨h1, h2⟩
      exact ⟨(hk.ker v hv).1 h1, by rw [← h.dot v hv h1]; exact h2⟩
    · intro ⟨h1, h2⟩
      have h1' := (hk.ker v hv).2 h1
      exact ⟨h1', by rw [h.dot v hv h1']; exact h2⟩
theorem Kept.drop {K M : Nat → Nat → Nat} {q i c : Nat} {L : Nat → Nat} {r : Nat → Nat} (hk : Kept K M q i c L) (h : Off K M q i c L r q) (hz : ∀ j, j < c → r j = 0) : Kept K M q (i + 1) c L :=
  ⟨hk.by_, hk.ech, hk.tri, fun v hv => by
    rw [ker_succ]
    constructor
    · intro h1
      refine ⟨(hk.ker v hv).1 h1, ?_⟩
      rw [← h.dot v hv h1, dot_congr (r' := fun _ => 0) (v' := v) hz (fun _ _ => rfl), dot_zeroL]
    · exact fun h1 => (hk.ker v hv).2 h1.1⟩
/-! ### Spread -/
theorem bas_lt (xs : List Nat) (i x : Nat) : bas xs i x < 256 := basN_lt _ _ _ _ _
theorem range_at {k i : Nat} (h : i < k) : (List.range k)[i]?.getD 0 = i := by simp [h]
theorem range_bytes {k : Nat} (hk : k ≤ 256) : Bytes (List.range k) := fun x hx => by have := List.mem_range.1 hx; omega
theorem range_unlike (k : Nat) : Unlike (List.range k) := fun i j hi hj hne => by
  simp only [List.length_range] at hi hj
  rw [range_at hi, range_at hj]; exact hne
def vanderM : Nat → Nat → Nat := fun i l => Gf.pow (i % 256) l
theorem by_vander : ByM vanderM := fun i l => Gf.pow_lt (Nat.mod_lt _ (by decide)) l
theorem spread_is {x : Nat → Nat → Nat} {k : Nat} (hk : k ≤ 200) (h : Inv vanderM x k) {i j : Nat} (hi : i < 256) (hj : j < k) : mulM vanderM x k i j = bas (List.range k) j i := by
  have hx := range_bytes (k := k) (by omega)
  have hu := range_unlike k
  obtain ⟨ys, hys⟩ : ∃ ys, ys = (List.range k).map (unit j) := ⟨_, rfl⟩
  have hb : Bytes ys := fun y hy => by
    rw [hys] at hy
    obtain ⟨a, _, rfl⟩ := List.mem_map.1 hy
    exact by_unit j a
  have hya : ∀ a, a < k → ys[a]?.getD 0 = unit j a := fun a ha => by rw [hys]; simp [ha]
  have hlen : (List.range k).length = k := List.length_range
  have e1 : ∀ z, z < 256 → lagT (List.range k) ys z j = bas (List.range k) j z := fun z hz => by
    rw [lagT_bas hx hb hu hz (by rw [hlen]; exact hj), hya j hj]
    unfold unit; rw [if_pos rfl, Gf.one_mul (bas_lt _ j z)]
  rw [← e1 i hi]
  have hcol : By (fun l => x l j) := fun l => h.by_ l j
  have e : (fun z => dot (fun l => Gf.pow z l) (fun l => x l j) k) i = (fun z => lagT (List.range k) ys z j) i := by
    refine poly_ext (xs := List.range k) (f := fun z => dot (fun l => Gf.pow z l) (fun l => x l j) k) (g := fun z => lagT (List.range k) ys z j) hx hu ?_ ?_ ?_ hi
    · refine ⟨(List.range k).map (fun l => x l j), by simp, fun y hy => ?_, fun z hz => horner_dot hcol hz k⟩
      obtain ⟨a, _, rfl⟩ := List.mem_map.1 hy
      exact hcol a
    · exact lagT_poly hx hb (by rw [hlen]; exact hj)
    · intro a ha
      rw [hlen] at ha
      have h1 := h.right a j ha hj
      rw [lagT_at hx hb hu (by rw [hlen]; exact hj) (by rw [hlen]; exact ha), hya a ha, range_at ha]
      have e2 : dot (fun l => Gf.pow a l) (fun l => x l j) k = mulM vanderM x k a j := by
        unfold mulM vanderM; rw [Nat.mod_eq_of_lt (show a < 256 by omega)]
      rw [e2, h1]
      unfold unit
      by_cases e : a = j
      · rw [if_pos e, if_pos e.symm]
      · rw [if_neg e, if_neg (Ne.symm e)]
  have e2 : mulM vanderM x k i j = dot (fun l => Gf.pow i l) (fun l => x l j) k := by
    unfold mulM vanderM; rw [Nat.mod_eq_of_lt hi]
  rw [e2]; exact e
end Mx
end Go.Proofs.YtabboioamdphmaaGreatDoor
