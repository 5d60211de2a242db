/- The walks of field.Mul, field.Add, field.power and of the closed fact of the laws of chapter 1. -/
import Derived.Test.YtabboioamdphmaaGreatDoorProg
import Derived.Test.YtabboioamdphmaaGreatDoorSCarryHears01
import Derived.WalkKit
import Derived.WalkSpells
import Derived.WalkLawsBesides
import Derived.Laws.BitsAllLaws
import Derived.Lib.Hide
import Derived.Deep.QuietTactic
import Derived.BigQuiet
namespace Go.Proofs.YtabboioamdphmaaGreatDoor
open Go.RowKit

theorem ret_int {k : IntKind} {a b : Int} (h : a = b) : Ending.returned (.int k a) = .returned (.int k b) := by rw [h]

theorem u8_xt (a : Nat) (ha : a < 256) : bits .xor .u8 ((a : Int) * 2 % 256) (29 * ((a : Int) / 128)) = ((Gf.xt a : Nat) : Int) := by
  have e1 : (a : Int) * 2 % 256 = ((a * 2 % 256 : Nat) : Int) := by omega
  have e2 : 29 * ((a : Int) / 128) = ((29 * (a / 128) : Nat) : Int) := by omega
  rw [e1, e2, u8_xor_nat _ _ (by omega) (by omega)]
  rfl
theorem u8_bit0 (b : Nat) (hb : b < 256) : bits .and .u8 (b : Int) 1 = ((b % 2 : Nat) : Int) := by
  rw [show (1 : Int) = ((1 : Nat) : Int) from rfl, u8_and_nat _ _ hb (by omega), nat_mask1]
theorem mulN_odd {n a b o : Nat} (h : b % 2 = 1) : Gf.mulN (n + 1) a b o = Gf.mulN n (Gf.xt a) (b / 2) (o ^^^ a) := by rw [Gf.mulN, if_pos h]
theorem mulN_even {n a b o : Nat} (h : ¬ b % 2 = 1) : Gf.mulN (n + 1) a b o = Gf.mulN n (Gf.xt a) (b / 2) o := by rw [Gf.mulN, if_neg h]

set_option maxHeartbeats 400000 in
theorem mul_walk (a b : Nat) (w : World) (ha : a < 256) (hb : b < 256) :
    Calls Tryz.prog 126 #[.int .u8 a, .int .u8 b] w fun e w' => e = .returned (.int .u8 (Gf.mul a b : Nat)) ∧ w = w' := by
  go_enter Tryz.func126, Tryz.ntmps126
  go_wp2
  go_loop [0, 1, 5, 7] (fun va vb vo vi => ∃ k a' b' o : Nat, k ≤ 8 ∧ a' < 256 ∧ b' < 256 ∧ o < 256 ∧ Gf.mulN (8 - k) a' b' o = Gf.mul a b ∧ va = .int .u8 a' ∧ vb = .int .u8 b' ∧ vo = .int .u8 o ∧ vi = .int .i64 k) (fun _ _ _ i => 8 - (intOf i).toNat)
  case atStart => exact ⟨0, a, b, 0, by omega, ha, hb, by omega, rfl, rfl, rfl, rfl, rfl⟩
  case round =>
    obtain ⟨k, a', b', o, hk, ha', hb', ho, hm, rfl, rfl, rfl, rfl⟩ := hrel
    clear ha hb
    have Hm := Lib.hid hm; clear hm
    by_cases hlt : k < 8
    · have e8 : 8 - k = (8 - (k + 1)) + 1 := by omega
      have E8 := Lib.hid e8; clear e8
      go_wp2
      · have h1 : b' % 2 = 1 := by
          have h : (bits BinOp.and IntKind.u8 (↑b') 1 == 1) = true := by assumption
          rw [u8_bit0 b' hb'] at h; simp at h; omega
        go_round
        case rel => exact ⟨k + 1, Gf.xt a', b' / 2, o ^^^ a', by omega, Gf.xt_lt ha', by omega, Gf.xor_lt ho ha', by rw [← Hm.out, E8.out, mulN_odd h1], by rw [u8_xt a' ha'], by go_num, by rw [u8_xor_nat _ _ ho ha'], by go_num⟩
        case measure => simp [intOf]; omega
      · have h1 : ¬ b' % 2 = 1 := by
          have h : (bits BinOp.and IntKind.u8 (↑b') 1 == 1) = false := by assumption
          rw [u8_bit0 b' hb'] at h; simp at h; omega
        go_round
        case rel => exact ⟨k + 1, Gf.xt a', b' / 2, o, by omega, Gf.xt_lt ha', by omega, ho, by rw [← Hm.out, E8.out, mulN_even h1], by rw [u8_xt a' ha'], by go_num, rfl, by go_num⟩
        case measure => simp [intOf]; omega
    · go_wp2
      go_ret
      obtain rfl : k = 8 := by omega
      exact ⟨ret_int (by rw [← Hm.out]; rfl), rfl⟩

theorem i64_bit0 (n : Nat) (hn : n < 9223372036854775808) : bits .and .i64 (n : Int) 1 = ((n % 2 : Nat) : Int) := by
  have h1 : (BitVec.ofInt 64 1).toNat = 2 ^ 1 - 1 := by decide
  have key : (BitVec.ofInt 64 (n : Int) &&& BitVec.ofInt 64 1).toNat = ((n : Int) % ((2 ^ 64 : Nat) : Int)).toNat % 2 ^ 1 := by
    rw [BitVec.toNat_and, BitVec.toNat_ofInt, h1, Nat.and_two_pow_sub_one_eq_mod]
  show IntKind.i64.wrap ((BitVec.ofInt 64 (n : Int) &&& BitVec.ofInt 64 1).toNat : Nat) = _
  rw [key, IntKind.wrap_i64]
  omega
set_option maxHeartbeats 400000 in
theorem power_walk (a n : Nat) (w : World) (ha : a < 256) (hn : n < 256) :
    Calls Tryz.prog 111 #[.int .u8 a, .int .i64 n] w fun e w' => e = .returned (.int .u8 (Gf.pow a n : Nat)) ∧ w = w' := by
  go_enter Tryz.func111, Tryz.ntmps111
  go_wp2
  go_loop [0, 1, 5] (fun va vn vo => ∃ f a' n' o : Nat, n' < 2 ^ f ∧ a' < 256 ∧ n' < 256 ∧ o < 256 ∧ Gf.mul o (Gf.pow a' n') = Gf.pow a n ∧ va = .int .u8 a' ∧ vn = .int .i64 n' ∧ vo = .int .u8 o) (fun _ n _ => (intOf n).toNat)
  case atStart => exact ⟨8, a, n, 1, hn, ha, hn, by omega, Gf.one_mul (Gf.pow_lt ha n), rfl, rfl, rfl⟩
  case round =>
    obtain ⟨f, a', n', o, hf, ha', hn', ho, hm, rfl, rfl, rfl⟩ := hrel
    clear ha hn hf
    have Hm := Lib.hid hm; clear hm
    by_cases hlt : 0 < n'
    · by_cases h1 : n' % 2 = 1
      · have hb : (bits BinOp.and IntKind.i64 (↑n') 1 == 1) = true := by rw [i64_bit0 n' (by omega)]; simp [h1]
        go_wp2_with fail
        refine (mul_walk _ _ _ ho ha').mono ?_
        rintro e w' ⟨rfl, rfl⟩
        go_wp2_with fail
        refine (mul_walk _ _ _ ha' ha').mono ?_
        rintro e w' ⟨rfl, rfl⟩
        go_wp2_with fail
        go_round
        case rel => exact ⟨8, Gf.mul a' a', n' / 2, Gf.mul o a', by omega, Gf.mul_lt _ ha', by omega, Gf.mul_lt _ ho, by rw [← Hm.out, Gf.mul_assoc _ ho ha' (Gf.pow_lt (Gf.mul_lt _ ha') _), Gf.pow_odd ha' h1], rfl, by go_num, rfl⟩
        case measure => simp [intOf]; omega
      · have hb : (bits BinOp.and IntKind.i64 (↑n') 1 == 1) = false := by rw [i64_bit0 n' (by omega)]; simp; omega
        go_wp2_with fail
        refine (mul_walk _ _ _ ha' ha').mono ?_
        rintro e w' ⟨rfl, rfl⟩
        go_wp2_with fail
        go_round
        case rel => exact ⟨8, Gf.mul a' a', n' / 2, o, by omega, Gf.mul_lt _ ha', by omega, ho, by rw [← Hm.out, Gf.pow_even ha' h1], rfl, by go_num, rfl⟩
        case measure => simp [intOf]; omega
    · go_wp2
      go_ret
      obtain rfl : n' = 0 := by omega
      exact ⟨ret_int (by rw [← Hm.out]; show _ = ((Gf.mul o 1 : Nat) : Int); rw [Gf.mul_one _ ho]), rfl⟩
end Go.Proofs.YtabboioamdphmaaGreatDoor
/- The walks of field.Pow, field.Inv and field.Div: each way by a theorem of its own. -/
namespace Go.Proofs.YtabboioamdphmaaGreatDoor
open Go.RowKit

abbrev errV (a : Addr) : Value := .iface 247 (.pointer (some a))

theorem tmod_bd (n : Int) : -255 < n.tmod 255 ∧ n.tmod 255 < 255 ∧ ∃ q, n = n.tmod 255 + 255 * q := by
  have h := Int.tmod_add_mul_tdiv n 255
  have h1 : n.tmod 255 < 255 := Int.tmod_lt_of_pos n (by decide)
  have h2 : -255 < n.tmod 255 := by
    have := Int.neg_tmod n 255
    have h3 : (-n).tmod 255 < 255 := Int.tmod_lt_of_pos _ (by decide)
    omega
  exact ⟨h2, h1, n.tdiv 255, by omega⟩
theorem exp_eq (n : Int) : (wrap64 (n.tmod 255 + 255)).tmod 255 = (((n % 255).toNat : Nat) : Int) := by
  obtain ⟨h1, h2, q, hq⟩ := tmod_bd n
  rw [IntWalk.wrap64_in _ ⟨by omega, by omega⟩, Int.tmod_eq_emod_of_nonneg (by omega)]
  omega

set_option maxHeartbeats 400000 in
theorem pow_zero_walk (a : Nat) (w : World) :
    Calls Tryz.prog 81 #[.int .u8 a, .int .i64 0] w fun e w' => e = .returned (.tuple #[.int .u8 1, .nilIface]) ∧ w = w' := by
  go_enter Tryz.func81, Tryz.ntmps81
  go_wp2
  go_ret2
  exact ⟨rfl, rfl⟩
set_option maxHeartbeats 400000 in
theorem pow_of_zero_walk (n : Int) (w : World) (hn : 0 < n) :
    Calls Tryz.prog 81 #[.int .u8 0, .int .i64 n] w fun e w' => e = .returned (.tuple #[.int .u8 0, .nilIface]) ∧ w = w' := by
  go_enter Tryz.func81, Tryz.ntmps81
  go_wp2
  go_ret2
  exact ⟨rfl, rfl⟩
set_option maxHeartbeats 400000 in
theorem pow_walk (a : Nat) (n : Int) (w : World) (ha : a < 256) (h0 : a ≠ 0) (hn : n ≠ 0) (h1 : -9223372036854775808 ≤ n) (h2 : n ≤ 9223372036854775807) :
    Calls Tryz.prog 81 #[.int .u8 a, .int .i64 n] w fun e w' => e = .returned (.tuple #[.int .u8 (Gf.pow a (n % 255).toNat : Nat), .nilIface]) ∧ w = w' := by
  go_enter Tryz.func81, Tryz.ntmps81
  go_wp2_with fail
  have hk : (n % 255).toNat < 256 := by omega
  rw [exp_eq]
  refine (power_walk a (n % 255).toNat _ ha hk).mono ?_
  rintro e w' ⟨rfl, rfl⟩
  go_wp2
  go_ret2
  exact ⟨rfl, rfl⟩

def powZ (a : Nat) (n : Int) : Nat := if n = 0 then 1 else if a = 0 then 0 else Gf.pow a (n % 255).toNat
theorem pow_any (a : Nat) (n : Int) (w : World) (ha : a < 256) (hb : ¬ (a = 0 ∧ n < 0)) (h1 : -9223372036854775808 ≤ n) (h2 : n ≤ 9223372036854775807) :
    Calls Tryz.prog 81 #[.int .u8 a, .int .i64 n] w fun e w' => e = .returned (.tuple #[.int .u8 (powZ a n : Nat), .nilIface]) ∧ w = w' := by
  by_cases hn : n = 0
  · subst hn; exact pow_zero_walk a w
  by_cases h0 : a = 0
  · subst h0
    have e : powZ 0 n = 0 := by unfold powZ; rw [if_neg hn, if_pos rfl]
    rw [e]
    exact pow_of_zero_walk n w (by omega)
  · have e : powZ a n = Gf.pow a (n % 255).toNat := by unfold powZ; rw [if_neg hn, if_neg h0]
    rw [e]
    exact pow_walk a n w ha h0 hn h1 h2

set_option maxHeartbeats 400000 in
theorem inv_walk (a : Nat) (w : World) (ha : a < 256) (h0 : a ≠ 0) :
    Calls Tryz.prog 138 #[.int .u8 a] w fun e w' => e = .returned (.tuple #[.int .u8 (Gf.inv a : Nat), .nilIface]) ∧ w = w' := by
  go_enter Tryz.func138, Tryz.ntmps138
  go_wp2_with fail
  refine (power_walk a 254 _ ha (by decide)).mono ?_
  rintro e w' ⟨rfl, rfl⟩
  go_wp2
  go_ret2
  exact ⟨rfl, rfl⟩
end Go.Proofs.YtabboioamdphmaaGreatDoor
/- The walks of slices.Index and slices.Contains at bytes, and of field.Between. -/
namespace Go.Proofs.YtabboioamdphmaaGreatDoor
open Go.RowKit

def lagN (xs : List Nat) (i x a y : Nat) : Nat → Nat × Nat
  | 0 => (y, 1)
  | k + 1 => if k = i then lagN xs i x a y k else (Gf.mul (lagN xs i x a y k).1 (x ^^^ xs[k]?.getD 0), Gf.mul (lagN xs i x a y k).2 (a ^^^ xs[k]?.getD 0))
theorem lagN_lt {xs : List Nat} (hx : Bytes xs) {i x a y : Nat} (hy : y < 256) : ∀ k, (lagN xs i x a y k).1 < 256 ∧ (lagN xs i x a y k).2 < 256
  | 0 => ⟨hy, (by decide : (1 : Nat) < 256)⟩
  | k + 1 => by
    unfold lagN
    split
    · exact lagN_lt hx hy k
    · exact ⟨Gf.mul_lt _ (lagN_lt hx hy k).1, Gf.mul_lt _ (lagN_lt hx hy k).2⟩
theorem lagN_skip {xs : List Nat} {i x a y k : Nat} (h : k = i) : lagN xs i x a y (k + 1) = lagN xs i x a y k := by rw [lagN, if_pos h]
theorem lagN_step {xs : List Nat} {i x a y k : Nat} (h : k ≠ i) : lagN xs i x a y (k + 1) = (Gf.mul (lagN xs i x a y k).1 (x ^^^ xs[k]?.getD 0), Gf.mul (lagN xs i x a y k).2 (a ^^^ xs[k]?.getD 0)) := by rw [lagN, if_neg h]
def lagT (xs ys : List Nat) (x i : Nat) : Nat :=
  let p := lagN xs i x (xs[i]?.getD 0) (ys[i]?.getD 0) xs.length
  Gf.mul p.1 (Gf.inv p.2)
end Go.Proofs.YtabboioamdphmaaGreatDoor
/- Plain: polynomials over the field of 256 elements: one with as many roots as coefficients is zero; LAGRANGE: what goes through the points of a polynomial is the polynomial. No walk in sight. -/
namespace Go.Proofs.YtabboioamdphmaaGreatDoor
namespace Gf

theorem horner_lt {p : List Nat} (hp : Bytes p) (x : Nat) : horner x p < 256 := by
  induction p with
  | nil => exact (by decide : 0 < 256)
  | cons c r ih =>
    unfold horner
    exact xor_lt (mul_lt x (ih (fun y hy => hp y (List.mem_cons_of_mem _ hy)))) (hp c (List.mem_cons_self))
def addS (r : Nat) : List Nat → List Nat → List Nat
  | p, [] => p
  | [], _ => []
  | c :: p, d :: q => (c ^^^ mul d r) :: addS r p q
theorem addS_length (r : Nat) : ∀ (p q : List Nat), (addS r p q).length = p.length
  | p, [] => by cases p <;> rfl
  | [], _ :: _ => rfl
  | c :: p, d :: q => by simp [addS, addS_length r p q]
theorem addS_bytes {r : Nat} : ∀ {p q : List Nat}, Bytes p → Bytes q → Bytes (addS r p q)
  | p, [], hp, _ => by cases p <;> exact hp
  | [], _ :: _, hp, _ => hp
  | c :: p, d :: q, hp, hq => by
    intro x hx
    simp only [addS, List.mem_cons] at hx
    rcases hx with rfl | hx
    · exact xor_lt (hp c List.mem_cons_self) (mul_lt r (hq d List.mem_cons_self))
    · exact addS_bytes (fun y hy => hp y (List.mem_cons_of_mem _ hy)) (fun y hy => hq y (List.mem_cons_of_mem _ hy)) x hx
theorem horner_addS {r x : Nat} (hr : r < 256) (hx : x < 256) : ∀ {p q : List Nat}, Bytes p → Bytes q → q.length ≤ p.length → horner x (addS r p q) = horner x p ^^^ mul (horner x q) r
  | p, [], hp, _, _ => by
    have e : addS r p [] = p := by cases p <;> rfl
    rw [e]
    show horner x p = horner x p ^^^ mul 0 r
    rw [zero_mul, Nat.xor_zero]
  | [], _ :: _, _, _, hl => by simp at hl
  | c :: p, d :: q, hp, hq, hl => by
    have hp' : Bytes p := fun y hy => hp y (List.mem_cons_of_mem _ hy)
    have hq' : Bytes q := fun y hy => hq y (List.mem_cons_of_mem _ hy)
    have hd := hq d List.mem_cons_self
    have l1 := horner_lt hp' x
    have l2 := horner_lt hq' x
    simp only [addS, horner]
    rw [horner_addS hr hx hp' hq' (by simpa using hl), mul_xor_left x l1 (mul_lt r l2), mul_xor_left r (mul_lt x l2) hd]
    rw [mul_assoc x l2 hr hx, mul_comm hr hx, ← mul_assoc r l2 hx hr]
    rw [xor4]
def Poly (n : Nat) (f : Nat → Nat) : Prop := ∃ p : List Nat, p.length = n ∧ Bytes p ∧ ∀ x, x < 256 → f x = horner x p
theorem Poly.lt {n : Nat} {f : Nat → Nat} (h : Poly n f) {x : Nat} (hx : x < 256) : f x < 256 := by
  obtain ⟨p, _, hb, e⟩ := h
  rw [e x hx]; exact horner_lt hb x
theorem Poly.add {n : Nat} {f g : Nat → Nat} (hf : Poly n f) (hg : Poly n g) : Poly n (fun x => f x ^^^ g x) := by
  obtain ⟨p, hp, bp, ep⟩ := hf
  obtain ⟨q, hq, bq, eq⟩ := hg
  refine ⟨addS 1 p q, by rw [addS_length, hp], addS_bytes bp bq, fun x hx => ?_⟩
  show f x ^^^ g x = _
  rw [horner_addS (by decide) hx bp bq (by omega), mul_one _ (horner_lt bq x), ep x hx, eq x hx]
theorem bytes_cons {c : Nat} {p : List Nat} (hc : c < 256) (hp : Bytes p) : Bytes (c :: p) := by
  intro x hx
  rcases List.mem_cons.1 hx with rfl | h
  · exact hc
  · exact hp x h
theorem Poly.times {n : Nat} {f : Nat → Nat} (hf : Poly n f) {a : Nat} (ha : a < 256) : Poly (n + 1) (fun x => mul (f x) (x ^^^ a)) := by
  obtain ⟨p, hp, bp, ep⟩ := hf
  have b0 : Bytes (0 :: p) := bytes_cons (by decide) bp
  refine ⟨addS a (0 :: p) p, by rw [addS_length]; simp [hp], addS_bytes b0 bp, fun x hx => ?_⟩
  rw [horner_addS ha hx b0 bp (by simp)]
  show mul (f x) (x ^^^ a) = (mul (horner x p) x ^^^ 0) ^^^ mul (horner x p) a
  rw [ep x hx, mul_xor_right, Nat.xor_zero]
theorem poly_zero (n : Nat) : Poly n (fun _ => 0) := by
  refine ⟨List.replicate n 0, by simp, fun x hx => by rw [List.eq_of_mem_replicate hx]; decide, fun x _ => ?_⟩
  induction n with
  | zero => rfl
  | succ n ih => rw [List.replicate_succ]; show 0 = mul (horner x (List.replicate n 0)) x ^^^ 0; rw [← ih, zero_mul]; rfl
theorem Poly.scale {n : Nat} {f : Nat → Nat} (hf : Poly n f) {c : Nat} (hc : c < 256) : Poly n (fun x => mul (f x) c) := by
  obtain ⟨p, hp, bp, ep⟩ := hf
  obtain ⟨q, hq, bq, eq⟩ := poly_zero n
  refine ⟨addS c q p, by rw [addS_length, hq], addS_bytes bq bp, fun x hx => ?_⟩
  have h0 : horner x q = 0 := (eq x hx).symm
  show mul (f x) c = _
  rw [horner_addS hc hx bq bp (by omega), h0, Nat.zero_xor, ep x hx]
theorem poly_const {c : Nat} (hc : c < 256) : Poly 1 (fun _ => c) :=
  ⟨[c], rfl, bytes_cons hc (fun _ h => absurd h (by simp)), fun x _ => by show c = mul 0 x ^^^ c; rw [zero_mul, Nat.zero_xor]⟩

theorem divide {r : Nat} (hr : r < 256) : ∀ {p : List Nat}, Bytes p → p ≠ [] → ∃ q : List Nat, q.length + 1 = p.length ∧ Bytes q ∧ ∀ x, x < 256 → horner x p ^^^ horner r p = mul (x ^^^ r) (horner x q)
  | [], _, h => absurd rfl h
  | [c], _, _ => ⟨[], rfl, fun _ h => absurd h (by simp), fun x _ => by
      show (mul 0 x ^^^ c) ^^^ (mul 0 r ^^^ c) = mul (x ^^^ r) 0
      rw [zero_mul, zero_mul, mul_zero, Nat.xor_self]⟩
  | c :: d :: p, hb, _ => by
    have hb' : Bytes (d :: p) := fun y hy => hb y (List.mem_cons_of_mem _ hy)
    obtain ⟨q, hq, bq, e⟩ := divide hr hb' (by simp)
    refine ⟨addS r (d :: p) q, by rw [addS_length]; rfl, addS_bytes hb' bq, fun x hx => ?_⟩
    have l1 := horner_lt hb' x
    have l2 := horner_lt hb' r
    have l3 := horner_lt bq x
    have hxr := xor_lt hx hr
    rw [horner_addS hr hx hb' bq (by omega), mul_xor_right, ← mul_assoc r hxr l3 hr, ← e x hx, mul_xor_left r l1 l2]
    show (mul (horner x (d :: p)) x ^^^ c) ^^^ (mul (horner r (d :: p)) r ^^^ c) = _
    rw [xor4, Nat.xor_self, Nat.xor_zero, mul_comm hxr l1, mul_xor_right, Nat.xor_assoc, ← Nat.xor_assoc (mul (horner x (d :: p)) r), Nat.xor_self, Nat.zero_xor]

theorem xor_eq_zero {a b : Nat} (h : a ^^^ b = 0) : a = b := by
  have := congrArg (· ^^^ b) h
  simpa [Nat.xor_assoc] using this
theorem xor_ne_zero {a b : Nat} (h : a ≠ b) : a ^^^ b ≠ 0 := fun e => h (xor_eq_zero e)

theorem Poly.roots : ∀ {n : Nat} {f : Nat → Nat}, Poly n f → ∀ rs : List Nat, rs.Nodup → rs.length = n → (∀ r ∈ rs, r < 256 ∧ f r = 0) → ∀ x, x < 256 → f x = 0
  | 0, f, ⟨p, hp, _, e⟩, _, _, _, _, x, hx => by
    have : p = [] := List.length_eq_zero_iff.1 hp
    subst this
    exact e x hx
  | n + 1, f, ⟨p, hp, bp, e⟩, rs, hnd, hl, hr, x, hx => by
    match rs, hl with
    | r :: rs, hl =>
      have hr0 := hr r List.mem_cons_self
      obtain ⟨q, hq, bq, eq⟩ := divide hr0.1 bp (by intro h; rw [h] at hp; simp at hp)
      have hz : horner r p = 0 := by rw [← e r hr0.1]; exact hr0.2
      have key : ∀ y, y < 256 → f y = mul (y ^^^ r) (horner y q) := fun y hy => by rw [e y hy, ← eq y hy, hz, Nat.xor_zero]
      have ih := Poly.roots (n := n) (f := fun y => horner y q) ⟨q, by omega, bq, fun _ _ => rfl⟩ rs (List.nodup_cons.1 hnd).2 (by simpa using hl) (fun s hs => by
        have hs0 := hr s (List.mem_cons_of_mem _ hs)
        refine ⟨hs0.1, ?_⟩
        have h1 := key s hs0.1
        rw [hs0.2] at h1
        have hne : s ^^^ r ≠ 0 := xor_ne_zero (fun h => (List.nodup_cons.1 hnd).1 (h ▸ hs))
        exact (mul_eq_zero (xor_lt hs0.1 hr0.1) (horner_lt bq s) h1.symm).resolve_left hne) x hx
      rw [key x hx]
      show mul (x ^^^ r) (horner x q) = 0
      rw [show horner x q = 0 from ih, mul_zero]
end Gf

/-! LAGRANGE -/
def Unlike (xs : List Nat) : Prop := ∀ i k, i < xs.length → k < xs.length → i ≠ k → xs[i]?.getD 0 ≠ xs[k]?.getD 0
theorem lagN_snd (xs : List Nat) (i x x' a y y' : Nat) : ∀ k, (lagN xs i x a y k).2 = (lagN xs i x' a y' k).2
  | 0 => rfl
  | k + 1 => by
    unfold lagN
    split
    · exact lagN_snd xs i x x' a y y' k
    · show Gf.mul _ _ = Gf.mul _ _
      rw [lagN_snd xs i x x' a y y' k]
theorem lagN_down {xs : List Nat} (hx : Bytes xs) (hu : Unlike xs) {i x y : Nat} (hi : i < xs.length) : ∀ k, k ≤ xs.length → (lagN xs i x (xs[i]?.getD 0) y k).2 ≠ 0 ∧ (lagN xs i x (xs[i]?.getD 0) y k).2 < 256
  | 0, _ => ⟨(by decide : (1 : Nat) ≠ 0), (by decide : (1 : Nat) < 256)⟩
  | k + 1, hk => by
    have ih := lagN_down hx hu (x := x) (y := y) hi k (by omega)
    by_cases h : k = i
    · rw [lagN_skip h]; exact ih
    · rw [lagN_step h]
      exact ⟨Gf.mul_ne_zero ih.2 (Gf.xor_lt (hx.at i) (hx.at k)) ih.1 (Gf.xor_ne_zero (hu i k hi (by omega) (Ne.symm h))), Gf.mul_lt _ ih.2⟩
theorem lagN_same {xs : List Nat} (hx : Bytes xs) {i y : Nat} (hy : y < 256) : ∀ k, (lagN xs i (xs[i]?.getD 0) (xs[i]?.getD 0) y k).1 = Gf.mul y (lagN xs i (xs[i]?.getD 0) (xs[i]?.getD 0) y k).2
  | 0 => (Gf.mul_one y hy).symm
  | k + 1 => by
    by_cases h : k = i
    · rw [lagN_skip h]; exact lagN_same hx hy k
    · rw [lagN_step h]
      show Gf.mul _ _ = Gf.mul y (Gf.mul _ _)
      rw [lagN_same hx hy k, Gf.mul_assoc _ hy (lagN_lt hx hy k).2 (Gf.xor_lt (hx.at i) (hx.at k))]
theorem lagN_other {xs : List Nat} {i j a y : Nat} (hij : i ≠ j) : ∀ k, j < k → (lagN xs i (xs[j]?.getD 0) a y k).1 = 0
  | 0, h => by omega
  | k + 1, h => by
    by_cases hk : k = i
    · rw [lagN_skip hk]; exact lagN_other hij k (by omega)
    · rw [lagN_step hk]
      show Gf.mul _ _ = 0
      by_cases hj : j = k
      · subst hj; rw [Nat.xor_self, Gf.mul_zero]
      · rw [lagN_other hij k (by omega), Gf.zero_mul]
theorem lagN_poly {xs : List Nat} (hx : Bytes xs) {i a y : Nat} (hy : y < 256) : ∀ k, Gf.Poly (k + (if i < k then 0 else 1)) (fun x => (lagN xs i x a y k).1)
  | 0 => by rw [if_neg (by omega)]; exact Gf.poly_const hy
  | k + 1 => by
    have ih := lagN_poly hx (i := i) (a := a) hy k
    by_cases h : k = i
    · have e : (fun x => (lagN xs i x a y (k + 1)).1) = fun x => (lagN xs i x a y k).1 := funext fun x => by rw [lagN_skip h]
      rw [e, if_pos (by omega)]
      rw [if_neg (by omega)] at ih
      exact ih
    · have e : (fun x => (lagN xs i x a y (k + 1)).1) = fun x => Gf.mul (lagN xs i x a y k).1 (x ^^^ xs[k]?.getD 0) := funext fun x => by rw [lagN_step h]
      rw [e]
      have h2 : k + 1 + (if i < k + 1 then 0 else 1) = k + (if i < k then 0 else 1) + 1 := by
        by_cases h3 : i < k
        · rw [if_pos h3, if_pos (by omega)]
        · rw [if_neg h3, if_neg (by omega)]
      rw [h2]
      exact Gf.Poly.times ih (hx.at k)
theorem lagT_poly {xs ys : List Nat} (hx : Bytes xs) (hy : Bytes ys) {i : Nat} (hi : i < xs.length) : Gf.Poly xs.length (fun x => lagT xs ys x i) := by
  have h := lagN_poly hx (i := i) (a := xs[i]?.getD 0) (hy.at i) xs.length
  rw [if_pos hi, Nat.add_zero] at h
  have hd : Gf.inv (lagN xs i 0 (xs[i]?.getD 0) (ys[i]?.getD 0) xs.length).2 < 256 := Gf.inv_lt (lagN_lt hx (hy.at i) _).2
  have e : (fun x => lagT xs ys x i) = fun x => Gf.mul (lagN xs i x (xs[i]?.getD 0) (ys[i]?.getD 0) xs.length).1 (Gf.inv (lagN xs i 0 (xs[i]?.getD 0) (ys[i]?.getD 0) xs.length).2) := funext fun x => by
    show Gf.mul _ (Gf.inv (lagN xs i x (xs[i]?.getD 0) (ys[i]?.getD 0) xs.length).2) = _
    rw [lagN_snd xs i x 0 _ _ (ys[i]?.getD 0)]
  rw [e]
  exact Gf.Poly.scale h hd
theorem lagT_at {xs ys : List Nat} (hx : Bytes xs) (hy : Bytes ys) (hu : Unlike xs) {i j : Nat} (hi : i < xs.length) (hj : j < xs.length) : lagT xs ys (xs[j]?.getD 0) i = if i = j then ys[j]?.getD 0 else 0 := by
  unfold lagT
  by_cases h : i = j
  · subst h
    rw [if_pos rfl]
    have hd := lagN_down hx hu (x := xs[i]?.getD 0) (y := ys[i]?.getD 0) hi xs.length (Nat.le_refl _)
    show Gf.mul (lagN xs i (xs[i]?.getD 0) (xs[i]?.getD 0) (ys[i]?.getD 0) xs.length).1 _ = _
    rw [lagN_same hx (hy.at i), Gf.mul_assoc _ (hy.at i) hd.2 (Gf.inv_lt hd.2), Gf.mul_inv hd.2 hd.1, Gf.mul_one _ (hy.at i)]
  · rw [if_neg h]
    show Gf.mul (lagN xs i (xs[j]?.getD 0) (xs[i]?.getD 0) (ys[i]?.getD 0) xs.length).1 _ = 0
    rw [lagN_other h _ hj, Gf.zero_mul]
theorem unlike_nodup {xs : List Nat} (hu : Unlike xs) : xs.Nodup := by
  rw [List.nodup_iff_pairwise_ne, List.pairwise_iff_getElem]
  intro i j hi hj hij
  have := hu i j hi hj (by omega)
  rwa [List.getElem?_eq_getElem hi, List.getElem?_eq_getElem hj] at this
theorem poly_ext {xs : List Nat} (hx : Bytes xs) (hu : Unlike xs) {f g : Nat → Nat} (hf : Gf.Poly xs.length f) (hg : Gf.Poly xs.length g) (h : ∀ j, j < xs.length → f (xs[j]?.getD 0) = g (xs[j]?.getD 0)) {x : Nat} (hx' : x < 256) : f x = g x := by
  refine Gf.xor_eq_zero ?_
  refine Gf.Poly.roots (f := fun x => f x ^^^ g x) (Gf.Poly.add hf hg) xs (unlike_nodup hu) rfl (fun r hr => ⟨hx r hr, ?_⟩) x hx'
  obtain ⟨j, hj, rfl⟩ := List.getElem_of_mem hr
  have := h j hj
  rw [List.getElem?_eq_getElem hj] at this
  show f xs[j] ^^^ g xs[j] = 0
  rw [show f xs[j] = g xs[j] from this, Nat.xor_self]
end Go.Proofs.YtabboioamdphmaaGreatDoor
