/- Plain arithmetic of the field of 256 elements on natural numbers below 256: the product as the program makes it, that it is bilinear, commutative, associative, and has inverses. No program in sight. -/
namespace Go.Proofs.YthdicfcgkbepdaaGreatDoor
namespace Gf

/-- times x, modulo the polynomial 285. -/
def xt (a : Nat) : Nat := (a * 2 % 256) ^^^ (29 * (a / 128))
/-- n rounds of the product's loop. -/
def mulN : Nat → Nat → Nat → Nat → Nat
  | 0, _, _, out => out
  | n + 1, a, b, out => mulN n (xt a) (b / 2) (if b % 2 = 1 then out ^^^ a else out)
def mul (a b : Nat) : Nat := mulN 8 a b 0

theorem xor_lt {a b : Nat} (ha : a < 256) (hb : b < 256) : a ^^^ b < 256 := Nat.xor_lt_two_pow (n := 8) ha hb
theorem xt_lt {a : Nat} (ha : a < 256) : xt a < 256 := by
  unfold xt
  exact xor_lt (Nat.mod_lt _ (by decide)) (by omega)
theorem mulN_lt (n a b out : Nat) (ha : a < 256) (ho : out < 256) : mulN n a b out < 256 := by
  induction n generalizing a b out with
  | zero => exact ho
  | succ n ih =>
    unfold mulN
    refine ih _ _ _ (xt_lt ha) ?_
    split
    · exact xor_lt ho ha
    · exact ho
theorem mul_lt {a : Nat} (b : Nat) (ha : a < 256) : mul a b < 256 := mulN_lt _ _ _ _ ha (by decide)

theorem xor_mul_two (a b : Nat) : (a ^^^ b) * 2 = (a * 2) ^^^ (b * 2) := by
  have h := Nat.shiftLeft_xor_distrib (a := a) (b := b) (i := 1)
  simpa [Nat.shiftLeft_eq] using h
theorem xor_div_two (a b : Nat) : (a ^^^ b) / 2 = (a / 2) ^^^ (b / 2) := by
  have h := Nat.shiftRight_xor_distrib (a := a) (b := b) (i := 1)
  simpa [Nat.shiftRight_eq_div_pow] using h
theorem xor_div_128 (a b : Nat) : (a ^^^ b) / 128 = (a / 128) ^^^ (b / 128) := by
  have h := Nat.shiftRight_xor_distrib (a := a) (b := b) (i := 7)
  simpa [Nat.shiftRight_eq_div_pow] using h
theorem xor_mod_256 (a b : Nat) : (a ^^^ b) % 256 = (a % 256) ^^^ (b % 256) := Nat.xor_mod_two_pow (n := 8)
theorem xor_mod_2 (a b : Nat) : (a ^^^ b) % 2 = (a % 2) ^^^ (b % 2) := Nat.xor_mod_two_pow (n := 1)
theorem mul29 {p q : Nat} (hp : p < 2) (hq : q < 2) : 29 * (p ^^^ q) = (29 * p) ^^^ (29 * q) := by
  rcases (show p = 0 ∨ p = 1 by omega) with rfl | rfl <;> rcases (show q = 0 ∨ q = 1 by omega) with rfl | rfl <;> rfl
theorem xor4 (a b c d : Nat) : (a ^^^ b) ^^^ (c ^^^ d) = (a ^^^ c) ^^^ (b ^^^ d) := by ac_rfl
theorem xt_xor {a b : Nat} (ha : a < 256) (hb : b < 256) : xt (a ^^^ b) = xt a ^^^ xt b := by
  unfold xt
  rw [xor_mul_two, xor_mod_256, xor_div_128, mul29 (by omega) (by omega), xor4]
theorem mulN_xor_left (n : Nat) : ∀ (a a' b o o' : Nat), a < 256 → a' < 256 → mulN n (a ^^^ a') b (o ^^^ o') = mulN n a b o ^^^ mulN n a' b o' := by
  induction n with
  | zero => intros; rfl
  | succ n ih =>
    intro a a' b o o' ha ha'
    unfold mulN
    rw [xt_xor ha ha']
    split
    · rw [xor4]; exact ih _ _ _ _ _ (xt_lt ha) (xt_lt ha')
    · exact ih _ _ _ _ _ (xt_lt ha) (xt_lt ha')
theorem mulN_xor_right (n : Nat) : ∀ (a b b' o o' : Nat), mulN n a (b ^^^ b') (o ^^^ o') = mulN n a b o ^^^ mulN n a b' o' := by
  induction n with
  | zero => intros; rfl
  | succ n ih =>
    intro a b b' o o'
    unfold mulN
    rw [xor_div_two, xor_mod_2]
    have key : (if b % 2 ^^^ b' % 2 = 1 then o ^^^ o' ^^^ a else o ^^^ o') = (if b % 2 = 1 then o ^^^ a else o) ^^^ (if b' % 2 = 1 then o' ^^^ a else o') := by
      rcases (show b % 2 = 0 ∨ b % 2 = 1 by omega) with h | h <;> rcases (show b' % 2 = 0 ∨ b' % 2 = 1 by omega) with h' | h' <;> simp only [h, h']
      · simp
      · simp; ac_rfl
      · simp; ac_rfl
      · have : (o ^^^ a) ^^^ (o' ^^^ a) = o ^^^ o' := by rw [xor4, Nat.xor_self, Nat.xor_zero]
        simp [this]
    rw [key]
    exact ih _ _ _ _ _
theorem mul_xor_left {a a' : Nat} (b : Nat) (ha : a < 256) (ha' : a' < 256) : mul (a ^^^ a') b = mul a b ^^^ mul a' b := mulN_xor_left 8 a a' b 0 0 ha ha'
theorem mul_xor_right (a b b' : Nat) : mul a (b ^^^ b') = mul a b ^^^ mul a b' := mulN_xor_right 8 a b b' 0 0
theorem mulN_zero_right (n a o : Nat) : mulN n a 0 o = o := by
  induction n generalizing a with
  | zero => rfl
  | succ n ih => unfold mulN; simpa using ih _
theorem mul_zero (a : Nat) : mul a 0 = 0 := mulN_zero_right 8 a 0
theorem zero_mul (b : Nat) : mul 0 b = 0 := by
  have h := mul_xor_left (a := 0) (a' := 0) b (by decide) (by decide)
  rw [Nat.xor_self, Nat.xor_self] at h; exact h

/-- bit i of a, in its place. -/
def bitAt (a i : Nat) : Nat := a / 2 ^ i % 2 * 2 ^ i
theorem bits_of : ∀ a, a < 256 → bitAt a 0 ^^^ (bitAt a 1 ^^^ (bitAt a 2 ^^^ (bitAt a 3 ^^^ (bitAt a 4 ^^^ (bitAt a 5 ^^^ (bitAt a 6 ^^^ bitAt a 7)))))) = a := by decide +kernel
theorem bitAt_cases (a i : Nat) : bitAt a i = 0 ∨ bitAt a i = 2 ^ i := by
  unfold bitAt
  rcases (show a / 2 ^ i % 2 = 0 ∨ a / 2 ^ i % 2 = 1 by omega) with h | h <;> simp [h]
theorem bitAt_lt (a i : Nat) (hi : i < 8) : bitAt a i < 256 := by
  rcases bitAt_cases a i with h | h <;> rw [h]
  · decide
  · rcases (show i = 0 ∨ i = 1 ∨ i = 2 ∨ i = 3 ∨ i = 4 ∨ i = 5 ∨ i = 6 ∨ i = 7 by omega) with rfl | rfl | rfl | rfl | rfl | rfl | rfl | rfl <;> decide
/-- Two functions that turn sums into sums agree where they agree at the eight powers of 2. -/
theorem lin_ext (f g : Nat → Nat) (hf : ∀ x y, x < 256 → y < 256 → f (x ^^^ y) = f x ^^^ f y) (hg : ∀ x y, x < 256 → y < 256 → g (x ^^^ y) = g x ^^^ g y)
    (h : ∀ i, i < 8 → f (2 ^ i) = g (2 ^ i)) (a : Nat) (ha : a < 256) : f a = g a := by
  have f0 : f 0 = 0 := by have := hf 0 0 (by decide) (by decide); rw [Nat.xor_self, Nat.xor_self] at this; exact this
  have g0 : g 0 = 0 := by have := hg 0 0 (by decide) (by decide); rw [Nat.xor_self, Nat.xor_self] at this; exact this
  have at1 : ∀ i, i < 8 → f (bitAt a i) = g (bitAt a i) := by
    intro i hi
    rcases bitAt_cases a i with e | e <;> rw [e]
    · rw [f0, g0]
    · exact h i hi
  have hl := fun i hi => bitAt_lt a i hi
  have e := bits_of a ha
  have l7 := hl 7 (by decide)
  have l6 := xor_lt (hl 6 (by decide)) l7
  have l5 := xor_lt (hl 5 (by decide)) l6
  have l4 := xor_lt (hl 4 (by decide)) l5
  have l3 := xor_lt (hl 3 (by decide)) l4
  have l2 := xor_lt (hl 2 (by decide)) l3
  have l1 := xor_lt (hl 1 (by decide)) l2
  rw [← e, hf _ _ (hl 0 (by decide)) l1, hf _ _ (hl 1 (by decide)) l2, hf _ _ (hl 2 (by decide)) l3, hf _ _ (hl 3 (by decide)) l4, hf _ _ (hl 4 (by decide)) l5, hf _ _ (hl 5 (by decide)) l6, hf _ _ (hl 6 (by decide)) l7,
    hg _ _ (hl 0 (by decide)) l1, hg _ _ (hl 1 (by decide)) l2, hg _ _ (hl 2 (by decide)) l3, hg _ _ (hl 3 (by decide)) l4, hg _ _ (hl 4 (by decide)) l5, hg _ _ (hl 5 (by decide)) l6, hg _ _ (hl 6 (by decide)) l7,
    at1 0 (by decide), at1 1 (by decide), at1 2 (by decide), at1 3 (by decide), at1 4 (by decide), at1 5 (by decide), at1 6 (by decide), at1 7 (by decide)]
theorem pow2_lt {i : Nat} (hi : i < 8) : 2 ^ i < 256 := Nat.pow_lt_pow_right (a := 2) (m := i) (n := 8) (by decide) hi
theorem comm_base : ∀ i, i < 8 → ∀ j, j < 8 → mul (2 ^ i) (2 ^ j) = mul (2 ^ j) (2 ^ i) := by decide +kernel
theorem mul_comm {a b : Nat} (ha : a < 256) (hb : b < 256) : mul a b = mul b a := by
  refine lin_ext (fun x => mul x b) (fun x => mul b x) (fun x y hx hy => mul_xor_left b hx hy) (fun x y _ _ => mul_xor_right b x y) ?_ a ha
  intro i hi
  refine lin_ext (fun y => mul (2 ^ i) y) (fun y => mul y (2 ^ i)) (fun x y _ _ => mul_xor_right _ x y) (fun x y hx hy => mul_xor_left _ hx hy) ?_ b hb
  intro j hj
  exact comm_base i hi j hj
theorem assoc_base : ∀ i, i < 8 → ∀ j, j < 8 → ∀ k, k < 8 → mul (mul (2 ^ i) (2 ^ j)) (2 ^ k) = mul (2 ^ i) (mul (2 ^ j) (2 ^ k)) := by decide +kernel
theorem mul_assoc {a b : Nat} (c : Nat) (ha : a < 256) (hb : b < 256) (hc : c < 256) : mul (mul a b) c = mul a (mul b c) := by
  refine lin_ext (fun x => mul (mul x b) c) (fun x => mul x (mul b c)) (fun x y hx hy => by simp only [mul_xor_left b hx hy, mul_xor_left c (mul_lt b hx) (mul_lt b hy)]) (fun x y hx hy => mul_xor_left _ hx hy) ?_ a ha
  intro i hi
  refine lin_ext (fun x => mul (mul (2 ^ i) x) c) (fun x => mul (2 ^ i) (mul x c)) (fun x y hx hy => by simp only [mul_xor_right, mul_xor_left c (mul_lt x (pow2_lt hi)) (mul_lt y (pow2_lt hi))])
    (fun x y hx hy => by simp only [mul_xor_left c hx hy, mul_xor_right]) ?_ b hb
  intro j hj
  refine lin_ext (fun x => mul (mul (2 ^ i) (2 ^ j)) x) (fun x => mul (2 ^ i) (mul (2 ^ j) x)) (fun x y _ _ => mul_xor_right _ x y) (fun x y _ _ => by simp only [mul_xor_right]) ?_ c hc
  intro k hk
  exact assoc_base i hi j hj k hk
theorem mul_one : ∀ a, a < 256 → mul a 1 = a := by decide +kernel
theorem one_mul {a : Nat} (ha : a < 256) : mul 1 a = a := by rw [mul_comm (by decide) ha, mul_one a ha]

/-- 'power' of the program: n by halves, with fuel. -/
def powF : Nat → Nat → Nat → Nat → Nat
  | 0, _, _, out => out
  | f + 1, a, n, out => if n = 0 then out else powF f (mul a a) (n / 2) (if n % 2 = 1 then mul out a else out)
/-- so often with itself. -/
def pow (a : Nat) : Nat → Nat
  | 0 => 1
  | n + 1 => mul (pow a n) a
theorem pow_lt {a : Nat} (ha : a < 256) : ∀ n, pow a n < 256
  | 0 => (by decide : 1 < 256)
  | n + 1 => mul_lt a (pow_lt ha n)
theorem pow_add {a : Nat} (ha : a < 256) (m : Nat) : ∀ n, pow a (m + n) = mul (pow a m) (pow a n)
  | 0 => by show pow a m = mul (pow a m) 1; rw [mul_one _ (pow_lt ha m)]
  | n + 1 => by
    show mul (pow a (m + n)) a = mul (pow a m) (mul (pow a n) a)
    rw [pow_add ha m n, mul_assoc _ (pow_lt ha m) (pow_lt ha n) ha]
theorem pow_sq {a : Nat} (ha : a < 256) : ∀ n, pow (mul a a) n = pow a (2 * n)
  | 0 => rfl
  | n + 1 => by
    show mul (pow (mul a a) n) (mul a a) = pow a (2 * n + 2)
    rw [pow_sq ha n]
    show _ = mul (mul (pow a (2 * n)) a) a
    rw [mul_assoc _ (pow_lt ha _) ha ha]
theorem powF_eq (f : Nat) : ∀ (a n out : Nat), a < 256 → out < 256 → n < 2 ^ f → powF f a n out = mul out (pow a n) := by
  induction f with
  | zero =>
    intro a n out ha ho hn
    have hn : n < 1 := hn
    obtain rfl : n = 0 := by omega
    show out = mul out 1
    rw [mul_one _ ho]
  | succ f ih =>
    intro a n out ha ho hn
    unfold powF
    have hp : 2 ^ (f + 1) = 2 ^ f * 2 := Nat.pow_succ 2 f
    split
    · next h => subst h; show out = mul out 1; rw [mul_one _ ho]
    · next h =>
      rw [ih _ _ _ (mul_lt a ha) (by split; exact mul_lt a ho; exact ho) (by omega), pow_sq ha]
      split
      · next h1 =>
        have e : n = 2 * (n / 2) + 1 := by omega
        have e2 : pow a n = mul (pow a (2 * (n / 2))) a := by conv => lhs; rw [e]
                                                              rfl
        rw [e2, mul_assoc _ ho ha (pow_lt ha _), mul_comm ha (pow_lt ha _)]
      · next h1 =>
        have e : 2 * (n / 2) = n := by omega
        rw [e]
theorem pow_odd {a n : Nat} (ha : a < 256) (h : n % 2 = 1) : mul a (pow (mul a a) (n / 2)) = pow a n := by
  rw [pow_sq ha, mul_comm ha (pow_lt ha _)]
  have e : n = 2 * (n / 2) + 1 := by omega
  conv => rhs; rw [e]
  rfl
theorem pow_even {a n : Nat} (ha : a < 256) (h : ¬ n % 2 = 1) : pow (mul a a) (n / 2) = pow a n := by
  rw [pow_sq ha]
  have e : 2 * (n / 2) = n := by omega
  rw [e]
def inv (a : Nat) : Nat := pow a 254
theorem inv_lt {a : Nat} (ha : a < 256) : inv a < 256 := pow_lt ha _
theorem powF_inv : ∀ a, a < 256 → a ≠ 0 → mul a (powF 8 a 254 1) = 1 := by decide +kernel
theorem mul_inv {a : Nat} (ha : a < 256) (h : a ≠ 0) : mul a (inv a) = 1 := by
  have := powF_inv a ha h
  rw [powF_eq 8 a 254 1 ha (by decide) (by decide), one_mul (pow_lt ha _)] at this
  exact this
theorem inv_mul {a : Nat} (ha : a < 256) (h : a ≠ 0) : mul (inv a) a = 1 := by rw [mul_comm (inv_lt ha) ha, mul_inv ha h]
theorem mul_eq_zero {a b : Nat} (ha : a < 256) (hb : b < 256) (h : mul a b = 0) : a = 0 ∨ b = 0 := by
  by_cases h0 : a = 0
  · exact .inl h0
  · right
    have := congrArg (mul (inv a)) h
    rw [← mul_assoc b (inv_lt ha) ha hb, inv_mul ha h0, one_mul hb, mul_zero] at this
    exact this
theorem mul_ne_zero {a b : Nat} (ha : a < 256) (hb : b < 256) (h0 : a ≠ 0) (h1 : b ≠ 0) : mul a b ≠ 0 := fun h => (mul_eq_zero ha hb h).elim h0 h1
/-- an element whose product with a is 1 is the inverse. -/
theorem inv_unique {a b : Nat} (ha : a < 256) (hb : b < 256) (h : mul a b = 1) : b = inv a := by
  have h0 : a ≠ 0 := by intro h0; rw [h0, zero_mul] at h; exact absurd h (by decide)
  have := congrArg (mul (inv a)) h
  rw [← mul_assoc b (inv_lt ha) ha hb, inv_mul ha h0, one_mul hb, mul_one _ (inv_lt ha)] at this
  exact this
theorem fermat {a : Nat} (ha : a < 256) (h : a ≠ 0) : pow a 255 = 1 := inv_mul ha h
/-- a polynomial's value, the lowest coefficient first. -/
def horner (x : Nat) : List Nat → Nat
  | [] => 0
  | c :: r => mul (horner x r) x ^^^ c
end Gf
end Go.Proofs.YthdicfcgkbepdaaGreatDoor
