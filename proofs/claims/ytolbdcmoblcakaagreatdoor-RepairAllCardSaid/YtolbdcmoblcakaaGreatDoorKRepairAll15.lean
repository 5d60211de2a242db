/- Plain laws of matrices: the inverse by Gauss and Jordan, products, Vandermonde. -/
import Derived.Test.YtolbdcmoblcakaaGreatDoorKRepairAll14
import Derived.Test.YtolbdcmoblcakaaGreatDoorKRepairAll04
import Derived.Deep.QuietTactic
import Derived.BigQuiet
namespace Go.Proofs.YtolbdcmoblcakaaGreatDoor
namespace Mx

theorem dot_split (r u : Nat → Nat) (n : Nat) : ∀ k, dot r u (n + k) = dot r u n ^^^ dot (fun j => r (n + j)) (fun j => u (n + j)) k
  | 0 => by show _ = _ ^^^ 0; rw [Nat.xor_zero]; rfl
  | k + 1 => by
    show dot r u (n + k) ^^^ _ = _ ^^^ (dot _ _ k ^^^ _)
    rw [dot_split r u n k]; ac_rfl
def unit (j : Nat) : Nat → Nat := fun i => if i = j then 1 else 0
theorem by_unit (j : Nat) : By (unit j) := fun i => by unfold unit; split <;> decide
theorem dot_unit {r : Nat → Nat} (hr : By r) {j c : Nat} (h : j < c) : dot r (unit j) c = r j := by
  rw [dot_one h (fun i _ hne => by unfold unit; rw [if_neg hne, Gf.mul_zero])]
  unfold unit
  rw [if_pos rfl, Gf.mul_one _ (hr j)]
theorem dot_unitL {v : Nat → Nat} (hv : By v) {j c : Nat} (h : j < c) : dot (unit j) v c = v j := by
  rw [dot_one h (fun i _ hne => by unfold unit; rw [if_neg hne, Gf.zero_mul])]
  unfold unit
  rw [if_pos rfl, Gf.one_mul (hv j)]
/-- the product of two matrices, k in the middle. -/
def mulM (A B : Nat → Nat → Nat) (k : Nat) : Nat → Nat → Nat := fun i j => dot (A i) (fun l => B l j) k
theorem by_mul {A : Nat → Nat → Nat} (hA : ByM A) (B : Nat → Nat → Nat) (k : Nat) : ByM (mulM A B k) := fun i _ => dot_lt (hA i) k
theorem dot_mul {a : Nat → Nat} {B : Nat → Nat → Nat} {v : Nat → Nat} (ha : By a) (hB : ByM B) (hv : By v) (c : Nat) : ∀ k, dot (fun j => dot a (fun l => B l j) k) v c = dot a (fun l => dot (B l) v c) k
  | 0 => dot_zeroL v c
  | k + 1 => by
    show dot (fun j => dot a (fun l => B l j) k ^^^ Gf.mul (a k) (B k j)) v c = dot a _ k ^^^ Gf.mul (a k) (dot (B k) v c)
    rw [← dot_mul ha hB hv c k, Gf.mul_comm (ha k) (dot_lt (hB k) c), ← dot_add (fun j => dot_lt ha k) (hB k) hv (ha k)]
    exact dot_congr (fun j _ => by rw [Gf.mul_comm (ha k) (hB k j)]) (fun _ _ => rfl)

/-- the matrix with a unit behind it. -/
def wide (m : Nat → Nat → Nat) (n : Nat) : Nat → Nat → Nat := fun i j => if j < n then m i j else if j = n + i then 1 else 0
theorem by_wide {m : Nat → Nat → Nat} (h : ByM m) (n : Nat) : ByM (wide m n) := fun i j => by
  unfold wide; split
  · exact h i j
  · split <;> decide
theorem RR.leads {M : Nat → Nat → Nat} {n : Nat} {L : Nat → Nat} (h : RR M n n n L) : ∀ i, i < n → L i = i := by
  have up : ∀ i, i < n → i ≤ L i := by
    intro i
    induction i with
    | zero => intro _; exact Nat.zero_le _
    | succ i ih => intro hi; have := ih (by omega); have := h.up i (i + 1) (by omega) hi; omega
  have down : ∀ k i, i + k + 1 = n → L i ≤ i := by
    intro k
    induction k with
    | zero => intro i hi; have := h.lt i (by omega); omega
    | succ k ih => intro i hi; have := ih (i + 1) (by omega); have := h.up i (i + 1) (by omega) (by omega); omega
  intro i hi
  have := up i hi
  have := down (n - i - 1) i (by omega)
  omega
def join (v w : Nat → Nat) (n : Nat) : Nat → Nat := fun j => if j < n then v j else w (j - n)
theorem by_join {v w : Nat → Nat} (hv : By v) (hw : By w) (n : Nat) : By (join v w n) := fun j => by unfold join; split; exact hv j; exact hw _
theorem dot_wide {m : Nat → Nat → Nat} {v w : Nat → Nat} (hw : By w) {n i : Nat} (hi : i < n) : dot (wide m n i) (join v w n) (n + n) = dot (m i) v n ^^^ w i := by
  rw [dot_split]
  congr 1
  · exact dot_congr (fun j hj => by unfold wide; rw [if_pos hj]) (fun j hj => by unfold join; rw [if_pos hj])
  · rw [← dot_unitL hw hi]
    exact dot_congr (fun j hj => by
      unfold wide unit
      rw [if_neg (by omega)]
      by_cases e : j = i
      · rw [if_pos (by omega), if_pos e]
      · rw [if_neg (by omega), if_neg e]) (fun j hj => by
      unfold join
      rw [if_neg (by omega), Nat.add_sub_cancel_left])
def right (M : Nat → Nat → Nat) (n : Nat) : Nat → Nat → Nat := fun i j => M i (n + j)
theorem by_right {M : Nat → Nat → Nat} (h : ByM M) (n : Nat) : ByM (right M n) := fun i j => h i (n + j)
theorem dot_right {M : Nat → Nat → Nat} {n : Nat} {L : Nat → Nat} {v w : Nat → Nat} (h : RR M n n n L) (hv : By v) {i : Nat} (hi : i < n) : dot (M i) (join v w n) (n + n) = v i ^^^ dot (right M n i) w n := by
  rw [dot_split]
  congr 1
  · rw [← dot_unitL hv hi]
    exact dot_congr (fun j hj => by
      unfold unit
      by_cases e : j = i
      · rw [if_pos e, e]
        have := h.one i hi
        rwa [h.leads i hi] at this
      · rw [if_neg e]
        have := h.alone j hj i hi (Ne.symm e)
        rwa [h.leads j hj] at this) (fun j hj => by unfold join; rw [if_pos hj])
  · exact dot_congr (fun _ _ => rfl) (fun j hj => by unfold join; rw [if_neg (by omega), Nat.add_sub_cancel_left])
theorem xor_zero_iff {a b : Nat} : a ^^^ b = 0 ↔ a = b := ⟨Gf.xor_eq_zero, fun e => by rw [e, Nat.xor_self]⟩
/-- THE INVERSE: what stands behind the reduced matrix. -/
theorem inverse {m M : Nat → Nat → Nat} {n : Nat} {L : Nat → Nat} (h : RR M n n n L) (hk : ∀ v, By v → (Ker M n (n + n) v ↔ Ker (wide m n) n (n + n) v)) {v w : Nat → Nat} (hv : By v) (hw : By w) :
    (∀ i, i < n → v i = dot (right M n i) w n) ↔ (∀ i, i < n → dot (m i) v n = w i) := by
  have hh := hk (join v w n) (by_join hv hw n)
  constructor
  · intro h1 i hi
    have := hh.1 (fun i hi => by rw [dot_right h hv hi]; exact xor_zero_iff.2 (h1 i hi)) i hi
    rw [dot_wide hw hi] at this
    exact xor_zero_iff.1 this
  · intro h1 i hi
    have := hh.2 (fun i hi => by rw [dot_wide hw hi]; exact xor_zero_iff.2 (h1 i hi)) i hi
    rw [dot_right h hv hi] at this
    exact xor_zero_iff.1 this
/-- x is the inverse of m, both ways. -/
structure Inv (m x : Nat → Nat → Nat) (n : Nat) : Prop where
  by_ : ByM x
  right : ∀ i j, i < n → j < n → mulM m x n i j = if i = j then 1 else 0
  left : ∀ i j, i < n → j < n → mulM x m n i j = if i = j then 1 else 0
theorem inverse_of {m M : Nat → Nat → Nat} {n : Nat} {L : Nat → Nat} (hm : ByM m) (hM : ByM M) (h : RR M n n n L) (hk : ∀ v, By v → (Ker M n (n + n) v ↔ Ker (wide m n) n (n + n) v)) : Inv m (Mx.right M n) n := by
  refine ⟨by_right hM n, fun i j hi hj => ?_, fun i j hi hj => ?_⟩
  · have := (inverse h hk (v := fun l => Mx.right M n l j) (w := unit j) (fun l => by_right hM n l j) (by_unit j)).1 (fun i hi => by rw [dot_unit (by_right hM n i) hj]) i hi
    exact this
  · have := (inverse h hk (v := unit j) (w := fun l => m l j) (by_unit j) (fun l => hm l j)).2 (fun i hi => by rw [dot_unit (hm i) hj]) i hi
    exact this.symm
/-- m x v = v. -/
theorem Inv.app {m x : Nat → Nat → Nat} {n : Nat} (h : Inv m x n) (hm : ByM m) {v : Nat → Nat} (hv : By v) {i : Nat} (hi : i < n) : dot (m i) (fun l => dot (x l) v n) n = v i := by
  rw [← dot_mul (hm i) h.by_ hv, ← dot_unitL hv hi]
  exact dot_congr (fun j hj => by
    have := h.right i j hi hj
    unfold mulM at this
    rw [this]; unfold unit
    by_cases e : i = j
    · rw [if_pos e, if_pos e.symm]
    · rw [if_neg e, if_neg (Ne.symm e)]) (fun _ _ => rfl)
theorem Inv.symm {m x : Nat → Nat → Nat} {n : Nat} (h : Inv m x n) (hm : ByM m) : Inv x m n := ⟨hm, h.left, h.right⟩

/-! ### Vandermonde -/
/-- the value at x of the polynomial with the first k coefficients v, by its powers. -/
theorem horner_dot {v : Nat → Nat} {x : Nat} (hv : By v) (hx : x < 256) : ∀ k, dot (fun l => Gf.pow x l) v k = Gf.horner x ((List.range k).map v)
  | 0 => rfl
  | k + 1 => by
    have split : ∀ (k : Nat) (v : Nat → Nat), By v → dot (fun l => Gf.pow x l) v (k + 1) = v 0 ^^^ Gf.mul (dot (fun l => Gf.pow x l) (fun l => v (l + 1)) k) x := by
      intro k
      induction k with
      | zero =>
        intro v hv
        show 0 ^^^ Gf.mul 1 (v 0) = v 0 ^^^ Gf.mul 0 x
        rw [Gf.one_mul (hv 0), Gf.zero_mul, Nat.zero_xor, Nat.xor_zero]
      | succ k ih =>
        intro v hv
        show dot _ v (k + 1) ^^^ Gf.mul (Gf.pow x (k + 1)) (v (k + 1)) = v 0 ^^^ Gf.mul (dot _ _ k ^^^ Gf.mul (Gf.pow x k) (v (k + 1))) x
        rw [ih v hv, Gf.mul_xor_left _ (dot_lt (fun l => Gf.pow_lt hx l) k) (Gf.mul_lt _ (Gf.pow_lt hx k))]
        have e : Gf.mul (Gf.pow x (k + 1)) (v (k + 1)) = Gf.mul (Gf.mul (Gf.pow x k) (v (k + 1))) x := by
          have e1 : Gf.pow x (k + 1) = Gf.mul (Gf.pow x k) x := by
            have := Gf.pow_add hx k 1
            rw [this]
            congr 1
            show Gf.mul _ _ = _
            first | exact Gf.mul_one _ hx | exact Gf.one_mul hx
          rw [e1, Gf.mul_assoc _ (Gf.pow_lt hx k) hx (hv _), Gf.mul_comm hx (hv _), ← Gf.mul_assoc _ (Gf.pow_lt hx k) (hv _) hx]
        rw [e]; ac_rfl
    rw [split k v hv, List.range_succ_eq_map, List.map_cons, List.map_map, horner_dot (fun l => hv (l + 1)) hx k]
    show _ = Gf.mul (Gf.horner x _) x ^^^ v 0
    exact Nat.xor_comm _ _
theorem coef_zero : ∀ (p : List Nat), Bytes p → p.length ≤ 200 → (∀ x, x < 256 → Gf.horner x p = 0) → ∀ c ∈ p, c = 0
  | [], _, _, _ => fun c hc => by cases hc
  | a :: r, hp, hl, h => by
    have hr : Bytes r := fun x hx => hp x (List.mem_cons_of_mem _ hx)
    have ha : a = 0 := by
      have : Gf.mul (Gf.horner 0 r) 0 ^^^ a = 0 := h 0 (by decide)
      rwa [Gf.mul_zero, Nat.zero_xor] at this
    have h1 : ∀ x, x < 256 → x ≠ 0 → Gf.horner x r = 0 := fun x hx h0 => by
      have : Gf.mul (Gf.horner x r) x ^^^ a = 0 := h x hx
      rw [ha, Nat.xor_zero] at this
      exact (Gf.mul_eq_zero (Gf.horner_lt hr x) hx this).resolve_right h0
    have hlr : r.length ≤ 199 := by simp only [List.length_cons] at hl; omega
    have h2 := Gf.Poly.roots (n := r.length) (f := fun x => Gf.horner x r) ⟨r, rfl, hr, fun _ _ => rfl⟩ ((List.range r.length).map (· + 1)) (by
      rw [List.nodup_iff_pairwise_ne, List.pairwise_map]
      exact List.Pairwise.imp (fun hne e => hne (by omega)) List.nodup_range) (by simp) (fun y hy => by
      obtain ⟨i, hi, rfl⟩ := List.mem_map.1 hy
      have := List.mem_range.1 hi
      exact ⟨by omega, h1 _ (by omega) (by omega)⟩)
    intro c hc
    rcases List.mem_cons.1 hc with rfl | hc
    · exact ha
    · exact coef_zero r hr (by omega) h2 c hc
/-- VANDERMONDE: powers of k places turn nothing but 0 to 0. -/
theorem vander {xs : Nat → Nat} {k : Nat} (hk : k ≤ 200) (hx : ∀ i, i < k → xs i < 256) (hd : ∀ i j, i < k → j < k → xs i = xs j → i = j) {v : Nat → Nat} (hv : By v)
    (h : ∀ i, i < k → dot (fun l => Gf.pow (xs i) l) v k = 0) : ∀ j, j < k → v j = 0 := by
  have hp : Bytes ((List.range k).map v) := fun x hx => by
    obtain ⟨i, _, rfl⟩ := List.mem_map.1 hx
    exact hv i
  have h2 := Gf.Poly.roots (n := k) (f := fun x => Gf.horner x ((List.range k).map v)) ⟨_, by simp, hp, fun _ _ => rfl⟩ ((List.range k).map xs) (by
      rw [List.nodup_iff_pairwise_ne, List.pairwise_map]
      refine List.Pairwise.imp_of_mem ?_ List.nodup_range
      intro a b ha hb hne e
      exact hne (hd a b (List.mem_range.1 ha) (List.mem_range.1 hb) e)) (by simp) (fun y hy => by
      obtain ⟨i, hi, rfl⟩ := List.mem_map.1 hy
      have hi := List.mem_range.1 hi
      exact ⟨hx i hi, by rw [← horner_dot hv (hx i hi)]; exact h i hi⟩)
  intro j hj
  exact coef_zero _ hp (by simpa using hk) h2 (v j) (List.mem_map.2 ⟨j, List.mem_range.2 hj, rfl⟩)
/-- what turns nothing but 0 to 0 has full rank. -/
theorem Ech.full {M : Nat → Nat → Nat} {n c : Nat} {L : Nat → Nat} (h : Ech M n c L) (hM : ByM M) (hk : ∀ v, By v → Ker M n c v → ∀ j, j < c → v j = 0) : n = c := by
  have hu : Ech (fun i => unit i) c c (fun i => i) := ⟨fun _ hi => hi, fun i _ => by unfold unit; rw [if_pos rfl]; decide, fun i _ j hj => by unfold unit; rw [if_neg (by omega)], fun _ _ _ _ e => e⟩
  refine h.same hu hM by_unit (fun v hv => ⟨fun hK i hi => ?_, fun hK i hi => ?_⟩)
  · rw [dot_unitL hv hi]; exact hk v hv hK i hi
  · have hz : ∀ j, j < c → v j = 0 := fun j hj => by
      have := hK j hj
      rwa [dot_unitL hv hj] at this
    rw [dot_congr (r' := M i) (v' := fun _ => 0) (fun _ _ => rfl) hz]
    have : ∀ c, dot (M i) (fun _ => 0) c = 0 := by
      intro c
      induction c with
      | zero => rfl
      | succ c ih => show dot _ _ c ^^^ Gf.mul _ 0 = 0; rw [ih, Gf.mul_zero]; rfl
    exact this c
end Mx
end Go.Proofs.YtolbdcmoblcakaaGreatDoor
/- The document's product, inverse and power of bytes: plain laws and walks. -/
namespace Go.Proofs.YtolbdcmoblcakaaGreatDoor
open Go.RowKit

namespace Rf
/-- the product of polynomials, i bits of b being over. -/
def ph1 (a b : Nat) : Nat → Nat
  | 0 => 0
  | i + 1 => if b / 2 ^ i % 2 = 1 then ph1 a b i ^^^ a * 2 ^ i else ph1 a b i
/-- what is left, k of the seven upper bits being over. -/
def ph2 (n : Nat) : Nat → Nat
  | 0 => n
  | k + 1 => if ph2 n k / 2 ^ (14 - k) % 2 = 1 then ph2 n k ^^^ 285 * 2 ^ (6 - k) else ph2 n k
def mul (a b : Nat) : Nat := ph2 (ph1 a b 8) 7 % 256

theorem xor_mul_pow (a b i : Nat) : (a ^^^ b) * 2 ^ i = (a * 2 ^ i) ^^^ (b * 2 ^ i) := by
  have h := Nat.shiftLeft_xor_distrib (a := a) (b := b) (i := i)
  simpa [Nat.shiftLeft_eq] using h
theorem xor_bit (a b i : Nat) : (a ^^^ b) / 2 ^ i % 2 = (a / 2 ^ i % 2) ^^^ (b / 2 ^ i % 2) := by
  have h := Nat.shiftRight_xor_distrib (a := a) (b := b) (i := i)
  simp only [Nat.shiftRight_eq_div_pow] at h
  rw [h, Gf.xor_mod_2]
theorem ph1_left (a a' b : Nat) : ∀ i, ph1 (a ^^^ a') b i = ph1 a b i ^^^ ph1 a' b i
  | 0 => (by decide : 0 = 0 ^^^ 0)
  | i + 1 => by
    unfold ph1
    rw [ph1_left a a' b i]
    split
    · rw [xor_mul_pow, Gf.xor4]
    · rfl
/-- one of two, by a bit of a sum. -/
theorem pick_xor {p q x y c : Nat} (hp : p < 2) (hq : q < 2) : (if p ^^^ q = 1 then (x ^^^ y) ^^^ c else x ^^^ y) = (if p = 1 then x ^^^ c else x) ^^^ (if q = 1 then y ^^^ c else y) := by
  rcases (show p = 0 ∨ p = 1 by omega) with rfl | rfl <;> rcases (show q = 0 ∨ q = 1 by omega) with rfl | rfl
  · simp
  · simp; ac_rfl
  · simp; ac_rfl
  · have : (x ^^^ c) ^^^ (y ^^^ c) = x ^^^ y := by rw [Gf.xor4, Nat.xor_self, Nat.xor_zero]
    simp [this]
theorem ph1_right (a b b' : Nat) : ∀ i, ph1 a (b ^^^ b') i = ph1 a b i ^^^ ph1 a b' i
  | 0 => (by decide : 0 = 0 ^^^ 0)
  | i + 1 => by
    unfold ph1
    rw [ph1_right a b b' i, xor_bit]
    exact pick_xor (by omega) (by omega)
theorem ph2_xor (n n' : Nat) : ∀ k, ph2 (n ^^^ n') k = ph2 n k ^^^ ph2 n' k
  | 0 => rfl
  | k + 1 => by
    unfold ph2
    rw [ph2_xor n n' k, xor_bit]
    exact pick_xor (by omega) (by omega)
theorem mul_left (a a' b : Nat) : mul (a ^^^ a') b = mul a b ^^^ mul a' b := by
  unfold mul; rw [ph1_left, ph2_xor, Gf.xor_mod_256]
theorem mul_right (a b b' : Nat) : mul a (b ^^^ b') = mul a b ^^^ mul a b' := by
  unfold mul; rw [ph1_right, ph2_xor, Gf.xor_mod_256]
theorem base : ∀ i, i < 8 → ∀ j, j < 8 → mul (2 ^ i) (2 ^ j) = Gf.mul (2 ^ i) (2 ^ j) := by decide +kernel
/-- the document's product is the program's. -/
theorem mul_eq {a b : Nat} (ha : a < 256) (hb : b < 256) : mul a b = Gf.mul a b := by
  refine Gf.lin_ext (fun x => mul x b) (fun x => Gf.mul x b) (fun x y _ _ => mul_left x y b) (fun x y hx hy => Gf.mul_xor_left b hx hy) (fun i hi => ?_) a ha
  refine Gf.lin_ext (fun y => mul (2 ^ i) y) (fun y => Gf.mul (2 ^ i) y) (fun x y _ _ => mul_right _ x y) (fun x y _ _ => Gf.mul_xor_right _ x y) (fun j hj => ?_) b hb
  exact base i hi j hj
theorem ph1_lt {a : Nat} (b : Nat) (ha : a < 256) : ∀ i, i ≤ 8 → ph1 a b i < 2 ^ (i + 8)
  | 0, _ => (by decide : 0 < 256)
  | i + 1, hi => by
    have ih := ph1_lt b ha i (by omega)
    have h1 : ph1 a b i < 2 ^ (i + 1 + 8) := Nat.lt_of_lt_of_le ih (Nat.pow_le_pow_right (by decide) (by omega))
    have h2 : a * 2 ^ i < 2 ^ (i + 1 + 8) := by
      have e : 2 ^ (i + 1 + 8) = 512 * 2 ^ i := by rw [show i + 1 + 8 = 9 + i by omega, Nat.pow_add]
      have := Nat.pos_of_ne_zero (Nat.pos_iff_ne_zero.1 (Nat.two_pow_pos i))
      rw [e]
      exact Nat.mul_lt_mul_of_pos_right (by omega) this
    unfold ph1
    split
    · exact Nat.xor_lt_two_pow h1 h2
    · exact h1
theorem ph2_lt {n : Nat} (hn : n < 65536) : ∀ k, k ≤ 7 → ph2 n k < 65536
  | 0, _ => hn
  | k + 1, hk => by
    have ih := ph2_lt hn k (by omega)
    unfold ph2
    split
    · refine Nat.xor_lt_two_pow (n := 16) ih ?_
      have : 2 ^ (6 - k) ≤ 2 ^ 6 := Nat.pow_le_pow_right (by decide) (by omega)
      omega
    · exact ih
end Rf

theorem int_pow (i : Nat) : (2 : Int) ^ i = ((2 ^ i : Nat) : Int) := by simp
theorem tbit (b i : Nat) : ((b : Int) / 2 ^ i).tmod 2 = ((b / 2 ^ i % 2 : Nat) : Int) := by
  rw [int_pow, ← Int.natCast_ediv]
  generalize b / 2 ^ i = m
  rw [Int.tmod_eq_emod_of_nonneg (by omega)]
  omega
theorem xor_i64_nat (a b : Nat) (ha : a < 65536) (hb : b < 65536) : bits .xor .i64 (a : Int) (b : Int) = ((a ^^^ b : Nat) : Int) := by
  have hx : a ^^^ b < 65536 := Nat.xor_lt_two_pow (n := 16) ha hb
  have e : ∀ n : Nat, n < 65536 → (BitVec.ofInt 64 (n : Int)).toNat = n := fun n hn => by
    rw [BitVec.toNat_ofInt]; omega
  show IntKind.i64.wrap ((BitVec.ofInt 64 (a : Int) ^^^ BitVec.ofInt 64 (b : Int)).toNat : Nat) = _
  rw [BitVec.toNat_xor, e a ha, e b hb, IntKind.wrap_i64]
  omega

set_option maxHeartbeats 1000000 in
theorem rmul_walk (a b : Nat) (w : World) (ha : a < 256) (hb : b < 256) :
    Calls Tryz.prog 36 #[.int .u8 a, .int .u8 b] w fun e w' => e = .returned (.int .u8 (Gf.mul a b : Nat)) ∧ w = w' := by
  rw [← Rf.mul_eq ha hb]
  go_enter Tryz.func36, Tryz.ntmps36
  go_wp2
  go_loop [6, 5] (fun vi vn => ∃ i : Nat, i ≤ 8 ∧ vi = .int .i64 i ∧ vn = .int .i64 (Rf.ph1 a b i : Nat)) (fun i _ => 8 - (intOf i).toNat)
  case atStart => exact ⟨0, by omega, rfl, rfl⟩
  case round =>
    obtain ⟨i, hi, rfl, rfl⟩ := hrel
    have hn := Rf.ph1_lt b ha i hi
    have hp : 2 ^ (i + 8) ≤ 65536 := Nat.pow_le_pow_right (n := 2) (j := 16) (by decide) (by omega)
    have hn2 : Rf.ph1 a b i < 65536 := by omega
    clear hn hp
    by_cases hlt : i < 8
    · by_cases h1 : b / 2 ^ i % 2 = 1
      · have ht : (((b : Int) / 2 ^ i).tmod 2 == 1) = true := by rw [tbit, h1]; rfl
        have hs : Rf.ph1 a b (i + 1) = Rf.ph1 a b i ^^^ a * 2 ^ i := by rw [Rf.ph1, if_pos h1]
        have Hs := Lib.hid hs; clear hs h1
        have h2 : 2 ^ i ≤ 128 := Nat.pow_le_pow_right (n := 2) (j := 7) (by decide) (by omega)
        have h3 : a * 2 ^ i < 65536 := Nat.lt_of_le_of_lt (Nat.mul_le_mul (Nat.le_of_lt_succ ha) h2) (by decide)
        have h4 : wrap64 ((a : Int) * 2 ^ i) = ((a * 2 ^ i : Nat) : Int) := by
          have e : (a : Int) * 2 ^ i = ((a * 2 ^ i : Nat) : Int) := by simp
          rw [e]
          have h5 : ((a * 2 ^ i : Nat) : Int) < 65536 := Int.ofNat_lt.2 h3
          have h6 : (0 : Int) ≤ ((a * 2 ^ i : Nat) : Int) := Int.natCast_nonneg _
          generalize ((a * 2 ^ i : Nat) : Int) = z at h5 h6
          exact IntWalk.wrap64_in _ ⟨by omega, by omega⟩
        have H3 := Lib.hid h3
        have H4 := Lib.hid h4
        clear h2 h3 h4
        go_wp2
        go_round
        case rel => exact ⟨i + 1, by omega, by go_num, by rw [Hs.out, H4.out, xor_i64_nat _ _ hn2 H3.out]⟩
        case measure => simp [intOf]; omega
      · have ht : (((b : Int) / 2 ^ i).tmod 2 == 1) = false := by
          have h0 : b / 2 ^ i % 2 = 0 := by omega
          rw [tbit, h0]; rfl
        have hs : Rf.ph1 a b (i + 1) = Rf.ph1 a b i := by rw [Rf.ph1, if_neg h1]
        have Hs := Lib.hid hs; clear hs h1
        go_wp2
        go_round
        case rel => exact ⟨i + 1, by omega, by go_num, by rw [Hs.out]⟩
        case measure => simp [intOf]; omega
    · obtain rfl : i = 8 := by omega
      clear hi hlt
      have e0 : Rf.mul a b = Rf.ph2 (Rf.ph1 a b 8) 7 % 256 := rfl
      have E0 := Lib.hid e0; clear e0
      generalize Rf.ph1 a b 8 = m at hn2 E0
      go_wp2
      go_loop [7, 5] (fun vi vn => ∃ k : Nat, k ≤ 7 ∧ vi = .int .i64 (14 - (k : Int)) ∧ vn = .int .i64 (Rf.ph2 m k : Nat)) (fun i _ => (intOf i).toNat)
      case atStart => exact ⟨0, by omega, by simp, rfl⟩
      case round =>
        obtain ⟨k, hk, rfl, rfl⟩ := hrel
        have hm2 := Rf.ph2_lt hn2 k hk
        by_cases hlk : k < 7
        · obtain ⟨j, hj⟩ : ∃ j : Nat, j + k = 14 := ⟨14 - k, by omega⟩
          have ej : (14 : Int) - (k : Int) = (j : Int) := by omega
          rw [ej]
          have hj8 : (8 : Int) ≤ (j : Int) := by omega
          have hj15 : (j : Int) < 15 := by omega
          have ek : 14 - k = j := by omega
          have ek6 : 6 - k = j - 8 := by omega
          by_cases h1 : Rf.ph2 m k / 2 ^ j % 2 = 1
          · have ht : (((Rf.ph2 m k : Nat) : Int) / 2 ^ j).tmod 2 = 1 := by rw [tbit, h1]; rfl
            have hs : Rf.ph2 m (k + 1) = Rf.ph2 m k ^^^ 285 * 2 ^ (j - 8) := by rw [Rf.ph2, ek, ek6, if_pos h1]
            have Hs := Lib.hid hs; clear hs h1
            have Hj := Lib.hid hj; clear hj
            clear ek ek6 ej
            generalize Rf.ph2 m k = q at hm2 ht Hs
            go_wp2
            go_round
            case rel => exact ⟨k + 1, by omega, by rw [show (14 : Int) - ((k + 1 : Nat) : Int) = (j : Int) - 1 from by have := Hj.out; omega], by
              have h2 : 2 ^ (j - 8) ≤ 64 := Nat.pow_le_pow_right (n := 2) (j := 6) (by decide) (by omega)
              have h4 : wrap64 (285 * 2 ^ (j - 8)) = ((285 * 2 ^ (j - 8) : Nat) : Int) := by
                rw [int_pow]
                generalize 2 ^ (j - 8) = m at h2 ⊢
                rw [IntWalk.wrap64_in _ ⟨by omega, by omega⟩]
                omega
              rw [Hs.out, h4, xor_i64_nat _ _ hm2 (by omega)]⟩
            case measure => simp [intOf]; omega
          · have ht : (((Rf.ph2 m k : Nat) : Int) / 2 ^ j).tmod 2 = 0 := by rw [tbit]; omega
            have hs : Rf.ph2 m (k + 1) = Rf.ph2 m k := by rw [Rf.ph2, ek, if_neg h1]
            have Hs := Lib.hid hs; clear hs h1
            have Hj := Lib.hid hj; clear hj
            clear ek ek6 ej
            generalize Rf.ph2 m k = q at hm2 ht Hs
            go_wp2
            go_round
            case rel => exact ⟨k + 1, by omega, by rw [show (14 : Int) - ((k + 1 : Nat) : Int) = (j : Int) - 1 from by have := Hj.out; omega], by rw [Hs.out]⟩
            case measure => simp [intOf]; omega
        · obtain rfl : k = 7 := by omega
          go_wp2
          go_ret
          exact ⟨ret_int (by rw [E0.out]; omega), rfl⟩

set_option maxHeartbeats 1000000 in
theorem rinv_walk (a : Nat) (w : World) (ha : a < 256) (h0 : a ≠ 0) :
    Calls Tryz.prog 82 #[.int .u8 a] w fun e w' => e = .returned (.int .u8 (Gf.inv a : Nat)) ∧ w = w' := by
  have hi := Gf.inv_lt ha
  have hm := Gf.mul_inv ha h0
  have hi0 : Gf.inv a ≠ 0 := fun e => by rw [e, Gf.mul_zero] at hm; exact absurd hm (by decide)
  have Hm := Lib.hid hm; clear hm
  go_enter Tryz.func82, Tryz.ntmps82
  go_wp2
  go_loop [3] (fun vi => ∃ i : Nat, i ≤ Gf.inv a ∧ 1 ≤ i ∧ vi = .int .i64 i) (fun i => 256 - (intOf i).toNat)
  case atStart => exact ⟨1, by omega, by omega, rfl⟩
  case round =>
    obtain ⟨i, hle, h1, rfl⟩ := hrel
    have hlt : (i : Int) < 256 := by omega
    go_wp2_with fail
    refine (rmul_walk a i _ ha (by omega)).mono ?_
    rintro e w' ⟨rfl, rfl⟩
    by_cases he : Gf.mul a i = 1
    · have hr : i = Gf.inv a := Gf.inv_unique ha (by omega) he
      have Hr := Lib.hid hr; clear hr
      go_wp2
      go_ret
      exact ⟨ret_int (by rw [← Hr.out]), rfl⟩
    · have ht : (((Gf.mul a i : Nat) : Int) == 1) = false := by simp; omega
      have hne : i ≠ Gf.inv a := fun e => he (by rw [e]; exact Hm.out)
      clear he
      go_wp2
      go_round
      case rel => exact ⟨i + 1, by omega, by omega, by go_num⟩
      case measure => simp [intOf]; omega

/-- what the document's Pow answers: the power, or an error's number. -/
def rpowE (a : Nat) (n : Int) : Int := if n = 0 then 0 else if a = 0 ∧ n < 0 then 12 else 0
def rpowV (a : Nat) (n : Int) : Nat := if a = 0 ∧ n < 0 then 0 else powZ a n
theorem ret2_ii {k : IntKind} {a b : Int} {c d : Int} {j : IntKind} (h : a = b) (h' : c = d) : Ending.returned (.tuple #[.int k a, .int j c]) = .returned (.tuple #[.int k b, .int j d]) := by rw [h, h']
theorem tmod_neg (n : Int) : (if n.tmod 255 < 0 then n.tmod 255 + 255 else n.tmod 255) = (((n % 255).toNat : Nat) : Int) := by
  obtain ⟨h1, h2, q, hq⟩ := tmod_bd n
  split <;> omega

end Go.Proofs.YtolbdcmoblcakaaGreatDoor
/- The walks of the document's Eval, Basis and Between. -/
namespace Go.Proofs.YtolbdcmoblcakaaGreatDoor
open Go.RowKit

theorem rmul_q (a b : Nat) (w : World) (ha : a < 256) (hb : b < 256) : Calls Tryz.prog 36 #[.int .u8 a, .int .u8 b] w fun e w' => e = .returned (.int .u8 (Gf.mul a b : Nat)) ∧ w' = w :=
  (rmul_walk a b w ha hb).mono fun _ _ ⟨h1, h2⟩ => ⟨h1, h2.symm⟩
theorem rinv_q (a : Nat) (w : World) (ha : a < 256) (h0 : a ≠ 0) : Calls Tryz.prog 82 #[.int .u8 a] w fun e w' => e = .returned (.int .u8 (Gf.inv a : Nat)) ∧ w' = w :=
  (rinv_walk a w ha h0).mono fun _ _ ⟨h1, h2⟩ => ⟨h1, h2.symm⟩

/-- the sum of the first k terms. -/
def revN (p : List Nat) (x : Nat) : Nat → Nat
  | 0 => 0
  | k + 1 => revN p x k ^^^ Gf.mul (p[k]?.getD 0) (Gf.pow x k)
theorem revN_lt {p : List Nat} (hp : Bytes p) (x : Nat) : ∀ k, revN p x k < 256
  | 0 => (by decide : 0 < 256)
  | k + 1 => Gf.xor_lt (revN_lt hp x k) (Gf.mul_lt _ (hp.at k))
/-- Horner's way comes to the same. -/
theorem revN_cons {c : Nat} {p : List Nat} (hc : c < 256) (hp : Bytes p) {x : Nat} (hx : x < 256) : ∀ k, revN (c :: p) x (k + 1) = Gf.mul (revN p x k) x ^^^ c
  | 0 => by
    show 0 ^^^ Gf.mul c (Gf.pow x 0) = Gf.mul 0 x ^^^ c
    rw [Gf.zero_mul, Nat.zero_xor, Nat.zero_xor]
    exact Gf.mul_one c hc
  | k + 1 => by
    show revN (c :: p) x (k + 1) ^^^ Gf.mul (p[k]?.getD 0) (Gf.mul (Gf.pow x k) x) = Gf.mul (revN p x k ^^^ Gf.mul (p[k]?.getD 0) (Gf.pow x k)) x ^^^ c
    rw [revN_cons hc hp hx k, Gf.mul_xor_left x (revN_lt hp x k) (Gf.mul_lt _ (hp.at k)), Gf.mul_assoc x (hp.at k) (Gf.pow_lt hx k) hx, Nat.xor_assoc, Nat.xor_assoc]
    congr 1
    exact Nat.xor_comm _ _
theorem revN_all {p : List Nat} (hp : Bytes p) {x : Nat} (hx : x < 256) : revN p x p.length = Gf.horner x p := by
  induction p with
  | nil => rfl
  | cons c p ih =>
    have hp' : Bytes p := fun y hy => hp y (List.mem_cons_of_mem _ hy)
    rw [List.length_cons, revN_cons (hp c List.mem_cons_self) hp' hx, ih hp']
    rfl

/-! ### Basis -/
/-- the product of the first k factors. -/
def basN (xs : List Nat) (i x a : Nat) : Nat → Nat
  | 0 => 1
  | k + 1 => if k = i then basN xs i x a k else Gf.mul (basN xs i x a k) (Gf.mul (x ^^^ xs[k]?.getD 0) (Gf.inv (a ^^^ xs[k]?.getD 0)))
theorem basN_lt (xs : List Nat) (i x a : Nat) : ∀ k, basN xs i x a k < 256
  | 0 => (by decide : 1 < 256)
  | k + 1 => by
    unfold basN
    split
    · exact basN_lt xs i x a k
    · exact Gf.mul_lt _ (basN_lt xs i x a k)
def bas (xs : List Nat) (i x : Nat) : Nat := basN xs i x (xs[i]?.getD 0) xs.length
theorem inv_one : Gf.inv 1 = 1 := (Gf.inv_unique (by decide) (by decide) (by decide)).symm
theorem inv_mul_mul {a b : Nat} (ha : a < 256) (hb : b < 256) (h0 : a ≠ 0) (h1 : b ≠ 0) : Gf.inv (Gf.mul a b) = Gf.mul (Gf.inv a) (Gf.inv b) := by
  have la := Gf.inv_lt ha
  have lb := Gf.inv_lt hb
  refine (Gf.inv_unique (Gf.mul_lt _ ha) (Gf.mul_lt _ la) ?_).symm
  rw [Gf.mul_assoc _ ha hb (Gf.mul_lt _ la), ← Gf.mul_assoc _ hb la lb, Gf.mul_comm hb la, Gf.mul_assoc _ la hb lb, Gf.mul_inv hb h1, Gf.mul_one _ la, Gf.mul_inv ha h0]
/-- a term of the program's is the value times Basis. -/
theorem lag_bas {xs : List Nat} (hx : Bytes xs) (hu : Unlike xs) {i x y : Nat} (hxx : x < 256) (hy : y < 256) (hi : i < xs.length) : ∀ k, k ≤ xs.length →
    Gf.mul (lagN xs i x (xs[i]?.getD 0) y k).1 (Gf.inv (lagN xs i x (xs[i]?.getD 0) y k).2) = Gf.mul y (basN xs i x (xs[i]?.getD 0) k)
  | 0, _ => by show Gf.mul y (Gf.inv 1) = Gf.mul y 1; rw [inv_one]
  | k + 1, hk => by
    have ih := lag_bas hx hu hxx hy hi k (by omega)
    by_cases h : k = i
    · rw [lagN_skip h, basN, if_pos h]; exact ih
    · rw [lagN_step h, basN, if_neg h]
      have hd := lagN_down hx hu (x := x) (y := y) hi k (by omega)
      have hl := (lagN_lt hx (i := i) (x := x) (a := xs[i]?.getD 0) hy k).1
      have h1 := Gf.xor_lt hxx (hx.at k)
      have h2 := Gf.xor_lt (hx.at i) (hx.at k)
      have h3 := Gf.xor_ne_zero (hu i k hi (by omega) (Ne.symm h))
      show Gf.mul (Gf.mul _ _) (Gf.inv (Gf.mul _ _)) = _
      rw [inv_mul_mul hd.2 h2 hd.1 h3, ← Gf.mul_assoc _ hy (basN_lt _ _ _ _ _) (Gf.mul_lt _ h1), ← ih]
      have l1 := Gf.inv_lt hd.2
      have l2 := Gf.inv_lt h2
      generalize (lagN xs i x (xs[i]?.getD 0) y k).1 = u at hl
      generalize Gf.inv (lagN xs i x (xs[i]?.getD 0) y k).2 = v at l1
      generalize Gf.inv (xs[i]?.getD 0 ^^^ xs[k]?.getD 0) = t at l2
      generalize x ^^^ xs[k]?.getD 0 = s at h1
      rw [Gf.mul_assoc _ hl h1 (Gf.mul_lt _ l1), Gf.mul_assoc _ hl l1 (Gf.mul_lt _ h1), ← Gf.mul_assoc _ h1 l1 l2, ← Gf.mul_assoc _ l1 h1 l2, Gf.mul_comm h1 l1]
theorem lagT_bas {xs ys : List Nat} (hx : Bytes xs) (hy : Bytes ys) (hu : Unlike xs) {i x : Nat} (hxx : x < 256) (hi : i < xs.length) : lagT xs ys x i = Gf.mul (ys[i]?.getD 0) (bas xs i x) :=
  lag_bas hx hu hxx (hy.at i) hi xs.length (Nat.le_refl _)

set_option maxHeartbeats 1000000 in
theorem basis_walk (n₀ : Nat) (ax : Option Addr) (cap : Nat) (xs : List Nat) (i x : Nat) (w : World) (hx : Bytes xs) (hu : Unlike xs) (hxx : x < 256) (hl : xs.length ≤ maxLen) (hi : i < xs.length) (hI : RowAt n₀ w ax xs) :
    Calls Tryz.prog 56 #[.slice ax xs.length cap, .int .i64 i, .int .u8 x] w fun e w' => e = .returned (.int .u8 (bas xs i x : Nat)) ∧ ∃ nq, w' = w.drewN nq := by
  unfold maxLen at hl
  have ha : xs[i]?.getD 0 < 256 := hx.at i
  rcases hI with rfl | ⟨b, off, rfl, hb, hc⟩
  · simp at hi
  have hci := hc i hi
  have hdi : ∀ k, k < xs.length → k ≠ i → xs[i]?.getD 0 ^^^ xs[k]?.getD 0 ≠ 0 := fun k hk hn => Gf.xor_ne_zero (hu i k hi hk (Ne.symm hn))
  have Hd := Lib.hid hdi; clear hdi
  unfold bas
  generalize xs[i]?.getD 0 = a at ha hci Hd
  have Hc := Lib.hid hc; clear hc
  obtain ⟨len, hlen⟩ : ∃ len, len = xs.length := ⟨_, rfl⟩
  rw [← hlen] at hl hi ⊢
  have Hlen := Lib.hid hlen; clear hlen
  go_enter Tryz.func56, Tryz.ntmps56
  go_wp2
  go_loopw [8, 7] (fun vk vo wr => ∃ k nq : Nat, k ≤ len ∧ vk = .int .i64 k ∧ vo = .int .u8 (basN xs i x a k : Nat) ∧ wr = w.drewN nq) (fun k _ _ => len - (intOf k).toNat)
  case atStart => exact ⟨0, 0, by omega, rfl, rfl, rfl⟩
  case round =>
    rename_i wr
    obtain ⟨k, nq, hk, rfl, rfl, hw⟩ := hrel
    have h1 := basN_lt xs i x a k
    have hciw : wr.cell? ⟨b, off + i, none⟩ = some (.int .u8 (a : Int)) := by rw [hw]; exact hci
    have Hw := Lib.hid hw
    by_cases hlt : k < len
    · have hck : wr.cell? ⟨b, off + k, none⟩ = some (.int .u8 ((xs[k]?.getD 0 : Nat) : Int)) := by rw [hw]; exact Hc.out k (by have := Hlen.out; omega)
      clear hw
      have h3 : xs[k]?.getD 0 < 256 := hx.at k
      by_cases hki : k = i
      · have hs : basN xs i x a (k + 1) = basN xs i x a k := by rw [basN, if_pos hki]
        have Hs := Lib.hid hs; clear hs
        have hki2 : ((k : Int) != (i : Int)) = false := by rw [hki]; simp
        clear hki hck h3
        go_wp2
        go_roundw
        case rel => exact ⟨k + 1, nq, by omega, by go_num, by rw [Hs.out], Hw.out⟩
        case measure => simp [intOf]; omega
      · have hs : basN xs i x a (k + 1) = Gf.mul (basN xs i x a k) (Gf.mul (x ^^^ xs[k]?.getD 0) (Gf.inv (a ^^^ xs[k]?.getD 0))) := by rw [basN, if_neg hki]
        have hne := Hd.out k (by have := Hlen.out; omega) hki
        have hki2 : ((k : Int) != (i : Int)) = true := by simp; omega
        clear hki
        generalize xs[k]?.getD 0 = c at hck h3 hs hne
        have Hs := Lib.hid hs; clear hs
        have e1 := u8_xor_nat x c hxx h3
        have e2 := u8_xor_nat a c ha h3
        have l1 := Gf.xor_lt hxx h3
        have l2 := Gf.xor_lt ha h3
        have l3 := Gf.inv_lt l2
        have l4 := Gf.mul_lt (Gf.inv (a ^^^ c)) l1
        have Hne := Lib.hid hne; clear hne
        go_wp2
        go_quiet ((first | (go_at_call 82; exact Calls.quiet_of_same (rinv_q _ _ l2 Hne.out)) | (go_at_call 36; exact Calls.quiet_of_same (rmul_q _ _ _ (by assumption) (by assumption)))))
        go_wp2
        go_roundw
        case rel => exact ⟨k + 1, _, by omega, by go_num, by rw [Hs.out], by rw [Hw.out, World.drewN_drewN]⟩
        case measure => simp [intOf]; omega
    · clear hw
      go_wp2
      go_ret
      obtain rfl : k = len := by omega
      exact ⟨rfl, _, Hw.out⟩
end Go.Proofs.YtolbdcmoblcakaaGreatDoor
