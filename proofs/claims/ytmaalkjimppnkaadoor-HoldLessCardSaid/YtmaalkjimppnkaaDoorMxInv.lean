/- Plain laws of matrices: the inverse by Gauss and Jordan, products, Vandermonde. -/
import Derived.Test.YtmaalkjimppnkaaDoorKer
namespace Go.Proofs.YtmaalkjimppnkaaDoor
namespace Mx

theorem dot_split (r u : Nat → Nat) (n : Nat) : ∀ k, dot r u (n + k) = dot r u n ^^^ dot (fun j => r (n + j)) (fun j => u (n + j)) k
  | 0 => by show _ = _ ^^^ 0; rw [Nat.xor_zero]; rfl
  | k + 1 => by
    show dot r u (n + k) ^^^ _ = _ ^^^ (dot _ _ k ^^^ _)
    rw [dot_split r u n k]; ac_rfl
def unit (j : Nat) : Nat → Nat := fun i => if i = j then 1 else 0
theorem by_unit (j : Nat) : By (unit j) := fun i => by unfold unit; split <;> decide
theorem dot_unit {r : Nat → Nat} (hr : By r) {j c : Nat} (h : j < c) : dot r (unit j) c = r j := by
  rw [dot_one h (fun i _ hne => by unfold unit; rw [if_neg hne, Gf.mul_zero])]
  unfold unit
  rw [if_pos rfl, Gf.mul_one _ (hr j)]
theorem dot_unitL {v : Nat → Nat} (hv : By v) {j c : Nat} (h : j < c) : dot (unit j) v c = v j := by
  rw [dot_one h (fun i _ hne => by unfold unit; rw [if_neg hne, Gf.zero_mul])]
  unfold unit
  rw [if_pos rfl, Gf.one_mul (hv j)]
/-- the product of two matrices, k in the middle. -/
def mulM (A B : Nat → Nat → Nat) (k : Nat) : Nat → Nat → Nat := fun i j => dot (A i) (fun l => B l j) k
theorem by_mul {A : Nat → Nat → Nat} (hA : ByM A) (B : Nat → Nat → Nat) (k : Nat) : ByM (mulM A B k) := fun i _ => dot_lt (hA i) k
theorem dot_mul {a : Nat → Nat} {B : Nat → Nat → Nat} {v : Nat → Nat} (ha : By a) (hB : ByM B) (hv : By v) (c : Nat) : ∀ k, dot (fun j => dot a (fun l => B l j) k) v c = dot a (fun l => dot (B l) v c) k
  | 0 => dot_zeroL v c
  | k + 1 => by
    show dot (fun j => dot a (fun l => B l j) k ^^^ Gf.mul (a k) (B k j)) v c = dot a _ k ^^^ Gf.mul (a k) (dot (B k) v c)
    rw [← dot_mul ha hB hv c k, Gf.mul_comm (ha k) (dot_lt (hB k) c), ← dot_add (fun j => dot_lt ha k) (hB k) hv (ha k)]
    exact dot_congr (fun j _ => by rw [Gf.mul_comm (ha k) (hB k j)]) (fun _ _ => rfl)

/-- the matrix with a unit behind it. -/
def wide (m : Nat → Nat → Nat) (n : Nat) : Nat → Nat → Nat := fun i j => if j < n then m i j else if j = n + i then 1 else 0
theorem by_wide {m : Nat → Nat → Nat} (h : ByM m) (n : Nat) : ByM (wide m n) := fun i j => by
  unfold wide; split
  · exact h i j
  · split <;> decide
theorem RR.leads {M : Nat → Nat → Nat} {n : Nat} {L : Nat → Nat} (h : RR M n n n L) : ∀ i, i < n → L i = i := by
  have up : ∀ i, i < n → i ≤ L i := by
    intro i
    induction i with
    | zero => intro _; exact Nat.zero_le _
    | succ i ih => intro hi; have := ih (by omega); have := h.up i (i + 1) (by omega) hi; omega
  have down : ∀ k i, i + k + 1 = n → L i ≤ i := by
    intro k
    induction k with
    | zero => intro i hi; have := h.lt i (by omega); omega
    | succ k ih => intro i hi; have := ih (i + 1) (by omega); have := h.up i (i + 1) (by omega) (by omega); omega
  intro i hi
  have := up i hi
  have := down (n - i - 1) i (by omega)
  omega
def join (v w : Nat → Nat) (n : Nat) : Nat → Nat := fun j => if j < n then v j else w (j - n)
theorem by_join {v w : Nat → Nat} (hv : By v) (hw : By w) (n : Nat) : By (join v w n) := fun j => by unfold join; split; exact hv j; exact hw _
theorem dot_wide {m : Nat → Nat → Nat} {v w : Nat → Nat} (hw : By w) {n i : Nat} (hi : i < n) : dot (wide m n i) (join v w n) (n + n) = dot (m i) v n ^^^ w i := by
  rw [dot_split]
  congr 1
  · exact dot_congr (fun j hj => by unfold wide; rw [if_pos hj]) (fun j hj => by unfold join; rw [if_pos hj])
  · rw [← dot_unitL hw hi]
    exact dot_congr (fun j hj => by
      unfold wide unit
      rw [if_neg (by omega)]
      by_cases e : j = i
      · rw [if_pos (by omega), if_pos e]
      · rw [if_neg (by omega), if_neg e]) (fun j hj => by
      unfold join
      rw [if_neg (by omega), Nat.add_sub_cancel_left])
def right (M : Nat → Nat → Nat) (n : Nat) : Nat → Nat → Nat := fun i j => M i (n + j)
theorem by_right {M : Nat → Nat → Nat} (h : ByM M) (n : Nat) : ByM (right M n) := fun i j => h i (n + j)
theorem dot_right {M : Nat → Nat → Nat} {n : Nat} {L : Nat → Nat} {v w : Nat → Nat} (h : RR M n n n L) (hv : By v) {i : Nat} (hi : i < n) : dot (M i) (join v w n) (n + n) = v i ^^^ dot (right M n i) w n := by
  rw [dot_split]
  congr 1
  · rw [← dot_unitL hv hi]
    exact dot_congr (fun j hj => by
      unfold unit
      by_cases e : j = i
      · rw [if_pos e, e]
        have := h.one i hi
        rwa [h.leads i hi] at this
      · rw [if_neg e]
        have := h.alone j hj i hi (Ne.symm e)
        rwa [h.leads j hj] at this) (fun j hj => by unfold join; rw [if_pos hj])
  · exact dot_congr (fun _ _ => rfl) (fun j hj => by unfold join; rw [if_neg (by omega), Nat.add_sub_cancel_left])
theorem xor_zero_iff {a b : Nat} : a ^^^ b = 0 ↔ a = b := ⟨Gf.xor_eq_zero, fun e => by rw [e, Nat.xor_self]⟩
/-- THE INVERSE: what stands behind the reduced matrix. -/
theorem inverse {m M : Nat → Nat → Nat} {n : Nat} {L : Nat → Nat} (h : RR M n n n L) (hk : ∀ v, By v → (Ker M n (n + n) v ↔ Ker (wide m n) n (n + n) v)) {v w : Nat → Nat} (hv : By v) (hw : By w) :
    (∀ i, i < n → v i = dot (right M n i) w n) ↔ (∀ i, i < n → dot (m i) v n = w i) := by
  have hh := hk (join v w n) (by_join hv hw n)
  constructor
  · intro h1 i hi
    have := hh.1 (fun i hi => by rw [dot_right h hv hi]; exact xor_zero_iff.2 (h1 i hi)) i hi
    rw [dot_wide hw hi] at this
    exact xor_zero_iff.1 this
  · intro h1 i hi
    have := hh.2 (fun i hi => by rw [dot_wide hw hi]; exact xor_zero_iff.2 (h1 i hi)) i hi
    rw [dot_right h hv hi] at this
    exact xor_zero_iff.1 this
/-- x is the inverse of m, both ways. -/
structure Inv (m x : Nat → Nat → Nat) (n : Nat) : Prop where
  by_ : ByM x
  right : ∀ i j, i < n → j < n → mulM m x n i j = if i = j then 1 else 0
  left : ∀ i j, i < n → j < n → mulM x m n i j = if i = j then 1 else 0
theorem inverse_of {m M : Nat → Nat → Nat} {n : Nat} {L : Nat → Nat} (hm : ByM m) (hM : ByM M) (h : RR M n n n L) (hk : ∀ v, By v → (Ker M n (n + n) v ↔ Ker (wide m n) n (n + n) v)) : Inv m (Mx.right M n) n := by
  refine ⟨by_right hM n, fun i j hi hj => ?_, fun i j hi hj => ?_⟩
  · have := (inverse h hk (v := fun l => Mx.right M n l j) (w := unit j) (fun l => by_right hM n l j) (by_unit j)).1 (fun i hi => by rw [dot_unit (by_right hM n i) hj]) i hi
    exact this
  · have := (inverse h hk (v := unit j) (w := fun l => m l j) (by_unit j) (fun l => hm l j)).2 (fun i hi => by rw [dot_unit (hm i) hj]) i hi
    exact this.symm
/-- m x v = v. -/
theorem Inv.app {m x : Nat → Nat → Nat} {n : Nat} (h : Inv m x n) (hm : ByM m) {v : Nat → Nat} (hv : By v) {i : Nat} (hi : i < n) : dot (m i) (fun l => dot (x l) v n) n = v i := by
  rw [← dot_mul (hm i) h.by_ hv, ← dot_unitL hv hi]
  exact dot_congr (fun j hj => by
    have := h.right i j hi hj
    unfold mulM at this
    rw [this]; unfold unit
    by_cases e : i = j
    · rw [if_pos e, if_pos e.symm]
    · rw [if_neg e, if_neg (Ne.symm e)]) (fun _ _ => rfl)
theorem Inv.symm {m x : Nat → Nat → Nat} {n : Nat} (h : Inv m x n) (hm : ByM m) : Inv x m n := ⟨hm, h.left, h.right⟩

/-! ### Vandermonde -/
/-- the value at x of the polynomial with the first k coefficients v, by its powers. -/
theorem horner_dot {v : Nat → Nat} {x : Nat} (hv : By v) (hx : x < 256) : ∀ k, dot (fun l => Gf.pow x l) v k = Gf.horner x ((List.range k).map v)
  | 0 => rfl
  | k + 1 => by
    have split : ∀ (k : Nat) (v : Nat → Nat), By v → dot (fun l => Gf.pow x l) v (k + 1) = v 0 ^^^ Gf.mul (dot (fun l => Gf.pow x l) (fun l => v (l + 1)) k) x := by
      intro k
      induction k with
      | zero =>
        intro v hv
        show 0 ^^^ Gf.mul 1 (v 0) = v 0 ^^^ Gf.mul 0 x
        rw [Gf.one_mul (hv 0), Gf.zero_mul, Nat.zero_xor, Nat.xor_zero]
      | succ k ih =>
        intro v hv
        show dot _ v (k + 1) ^^^ Gf.mul (Gf.pow x (k + 1)) (v (k + 1)) = v 0 ^^^ Gf.mul (dot _ _ k ^^^ Gf.mul (Gf.pow x k) (v (k + 1))) x
        rw [ih v hv, Gf.mul_xor_left _ (dot_lt (fun l => Gf.pow_lt hx l) k) (Gf.mul_lt _ (Gf.pow_lt hx k))]
        have e : Gf.mul (Gf.pow x (k + 1)) (v (k + 1)) = Gf.mul (Gf.mul (Gf.pow x k) (v (k + 1))) x := by
          have e1 : Gf.pow x (k + 1) = Gf.mul (Gf.pow x k) x := by
            have := Gf.pow_add hx k 1
            rw [this]
            congr 1
            show Gf.mul _ _ = _
            first | exact Gf.mul_one _ hx | exact Gf.one_mul hx
          rw [e1, Gf.mul_assoc _ (Gf.pow_lt hx k) hx (hv _), Gf.mul_comm hx (hv _), ← Gf.mul_assoc _ (Gf.pow_lt hx k) (hv _) hx]
        rw [e]; ac_rfl
    rw [split k v hv, List.range_succ_eq_map, List.map_cons, List.map_map, horner_dot (fun l => hv (l + 1)) hx k]
    show _ = Gf.mul (Gf.horner x _) x ^^^ v 0
    exact Nat.xor_comm _ _
theorem coef_zero : ∀ (p : List Nat), Bytes p → p.length ≤ 200 → (∀ x, x < 256 → Gf.horner x p = 0) → ∀ c ∈ p, c = 0
  | [], _, _, _ => fun c hc => by cases hc
  | a :: r, hp, hl, h => by
    have hr : Bytes r := fun x hx => hp x (List.mem_cons_of_mem _ hx)
    have ha : a = 0 := by
      have : Gf.mul (Gf.horner 0 r) 0 ^^^ a = 0 := h 0 (by decide)
      rwa [Gf.mul_zero, Nat.zero_xor] at this
    have h1 : ∀ x, x < 256 → x ≠ 0 → Gf.horner x r = 0 := fun x hx h0 => by
      have : Gf.mul (Gf.horner x r) x ^^^ a = 0 := h x hx
      rw [ha, Nat.xor_zero] at this
      exact (Gf.mul_eq_zero (Gf.horner_lt hr x) hx this).resolve_right h0
    have hlr : r.length ≤ 199 := by simp only [List.length_cons] at hl; omega
    have h2 := Gf.Poly.roots (n := r.length) (f := fun x => Gf.horner x r) ⟨r, rfl, hr, fun _ _ => rfl⟩ ((List.range r.length).map (· + 1)) (by
      rw [List.nodup_iff_pairwise_ne, List.pairwise_map]
      exact List.Pairwise.imp (fun hne e => hne (by omega)) List.nodup_range) (by simp) (fun y hy => by
      obtain ⟨i, hi, rfl⟩ := List.mem_map.1 hy
      have := List.mem_range.1 hi
      exact ⟨by omega, h1 _ (by omega) (by omega)⟩)
    intro c hc
    rcases List.mem_cons.1 hc with rfl | hc
    · exact ha
    · exact coef_zero r hr (by omega) h2 c hc
/-- VANDERMONDE: powers of k places turn nothing but 0 to 0. -/
theorem vander {xs : Nat → Nat} {k : Nat} (hk : k ≤ 200) (hx : ∀ i, i < k → xs i < 256) (hd : ∀ i j, i < k → j < k → xs i = xs j → i = j) {v : Nat → Nat} (hv : By v)
    (h : ∀ i, i < k → dot (fun l => Gf.pow (xs i) l) v k = 0) : ∀ j, j < k → v j = 0 := by
  have hp : Bytes ((List.range k).map v) := fun x hx => by
    obtain ⟨i, _, rfl⟩ := List.mem_map.1 hx
    exact hv i
  have h2 := Gf.Poly.roots (n := k) (f := fun x => Gf.horner x ((List.range k).map v)) ⟨_, by simp, hp, fun _ _ => rfl⟩ ((List.range k).map xs) (by
      rw [List.nodup_iff_pairwise_ne, List.pairwise_map]
      refine List.Pairwise.imp_of_mem ?_ List.nodup_range
      intro a b ha hb hne e
      exact hne (hd a b (List.mem_range.1 ha) (List.mem_range.1 hb) e)) (by simp) (fun y hy => by
      obtain ⟨i, hi, rfl⟩ := List.mem_map.1 hy
      have hi := List.mem_range.1 hi
      exact ⟨hx i hi, by rw [← horner_dot hv (hx i hi)]; exact h i hi⟩)
  intro j hj
  exact coef_zero _ hp (by simpa using hk) h2 (v j) (List.mem_map.2 ⟨j, List.mem_range.2 hj, rfl⟩)
/-- what turns nothing but 0 to 0 has full rank. -/
theorem Ech.full {M : Nat → Nat → Nat} {n c : Nat} {L : Nat → Nat} (h : Ech M n c L) (hM : ByM M) (hk : ∀ v, By v → Ker M n c v → ∀ j, j < c → v j = 0) : n = c := by
  have hu : Ech (fun i => unit i) c c (fun i => i) := ⟨fun _ hi => hi, fun i _ => by unfold unit; rw [if_pos rfl]; decide, fun i _ j hj => by unfold unit; rw [if_neg (by omega)], fun _ _ _ _ e => e⟩
  refine h.same hu hM by_unit (fun v hv => ⟨fun hK i hi => ?_, fun hK i hi => ?_⟩)
  · rw [dot_unitL hv hi]; exact hk v hv hK i hi
  · have hz : ∀ j, j < c → v j = 0 := fun j hj => by
      have := hK j hj
      rwa [dot_unitL hv hj] at this
    rw [dot_congr (r' := M i) (v' := fun _ => 0) (fun _ _ => rfl) hz]
    have : ∀ c, dot (M i) (fun _ => 0) c = 0 := by
      intro c
      induction c with
      | zero => rfl
      | succ c ih => show dot _ _ c ^^^ Gf.mul _ 0 = 0; rw [ih, Gf.mul_zero]; rfl
    exact this c
end Mx
end Go.Proofs.YtmaalkjimppnkaaDoor
