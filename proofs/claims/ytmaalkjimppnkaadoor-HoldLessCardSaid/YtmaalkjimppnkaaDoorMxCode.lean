/- Plain laws: Lagrange's basis as a matrix: what was spread and picked is brought back by it. -/
import Derived.Test.YtmaalkjimppnkaaDoorMxRank
namespace Go.Proofs.YtmaalkjimppnkaaDoor
namespace Mx

/-- a list that is 1 at i alone. -/
theorem unitL (k i : Nat) : ∃ ys : List Nat, ys.length = k ∧ Bytes ys ∧ ∀ j, j < k → ys[j]?.getD 0 = unit i j :=
  ⟨(List.range k).map (unit i), by simp, fun y hy => by obtain ⟨a, _, rfl⟩ := List.mem_map.1 hy; exact by_unit i a, fun j hj => by simp [hj]⟩
theorem bas_poly {xs : List Nat} (hx : Bytes xs) (hu : Unlike xs) {i : Nat} (hi : i < xs.length) : Gf.Poly xs.length (fun z => bas xs i z) := by
  obtain ⟨ys, _, hb, hy⟩ := unitL xs.length i
  obtain ⟨p, h1, h2, h3⟩ := lagT_poly hx hb hi
  refine ⟨p, h1, h2, fun z hz => ?_⟩
  rw [← h3 z hz]
  show bas xs i z = lagT xs ys z i
  rw [lagT_bas hx hb hu hz hi, hy i hi]
  unfold unit; rw [if_pos rfl, Gf.one_mul (bas_lt _ i z)]
theorem bas_at {xs : List Nat} (hx : Bytes xs) (hu : Unlike xs) {i j : Nat} (hi : i < xs.length) (hj : j < xs.length) : bas xs i (xs[j]?.getD 0) = unit i j := by
  obtain ⟨ys, _, hb, hy⟩ := unitL xs.length i
  have h := lagT_at hx hb hu hi hj
  rw [lagT_bas hx hb hu (hx.at j) hi, hy i hi] at h
  unfold unit at h ⊢
  rw [if_pos rfl, Gf.one_mul (bas_lt _ i _)] at h
  rw [h]
  by_cases e : i = j
  · rw [if_pos e, if_pos e.symm, hy j hj]; unfold unit; rw [if_pos e.symm]
  · rw [if_neg e, if_neg (Ne.symm e)]
theorem dot_poly {n : Nat} {f : Nat → Nat → Nat} {v : Nat → Nat} (hv : By v) : ∀ {c : Nat}, (∀ l, l < c → Gf.Poly n (fun z => f l z)) → Gf.Poly n (fun z => dot (fun l => f l z) v c)
  | 0, _ => Gf.poly_zero n
  | c + 1, h => (dot_poly hv (c := c) (fun l hl => h l (by omega))).add ((h c (by omega)).scale (hv c))
/-- a polynomial is told by what it is at the places. -/
theorem interp {xs : List Nat} (hx : Bytes xs) (hu : Unlike xs) {f : Nat → Nat} (hf : Gf.Poly xs.length f) {z : Nat} (hz : z < 256) : f z = dot (fun i => bas xs i z) (fun i => f (xs[i]?.getD 0)) xs.length := by
  have hv : By (fun i => f (xs[i]?.getD 0)) := fun i => hf.lt (hx.at i)
  refine poly_ext (xs := xs) (f := f) (g := fun z => dot (fun i => bas xs i z) (fun i => f (xs[i]?.getD 0)) xs.length) hx hu hf (dot_poly hv (fun l hl => bas_poly hx hu hl)) (fun j hj => ?_) hz
  show _ = dot _ _ _
  rw [dot_one hj (fun i hi hne => by rw [bas_at hx hu hi hj]; unfold unit; rw [if_neg (Ne.symm hne), Gf.zero_mul]), bas_at hx hu hj hj]
  unfold unit; rw [if_pos rfl, Gf.one_mul (hv j)]
/-- what is spread: row i of it. -/
def spr (k : Nat) : Nat → Nat → Nat := fun i j => bas (List.range k) j i
theorem by_spr (k : Nat) : ByM (spr k) := fun _ _ => bas_lt _ _ _
theorem spr_top {k i j : Nat} (hk : k ≤ 256) (hi : i < k) (hj : j < k) : spr k i j = unit j i := by
  have hx := range_bytes hk
  have h := bas_at hx (range_unlike k) (i := j) (j := i) (by simpa using hj) (by simpa using hi)
  rw [range_at hi] at h
  exact h
/-- what was spread and picked comes back. -/
theorem back {k : Nat} (hk : k ≤ 200) {xs : List Nat} (hl : xs.length = k) (hx : Bytes xs) (hu : Unlike xs) {v : Nat → Nat} (hv : By v) {j : Nat} (hj : j < 256) :
    dot (fun i => bas xs i j) (fun i => dot (spr k (xs[i]?.getD 0)) v k) k = dot (spr k j) v k := by
  have hr := range_bytes (k := k) (by omega)
  have hp : Gf.Poly xs.length (fun z => dot (fun l => bas (List.range k) l z) v k) := by
    rw [hl]
    refine dot_poly hv (fun l h => ?_)
    have := bas_poly hr (range_unlike k) (i := l) (by simpa using h)
    rwa [List.length_range] at this
  have := interp hx hu hp hj
  rw [hl] at this
  exact this.symm
theorem top_is {k : Nat} (hk : k ≤ 200) {v : Nat → Nat} (hv : By v) {j : Nat} (hj : j < k) : dot (spr k j) v k = v j := by
  rw [← dot_unitL hv hj]
  exact dot_congr (fun l h => by rw [spr_top (by omega) hj h]; unfold unit; by_cases e : j = l
                                 · rw [if_pos e, if_pos e.symm]
                                 · rw [if_neg e, if_neg (Ne.symm e)]) (fun _ _ => rfl)
/-- the inverse of the rows that were picked is Lagrange's basis. -/
theorem inv_is {k : Nat} (hk : k ≤ 200) {xs : List Nat} (hl : xs.length = k) (hx : Bytes xs) (hu : Unlike xs) {P X : Nat → Nat → Nat} (hP : ∀ i, i < k → ∀ j, j < k → P i j = spr k (xs[i]?.getD 0) j) (h : Inv P X k) {j i : Nat} (hj : j < k) (hi : i < k) : X j i = bas xs i j := by
  have hv : By (fun l => X l i) := fun l => h.by_ l i
  have h1 := back hk hl hx hu hv (show j < 256 by omega)
  rw [top_is hk hv hj] at h1
  rw [← h1]
  have h2 : ∀ a, a < k → dot (spr k (xs[a]?.getD 0)) (fun l => X l i) k = unit i a := fun a ha => by
    have := h.right a i ha hi
    unfold mulM at this
    rw [dot_congr (r' := P a) (v' := fun l => X l i) (fun l hl => (hP a ha l hl).symm) (fun _ _ => rfl), this]
    unfold unit
    rfl
  rw [dot_congr (r' := fun i => bas xs i j) (v' := unit i) (fun _ _ => rfl) h2]
  exact dot_unit (fun a => bas_lt _ _ _) hi
theorem basN_ne {xs : List Nat} (hx : Bytes xs) (hu : Unlike xs) {i x : Nat} (hi : i < xs.length) (hxx : x < 256) (h : ∀ j, j < xs.length → xs[j]?.getD 0 ≠ x) : ∀ k, k ≤ xs.length → basN xs i x (xs[i]?.getD 0) k ≠ 0
  | 0, _ => by show (1 : Nat) ≠ 0; decide
  | k + 1, hk => by
    have ih := basN_ne hx hu hi hxx h k (by omega)
    unfold basN
    by_cases e : k = i
    · rw [if_pos e]; exact ih
    · rw [if_neg e]
      have h1 := Gf.xor_lt hxx (hx.at k)
      have h2 := Gf.xor_lt (hx.at i) (hx.at k)
      have h3 := Gf.xor_ne_zero (hu i k hi (by omega) (Ne.symm e))
      have h4 : Gf.inv (xs[i]?.getD 0 ^^^ xs[k]?.getD 0) ≠ 0 := fun e0 => by
        have := Gf.mul_inv h2 h3
        rw [e0, Gf.mul_zero] at this
        exact absurd this (by decide)
      exact Gf.mul_ne_zero (basN_lt _ _ _ _ _) (Gf.mul_lt _ h1) ih (Gf.mul_ne_zero h1 (Gf.inv_lt h2) (Gf.xor_ne_zero (fun e2 => h k (by omega) e2.symm)) h4)
/-- below the top no entry is 0. -/
theorem spr_ne {k i j : Nat} (hk : k ≤ 200) (hi : k ≤ i) (hi2 : i < 256) (hj : j < k) : spr k i j ≠ 0 := by
  have hl : (List.range k).length = k := List.length_range
  refine basN_ne (range_bytes (by omega)) (range_unlike k) (by omega) hi2 (fun a ha => ?_) _ (Nat.le_refl _)
  rw [hl] at ha
  rw [range_at ha]; omega
end Mx
end Go.Proofs.YtmaalkjimppnkaaDoor
