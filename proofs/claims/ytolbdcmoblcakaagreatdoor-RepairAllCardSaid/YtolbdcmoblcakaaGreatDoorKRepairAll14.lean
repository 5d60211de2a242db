/- Plain: polynomials over the field of 256 elements: one with as many roots as coefficients is zero; LAGRANGE: what goes through the points of a polynomial is the polynomial. No walk in sight. -/
import Derived.Test.YtolbdcmoblcakaaGreatDoorKRepairAll13
namespace Go.Proofs.YtolbdcmoblcakaaGreatDoor
namespace Gf

theorem horner_lt {p : List Nat} (hp : Bytes p) (x : Nat) : horner x p < 256 := by
  induction p with
  | nil => exact (by decide : 0 < 256)
  | cons c r ih =>
    unfold horner
    exact xor_lt (mul_lt x (ih (fun y hy => hp y (List.mem_cons_of_mem _ hy)))) (hp c (List.mem_cons_self))
/-- p and r times q. -/
def addS (r : Nat) : List Nat → List Nat → List Nat
  | p, [] => p
  | [], _ => []
  | c :: p, d :: q => (c ^^^ mul d r) :: addS r p q
theorem addS_length (r : Nat) : ∀ (p q : List Nat), (addS r p q).length = p.length
  | p, [] => by cases p <;> rfl
  | [], _ :: _ => rfl
  | c :: p, d :: q => by simp [addS, addS_length r p q]
theorem addS_bytes {r : Nat} : ∀ {p q : List Nat}, Bytes p → Bytes q → Bytes (addS r p q)
  | p, [], hp, _ => by cases p <;> exact hp
  | [], _ :: _, hp, _ => hp
  | c :: p, d :: q, hp, hq => by
    intro x hx
    simp only [addS, List.mem_cons] at hx
    rcases hx with rfl | hx
    · exact xor_lt (hp c List.mem_cons_self) (mul_lt r (hq d List.mem_cons_self))
    · exact addS_bytes (fun y hy => hp y (List.mem_cons_of_mem _ hy)) (fun y hy => hq y (List.mem_cons_of_mem _ hy)) x hx
theorem horner_addS {r x : Nat} (hr : r < 256) (hx : x < 256) : ∀ {p q : List Nat}, Bytes p → Bytes q → q.length ≤ p.length → horner x (addS r p q) = horner x p ^^^ mul (horner x q) r
  | p, [], hp, _, _ => by
    have e : addS r p [] = p := by cases p <;> rfl
    rw [e]
    show horner x p = horner x p ^^^ mul 0 r
    rw [zero_mul, Nat.xor_zero]
  | [], _ :: _, _, _, hl => by simp at hl
  | c :: p, d :: q, hp, hq, hl => by
    have hp' : Bytes p := fun y hy => hp y (List.mem_cons_of_mem _ hy)
    have hq' : Bytes q := fun y hy => hq y (List.mem_cons_of_mem _ hy)
    have hd := hq d List.mem_cons_self
    have l1 := horner_lt hp' x
    have l2 := horner_lt hq' x
    simp only [addS, horner]
    rw [horner_addS hr hx hp' hq' (by simpa using hl), mul_xor_left x l1 (mul_lt r l2), mul_xor_left r (mul_lt x l2) hd]
    rw [mul_assoc x l2 hr hx, mul_comm hr hx, ← mul_assoc r l2 hx hr]
    rw [xor4]
/-- f is a polynomial with n coefficients. -/
def Poly (n : Nat) (f : Nat → Nat) : Prop := ∃ p : List Nat, p.length = n ∧ Bytes p ∧ ∀ x, x < 256 → f x = horner x p
theorem Poly.lt {n : Nat} {f : Nat → Nat} (h : Poly n f) {x : Nat} (hx : x < 256) : f x < 256 := by
  obtain ⟨p, _, hb, e⟩ := h
  rw [e x hx]; exact horner_lt hb x
theorem Poly.add {n : Nat} {f g : Nat → Nat} (hf : Poly n f) (hg : Poly n g) : Poly n (fun x => f x ^^^ g x) := by
  obtain ⟨p, hp, bp, ep⟩ := hf
  obtain ⟨q, hq, bq, eq⟩ := hg
  refine ⟨addS 1 p q, by rw [addS_length, hp], addS_bytes bp bq, fun x hx => ?_⟩
  show f x ^^^ g x = _
  rw [horner_addS (by decide) hx bp bq (by omega), mul_one _ (horner_lt bq x), ep x hx, eq x hx]
theorem bytes_cons {c : Nat} {p : List Nat} (hc : c < 256) (hp : Bytes p) : Bytes (c :: p) := by
  intro x hx
  rcases List.mem_cons.1 hx with rfl | h
  · exact hc
  · exact hp x h
theorem Poly.times {n : Nat} {f : Nat → Nat} (hf : Poly n f) {a : Nat} (ha : a < 256) : Poly (n + 1) (fun x => mul (f x) (x ^^^ a)) := by
  obtain ⟨p, hp, bp, ep⟩ := hf
  have b0 : Bytes (0 :: p) := bytes_cons (by decide) bp
  refine ⟨addS a (0 :: p) p, by rw [addS_length]; simp [hp], addS_bytes b0 bp, fun x hx => ?_⟩
  rw [horner_addS ha hx b0 bp (by simp)]
  show mul (f x) (x ^^^ a) = (mul (horner x p) x ^^^ 0) ^^^ mul (horner x p) a
  rw [ep x hx, mul_xor_right, Nat.xor_zero]
theorem poly_zero (n : Nat) : Poly n (fun _ => 0) := by
  refine ⟨List.replicate n 0, by simp, fun x hx => by rw [List.eq_of_mem_replicate hx]; decide, fun x _ => ?_⟩
  induction n with
  | zero => rfl
  | succ n ih => rw [List.replicate_succ]; show 0 = mul (horner x (List.replicate n 0)) x ^^^ 0; rw [← ih, zero_mul]; rfl
theorem Poly.scale {n : Nat} {f : Nat → Nat} (hf : Poly n f) {c : Nat} (hc : c < 256) : Poly n (fun x => mul (f x) c) := by
  obtain ⟨p, hp, bp, ep⟩ := hf
  obtain ⟨q, hq, bq, eq⟩ := poly_zero n
  refine ⟨addS c q p, by rw [addS_length, hq], addS_bytes bq bp, fun x hx => ?_⟩
  have h0 : horner x q = 0 := (eq x hx).symm
  show mul (f x) c = _
  rw [horner_addS hc hx bq bp (by omega), h0, Nat.zero_xor, ep x hx]
theorem poly_const {c : Nat} (hc : c < 256) : Poly 1 (fun _ => c) :=
  ⟨[c], rfl, bytes_cons hc (fun _ h => absurd h (by simp)), fun x _ => by show c = mul 0 x ^^^ c; rw [zero_mul, Nat.zero_xor]⟩

/-- what a polynomial has more at x than at r is x less r times another one with one coefficient less. -/
theorem divide {r : Nat} (hr : r < 256) : ∀ {p : List Nat}, Bytes p → p ≠ [] → ∃ q : List Nat, q.length + 1 = p.length ∧ Bytes q ∧ ∀ x, x < 256 → horner x p ^^^ horner r p = mul (x ^^^ r) (horner x q)
  | [], _, h => absurd rfl h
  | [c], _, _ => ⟨[], rfl, fun _ h => absurd h (by simp), fun x _ => by
      show (mul 0 x ^^^ c) ^^^ (mul 0 r ^^^ c) = mul (x ^^^ r) 0
      rw [zero_mul, zero_mul, mul_zero, Nat.xor_self]⟩
  | c :: d :: p, hb, _ => by
    have hb' : Bytes (d :: p) := fun y hy => hb y (List.mem_cons_of_mem _ hy)
    obtain ⟨q, hq, bq, e⟩ := divide hr hb' (by simp)
    refine ⟨addS r (d :: p) q, by rw [addS_length]; rfl, addS_bytes hb' bq, fun x hx => ?_⟩
    have l1 := horner_lt hb' x
    have l2 := horner_lt hb' r
    have l3 := horner_lt bq x
    have hxr := xor_lt hx hr
    rw [horner_addS hr hx hb' bq (by omega), mul_xor_right, ← mul_assoc r hxr l3 hr, ← e x hx, mul_xor_left r l1 l2]
    show (mul (horner x (d :: p)) x ^^^ c) ^^^ (mul (horner r (d :: p)) r ^^^ c) = _
    rw [xor4, Nat.xor_self, Nat.xor_zero, mul_comm hxr l1, mul_xor_right, Nat.xor_assoc, ← Nat.xor_assoc (mul (horner x (d :: p)) r), Nat.xor_self, Nat.zero_xor]

theorem xor_eq_zero {a b : Nat} (h : a ^^^ b = 0) : a = b := by
  have := congrArg (· ^^^ b) h
  simpa [Nat.xor_assoc] using this
theorem xor_ne_zero {a b : Nat} (h : a ≠ b) : a ^^^ b ≠ 0 := fun e => h (xor_eq_zero e)

/-- with as many roots as coefficients it is zero everywhere. -/
theorem Poly.roots : ∀ {n : Nat} {f : Nat → Nat}, Poly n f → ∀ rs : List Nat, rs.Nodup → rs.length = n → (∀ r ∈ rs, r < 256 ∧ f r = 0) → ∀ x, x < 256 → f x = 0
  | 0, f, ⟨p, hp, _, e⟩, _, _, _, _, x, hx => by
    have : p = [] := List.length_eq_zero_iff.1 hp
    subst this
    exact e x hx
  | n + 1, f, ⟨p, hp, bp, e⟩, rs, hnd, hl, hr, x, hx => by
    match rs, hl with
    | r :: rs, hl =>
      have hr0 := hr r List.mem_cons_self
      obtain ⟨q, hq, bq, eq⟩ := divide hr0.1 bp (by intro h; rw [h] at hp; simp at hp)
      have hz : horner r p = 0 := by rw [← e r hr0.1]; exact hr0.2
      have key : ∀ y, y < 256 → f y = mul (y ^^^ r) (horner y q) := fun y hy => by rw [e y hy, ← eq y hy, hz, Nat.xor_zero]
      have ih := Poly.roots (n := n) (f := fun y => horner y q) ⟨q, by omega, bq, fun _ _ => rfl⟩ rs (List.nodup_cons.1 hnd).2 (by simpa using hl) (fun s hs => by
        have hs0 := hr s (List.mem_cons_of_mem _ hs)
        refine ⟨hs0.1, ?_⟩
        have h1 := key s hs0.1
        rw [hs0.2] at h1
        have hne : s ^^^ r ≠ 0 := xor_ne_zero (fun h => (List.nodup_cons.1 hnd).1 (h ▸ hs))
        exact (mul_eq_zero (xor_lt hs0.1 hr0.1) (horner_lt bq s) h1.symm).resolve_left hne) x hx
      rw [key x hx]
      show mul (x ^^^ r) (horner x q) = 0
      rw [show horner x q = 0 from ih, mul_zero]
end Gf

/-! LAGRANGE -/
/-- the points' places are unlike. -/
def Unlike (xs : List Nat) : Prop := ∀ i k, i < xs.length → k < xs.length → i ≠ k → xs[i]?.getD 0 ≠ xs[k]?.getD 0
theorem lagN_snd (xs : List Nat) (i x x' a y y' : Nat) : ∀ k, (lagN xs i x a y k).2 = (lagN xs i x' a y' k).2
  | 0 => rfl
  | k + 1 => by
    unfold lagN
    split
    · exact lagN_snd xs i x x' a y y' k
    · show Gf.mul _ _ = Gf.mul _ _
      rw [lagN_snd xs i x x' a y y' k]
theorem lagN_down {xs : List Nat} (hx : Bytes xs) (hu : Unlike xs) {i x y : Nat} (hi : i < xs.length) : ∀ k, k ≤ xs.length → (lagN xs i x (xs[i]?.getD 0) y k).2 ≠ 0 ∧ (lagN xs i x (xs[i]?.getD 0) y k).2 < 256
  | 0, _ => ⟨(by decide : (1 : Nat) ≠ 0), (by decide : (1 : Nat) < 256)⟩
  | k + 1, hk => by
    have ih := lagN_down hx hu (x := x) (y := y) hi k (by omega)
    by_cases h : k = i
    · rw [lagN_skip h]; exact ih
    · rw [lagN_step h]
      exact ⟨Gf.mul_ne_zero ih.2 (Gf.xor_lt (hx.at i) (hx.at k)) ih.1 (Gf.xor_ne_zero (hu i k hi (by omega) (Ne.symm h))), Gf.mul_lt _ ih.2⟩
/-- at a place of its own: the value times what lies below. -/
theorem lagN_same {xs : List Nat} (hx : Bytes xs) {i y : Nat} (hy : y < 256) : ∀ k, (lagN xs i (xs[i]?.getD 0) (xs[i]?.getD 0) y k).1 = Gf.mul y (lagN xs i (xs[i]?.getD 0) (xs[i]?.getD 0) y k).2
  | 0 => (Gf.mul_one y hy).symm
  | k + 1 => by
    by_cases h : k = i
    · rw [lagN_skip h]; exact lagN_same hx hy k
    · rw [lagN_step h]
      show Gf.mul _ _ = Gf.mul y (Gf.mul _ _)
      rw [lagN_same hx hy k, Gf.mul_assoc _ hy (lagN_lt hx hy k).2 (Gf.xor_lt (hx.at i) (hx.at k))]
/-- at another one's place: nothing. -/
theorem lagN_other {xs : List Nat} {i j a y : Nat} (hij : i ≠ j) : ∀ k, j < k → (lagN xs i (xs[j]?.getD 0) a y k).1 = 0
  | 0, h => by omega
  | k + 1, h => by
    by_cases hk : k = i
    · rw [lagN_skip hk]; exact lagN_other hij k (by omega)
    · rw [lagN_step hk]
      show Gf.mul _ _ = 0
      by_cases hj : j = k
      · subst hj; rw [Nat.xor_self, Gf.mul_zero]
      · rw [lagN_other hij k (by omega), Gf.zero_mul]
theorem lagN_poly {xs : List Nat} (hx : Bytes xs) {i a y : Nat} (hy : y < 256) : ∀ k, Gf.Poly (k + (if i < k then 0 else 1)) (fun x => (lagN xs i x a y k).1)
  | 0 => by rw [if_neg (by omega)]; exact Gf.poly_const hy
  | k + 1 => by
    have ih := lagN_poly hx (i := i) (a := a) hy k
    by_cases h : k = i
    · have e : (fun x => (lagN xs i x a y (k + 1)).1) = fun x => (lagN xs i x a y k).1 := funext fun x => by rw [lagN_skip h]
      rw [e, if_pos (by omega)]
      rw [if_neg (by omega)] at ih
      exact ih
    · have e : (fun x => (lagN xs i x a y (k + 1)).1) = fun x => Gf.mul (lagN xs i x a y k).1 (x ^^^ xs[k]?.getD 0) := funext fun x => by rw [lagN_step h]
      rw [e]
      have h2 : k + 1 + (if i < k + 1 then 0 else 1) = k + (if i < k then 0 else 1) + 1 := by
        by_cases h3 : i < k
        · rw [if_pos h3, if_pos (by omega)]
        · rw [if_neg h3, if_neg (by omega)]
      rw [h2]
      exact Gf.Poly.times ih (hx.at k)
theorem lagT_poly {xs ys : List Nat} (hx : Bytes xs) (hy : Bytes ys) {i : Nat} (hi : i < xs.length) : Gf.Poly xs.length (fun x => lagT xs ys x i) := by
  have h := lagN_poly hx (i := i) (a := xs[i]?.getD 0) (hy.at i) xs.length
  rw [if_pos hi, Nat.add_zero] at h
  have hd : Gf.inv (lagN xs i 0 (xs[i]?.getD 0) (ys[i]?.getD 0) xs.length).2 < 256 := Gf.inv_lt (lagN_lt hx (hy.at i) _).2
  have e : (fun x => lagT xs ys x i) = fun x => Gf.mul (lagN xs i x (xs[i]?.getD 0) (ys[i]?.getD 0) xs.length).1 (Gf.inv (lagN xs i 0 (xs[i]?.getD 0) (ys[i]?.getD 0) xs.length).2) := funext fun x => by
    show Gf.mul _ (Gf.inv (lagN xs i x (xs[i]?.getD 0) (ys[i]?.getD 0) xs.length).2) = _
    rw [lagN_snd xs i x 0 _ _ (ys[i]?.getD 0)]
  rw [e]
  exact Gf.Poly.scale h hd
theorem btwN_poly {xs ys : List Nat} (hx : Bytes xs) (hy : Bytes ys) : ∀ i, i ≤ xs.length → Gf.Poly xs.length (fun x => btwN xs ys x i)
  | 0, _ => Gf.poly_zero _
  | i + 1, hi => Gf.Poly.add (btwN_poly hx hy i (by omega)) (lagT_poly hx hy (by omega))
theorem lagT_at {xs ys : List Nat} (hx : Bytes xs) (hy : Bytes ys) (hu : Unlike xs) {i j : Nat} (hi : i < xs.length) (hj : j < xs.length) : lagT xs ys (xs[j]?.getD 0) i = if i = j then ys[j]?.getD 0 else 0 := by
  unfold lagT
  by_cases h : i = j
  · subst h
    rw [if_pos rfl]
    have hd := lagN_down hx hu (x := xs[i]?.getD 0) (y := ys[i]?.getD 0) hi xs.length (Nat.le_refl _)
    show Gf.mul (lagN xs i (xs[i]?.getD 0) (xs[i]?.getD 0) (ys[i]?.getD 0) xs.length).1 _ = _
    rw [lagN_same hx (hy.at i), Gf.mul_assoc _ (hy.at i) hd.2 (Gf.inv_lt hd.2), Gf.mul_inv hd.2 hd.1, Gf.mul_one _ (hy.at i)]
  · rw [if_neg h]
    show Gf.mul (lagN xs i (xs[j]?.getD 0) (xs[i]?.getD 0) (ys[i]?.getD 0) xs.length).1 _ = 0
    rw [lagN_other h _ hj, Gf.zero_mul]
theorem btwN_at {xs ys : List Nat} (hx : Bytes xs) (hy : Bytes ys) (hu : Unlike xs) {j : Nat} (hj : j < xs.length) : ∀ i, i ≤ xs.length → btwN xs ys (xs[j]?.getD 0) i = if j < i then ys[j]?.getD 0 else 0
  | 0, _ => by rw [if_neg (by omega)]; rfl
  | i + 1, hi => by
    show btwN xs ys _ i ^^^ lagT xs ys _ i = _
    rw [btwN_at hx hy hu hj i (by omega), lagT_at hx hy hu (by omega) hj]
    by_cases h1 : j < i
    · rw [if_pos h1, if_neg (by omega), if_pos (by omega), Nat.xor_zero]
    · by_cases h2 : i = j
      · rw [if_neg h1, if_pos h2, if_pos (by omega), Nat.zero_xor]
      · rw [if_neg h1, if_neg h2, if_neg (by omega), Nat.xor_zero]
/-- what goes through: at each place its value. -/
theorem btw_at {xs ys : List Nat} (hx : Bytes xs) (hy : Bytes ys) (hu : Unlike xs) {j : Nat} (hj : j < xs.length) : btwN xs ys (xs[j]?.getD 0) xs.length = ys[j]?.getD 0 := by
  rw [btwN_at hx hy hu hj _ (Nat.le_refl _), if_pos hj]
theorem unlike_nodup {xs : List Nat} (hu : Unlike xs) : xs.Nodup := by
  rw [List.nodup_iff_pairwise_ne, List.pairwise_iff_getElem]
  intro i j hi hj hij
  have := hu i j hi hj (by omega)
  rwa [List.getElem?_eq_getElem hi, List.getElem?_eq_getElem hj] at this
/-- two polynomials with no more coefficients than there are places that agree at the places agree everywhere. -/
theorem poly_ext {xs : List Nat} (hx : Bytes xs) (hu : Unlike xs) {f g : Nat → Nat} (hf : Gf.Poly xs.length f) (hg : Gf.Poly xs.length g) (h : ∀ j, j < xs.length → f (xs[j]?.getD 0) = g (xs[j]?.getD 0)) {x : Nat} (hx' : x < 256) : f x = g x := by
  refine Gf.xor_eq_zero ?_
  refine Gf.Poly.roots (f := fun x => f x ^^^ g x) (Gf.Poly.add hf hg) xs (unlike_nodup hu) rfl (fun r hr => ⟨hx r hr, ?_⟩) x hx'
  obtain ⟨j, hj, rfl⟩ := List.getElem_of_mem hr
  have := h j hj
  rw [List.getElem?_eq_getElem hj] at this
  show f xs[j] ^^^ g xs[j] = 0
  rw [show f xs[j] = g xs[j] from this, Nat.xor_self]
/-- LAGRANGE. -/
theorem lagrange {xs ys p : List Nat} (hx : Bytes xs) (hy : Bytes ys) (hu : Unlike xs) (hp : Bytes p) (hl : p.length = xs.length) (h : ∀ j, j < xs.length → ys[j]?.getD 0 = Gf.horner (xs[j]?.getD 0) p) {x : Nat} (hx' : x < 256) :
    btwN xs ys x xs.length = Gf.horner x p := by
  refine poly_ext hx hu (f := fun x => btwN xs ys x xs.length) (g := fun x => Gf.horner x p) (btwN_poly hx hy _ (Nat.le_refl _)) ⟨p, hl, hp, fun _ _ => rfl⟩ (fun j hj => ?_) hx'
  show btwN xs ys (xs[j]?.getD 0) xs.length = Gf.horner (xs[j]?.getD 0) p
  rw [btw_at hx hy hu hj, h j hj]
end Go.Proofs.YtolbdcmoblcakaaGreatDoor
/- Plain laws of matrices over the field: what a matrix turns to 0 (its kernel), row steps, echelon forms, rank. -/
namespace Go.Proofs.YtolbdcmoblcakaaGreatDoor
namespace Mx

/-- the sum of the first c products. -/
def dot (r v : Nat → Nat) : Nat → Nat
  | 0 => 0
  | c + 1 => dot r v c ^^^ Gf.mul (r c) (v c)
def By (r : Nat → Nat) : Prop := ∀ j, r j < 256
theorem dot_lt {r v : Nat → Nat} (hr : By r) : ∀ c, dot r v c < 256
  | 0 => (by decide : 0 < 256)
  | c + 1 => Gf.xor_lt (dot_lt hr c) (Gf.mul_lt _ (hr c))
theorem dot_congr {r r' v v' : Nat → Nat} : ∀ {c : Nat}, (∀ j, j < c → r j = r' j) → (∀ j, j < c → v j = v' j) → dot r v c = dot r' v' c
  | 0, _, _ => rfl
  | c + 1, h, h' => by
    show dot r v c ^^^ _ = dot r' v' c ^^^ _
    rw [dot_congr (c := c) (fun j hj => h j (by omega)) (fun j hj => h' j (by omega)), h c (by omega), h' c (by omega)]
theorem dot_add {r s v : Nat → Nat} {x : Nat} (hr : By r) (hs : By s) (hv : By v) (hx : x < 256) : ∀ c, dot (fun j => r j ^^^ Gf.mul (s j) x) v c = dot r v c ^^^ Gf.mul (dot s v c) x
  | 0 => by show 0 = 0 ^^^ Gf.mul 0 x; rw [Gf.zero_mul]; rfl
  | c + 1 => by
    show dot _ v c ^^^ Gf.mul (r c ^^^ Gf.mul (s c) x) (v c) = (dot r v c ^^^ Gf.mul (r c) (v c)) ^^^ Gf.mul (dot s v c ^^^ Gf.mul (s c) (v c)) x
    rw [dot_add hr hs hv hx c, Gf.mul_xor_left _ (hr c) (Gf.mul_lt _ (hs c)), Gf.mul_xor_left _ (dot_lt hs c) (Gf.mul_lt _ (hs c))]
    have e : Gf.mul (Gf.mul (s c) x) (v c) = Gf.mul (Gf.mul (s c) (v c)) x := by
      rw [Gf.mul_assoc _ (hs c) hx (hv c), Gf.mul_comm hx (hv c), ← Gf.mul_assoc _ (hs c) (hv c) hx]
    rw [e]
    ac_rfl
theorem dot_zeroL (v : Nat → Nat) : ∀ c, dot (fun _ => 0) v c = 0
  | 0 => rfl
  | c + 1 => by show dot _ v c ^^^ Gf.mul 0 (v c) = 0; rw [dot_zeroL v c, Gf.zero_mul]; rfl
theorem dot_scale {s v : Nat → Nat} {x : Nat} (hs : By s) (hv : By v) (hx : x < 256) (c : Nat) : dot (fun j => Gf.mul (s j) x) v c = Gf.mul (dot s v c) x := by
  have h := dot_add (r := fun _ => 0) (fun _ => (by decide : 0 < 256)) hs hv hx c
  rw [dot_zeroL, Nat.zero_xor] at h
  rw [← h]
  exact dot_congr (fun j _ => by simp) (fun _ _ => rfl)
theorem dot_one {r v : Nat → Nat} {l : Nat} : ∀ {c : Nat}, l < c → (∀ j, j < c → j ≠ l → Gf.mul (r j) (v j) = 0) → dot r v c = Gf.mul (r l) (v l)
  | c + 1, hl, h => by
    show dot r v c ^^^ _ = _
    have z : ∀ k, (∀ j, j < k → Gf.mul (r j) (v j) = 0) → dot r v k = 0 := by
      intro k
      induction k with
      | zero => intro _; rfl
      | succ k ih => intro hk; show dot r v k ^^^ _ = 0; rw [ih (fun j hj => hk j (by omega)), hk k (by omega)]; rfl
    by_cases hc : l = c
    · subst hc
      rw [z l (fun j hj => h j (by omega) (by omega)), Nat.zero_xor]
    · rw [dot_one (c := c) (by omega) (fun j hj hne => h j (by omega) hne), h c (by omega) (Ne.symm hc), Nat.xor_zero]
def upd (v : Nat → Nat) (e x : Nat) : Nat → Nat := fun j => if j = e then x else v j
theorem dot_upd {r v : Nat → Nat} {e x : Nat} (h0 : v e = 0) : ∀ {c : Nat}, e < c → dot r (upd v e x) c = dot r v c ^^^ Gf.mul (r e) x
  | c + 1, he => by
    show dot r (upd v e x) c ^^^ Gf.mul (r c) (upd v e x c) = (dot r v c ^^^ Gf.mul (r c) (v c)) ^^^ _
    by_cases hc : e = c
    · subst hc
      rw [dot_congr (r' := r) (v' := v) (c := e) (fun _ _ => rfl) (fun j hj => by unfold upd; rw [if_neg (by omega)]), h0, Gf.mul_zero, Nat.xor_zero]
      unfold upd; rw [if_pos rfl]
    · rw [dot_upd h0 (c := c) (by omega)]
      have e1 : upd v e x c = v c := by unfold upd; rw [if_neg (Ne.symm hc)]
      rw [e1]; ac_rfl
theorem dot_upd_out {r v : Nat → Nat} {e x c : Nat} (h : r e = 0) (h0 : v e = 0) (he : e < c) : dot r (upd v e x) c = dot r v c := by
  rw [dot_upd h0 he, h, Gf.zero_mul, Nat.xor_zero]

def ByM (M : Nat → Nat → Nat) : Prop := ∀ i, By (M i)
/-- what the first n rows turn to 0, over the first c columns. -/
def Ker (M : Nat → Nat → Nat) (n c : Nat) (v : Nat → Nat) : Prop := ∀ i, i < n → dot (M i) v c = 0
def swapR (M : Nat → Nat → Nat) (a b : Nat) : Nat → Nat → Nat := fun i => if i = a then M b else if i = b then M a else M i
def scaleR (M : Nat → Nat → Nat) (d x : Nat) : Nat → Nat → Nat := fun i => if i = d then fun j => Gf.mul (M d j) x else M i
def addR (M : Nat → Nat → Nat) (d : Nat) (y : Nat → Nat) : Nat → Nat → Nat := fun i => if i = d then M d else fun j => M i j ^^^ Gf.mul (M d j) (y i)
theorem by_swap {M : Nat → Nat → Nat} (h : ByM M) (a b : Nat) : ByM (swapR M a b) := fun i => by
  unfold swapR; split
  · exact h b
  · split
    · exact h a
    · exact h i
theorem by_scale {M : Nat → Nat → Nat} (h : ByM M) (d x : Nat) : ByM (scaleR M d x) := fun i => by
  unfold scaleR; split
  · exact fun j => Gf.mul_lt _ (h d j)
  · exact h i
theorem by_add {M : Nat → Nat → Nat} (h : ByM M) (d : Nat) (y : Nat → Nat) : ByM (addR M d y) := fun i => by
  unfold addR; split
  · exact h d
  · exact fun j => Gf.xor_lt (h i j) (Gf.mul_lt _ (h d j))
theorem ker_swap {M : Nat → Nat → Nat} {n c a b : Nat} {v : Nat → Nat} (ha : a < n) (hb : b < n) : Ker (swapR M a b) n c v ↔ Ker M n c v := by
  constructor
  · intro h i hi
    by_cases e : i = a
    · by_cases e2 : a = b
      · have := h a ha
        unfold swapR at this; rw [if_pos rfl, ← e2] at this; rw [e]; exact this
      · have := h b hb
        unfold swapR at this; rw [if_neg (Ne.symm e2), if_pos rfl] at this; rw [e]; exact this
    · by_cases e2 : i = b
      · have := h a ha
        unfold swapR at this; rw [if_pos rfl] at this; rw [e2]; exact this
      · have := h i hi
        unfold swapR at this; rw [if_neg e, if_neg e2] at this; exact this
  · intro h i hi
    unfold swapR
    split
    · exact h b hb
    · split
      · exact h a ha
      · exact h i hi
theorem ker_scale {M : Nat → Nat → Nat} {n c d x : Nat} {v : Nat → Nat} (hM : ByM M) (hv : By v) (hx : x < 256) (h0 : x ≠ 0) (hd : d < n) : Ker (scaleR M d x) n c v ↔ Ker M n c v := by
  constructor
  · intro h i hi
    have := h i hi
    unfold scaleR at this
    by_cases e : i = d
    · subst e
      rw [if_pos rfl, dot_scale (hM i) hv hx] at this
      exact (Gf.mul_eq_zero (dot_lt (hM i) c) hx this).resolve_right h0
    · rw [if_neg e] at this; exact this
  · intro h i hi
    unfold scaleR
    by_cases e : i = d
    · subst e
      rw [if_pos rfl, dot_scale (hM i) hv hx, h i hi, Gf.zero_mul]
    · rw [if_neg e]; exact h i hi
theorem ker_add {M : Nat → Nat → Nat} {n c d : Nat} {v y : Nat → Nat} (hM : ByM M) (hv : By v) (hy : By y) (hd : d < n) : Ker (addR M d y) n c v ↔ Ker M n c v := by
  constructor
  · intro h
    have h0 : dot (M d) v c = 0 := by
      have := h d hd
      unfold addR at this; rw [if_pos rfl] at this; exact this
    intro i hi
    by_cases e : i = d
    · rw [e]; exact h0
    · have := h i hi
      unfold addR at this
      rw [if_neg e, dot_add (hM i) (hM d) hv (hy i), h0, Gf.zero_mul, Nat.xor_zero] at this
      exact this
  · intro h i hi
    unfold addR
    by_cases e : i = d
    · rw [if_pos e]; exact h d hd
    · rw [if_neg e, dot_add (hM i) (hM d) hv (hy i), h d hd, h i hi, Gf.zero_mul]; rfl

/-! ### Gauss and Jordan -/
/-- the first c columns are reduced: 'done' rows lead, at the columns L. -/
structure RR (M : Nat → Nat → Nat) (n c done : Nat) (L : Nat → Nat) : Prop where
  le : done ≤ n
  lt : ∀ i, i < done → L i < c
  one : ∀ i, i < done → M i (L i) = 1
  zero : ∀ i, i < done → ∀ j, j < L i → M i j = 0
  alone : ∀ i, i < done → ∀ k, k < n → k ≠ i → M k (L i) = 0
  up : ∀ i j, i < j → j < done → L i < L j
  rest : ∀ i, done ≤ i → i < n → ∀ j, j < c → M i j = 0
theorem RR.start (M : Nat → Nat → Nat) (n : Nat) : RR M n 0 0 (fun _ => 0) :=
  ⟨Nat.zero_le _, fun _ h => by omega, fun _ h => by omega, fun _ h => by omega, fun _ h => by omega, fun _ _ _ h => by omega, fun _ _ _ _ h => by omega⟩
theorem RR.none {M : Nat → Nat → Nat} {n c done : Nat} {L : Nat → Nat} (h : RR M n c done L) (hz : ∀ i, done ≤ i → i < n → M i c = 0) : RR M n (c + 1) done L :=
  ⟨h.le, fun i hi => Nat.lt_succ_of_lt (h.lt i hi), h.one, h.zero, h.alone, h.up, fun i h1 h2 j hj => by
    by_cases e : j = c
    · rw [e]; exact hz i h1 h2
    · exact h.rest i h1 h2 j (by omega)⟩
theorem RR.full {M : Nat → Nat → Nat} {n c c' : Nat} {L : Nat → Nat} (h : RR M n c n L) (hc : c ≤ c') : RR M n c' n L :=
  ⟨h.le, fun i hi => Nat.lt_of_lt_of_le (h.lt i hi) hc, h.one, h.zero, h.alone, h.up, fun i h1 h2 => by omega⟩
/-- one step: swap, scale, add. -/
def stepR (M : Nat → Nat → Nat) (done k c : Nat) : Nat → Nat → Nat :=
  let M1 := swapR M done k
  let M2 := scaleR M1 done (Gf.inv (M1 done c))
  addR M2 done (fun i => M2 i c)
theorem RR.step {M : Nat → Nat → Nat} {n c done k : Nat} {L : Nat → Nat} (hM : ByM M) (h : RR M n c done L) (hd : done < n) (hk : done ≤ k) (hkn : k < n) (hne : M k c ≠ 0) :
    RR (stepR M done k c) n (c + 1) (done + 1) (upd L done c) := by
  have e1 : ∀ i, i < done → swapR M done k i = M i := fun i hi => by unfold swapR; rw [if_neg (by omega), if_neg (by omega)]
  have e1d : swapR M done k done = M k := by unfold swapR; rw [if_pos rfl]
  have z1 : ∀ i, done ≤ i → i < n → ∀ j, j < c → swapR M done k i j = 0 := by
    intro i h1 h2 j hj
    unfold swapR
    split
    · exact h.rest k hk hkn j hj
    · split
      · exact h.rest done (Nat.le_refl _) hd j hj
      · exact h.rest i h1 h2 j hj
  obtain ⟨M1, hM1⟩ : ∃ M1, M1 = swapR M done k := ⟨_, rfl⟩
  have b1 : ByM M1 := hM1 ▸ by_swap hM done k
  have hp : M1 done c ≠ 0 := by rw [hM1, e1d]; exact hne
  obtain ⟨M2, hM2⟩ : ∃ M2, M2 = scaleR M1 done (Gf.inv (M1 done c)) := ⟨_, rfl⟩
  have e2 : ∀ i, i ≠ done → M2 i = M1 i := fun i hi => by rw [hM2]; unfold scaleR; rw [if_neg hi]
  have e2d : ∀ j, M2 done j = Gf.mul (M1 done j) (Gf.inv (M1 done c)) := fun j => by rw [hM2]; unfold scaleR; rw [if_pos rfl]
  have one2 : M2 done c = 1 := by rw [e2d, Gf.mul_inv (b1 done c) hp]
  have b2 : ByM M2 := hM2 ▸ by_scale b1 _ _
  have z2 : ∀ j, j < c → M2 done j = 0 := fun j hj => by
    rw [e2d, hM1, z1 done (Nat.le_refl _) hd j hj, Gf.zero_mul]
  have hS : stepR M done k c = addR M2 done (fun i => M2 i c) := by
    rw [hM2, hM1]; rfl
  have s0 : ∀ j, stepR M done k c done j = M2 done j := fun j => by rw [hS]; unfold addR; rw [if_pos rfl]
  have s1 : ∀ i, i ≠ done → ∀ j, stepR M done k c i j = M1 i j ^^^ Gf.mul (M2 done j) (M1 i c) := fun i hi j => by
    rw [hS]; unfold addR; rw [if_neg hi]; simp only [e2 i hi]
  have slow : ∀ i, i ≠ done → ∀ j, j < c → stepR M done k c i j = M1 i j := fun i hi j hj => by
    rw [s1 i hi j, z2 j hj, Gf.zero_mul, Nat.xor_zero]
  have sc : ∀ i, i ≠ done → stepR M done k c i c = 0 := fun i hi => by
    rw [s1 i hi c, one2, Gf.one_mul (b1 i c), Nat.xor_self]
  have l1 : ∀ i, i < done → upd L done c i = L i := fun i hi => by unfold upd; rw [if_neg (by omega)]
  have ld : upd L done c done = c := by unfold upd; rw [if_pos rfl]
  refine ⟨hd, ?_, ?_, ?_, ?_, ?_, ?_⟩
  · intro i hi
    by_cases e : i = done
    · subst e; rw [ld]; omega
    · rw [l1 i (by omega)]; have := h.lt i (by omega); omega
  · intro i hi
    by_cases e : i = done
    · subst e; rw [ld, s0, one2]
    · have hi' : i < done := by omega
      rw [l1 i hi', slow i e _ (h.lt i hi'), hM1, e1 i hi', h.one i hi']
  · intro i hi j hj
    by_cases e : i = done
    · subst e; rw [ld] at hj; rw [s0, z2 j hj]
    · have hi' : i < done := by omega
      rw [l1 i hi'] at hj
      have := h.lt i hi'
      rw [slow i e _ (by omega), hM1, e1 i hi', h.zero i hi' j hj]
  · intro i hi m hm hne2
    by_cases e : i = done
    · subst e; rw [ld]; exact sc m hne2
    · have hi' : i < done := by omega
      rw [l1 i hi']
      have hl := h.lt i hi'
      by_cases em : m = done
      · subst em; rw [s0, z2 _ hl]
      · rw [slow m em _ hl, hM1]
        by_cases hmd : m < done
        · rw [e1 m hmd]; exact h.alone i hi' m hm hne2
        · exact z1 m (by omega) hm _ hl
  · intro i j hij hj
    by_cases e : j = done
    · subst e; rw [ld, l1 i hij]; exact h.lt i hij
    · rw [l1 i (by omega), l1 j (by omega)]; exact h.up i j hij (by omega)
  · intro i h1 h2 j hj
    have hid : i ≠ done := by omega
    by_cases e : j = c
    · rw [e]; exact sc i hid
    · rw [slow i hid j (by omega), hM1]; exact z1 i (by omega) h2 j (by omega)
theorem by_step {M : Nat → Nat → Nat} (h : ByM M) (done k c : Nat) : ByM (stepR M done k c) := by_add (by_scale (by_swap h _ _) _ _) _ _
theorem ker_step {M : Nat → Nat → Nat} {n c done k d : Nat} {v : Nat → Nat} (hM : ByM M) (hv : By v) (hd : done < n) (hkn : k < n) (hne : M k c ≠ 0) : Ker (stepR M done k c) n d v ↔ Ker M n d v := by
  have b1 := by_swap hM done k
  have e1d : swapR M done k done = M k := by unfold swapR; rw [if_pos rfl]
  have hp : swapR M done k done c ≠ 0 := by rw [e1d]; exact hne
  have hi0 : Gf.inv (swapR M done k done c) ≠ 0 := fun e => by
    have := Gf.mul_inv (b1 done c) hp
    rw [e, Gf.mul_zero] at this
    exact absurd this (by decide)
  have b2 := by_scale b1 done (Gf.inv (swapR M done k done c))
  exact (ker_add b2 hv (fun i => b2 i c) hd).trans ((ker_scale b1 hv (Gf.inv_lt (b1 done c)) hi0 hd).trans (ker_swap hd hkn))

/-! ### echelon forms: the kernel tells the leads -/
structure Ech (M : Nat → Nat → Nat) (n c : Nat) (L : Nat → Nat) : Prop where
  lt : ∀ i, i < n → L i < c
  ne : ∀ i, i < n → M i (L i) ≠ 0
  zero : ∀ i, i < n → ∀ j, j < L i → M i j = 0
  inj : ∀ i j, i < n → j < n → L i = L j → i = j
theorem Ech.no {M : Nat → Nat → Nat} {n c : Nat} {L v : Nat → Nat} (h : Ech M n c L) (hM : ByM M) (hv : By v) (hk : Ker M n c v) {i : Nat} (hi : i < n) (hz : ∀ j, L i < j → v j = 0) : v (L i) = 0 := by
  have hd := hk i hi
  rw [dot_one (h.lt i hi) (fun j _ hne => by
    rcases Nat.lt_or_gt_of_ne hne with hlt | hgt
    · rw [h.zero i hi j hlt, Gf.zero_mul]
    · rw [hz j hgt, Gf.mul_zero])] at hd
  exact (Gf.mul_eq_zero (hM i _) (hv _) hd).resolve_left (h.ne i hi)
theorem by_upd {v : Nat → Nat} (h : By v) (e : Nat) {x : Nat} (hx : x < 256) : By (upd v e x) := fun j => by unfold upd; split; exact hx; exact h j
theorem Ech.yesN {M : Nat → Nat → Nat} {n c : Nat} {L : Nat → Nat} (h : Ech M n c L) (hM : ByM M) {d : Nat} (hd : d < c) (hfree : ∀ i, i < n → L i ≠ d) :
    ∀ t, t ≤ d → ∃ v, By v ∧ v d = 1 ∧ (∀ j, d < j → v j = 0) ∧ (∀ j, j < d - t → v j = 0) ∧ ∀ i, i < n → d - t ≤ L i → dot (M i) v c = 0
  | 0, _ => by
    refine ⟨fun j => if j = d then 1 else 0, fun j => by dsimp only; split <;> decide, if_pos rfl, fun j hj => if_neg (by omega), fun j hj => if_neg (by omega), fun i hi hl => ?_⟩
    have hgt : d < L i := by have := hfree i hi; omega
    rw [dot_one hd (fun j _ hne => by rw [if_neg hne, Gf.mul_zero]), h.zero i hi d hgt, Gf.zero_mul]
  | t + 1, ht => by
    obtain ⟨v, hv, h1, h2, h3, h4⟩ := h.yesN hM hd hfree t (by omega)
    by_cases hl : ∃ i, i < n ∧ L i = d - (t + 1)
    · obtain ⟨i, hi, hLi⟩ := hl
      have he : d - (t + 1) < c := by omega
      have h0 : v (d - (t + 1)) = 0 := h3 _ (by omega)
      have hx := Gf.mul_lt (Gf.inv (M i (d - (t + 1)))) (dot_lt (v := v) (hM i) c)
      refine ⟨upd v (d - (t + 1)) (Gf.mul (dot (M i) v c) (Gf.inv (M i (d - (t + 1))))), by_upd hv _ hx, ?_, ?_, ?_, ?_⟩
      · unfold upd; rw [if_neg (by omega)]; exact h1
      · intro j hj; unfold upd; rw [if_neg (by omega)]; exact h2 j hj
      · intro j hj; unfold upd; rw [if_neg (by omega)]; exact h3 j (by omega)
      · intro k hk hkl
        by_cases hki : k = i
        · subst hki
          have hm := hM k (d - (t + 1))
          have hne := h.ne k hi
          rw [hLi] at hne
          rw [dot_upd h0 he, Gf.mul_comm (dot_lt (hM k) c) (Gf.inv_lt hm), ← Gf.mul_assoc _ hm (Gf.inv_lt hm) (dot_lt (hM k) c), Gf.mul_inv hm hne, Gf.one_mul (dot_lt (hM k) c), Nat.xor_self]
        · have hLk : L k ≠ d - (t + 1) := fun e => hki (h.inj k i hk hi (e.trans hLi.symm))
          have hgt : d - (t + 1) < L k := by omega
          rw [dot_upd_out (h.zero k hk _ hgt) h0 he]
          exact h4 k hk (by omega)
    · refine ⟨v, hv, h1, h2, fun j hj => h3 j (by omega), fun k hk hkl => ?_⟩
      have : L k ≠ d - (t + 1) := fun e => hl ⟨k, hk, e⟩
      exact h4 k hk (by omega)
theorem Ech.yes {M : Nat → Nat → Nat} {n c : Nat} {L : Nat → Nat} (h : Ech M n c L) (hM : ByM M) {d : Nat} (hd : d < c) (hfree : ∀ i, i < n → L i ≠ d) : ∃ v, By v ∧ v d = 1 ∧ (∀ j, d < j → v j = 0) ∧ Ker M n c v := by
  obtain ⟨v, hv, h1, h2, _, h4⟩ := h.yesN hM hd hfree d (Nat.le_refl _)
  exact ⟨v, hv, h1, h2, fun i hi => h4 i hi (by omega)⟩
theorem nodup_length : ∀ {l l' : List Nat}, l.Nodup → (∀ x ∈ l, x ∈ l') → l.length ≤ l'.length
  | [], _, _, _ => Nat.zero_le _
  | a :: t, l', hn, hs => by
    have ha := hs a (List.mem_cons_self ..)
    obtain ⟨hat, ht⟩ := List.nodup_cons.1 hn
    have := nodup_length (l' := l'.erase a) ht (fun x hx => (List.mem_erase_of_ne (fun e => hat (by rw [← e]; exact hx))).2 (hs x (List.mem_cons_of_mem _ hx)))
    rw [List.length_erase_of_mem ha] at this
    have := List.length_pos_of_mem ha
    simp only [List.length_cons]
    omega
theorem Ech.le {M M' : Nat → Nat → Nat} {n n' c : Nat} {L L' : Nat → Nat} (h : Ech M n c L) (h' : Ech M' n' c L') (hM : ByM M) (hM' : ByM M') (hk : ∀ v, By v → Ker M' n' c v → Ker M n c v) : n ≤ n' := by
  have hs : ∀ i, i < n → ∃ i', i' < n' ∧ L' i' = L i := fun i hi => by
    by_cases hx : ∃ i', i' < n' ∧ L' i' = L i
    · exact hx
    · exfalso
      obtain ⟨v, hv, h1, h2, h3⟩ := h'.yes hM' (h.lt i hi) (fun j hj e => hx ⟨j, hj, e⟩)
      have := h.no hM hv (hk v hv h3) hi h2
      rw [this] at h1
      exact absurd h1 (by decide)
  have hn : ((List.range n).map L).Nodup := by
    rw [List.nodup_iff_pairwise_ne, List.pairwise_map]
    refine List.Pairwise.imp_of_mem ?_ List.nodup_range
    intro a b ha hb hne e
    exact hne (h.inj a b (List.mem_range.1 ha) (List.mem_range.1 hb) e)
  have := nodup_length (l' := (List.range n').map L') hn (fun x hx => by
    obtain ⟨i, hi, rfl⟩ := List.mem_map.1 hx
    obtain ⟨i', hi', e⟩ := hs i (List.mem_range.1 hi)
    exact List.mem_map.2 ⟨i', List.mem_range.2 hi', e⟩)
  simpa using this
theorem Ech.same {M M' : Nat → Nat → Nat} {n n' c : Nat} {L L' : Nat → Nat} (h : Ech M n c L) (h' : Ech M' n' c L') (hM : ByM M) (hM' : ByM M') (hk : ∀ v, By v → (Ker M n c v ↔ Ker M' n' c v)) : n = n' :=
  Nat.le_antisymm (h.le h' hM hM' fun v hv => (hk v hv).2) (h'.le h hM' hM fun v hv => (hk v hv).1)
theorem RR.ech {M : Nat → Nat → Nat} {n c done : Nat} {L : Nat → Nat} (h : RR M n c done L) : Ech M done c L :=
  ⟨h.lt, fun i hi => by rw [h.one i hi]; decide, h.zero, fun i j hi hj e => by
    rcases Nat.lt_trichotomy i j with hlt | he | hgt
    · have := h.up i j hlt hj; omega
    · exact he
    · have := h.up j i hgt hi; omega⟩
theorem RR.ker {M : Nat → Nat → Nat} {n c done : Nat} {L v : Nat → Nat} (h : RR M n c done L) : Ker M done c v ↔ Ker M n c v := by
  constructor
  · intro hk i hi
    by_cases hd : i < done
    · exact hk i hd
    · rw [dot_congr (r' := fun _ => 0) (v' := v) (fun j hj => h.rest i (by omega) hi j hj) (fun _ _ => rfl), dot_zeroL]
  · exact fun hk i hi => hk i (Nat.lt_of_lt_of_le hi h.le)
end Mx
end Go.Proofs.YtolbdcmoblcakaaGreatDoor
