/- Plain laws of matrices over the field: what a matrix turns to 0 (its kernel), row steps, echelon forms, rank. -/
import Derived.Test.YtabboioamdphmaaGreatDoorSCarryHears02
namespace Go.Proofs.YtabboioamdphmaaGreatDoor
namespace Mx

def dot (r v : Nat → Nat) : Nat → Nat
  | 0 => 0
  | c + 1 => dot r v c ^^^ Gf.mul (r c) (v c)
def By (r : Nat → Nat) : Prop := ∀ j, r j < 256
theorem dot_lt {r v : Nat → Nat} (hr : By r) : ∀ c, dot r v c < 256
  | 0 => (by decide : 0 < 256)
  | c + 1 => Gf.xor_lt (dot_lt hr c) (Gf.mul_lt _ (hr c))
theorem dot_congr {r r' v v' : Nat → Nat} : ∀ {c : Nat}, (∀ j, j < c → r j = r' j) → (∀ j, j < c → v j = v' j) → dot r v c = dot r' v' c
  | 0, _, _ => rfl
  | c + 1, h, h' => by
    show dot r v c ^^^ _ = dot r' v' c ^^^ _
    rw [dot_congr (c := c) (fun j hj => h j (by omega)) (fun j hj => h' j (by omega)), h c (by omega), h' c (by omega)]
theorem dot_add {r s v : Nat → Nat} {x : Nat} (hr : By r) (hs : By s) (hv : By v) (hx : x < 256) : ∀ c, dot (fun j => r j ^^^ Gf.mul (s j) x) v c = dot r v c ^^^ Gf.mul (dot s v c) x
  | 0 => by show 0 = 0 ^^^ Gf.mul 0 x; rw [Gf.zero_mul]; rfl
  | c + 1 => by
    show dot _ v c ^^^ Gf.mul (r c ^^^ Gf.mul (s c) x) (v c) = (dot r v c ^^^ Gf.mul (r c) (v c)) ^^^ Gf.mul (dot s v c ^^^ Gf.mul (s c) (v c)) x
    rw [dot_add hr hs hv hx c, Gf.mul_xor_left _ (hr c) (Gf.mul_lt _ (hs c)), Gf.mul_xor_left _ (dot_lt hs c) (Gf.mul_lt _ (hs c))]
    have e : Gf.mul (Gf.mul (s c) x) (v c) = Gf.mul (Gf.mul (s c) (v c)) x := by
      rw [Gf.mul_assoc _ (hs c) hx (hv c), Gf.mul_comm hx (hv c), ← Gf.mul_assoc _ (hs c) (hv c) hx]
    rw [e]
    ac_rfl
theorem dot_zeroL (v : Nat → Nat) : ∀ c, dot (fun _ => 0) v c = 0
  | 0 => rfl
  | c + 1 => by show dot _ v c ^^^ Gf.mul 0 (v c) = 0; rw [dot_zeroL v c, Gf.zero_mul]; rfl
theorem dot_scale {s v : Nat → Nat} {x : Nat} (hs : By s) (hv : By v) (hx : x < 256) (c : Nat) : dot (fun j => Gf.mul (s j) x) v c = Gf.mul (dot s v c) x := by
  have h := dot_add (r := fun _ => 0) (fun _ => (by decide : 0 < 256)) hs hv hx c
  rw [dot_zeroL, Nat.zero_xor] at h
  rw [← h]
  exact dot_congr (fun j _ => by simp) (fun _ _ => rfl)
theorem dot_one {r v : Nat → Nat} {l : Nat} : ∀ {c : Nat}, l < c → (∀ j, j < c → j ≠ l → Gf.mul (r j) (v j) = 0) → dot r v c = Gf.mul (r l) (v l)
  | c + 1, hl, h => by
    show dot r v c ^^^ _ = _
    have z : ∀ k, (∀ j, j < k → Gf.mul (r j) (v j) = 0) → dot r v k = 0 := by
      intro k
      induction k with
      | zero => intro _; rfl
      | succ k ih => intro hk; show dot r v k ^^^ _ = 0; rw [ih (fun j hj => hk j (by omega)), hk k (by omega)]; rfl
    by_cases hc : l = c
    · subst hc
      rw [z l (fun j hj => h j (by omega) (by omega)), Nat.zero_xor]
    · rw [dot_one (c := c) (by omega) (fun j hj hne => h j (by omega) hne), h c (by omega) (Ne.symm hc), Nat.xor_zero]
def upd (v : Nat → Nat) (e x : Nat) : Nat → Nat := fun j => if j = e then x else v j
theorem dot_upd {r v : Nat → Nat} {e x : Nat} (h0 : v e = 0) : ∀ {c : Nat}, e < c → dot r (upd v e x) c = dot r v c ^^^ Gf.mul (r e) x
  | c + 1, he => by
    show dot r (upd v e x) c ^^^ Gf.mul (r c) (upd v e x c) = (dot r v c ^^^ Gf.mul (r c) (v c)) ^^^ _
    by_cases hc : e = c
    · subst hc
      rw [dot_congr (r' := r) (v' := v) (c := e) (fun _ _ => rfl) (fun j hj => by unfold upd; rw [if_neg (by omega)]), h0, Gf.mul_zero, Nat.xor_zero]
      unfold upd; rw [if_pos rfl]
    · rw [dot_upd h0 (c := c) (by omega)]
      have e1 : upd v e x c = v c := by unfold upd; rw [if_neg (Ne.symm hc)]
      rw [e1]; ac_rfl
theorem dot_upd_out {r v : Nat → Nat} {e x c : Nat} (h : r e = 0) (h0 : v e = 0) (he : e < c) : dot r (upd v e x) c = dot r v c := by
  rw [dot_upd h0 he, h, Gf.zero_mul, Nat.xor_zero]

def ByM (M : Nat → Nat → Nat) : Prop := ∀ i, By (M i)
def Ker (M : Nat → Nat → Nat) (n c : Nat) (v : Nat → Nat) : Prop := ∀ i, i < n → dot (M i) v c = 0
def swapR (M : Nat → Nat → Nat) (a b : Nat) : Nat → Nat → Nat := fun i => if i = a then M b else if i = b then M a else M i
def scaleR (M : Nat → Nat → Nat) (d x : Nat) : Nat → Nat → Nat := fun i => if i = d then fun j => Gf.mul (M d j) x else M i
def addR (M : Nat → Nat → Nat) (d : Nat) (y : Nat → Nat) : Nat → Nat → Nat := fun i => if i = d then M d else fun j => M i j ^^^ Gf.mul (M d j) (y i)
theorem by_swap {M : Nat → Nat → Nat} (h : ByM M) (a b : Nat) : ByM (swapR M a b) := fun i => by
  unfold swapR; split
  · exact h b
  · split
    · exact h a
    · exact h i
theorem by_scale {M : Nat → Nat → Nat} (h : ByM M) (d x : Nat) : ByM (scaleR M d x) := fun i => by
  unfold scaleR; split
  · exact fun j => Gf.mul_lt _ (h d j)
  · exact h i
theorem by_add {M : Nat → Nat → Nat} (h : ByM M) (d : Nat) (y : Nat → Nat) : ByM (addR M d y) := fun i => by
  unfold addR; split
  · exact h d
  · exact fun j => Gf.xor_lt (h i j) (Gf.mul_lt _ (h d j))
theorem ker_swap {M : Nat → Nat → Nat} {n c a b : Nat} {v : Nat → Nat} (ha : a < n) (hb : b < n) : Ker (swapR M a b) n c v ↔ Ker M n c v := by
  constructor
  · intro h i hi
    by_cases e : i = a
    · by_cases e2 : a = b
      · have := h a ha
        unfold swapR at this; rw [if_pos rfl, ← e2] at this; rw [e]; exact this
      · have := h b hb
        unfold swapR at this; rw [if_neg (Ne.symm e2), if_pos rfl] at this; rw [e]; exact this
    · by_cases e2 : i = b
      · have := h a ha
        unfold swapR at this; rw [if_pos rfl] at this; rw [e2]; exact this
      · have := h i hi
        unfold swapR at this; rw [if_neg e, if_neg e2] at this; exact this
  · intro h i hi
    unfold swapR
    split
    · exact h b hb
    · split
      · exact h a ha
      · exact h i hi
theorem ker_scale {M : Nat → Nat → Nat} {n c d x : Nat} {v : Nat → Nat} (hM : ByM M) (hv : By v) (hx : x < 256) (h0 : x ≠ 0) (hd : d < n) : Ker (scaleR M d x) n c v ↔ Ker M n c v := by
  constructor
  · intro h i hi
    have := h i hi
    unfold scaleR at this
    by_cases e : i = d
    · subst e
      rw [if_pos rfl, dot_scale (hM i) hv hx] at this
      exact (Gf.mul_eq_zero (dot_lt (hM i) c) hx this).resolve_right h0
    · rw [if_neg e] at this; exact this
  · intro h i hi
    unfold scaleR
    by_cases e : i = d
    · subst e
      rw [if_pos rfl, dot_scale (hM i) hv hx, h i hi, Gf.zero_mul]
    · rw [if_neg e]; exact h i hi
theorem ker_add {M : Nat → Nat → Nat} {n c d : Nat} {v y : Nat → Nat} (hM : ByM M) (hv : By v) (hy : By y) (hd : d < n) : Ker (addR M d y) n c v ↔ Ker M n c v := by
  constructor
  · intro h
    have h0 : dot (M d) v c = 0 := by
      have := h d hd
      unfold addR at this; rw [if_pos rfl] at this; exact this
    intro i hi
    by_cases e : i = d
    · rw [e]; exact h0
    · have := h i hi
      unfold addR at this
      rw [if_neg e, dot_add (hM i) (hM d) hv (hy i), h0, Gf.zero_mul, Nat.xor_zero] at this
      exact this
  · intro h i hi
    unfold addR
    by_cases e : i = d
    · rw [if_pos e]; exact h d hd
    · rw [if_neg e, dot_add (hM i) (hM d) hv (hy i), h d hd, h i hi, Gf.zero_mul]; rfl

/-! ### Gauss and Jordan -/
structure RR (M : Nat → Nat → Nat) (n c done : Nat) (L : Nat → Nat) : Prop where
  le : done ≤ n
  lt : ∀ i, i < done → L i < c
  one : ∀ i, i < done → M i (L i) = 1
  zero : ∀ i, i < done → ∀ j, j < L i → M i j = 0
  alone : ∀ i, i < done → ∀ k, k < n → k ≠ i → M k (L i) = 0
  up : ∀ i j, i < j → j < done → L i < L j
  rest : ∀ i, done ≤ i → i < n → ∀ j, j < c → M i j = 0
theorem RR.start (M : Nat → Nat → Nat) (n : Nat) : RR M n 0 0 (fun _ => 0) :=
  ⟨Nat.zero_le _, fun _ h => by omega, fun _ h => by omega, fun _ h => by omega, fun _ h => by omega, fun _ _ _ h => by omega, fun _ _ _ _ h => by omega⟩
theorem RR.none {M : Nat → Nat → Nat} {n c done : Nat} {L : Nat → Nat} (h : RR M n c done L) (hz : ∀ i, done ≤ i → i < n → M i c = 0) : RR M n (c + 1) done L :=
  ⟨h.le, fun i hi => Nat.lt_succ_of_lt (h.lt i hi), h.one, h.zero, h.alone, h.up, fun i h1 h2 j hj => by
    by_cases e : j = c
    · rw [e]; exact hz i h1 h2
    · exact h.rest i h1 h2 j (by omega)⟩
theorem RR.full {M : Nat → Nat → Nat} {n c c' : Nat} {L : Nat → Nat} (h : RR M n c n L) (hc : c ≤ c') : RR M n c' n L :=
  ⟨h.le, fun i hi => Nat.lt_of_lt_of_le (h.lt i hi) hc, h.one, h.zero, h.alone, h.up, fun i h1 h2 => by omega⟩
def stepR (M : Nat → Nat → Nat) (done k c : Nat) : Nat → Nat → Nat :=
  let M1 := swapR M done k
  let M2 := scaleR M1 done (Gf.inv (M1 done c))
  addR M2 done (fun i => M2 i c)
theorem RR.step {M : Nat → Nat → Nat} {n c done k : Nat} {L : Nat → Nat} (hM : ByM M) (h : RR M n c done L) (hd : done < n) (hk : done ≤ k) (hkn : k < n) (hne : M k c ≠ 0) :
    RR (stepR M done k c) n (c + 1) (done + 1) (upd L done c) := by
  have e1 : ∀ i, i < done → swapR M done k i = M i := fun i hi => by unfold swapR; rw [if_neg (by omega), if_neg (by omega)]
  have e1d : swapR M done k done = M k := by unfold swapR; rw [if_pos rfl]
  have z1 : ∀ i, done ≤ i → i < n → ∀ j, j < c → swapR M done k i j = 0 := by
    intro i h1 h2 j hj
    unfold swapR
    split
    · exact h.rest k hk hkn j hj
    · split
      · exact h.rest done (Nat.le_refl _) hd j hj
      · exact h.rest i h1 h2 j hj
  obtain ⟨M1, hM1⟩ : ∃ M1, M1 = swapR M done k := ⟨_, rfl⟩
  have b1 : ByM M1 := hM1 ▸ by_swap hM done k
  have hp : M1 done c ≠ 0 := by rw [hM1, e1d]; exact hne
  obtain ⟨M2, hM2⟩ : ∃ M2, M2 = scaleR M1 done (Gf.inv (M1 done c)) := ⟨_, rfl⟩
  have e2 : ∀ i, i ≠ done → M2 i = M1 i := fun i hi => by rw [hM2]; unfold scaleR; rw [if_neg hi]
  have e2d : ∀ j, M2 done j = Gf.mul (M1 done j) (Gf.inv (M1 done c)) := fun j => by rw [hM2]; unfold scaleR; rw [if_pos rfl]
  have one2 : M2 done c = 1 := by rw [e2d, Gf.mul_inv (b1 done c) hp]
  have b2 : ByM M2 := hM2 ▸ by_scale b1 _ _
  have z2 : ∀ j, j < c → M2 done j = 0 := fun j hj => by
    rw [e2d, hM1, z1 done (Nat.le_refl _) hd j hj, Gf.zero_mul]
  have hS : stepR M done k c = addR M2 done (fun i => M2 i c) := by
    rw [hM2, hM1]; rfl
  have s0 : ∀ j, stepR M done k c done j = M2 done j := fun j => by rw [hS]; unfold addR; rw [if_pos rfl]
  have s1 : ∀ i, i ≠ done → ∀ j, stepR M done k c i j = M1 i j ^^^ Gf.mul (M2 done j) (M1 i c) := fun i hi j => by
    rw [hS]; unfold addR; rw [if_neg hi]; simp only [e2 i hi]
  have slow : ∀ i, i ≠ done → ∀ j, j < c → stepR M done k c i j = M1 i j := fun i hi j hj => by
    rw [s1 i hi j, z2 j hj, Gf.zero_mul, Nat.xor_zero]
  have sc : ∀ i, i ≠ done → stepR M done k c i c = 0 := fun i hi => by
    rw [s1 i hi c, one2, Gf.one_mul (b1 i c), Nat.xor_self]
  have l1 : ∀ i, i < done → upd L done c i = L i := fun i hi => by unfold upd; rw [if_neg (by omega)]
  have ld : upd L done c done = c := by unfold upd; rw [if_pos rfl]
  refine ⟨hd, ?_, ?_, ?_, ?_, ?_, ?_⟩
  · intro i hi
    by_cases e : i = done
    · subst e; rw [ld]; omega
    · rw [l1 i (by omega)]; have := h.lt i (by omega); omega
  · intro i hi
    by_cases e : i = done
    · subst e; rw [ld, s0, one2]
    · have hi' : i < done := by omega
      rw [l1 i hi', slow i e _ (h.lt i hi'), hM1, e1 i hi', h.one i hi']
  · intro i hi j hj
    by_cases e : i = done
    · subst e; rw [ld] at hj; rw [s0, z2 j hj]
    · have hi' : i < done := by omega
      rw [l1 i hi'] at hj
      have := h.lt i hi'
      rw [slow i e _ (by omega), hM1, e1 i hi', h.zero i hi' j hj]
  · intro i hi m hm hne2
    by_cases e : i = done
    · subst e; rw [ld]; exact sc m hne2
    · have hi' : i < done := by omega
      rw [l1 i hi']
      have hl := h.lt i hi'
      by_cases em : m = done
      · subst em; rw [s0, z2 _ hl]
      · rw [slow m em _ hl, hM1]
        by_cases hmd : m < done
        · rw [e1 m hmd]; exact h.alone i hi' m hm hne2
        · exact z1 m (by omega) hm _ hl
  · intro i j hij hj
    by_cases e : j = done
    · subst e; rw [ld, l1 i hij]; exact h.lt i hij
    · rw [l1 i (by omega), l1 j (by omega)]; exact h.up i j hij (by omega)
  · intro i h1 h2 j hj
    have hid : i ≠ done := by omega
    by_cases e : j = c
    · rw [e]; exact sc i hid
    · rw [slow i hid j (by omega), hM1]; exact z1 i (by omega) h2 j (by omega)
theorem by_step {M : Nat → Nat → Nat} (h : ByM M) (done k c : Nat) : ByM (stepR M done k c) := by_add (by_scale (by_swap h _ _) _ _) _ _
theorem ker_step {M : Nat → Nat → Nat} {n c done k d : Nat} {v : Nat → Nat} (hM : ByM M) (hv : By v) (hd : done < n) (hkn : k < n) (hne : M k c ≠ 0) : Ker (stepR M done k c) n d v ↔ Ker M n d v := by
  have b1 := by_swap hM done k
  have e1d : swapR M done k done = M k := by unfold swapR; rw [if_pos rfl]
  have hp : swapR M done k done c ≠ 0 := by rw [e1d]; exact hne
  have hi0 : Gf.inv (swapR M done k done c) ≠ 0 := fun e => by
    have := Gf.mul_inv (b1 done c) hp
    rw [e, Gf.mul_zero] at this
    exact absurd this (by decide)
  have b2 := by_scale b1 done (Gf.inv (swapR M done k done c))
  exact (ker_add b2 hv (fun i => b2 i c) hd).trans ((ker_scale b1 hv (Gf.inv_lt (b1 done c)) hi0 hd).trans (ker_swap hd hkn))

/-! ### echelon forms: the kernel tells the leads -/
structure Ech (M : Nat → Nat → Nat) (n c : Nat) (L : Nat → Nat) : Prop where
  lt : ∀ i, i < n → L i < c
  ne : ∀ i, i < n → M i (L i) ≠ 0
  zero : ∀ i, i < n → ∀ j, j < L i → M i j = 0
  inj : ∀ i j, i < n → j < n → L i = L j → i = j
theorem Ech.no {M : Nat → Nat → Nat} {n c : Nat} {L v : Nat → Nat} (h : Ech M n c L) (hM : ByM M) (hv : By v) (hk : Ker M n c v) {i : Nat} (hi : i < n) (hz : ∀ j, L i < j → v j = 0) : v (L i) = 0 := by
  have hd := hk i hi
  rw [dot_one (h.lt i hi) (fun j _ hne => by
    rcases Nat.lt_or_gt_of_ne hne with hlt | hgt
    · rw [h.zero i hi j hlt, Gf.zero_mul]
    · rw [hz j hgt, Gf.mul_zero])] at hd
  exact (Gf.mul_eq_zero (hM i _) (hv _) hd).resolve_left (h.ne i hi)
theorem by_upd {v : Nat → Nat} (h : By v) (e : Nat) {x : Nat} (hx : x < 256) : By (upd v e x) := fun j => by unfold upd; split; exact hx; exact h j
theorem Ech.yesN {M : Nat → Nat → Nat} {n c : Nat} {L : Nat → Nat} (h : Ech M n c L) (hM : ByM M) {d : Nat} (hd : d < c) (hfree : ∀ i, i < n → L i ≠ d) :
    ∀ t, t ≤ d → ∃ v, By v ∧ v d = 1 ∧ (∀ j, d < j → v j = 0) ∧ (∀ j, j < d - t → v j = 0) ∧ ∀ i, i < n → d - t ≤ L i → dot (M i) v c = 0
  | 0, _ => by
    refine ⟨fun j => if j = d then 1 else 0, fun j => by dsimp only; split <;> decide, if_pos rfl, fun j hj => if_neg (by omega), fun j hj => if_neg (by omega), fun i hi hl => ?_⟩
    have hgt : d < L i := by have := hfree i hi; omega
    rw [dot_one hd (fun j _ hne => by rw [if_neg hne, Gf.mul_zero]), h.zero i hi d hgt, Gf.zero_mul]
  | t + 1, ht => by
    obtain ⟨v, hv, h1, h2, h3, h4⟩ := h.yesN hM hd hfree t (by omega)
    by_cases hl : ∃ i, i < n ∧ L i = d - (t + 1)
    · obtain ⟨i, hi, hLi⟩ := hl
      have he : d - (t + 1) < c := by omega
      have h0 : v (d - (t + 1)) = 0 := h3 _ (by omega)
      have hx := Gf.mul_lt (Gf.inv (M i (d - (t + 1)))) (dot_lt (v := v) (hM i) c)
      refine ⟨upd v (d - (t + 1)) (Gf.mul (dot (M i) v c) (Gf.inv (M i (d - (t + 1))))), by_upd hv _ hx, ?_, ?_, ?_, ?_⟩
      · unfold upd; rw [if_neg (by omega)]; exact h1
      · intro j hj; unfold upd; rw [if_neg (by omega)]; exact h2 j hj
      · intro j hj; unfold upd; rw [if_neg (by omega)]; exact h3 j (by omega)
      · intro k hk hkl
        by_cases hki : k = i
        · subst hki
          have hm := hM k (d - (t + 1))
          have hne := h.ne k hi
          rw [hLi] at hne
          rw [dot_upd h0 he, Gf.mul_comm (dot_lt (hM k) c) (Gf.inv_lt hm), ← Gf.mul_assoc _ hm (Gf.inv_lt hm) (dot_lt (hM k) c), Gf.mul_inv hm hne, Gf.one_mul (dot_lt (hM k) c), Nat.xor_self]
        · have hLk : L k ≠ d - (t + 1) := fun e => hki (h.inj k i hk hi (e.trans hLi.symm))
          have hgt : d - (t + 1) < L k := by omega
          rw [dot_upd_out (h.zero k hk _ hgt) h0 he]
          exact h4 k hk (by omega)
    · refine ⟨v, hv, h1, h2, fun j hj => h3 j (by omega), fun k hk hkl => ?_⟩
      have : L k ≠ d - (t + 1) := fun e => hl ⟨k, hk, e⟩
      exact h4 k hk (by omega)
theorem Ech.yes {M : Nat → Nat → Nat} {n c : Nat} {L : Nat → Nat} (h : Ech M n c L) (hM : ByM M) {d : Nat} (hd : d < c) (hfree : ∀ i, i < n → L i ≠ d) : ∃ v, By v ∧ v d = 1 ∧ (∀ j, d < j → v j = 0) ∧ Ker M n c v := by
  obtain ⟨v, hv, h1, h2, _, h4⟩ := h.yesN hM hd hfree d (Nat.le_refl _)
  exact ⟨v, hv, h1, h2, fun i hi => h4 i hi (by omega)⟩
theorem nodup_length : ∀ {l l' : List Nat}, l.Nodup → (∀ x ∈ l, x ∈ l') → l.length ≤ l'.length
  | [], _, _, _ => Nat.zero_le _
  | a :: t, l', hn, hs => by
    have ha := hs a (List.mem_cons_self ..)
    obtain ⟨hat, ht⟩ := List.nodup_cons.1 hn
    have := nodup_length (l' := l'.erase a) ht (fun x hx => (List.mem_erase_of_ne (fun e => hat (by rw [← e]; exact hx))).2 (hs x (List.mem_cons_of_mem _ hx)))
    rw [List.length_erase_of_mem ha] at this
    have := List.length_pos_of_mem ha
    simp only [List.length_cons]
    omega
theorem Ech.le {M M' : Nat → Nat → Nat} {n n' c : Nat} {L L' : Nat → Nat} (h : Ech M n c L) (h' : Ech M' n' c L') (hM : ByM M) (hM' : ByM M') (hk : ∀ v, By v → Ker M' n' c v → Ker M n c v) : n ≤ n' := by
  have hs : ∀ i, i < n → ∃ i', i' < n' ∧ L' i' = L i := fun i hi => by
    by_cases hx : ∃ i', i' < n' ∧ L' i' = L i
    · exact hx
    · exfalso
      obtain ⟨v, hv, h1, h2, h3⟩ := h'.yes hM' (h.lt i hi) (fun j hj e => hx ⟨j, hj, e⟩)
      have := h.no hM hv (hk v hv h3) hi h2
      rw [this] at h1
      exact absurd h1 (by decide)
  have hn : ((List.range n).map L).Nodup := by
    rw [List.nodup_iff_pairwise_ne, List.pairwise_map]
    refine List.Pairwise.imp_of_mem ?_ List.nodup_range
    intro a b ha hb hne e
    exact hne (h.inj a b (List.mem_range.1 ha) (List.mem_range.1 hb) e)
  have := nodup_length (l' := (List.range n').map L') hn (fun x hx => by
    obtain ⟨i, hi, rfl⟩ := List.mem_map.1 hx
    obtain ⟨i', hi', e⟩ := hs i (List.mem_range.1 hi)
    exact List.mem_map.2 ⟨i', List.mem_range.2 hi', e⟩)
  simpa using this
theorem Ech.same {M M' : Nat → Nat → Nat} {n n' c : Nat} {L L' : Nat → Nat} (h : Ech M n c L) (h' : Ech M' n' c L') (hM : ByM M) (hM' : ByM M') (hk : ∀ v, By v → (Ker M n c v ↔ Ker M' n' c v)) : n = n' :=
  Nat.le_antisymm (h.le h' hM hM' fun v hv => (hk v hv).2) (h'.le h hM' hM fun v hv => (hk v hv).1)
theorem RR.ech {M : Nat → Nat → Nat} {n c done : Nat} {L : Nat → Nat} (h : RR M n c done L) : Ech M done c L :=
  ⟨h.lt, fun i hi => by rw [h.one i hi]; decide, h.zero, fun i j hi hj e => by
    rcases Nat.lt_trichotomy i j with hlt | he | hgt
    · have := h.up i j hlt hj; omega
    · exact he
    · have := h.up j i hgt hi; omega⟩
theorem RR.ker {M : Nat → Nat → Nat} {n c done : Nat} {L v : Nat → Nat} (h : RR M n c done L) : Ker M done c v ↔ Ker M n c v := by
  constructor
  · intro hk i hi
    by_cases hd : i < done
    · exact hk i hd
    · rw [dot_congr (r' := fun _ => 0) (v' := v) (fun j hj => h.rest i (by omega) hi j hj) (fun _ _ => rfl), dot_zeroL]
  · exact fun hk i hi => hk i (Nat.lt_of_lt_of_le hi h.le)
end Mx
end Go.Proofs.YtabboioamdphmaaGreatDoor
/- Plain laws of matrices: the inverse by Gauss and Jordan, products, Vandermonde. -/
namespace Go.Proofs.YtabboioamdphmaaGreatDoor
namespace Mx

theorem dot_split (r u : Nat → Nat) (n : Nat) : ∀ k, dot r u (n + k) = dot r u n ^^^ dot (fun j => r (n + j)) (fun j => u (n + j)) k
  | 0 => by show _ = _ ^^^ 0; rw [Nat.xor_zero]; rfl
  | k + 1 => by
    show dot r u (n + k) ^^^ _ = _ ^^^ (dot _ _ k ^^^ _)
    rw [dot_split r u n k]; ac_rfl
def unit (j : Nat) : Nat → Nat := fun i => if i = j then 1 else 0
theorem by_unit (j : Nat) : By (unit j) := fun i => by unfold unit; split <;> decide
theorem dot_unit {r : Nat → Nat} (hr : By r) {j c : Nat} (h : j < c) : dot r (unit j) c = r j := by
  rw [dot_one h (fun i _ hne => by unfold unit; rw [if_neg hne, Gf.mul_zero])]
  unfold unit
  rw [if_pos rfl, Gf.mul_one _ (hr j)]
theorem dot_unitL {v : Nat → Nat} (hv : By v) {j c : Nat} (h : j < c) : dot (unit j) v c = v j := by
  rw [dot_one h (fun i _ hne => by unfold unit; rw [if_neg hne, Gf.zero_mul])]
  unfold unit
  rw [if_pos rfl, Gf.one_mul (hv j)]
def mulM (A B : Nat → Nat → Nat) (k : Nat) : Nat → Nat → Nat := fun i j => dot (A i) (fun l => B l j) k
def wide (m : Nat → Nat → Nat) (n : Nat) : Nat → Nat → Nat := fun i j => if j < n then m i j else if j = n + i then 1 else 0
theorem by_wide {m : Nat → Nat → Nat} (h : ByM m) (n : Nat) : ByM (wide m n) := fun i j => by
  unfold wide; split
  · exact h i j
  · split <;> decide
theorem RR.leads {M : Nat → Nat → Nat} {n : Nat} {L : Nat → Nat} (h : RR M n n n L) : ∀ i, i < n → L i = i := by
  have up : ∀ i, i < n → i ≤ L i := by
    intro i
    induction i with
    | zero => intro _; exact Nat.zero_le _
    | succ i ih => intro hi; have := ih (by omega); have := h.up i (i + 1) (by omega) hi; omega
  have down : ∀ k i, i + k + 1 = n → L i ≤ i := by
    intro k
    induction k with
    | zero => intro i hi; have := h.lt i (by omega); omega
    | succ k ih => intro i hi; have := ih (i + 1) (by omega); have := h.up i (i + 1) (by omega) (by omega); omega
  intro i hi
  have := up i hi
  have := down (n - i - 1) i (by omega)
  omega
def join (v w : Nat → Nat) (n : Nat) : Nat → Nat := fun j => if j < n then v j else w (j - n)
theorem by_join {v w : Nat → Nat} (hv : By v) (hw : By w) (n : Nat) : By (join v w n) := fun j => by unfold join; split; exact hv j; exact hw _
theorem dot_wide {m : Nat → Nat → Nat} {v w : Nat → Nat} (hw : By w) {n i : Nat} (hi : i < n) : dot (wide m n i) (join v w n) (n + n) = dot (m i) v n ^^^ w i := by
  rw [dot_split]
  congr 1
  · exact dot_congr (fun j hj => by unfold wide; rw [if_pos hj]) (fun j hj => by unfold join; rw [if_pos hj])
  · rw [← dot_unitL hw hi]
    exact dot_congr (fun j hj => by
      unfold wide unit
      rw [if_neg (by omega)]
      by_cases e : j = i
      · rw [if_pos (by omega), if_pos e]
      · rw [if_neg (by omega), if_neg e]) (fun j hj => by
      unfold join
      rw [if_neg (by omega), Nat.add_sub_cancel_left])
def right (M : Nat → Nat → Nat) (n : Nat) : Nat → Nat → Nat := fun i j => M i (n + j)
theorem by_right {M : Nat → Nat → Nat} (h : ByM M) (n : Nat) : ByM (right M n) := fun i j => h i (n + j)
theorem dot_right {M : Nat → Nat → Nat} {n : Nat} {L : Nat → Nat} {v w : Nat → Nat} (h : RR M n n n L) (hv : By v) {i : Nat} (hi : i < n) : dot (M i) (join v w n) (n + n) = v i ^^^ dot (right M n i) w n := by
  rw [dot_split]
  congr 1
  · rw [← dot_unitL hv hi]
    exact dot_congr (fun j hj => by
      unfold unit
      by_cases e : j = i
      · rw [if_pos e, e]
        have := h.one i hi
        rwa [h.leads i hi] at this
      · rw [if_neg e]
        have := h.alone j hj i hi (Ne.symm e)
        rwa [h.leads j hj] at this) (fun j hj => by unfold join; rw [if_pos hj])
  · exact dot_congr (fun _ _ => rfl) (fun j hj => by unfold join; rw [if_neg (by omega), Nat.add_sub_cancel_left])
theorem xor_zero_iff {a b : Nat} : a ^^^ b = 0 ↔ a = b := ⟨Gf.xor_eq_zero, fun e => by rw [e, Nat.xor_self]⟩
theorem inverse {m M : Nat → Nat → Nat} {n : Nat} {L : Nat → Nat} (h : RR M n n n L) (hk : ∀ v, By v → (Ker M n (n + n) v ↔ Ker (wide m n) n (n + n) v)) {v w : Nat → Nat} (hv : By v) (hw : By w) :
    (∀ i, i < n → v i = dot (right M n i) w n) ↔ (∀ i, i < n → dot (m i) v n = w i) := by
  have hh := hk (join v w n) (by_join hv hw n)
  constructor
  · intro h1 i hi
    have := hh.1 (fun i hi => by rw [dot_right h hv hi]; exact xor_zero_iff.2 (h1 i hi)) i hi
    rw [dot_wide hw hi] at this
    exact xor_zero_iff.1 this
  · intro h1 i hi
    have := hh.2 (fun i hi => by rw [dot_wide hw hi]; exact xor_zero_iff.2 (h1 i hi)) i hi
    rw [dot_right h hv hi] at this
    exact xor_zero_iff.1 this
structure Inv (m x : Nat → Nat → Nat) (n : Nat) : Prop where
  by_ : ByM x
  right : ∀ i j, i < n → j < n → mulM m x n i j = if i = j then 1 else 0
  left : ∀ i j, i < n → j < n → mulM x m n i j = if i = j then 1 else 0
theorem inverse_of {m M : Nat → Nat → Nat} {n : Nat} {L : Nat → Nat} (hm : ByM m) (hM : ByM M) (h : RR M n n n L) (hk : ∀ v, By v → (Ker M n (n + n) v ↔ Ker (wide m n) n (n + n) v)) : Inv m (Mx.right M n) n := by
  refine ⟨by_right hM n, fun i j hi hj => ?_, fun i j hi hj => ?_⟩
  · have := (inverse h hk (v := fun l => Mx.right M n l j) (w := unit j) (fun l => by_right hM n l j) (by_unit j)).1 (fun i hi => by rw [dot_unit (by_right hM n i) hj]) i hi
    exact this
  · have := (inverse h hk (v := unit j) (w := fun l => m l j) (by_unit j) (fun l => hm l j)).2 (fun i hi => by rw [dot_unit (hm i) hj]) i hi
    exact this.symm
theorem Inv.symm {m x : Nat → Nat → Nat} {n : Nat} (h : Inv m x n) (hm : ByM m) : Inv x m n := ⟨hm, h.left, h.right⟩

/-! ### Vandermonde -/
theorem horner_dot {v : Nat → Nat} {x : Nat} (hv : By v) (hx : x < 256) : ∀ k, dot (fun l => Gf.pow x l) v k = Gf.horner x ((List.range k).map v)
  | 0 => rfl
  | k + 1 => by
    have split : ∀ (k : Nat) (v : Nat → Nat), By v → dot (fun l => Gf.pow x l) v (k + 1) = v 0 ^^^ Gf.mul (dot (fun l => Gf.pow x l) (fun l => v (l + 1)) k) x := by
      intro k
      induction k with
      | zero =>
        intro v hv
        show 0 ^^^ Gf.mul 1 (v 0) = v 0 ^^^ Gf.mul 0 x
        rw [Gf.one_mul (hv 0), Gf.zero_mul, Nat.zero_xor, Nat.xor_zero]
      | succ k ih =>
        intro v hv
        show dot _ v (k + 1) ^^^ Gf.mul (Gf.pow x (k + 1)) (v (k + 1)) = v 0 ^^^ Gf.mul (dot _ _ k ^^^ Gf.mul (Gf.pow x k) (v (k + 1))) x
        rw [ih v hv, Gf.mul_xor_left _ (dot_lt (fun l => Gf.pow_lt hx l) k) (Gf.mul_lt _ (Gf.pow_lt hx k))]
        have e : Gf.mul (Gf.pow x (k + 1)) (v (k + 1)) = Gf.mul (Gf.mul (Gf.pow x k) (v (k + 1))) x := by
          have e1 : Gf.pow x (k + 1) = Gf.mul (Gf.pow x k) x := by
            have := Gf.pow_add hx k 1
            rw [this]
            congr 1
            show Gf.mul _ _ = _
            first | exact Gf.mul_one _ hx | exact Gf.one_mul hx
          rw [e1, Gf.mul_assoc _ (Gf.pow_lt hx k) hx (hv _), Gf.mul_comm hx (hv _), ← Gf.mul_assoc _ (Gf.pow_lt hx k) (hv _) hx]
        rw [e]; ac_rfl
    rw [split k v hv, List.range_succ_eq_map, List.map_cons, List.map_map, horner_dot (fun l => hv (l + 1)) hx k]
    show _ = Gf.mul (Gf.horner x _) x ^^^ v 0
    exact Nat.xor_comm _ _
theorem coef_zero : ∀ (p : List Nat), Bytes p → p.length ≤ 200 → (∀ x, x < 256 → Gf.horner x p = 0) → ∀ c ∈ p, c = 0
  | [], _, _, _ => fun c hc => by cases hc
  | a :: r, hp, hl, h => by
    have hr : Bytes r := fun x hx => hp x (List.mem_cons_of_mem _ hx)
    have ha : a = 0 := by
      have : Gf.mul (Gf.horner 0 r) 0 ^^^ a = 0 := h 0 (by decide)
      rwa [Gf.mul_zero, Nat.zero_xor] at this
    have h1 : ∀ x, x < 256 → x ≠ 0 → Gf.horner x r = 0 := fun x hx h0 => by
      have : Gf.mul (Gf.horner x r) x ^^^ a = 0 := h x hx
      rw [ha, Nat.xor_zero] at this
      exact (Gf.mul_eq_zero (Gf.horner_lt hr x) hx this).resolve_right h0
    have hlr : r.length ≤ 199 := by simp only [List.length_cons] at hl; omega
    have h2 := Gf.Poly.roots (n := r.length) (f := fun x => Gf.horner x r) ⟨r, rfl, hr, fun _ _ => rfl⟩ ((List.range r.length).map (· + 1)) (by
      rw [List.nodup_iff_pairwise_ne, List.pairwise_map]
      exact List.Pairwise.imp (fun hne e => hne (by omega)) List.nodup_range) (by simp) (fun y hy => by
      obtain ⟨i, hi, rfl⟩ := List.mem_map.1 hy
      have := List.mem_range.1 hi
      exact ⟨by omega, h1 _ (by omega) (by omega)⟩)
    intro c hc
    rcases List.mem_cons.1 hc with rfl | hc
    · exact ha
    · exact coef_zero r hr (by omega) h2 c hc
theorem vander {xs : Nat → Nat} {k : Nat} (hk : k ≤ 200) (hx : ∀ i, i < k → xs i < 256) (hd : ∀ i j, i < k → j < k → xs i = xs j → i = j) {v : Nat → Nat} (hv : By v)
    (h : ∀ i, i < k → dot (fun l => Gf.pow (xs i) l) v k = 0) : ∀ j, j < k → v j = 0 := by
  have hp : Bytes ((List.range k).map v) := fun x hx => by
    obtain ⟨i, _, rfl⟩ := List.mem_map.1 hx
    exact hv i
  have h2 := Gf.Poly.roots (n := k) (f := fun x => Gf.horner x ((List.range k).map v)) ⟨_, by simp, hp, fun _ _ => rfl⟩ ((List.range k).map xs) (by
      rw [List.nodup_iff_pairwise_ne, List.pairwise_map]
      refine List.Pairwise.imp_of_mem ?_ List.nodup_range
      intro a b ha hb hne e
      exact hne (hd a b (List.mem_range.1 ha) (List.mem_range.1 hb) e)) (by simp) (fun y hy => by
      obtain ⟨i, hi, rfl⟩ := List.mem_map.1 hy
      have hi := List.mem_range.1 hi
      exact ⟨hx i hi, by rw [← horner_dot hv (hx i hi)]; exact h i hi⟩)
  intro j hj
  exact coef_zero _ hp (by simpa using hk) h2 (v j) (List.mem_map.2 ⟨j, List.mem_range.2 hj, rfl⟩)
theorem Ech.full {M : Nat → Nat → Nat} {n c : Nat} {L : Nat → Nat} (h : Ech M n c L) (hM : ByM M) (hk : ∀ v, By v → Ker M n c v → ∀ j, j < c → v j = 0) : n = c := by
  have hu : Ech (fun i => unit i) c c (fun i => i) := ⟨fun _ hi => hi, fun i _ => by unfold unit; rw [if_pos rfl]; decide, fun i _ j hj => by unfold unit; rw [if_neg (by omega)], fun _ _ _ _ e => e⟩
  refine h.same hu hM by_unit (fun v hv => ⟨fun hK i hi => ?_, fun hK i hi => ?_⟩)
  · rw [dot_unitL hv hi]; exact hk v hv hK i hi
  · have hz : ∀ j, j < c → v j = 0 := fun j hj => by
      have := hK j hj
      rwa [dot_unitL hv hj] at this
    rw [dot_congr (r' := M i) (v' := fun _ => 0) (fun _ _ => rfl) hz]
    have : ∀ c, dot (M i) (fun _ => 0) c = 0 := by
      intro c
      induction c with
      | zero => rfl
      | succ c ih => show dot _ _ c ^^^ Gf.mul _ 0 = 0; rw [ih, Gf.mul_zero]; rfl
    exact this c
end Mx
end Go.Proofs.YtabboioamdphmaaGreatDoor
