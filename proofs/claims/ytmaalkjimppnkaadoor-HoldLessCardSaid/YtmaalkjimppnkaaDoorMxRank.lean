/- Plain laws: the document's rank (rows kept one by one), and Spread is Lagrange's. -/
import Derived.Test.YtmaalkjimppnkaaDoorMxInv
import Derived.Test.YtmaalkjimppnkaaDoorRefB
namespace Go.Proofs.YtmaalkjimppnkaaDoor
namespace Mx

/-- the rows kept of the first i: q of them, their leads L. -/
structure Kept (K M : Nat → Nat → Nat) (q i c : Nat) (L : Nat → Nat) : Prop where
  by_ : ByM K
  ech : Ech K q c L
  tri : ∀ k k', k < k' → k' < q → K k' (L k) = 0
  ker : ∀ v, By v → (Ker K q c v ↔ Ker M i c v)
/-- row i, the first k of the kept rows taken off. -/
structure Off (K M : Nat → Nat → Nat) (q i c : Nat) (L : Nat → Nat) (r : Nat → Nat) (k : Nat) : Prop where
  by_ : By r
  dot : ∀ v, By v → Ker K q c v → Mx.dot r v c = Mx.dot (M i) v c
  zero : ∀ k', k' < k → r (L k') = 0
theorem Kept.start {K : Nat → Nat → Nat} (hK : ByM K) (M : Nat → Nat → Nat) (c : Nat) (L : Nat → Nat) : Kept K M 0 0 c L :=
  ⟨hK, ⟨fun _ h => by omega, fun _ h => by omega, fun _ h => by omega, fun _ _ h => by omega⟩, fun _ _ _ h => by omega, fun v _ => ⟨fun _ i hi => by omega, fun _ i hi => by omega⟩⟩
theorem Off.start {K M : Nat → Nat → Nat} {q i c : Nat} {L : Nat → Nat} (hM : ByM M) : Off K M q i c L (M i) 0 := ⟨hM i, fun _ _ _ => rfl, fun _ h => by omega⟩
theorem Off.step {K M : Nat → Nat → Nat} {q i c : Nat} {L : Nat → Nat} {r : Nat → Nat} {k : Nat} (hk : Kept K M q i c L) (h : Off K M q i c L r k) (hkq : k < q) :
    Off K M q i c L (fun j => r j ^^^ Gf.mul (Gf.mul (r (L k)) (Gf.inv (K k (L k)))) (K k j)) (k + 1) := by
  have hx : Gf.mul (r (L k)) (Gf.inv (K k (L k))) < 256 := Gf.mul_lt _ (h.by_ _)
  have hne := hk.ech.ne k hkq
  have hxe : Gf.mul (Gf.mul (r (L k)) (Gf.inv (K k (L k)))) (K k (L k)) = r (L k) := by
    rw [Gf.mul_assoc _ (h.by_ _) (Gf.inv_lt (hk.by_ k _)) (hk.by_ k _), Gf.inv_mul (hk.by_ k _) hne, Gf.mul_one _ (h.by_ _)]
  generalize Gf.mul (r (L k)) (Gf.inv (K k (L k))) = x at hx hxe
  have hf : (fun j => r j ^^^ Gf.mul x (K k j)) = fun j => r j ^^^ Gf.mul (K k j) x := by funext j; rw [Gf.mul_comm hx (hk.by_ k j)]
  refine ⟨fun j => Gf.xor_lt (h.by_ j) (Gf.mul_lt _ hx), fun v hv hK => ?_, fun k' hk' => ?_⟩
  · rw [hf, dot_add h.by_ (hk.by_ k) hv hx, hK k hkq, Gf.zero_mul, Nat.xor_zero]
    exact h.dot v hv hK
  · show r (L k') ^^^ Gf.mul x (K k (L k')) = 0
    by_cases e : k' = k
    · rw [e, hxe, Nat.xor_self]
    · have hlt : k' < k := by omega
      rw [h.zero k' hlt, hk.tri k' k hlt hkq, Gf.mul_zero]; rfl
theorem ker_succ {M : Nat → Nat → Nat} {n c : Nat} {v : Nat → Nat} : Ker M (n + 1) c v ↔ Ker M n c v ∧ dot (M n) v c = 0 :=
  ⟨fun h => ⟨fun i hi => h i (by omega), h n (by omega)⟩, fun h i hi => by
    by_cases e : i = n
    · rw [e]; exact h.2
    · exact h.1 i (by omega)⟩
def putR (K : Nat → Nat → Nat) (q : Nat) (r : Nat → Nat) : Nat → Nat → Nat := fun i => if i = q then r else K i
theorem putR_old {K : Nat → Nat → Nat} {q : Nat} {r : Nat → Nat} {i : Nat} (h : i < q) : putR K q r i = K i := by unfold putR; rw [if_neg (by omega)]
theorem putR_new {K : Nat → Nat → Nat} {q : Nat} {r : Nat → Nat} : putR K q r q = r := by unfold putR; rw [if_pos rfl]
/-- the row is not 0: it is kept. -/
theorem Kept.keep {K M : Nat → Nat → Nat} {q i c l : Nat} {L : Nat → Nat} {r : Nat → Nat} (hk : Kept K M q i c L) (h : Off K M q i c L r q) (hl : l < c) (hne : r l ≠ 0) (hz : ∀ j, j < l → r j = 0) :
    Kept (putR K q r) M (q + 1) (i + 1) c (upd L q l) := by
  have l1 : ∀ k, k < q → upd L q l k = L k := fun k hkq => by unfold upd; rw [if_neg (by omega)]
  have lq : upd L q l q = l := by unfold upd; rw [if_pos rfl]
  have hd : ∀ k, k < q → L k ≠ l := fun k hkq e => hne (by rw [← e]; exact h.zero k hkq)
  refine ⟨fun a => ?_, ⟨?_, ?_, ?_, ?_⟩, ?_, ?_⟩
  · unfold putR; split
    · exact h.by_
    · exact hk.by_ a
  · intro k hkq
    by_cases e : k = q
    · rw [e, lq]; exact hl
    · rw [l1 k (by omega)]; exact hk.ech.lt k (by omega)
  · intro k hkq
    by_cases e : k = q
    · rw [e, lq, putR_new]; exact hne
    · rw [l1 k (by omega), putR_old (by omega)]; exact hk.ech.ne k (by omega)
  · intro k hkq j hj
    by_cases e : k = q
    · rw [e, lq] at hj; rw [e, putR_new]; exact hz j hj
    · rw [l1 k (by omega)] at hj; rw [putR_old (by omega)]; exact hk.ech.zero k (by omega) j hj
  · intro a b ha hb e
    by_cases ea : a = q
    · by_cases eb : b = q
      · omega
      · rw [ea, lq, l1 b (by omega)] at e; exact absurd e.symm (hd b (by omega))
    · by_cases eb : b = q
      · rw [eb, lq, l1 a (by omega)] at e; exact absurd e (hd a (by omega))
      · rw [l1 a (by omega), l1 b (by omega)] at e; exact hk.ech.inj a b (by omega) (by omega) e
  · intro a b hab hb
    rw [l1 a (by omega)]
    by_cases eb : b = q
    · rw [eb, putR_new]; exact h.zero a (by omega)
    · rw [putR_old (by omega)]; exact hk.tri a b hab (by omega)
  · intro v hv
    rw [ker_succ, ker_succ, putR_new]
    have e1 : Ker (putR K q r) q c v ↔ Ker K q c v := ⟨fun hK a ha => by have := hK a ha; rwa [putR_old ha] at this, fun hK a ha => by rw [putR_old ha]; exact hK a ha⟩
    rw [e1]
    constructor
    · intro ⟨h1, h2⟩
      exact ⟨(hk.ker v hv).1 h1, by rw [← h.dot v hv h1]; exact h2⟩
    · intro ⟨h1, h2⟩
      have h1' := (hk.ker v hv).2 h1
      exact ⟨h1', by rw [h.dot v hv h1']; exact h2⟩
/-- the row is 0: it is left out. -/
theorem Kept.drop {K M : Nat → Nat → Nat} {q i c : Nat} {L : Nat → Nat} {r : Nat → Nat} (hk : Kept K M q i c L) (h : Off K M q i c L r q) (hz : ∀ j, j < c → r j = 0) : Kept K M q (i + 1) c L :=
  ⟨hk.by_, hk.ech, hk.tri, fun v hv => by
    rw [ker_succ]
    constructor
    · intro h1
      refine ⟨(hk.ker v hv).1 h1, ?_⟩
      rw [← h.dot v hv h1, dot_congr (r' := fun _ => 0) (v' := v) hz (fun _ _ => rfl), dot_zeroL]
    · exact fun h1 => (hk.ker v hv).2 h1.1⟩
/-- Gauss and Jordan tell the document's rank. -/
theorem rank_same {K M G : Nat → Nat → Nat} {q n c done : Nat} {L L' : Nat → Nat} (hk : Kept K M q n c L) (hG : ByM G) (h : RR G n c done L') (hker : ∀ v, By v → (Ker G n c v ↔ Ker M n c v)) : done = q :=
  h.ech.same hk.ech hG hk.by_ (fun v hv => h.ker.trans ((hker v hv).trans (hk.ker v hv).symm))

/-! ### Spread -/
theorem bas_lt (xs : List Nat) (i x : Nat) : bas xs i x < 256 := basN_lt _ _ _ _ _
theorem range_at {k i : Nat} (h : i < k) : (List.range k)[i]?.getD 0 = i := by simp [h]
theorem range_bytes {k : Nat} (hk : k ≤ 256) : Bytes (List.range k) := fun x hx => by have := List.mem_range.1 hx; omega
theorem range_unlike (k : Nat) : Unlike (List.range k) := fun i j hi hj hne => by
  simp only [List.length_range] at hi hj
  rw [range_at hi, range_at hj]; exact hne
/-- powers: row i has those of element i. -/
def vanderM : Nat → Nat → Nat := fun i l => Gf.pow (i % 256) l
theorem by_vander : ByM vanderM := fun i l => Gf.pow_lt (Nat.mod_lt _ (by decide)) l
theorem spread_is {x : Nat → Nat → Nat} {k : Nat} (hk : k ≤ 200) (h : Inv vanderM x k) {i j : Nat} (hi : i < 256) (hj : j < k) : mulM vanderM x k i j = bas (List.range k) j i := by
  have hx := range_bytes (k := k) (by omega)
  have hu := range_unlike k
  obtain ⟨ys, hys⟩ : ∃ ys, ys = (List.range k).map (unit j) := ⟨_, rfl⟩
  have hb : Bytes ys := fun y hy => by
    rw [hys] at hy
    obtain ⟨a, _, rfl⟩ := List.mem_map.1 hy
    exact by_unit j a
  have hya : ∀ a, a < k → ys[a]?.getD 0 = unit j a := fun a ha => by rw [hys]; simp [ha]
  have hlen : (List.range k).length = k := List.length_range
  have e1 : ∀ z, z < 256 → lagT (List.range k) ys z j = bas (List.range k) j z := fun z hz => by
    rw [lagT_bas hx hb hu hz (by rw [hlen]; exact hj), hya j hj]
    unfold unit; rw [if_pos rfl, Gf.one_mul (bas_lt _ j z)]
  rw [← e1 i hi]
  have hcol : By (fun l => x l j) := fun l => h.by_ l j
  have e : (fun z => dot (fun l => Gf.pow z l) (fun l => x l j) k) i = (fun z => lagT (List.range k) ys z j) i := by
    refine poly_ext (xs := List.range k) (f := fun z => dot (fun l => Gf.pow z l) (fun l => x l j) k) (g := fun z => lagT (List.range k) ys z j) hx hu ?_ ?_ ?_ hi
    · refine ⟨(List.range k).map (fun l => x l j), by simp, fun y hy => ?_, fun z hz => horner_dot hcol hz k⟩
      obtain ⟨a, _, rfl⟩ := List.mem_map.1 hy
      exact hcol a
    · exact lagT_poly hx hb (by rw [hlen]; exact hj)
    · intro a ha
      rw [hlen] at ha
      have h1 := h.right a j ha hj
      rw [lagT_at hx hb hu (by rw [hlen]; exact hj) (by rw [hlen]; exact ha), hya a ha, range_at ha]
      have e2 : dot (fun l => Gf.pow a l) (fun l => x l j) k = mulM vanderM x k a j := by
        unfold mulM vanderM; rw [Nat.mod_eq_of_lt (show a < 256 by omega)]
      rw [e2, h1]
      unfold unit
      by_cases e : a = j
      · rw [if_pos e, if_pos e.symm]
      · rw [if_neg e, if_neg (Ne.symm e)]
  have e2 : mulM vanderM x k i j = dot (fun l => Gf.pow i l) (fun l => x l j) k := by
    unfold mulM vanderM; rw [Nat.mod_eq_of_lt hi]
  rw [e2]; exact e
/-- any k rows of the spread turn nothing but 0 to 0. -/
theorem spread_any {x : Nat → Nat → Nat} {k : Nat} (hk : k ≤ 200) (h : Inv vanderM x k) {pick : Nat → Nat} (hp : ∀ i, i < k → pick i < 256) (hd : ∀ i j, i < k → j < k → pick i = pick j → i = j)
    {v : Nat → Nat} (hv : By v) (h0 : Ker (fun i => mulM vanderM x k (pick i)) k k v) : ∀ j, j < k → v j = 0 := by
  have hu : By (fun l => dot (x l) v k) := fun l => dot_lt (h.by_ l) k
  have hz := vander hk hp hd hu (fun i hi => by
    have := h0 i hi
    show dot (fun l => Gf.pow (pick i) l) (fun l => dot (x l) v k) k = 0
    have e : (fun l => Gf.pow (pick i) l) = vanderM (pick i) := by unfold vanderM; rw [Nat.mod_eq_of_lt (hp i hi)]
    rw [e, ← dot_mul (by_vander _) h.by_ hv]
    exact this)
  intro j hj
  rw [← h.app by_vander hv hj, dot_congr (r' := vanderM j) (v' := fun _ => 0) (fun _ _ => rfl) hz]
  have : ∀ c, dot (vanderM j) (fun _ => 0) c = 0 := by
    intro c
    induction c with
    | zero => rfl
    | succ c ih => show dot _ _ c ^^^ Gf.mul _ 0 = 0; rw [ih, Gf.mul_zero]; rfl
  exact this k
end Mx
end Go.Proofs.YtmaalkjimppnkaaDoor
