/- The walk of coder.Decode. -/
import Derived.Test.YtmaalkjimppnkaaDoorCodE
import Derived.Test.YtmaalkjimppnkaaDoorPick
namespace Go.Proofs.YtmaalkjimppnkaaDoor
open Go.RowKit

namespace Mx
theorem dot_zeroR (r : Nat → Nat) : ∀ c, dot r (fun _ => 0) c = 0
  | 0 => rfl
  | c + 1 => by show dot r _ c ^^^ Gf.mul _ 0 = 0; rw [dot_zeroR r c, Gf.mul_zero]; rfl
/-- rows that were picked turn nothing but 0 to 0. -/
theorem spr_ker {k : Nat} (hk : k ≤ 200) {xs : List Nat} (hl : xs.length = k) (hx : Bytes xs) (hu : Unlike xs) {v : Nat → Nat} (hv : By v) (h : Ker (fun i => spr k (xs[i]?.getD 0)) k k v) : ∀ j, j < k → v j = 0 := by
  intro j hj
  have h1 := back hk hl hx hu hv (show j < 256 by omega)
  rw [top_is hk hv hj] at h1
  rw [← h1, dot_congr (r' := fun i => bas xs i j) (v' := fun _ => 0) (fun _ _ => rfl) (fun i hi => h i hi), dot_zeroR]
end Mx
/-- the numbers of shards. -/
def numS (P : List Sh) : List Nat := P.map fun x => x.1.toNat
theorem numS_length (P : List Sh) : (numS P).length = P.length := by simp [numS]
/-- no two have one number. -/
def UnlikeS (P : List Sh) : Prop := P.Pairwise fun x y => x.1 ≠ y.1
theorem stepS_unlike {k : Nat} {out : List Sh} {s : Sh} (h : UnlikeS out) : UnlikeS (stepS k out s) := by
  unfold stepS
  split
  · rename_i h1
    have h2 := h1.2
    rw [List.any_eq_false] at h2
    unfold UnlikeS
    rw [List.pairwise_append]
    refine ⟨h, by simp, fun a ha b hb => ?_⟩
    rw [List.mem_singleton.1 hb]
    simpa using h2 a ha
  · exact h
theorem pickS_unlike (k : Nat) (l : List Sh) : UnlikeS (pickS k l) := by
  unfold pickS
  have : ∀ (l out : List Sh), UnlikeS out → UnlikeS (l.foldl (stepS k) out) := by
    intro l
    induction l with
    | nil => intro out h; exact h
    | cons s r ih => intro out h; exact ih _ (stepS_unlike h)
  exact this l [] List.Pairwise.nil
theorem pickS_sub (k : Nat) (l : List Sh) : ∀ s ∈ pickS k l, s ∈ l := by
  unfold pickS
  have : ∀ (l out : List Sh), ∀ s ∈ l.foldl (stepS k) out, s ∈ out ∨ s ∈ l := by
    intro l
    induction l with
    | nil => intro out s h; exact .inl h
    | cons x r ih =>
      intro out s h
      rcases ih _ s h with h1 | h1
      · unfold stepS at h1
        split at h1
        · rcases List.mem_append.1 h1 with h2 | h2
          · exact .inl h2
          · rw [List.mem_singleton.1 h2]; exact .inr (List.mem_cons_self)
        · exact .inl h1
      · exact .inr (List.mem_cons_of_mem _ h1)
  intro s hs
  rcases this l [] s hs with h | h
  · cases h
  · exact h
theorem numS_unlike {n W : Nat} {P : List Sh} (h : UnlikeS P) (hg : ∀ s ∈ P, GoodS n W s) : Unlike (numS P) := by
  apply unlike_of_nodup
  unfold numS
  rw [List.nodup_iff_pairwise_ne, List.pairwise_map]
  refine List.Pairwise.imp_of_mem ?_ h
  intro a b ha hb hne e
  have h1 := (hg a ha).1
  have h2 := (hg b hb).1
  exact hne (by omega)
theorem numS_lt {n W : Nat} {P : List Sh} (hg : ∀ s ∈ P, GoodS n W s) : ∀ x ∈ numS P, x < n := fun x hx => by
  obtain ⟨s, hs, rfl⟩ := List.mem_map.1 hx
  have h1 := (hg s hs).1
  have h2 := (hg s hs).2.1
  omega
theorem numS_at {P : List Sh} {i : Nat} (hi : i < P.length) : (numS P)[i]?.getD 0 = (P[i]?.getD (0, ⟨#[]⟩)).1.toNat := by simp [numS, hi]

/-- one answer of Decode's. -/
def decF (P : List Sh) (k W : Nat) (p : Nat) : Nat := Mx.dot (fun i => bas (numS P) i (p / W)) (fun i => sb (P[i]?.getD (0, ⟨#[]⟩)).2 (p % W)) k
theorem decF_lt (P : List Sh) (k W p : Nat) : decF P k W p < 256 := Mx.dot_lt (fun _ => Mx.bas_lt _ _ _) k
/-- a text out of a row. -/
def textOf (f : Nat → Nat) (n : Nat) : ByteArray := ⟨(rowText f n).toArray⟩
theorem textOf_size (f : Nat → Nat) (n : Nat) : (textOf f n).size = n := by
  show (rowText f n).toArray.size = n
  simp [rowText]
theorem sb_textOf {f : Nat → Nat} (hf : ∀ j, f j < 256) (n i : Nat) : sb (textOf f n) i = if i < n then f i else 0 := by
  by_cases h : i < n
  · rw [if_pos h]
    unfold sb textOf rowText
    simp [h]
    exact hf i
  · rw [if_neg h]
    exact sb_out _ _ (by rw [textOf_size]; omega)
/-- texts are told by their bytes. -/
theorem text_ext {s t : ByteArray} (hs : s.size = t.size) (h : ∀ i, i < s.size → sb s i = sb t i) : s = t := by
  have : s.data.toList = t.data.toList := by
    apply List.ext_getElem
    · simpa using hs
    · intro i h1 h2
      have := h i (by simpa using h1)
      unfold sb at this
      rw [List.getElem?_eq_getElem h1, List.getElem?_eq_getElem h2] at this
      exact UInt8.toNat_inj.1 this
  cases s; cases t
  congr 1
  exact Array.toList_inj.1 this
theorem join_nil_eq (L : List (List UInt8)) : Lib.join L [] = L.flatten := by
  unfold Lib.join
  induction L with
  | nil => rfl
  | cons x r ih =>
    cases r with
    | nil => simp [List.intercalate]
    | cons y r => simp [List.intercalate] at ih ⊢; exact ih
theorem flatten_at {W : Nat} : ∀ (L : List (List UInt8)), (∀ x ∈ L, x.length = W) → ∀ p, W ≠ 0 → L.flatten[p]? = (L[p / W]?).bind (fun x => x[p % W]?)
  | [], _, p, _ => by simp
  | x :: r, h, p, hW => by
    have hx := h x List.mem_cons_self
    rw [List.flatten_cons]
    by_cases hp : p < W
    · rw [List.getElem?_append_left (by omega), Nat.div_eq_of_lt hp, Nat.mod_eq_of_lt hp]; rfl
    · rw [List.getElem?_append_right (by omega), hx, flatten_at r (fun y hy => h y (List.mem_cons_of_mem _ hy)) (p - W) hW]
      have e1 : p / W = (p - W) / W + 1 := by
        have := Nat.sub_mul_div p W 1
        rw [Nat.mul_one] at this
        have h2 : 1 ≤ p / W := (Nat.one_le_div_iff (by omega)).2 (by omega)
        omega
      have e2 : (p - W) % W = p % W := by
        conv => rhs; rw [show p = (p - W) + W by omega, Nat.add_mod_right]
      rw [e1, e2]; rfl
/-- the joined texts, cut, are what was asked for. -/
theorem joined_dec {k W size : Nat} {P : List Sh} {X : Nat → Nat → Nat} (hX : Mx.ByM X) (hXe : ∀ j i, j < k → i < k → X j i = bas (numS P) i j) (hsz : size ≤ k * W) :
    (⟨(((List.range k).map fun j => (prodT X (fun i => (P[i]?.getD (0, ⟨#[]⟩)).2) k W j).data.toList).flatten).toArray⟩ : ByteArray).extract 0 size = textOf (decF P k W) size := by
  have hall : ∀ x ∈ (List.range k).map fun j => (prodT X (fun i => (P[i]?.getD (0, ⟨#[]⟩)).2) k W j).data.toList, x.length = W := fun x hx => by
    obtain ⟨j, _, rfl⟩ := List.mem_map.1 hx
    have := prodT_size X (fun i => (P[i]?.getD (0, ⟨#[]⟩)).2) k W j
    simpa using this
  have hlen : (((List.range k).map fun j => (prodT X (fun i => (P[i]?.getD (0, ⟨#[]⟩)).2) k W j).data.toList).flatten).length = k * W := by
    rw [List.length_flatten, List.map_map]
    have : (List.range k).map (List.length ∘ fun j => (prodT X (fun i => (P[i]?.getD (0, ⟨#[]⟩)).2) k W j).data.toList) = List.replicate k W := by
      rw [List.eq_replicate_iff]
      refine ⟨by simp, fun y hy => ?_⟩
      obtain ⟨j, hj, rfl⟩ := List.mem_map.1 hy
      exact hall _ (List.mem_map.2 ⟨j, hj, rfl⟩)
    rw [this]; simp
  have hs1 : (⟨(((List.range k).map fun j => (prodT X (fun i => (P[i]?.getD (0, ⟨#[]⟩)).2) k W j).data.toList).flatten).toArray⟩ : ByteArray).size = k * W := by
    show (((List.range k).map _).flatten).toArray.size = _
    rw [List.size_toArray]; exact hlen
  refine text_ext ?_ ?_
  · rw [ByteArray.size_extract, textOf_size, hs1]; omega
  · intro p hp
    rw [ByteArray.size_extract, hs1] at hp
    have hpl : p < size := by omega
    have hW : W ≠ 0 := fun e => by rw [e] at hsz; omega
    rw [sb_extract _ _ _ _ (by omega), Nat.zero_add, sb_textOf (decF_lt P k W), if_pos hpl]
    have hj : p / W < k := by
      rw [Nat.div_lt_iff_lt_mul (by omega)]; omega
    have hc : p % W < W := Nat.mod_lt _ (by omega)
    unfold sb
    show ((((List.range k).map fun j => (prodT X (fun i => (P[i]?.getD (0, ⟨#[]⟩)).2) k W j).data.toList).flatten)[p]?.getD 0).toNat = _
    rw [flatten_at _ hall p hW, List.getElem?_map, List.getElem?_range hj]
    show ((prodT X (fun i => (P[i]?.getD (0, ⟨#[]⟩)).2) k W (p / W)).data.toList[p % W]?.getD 0).toNat = _
    have := sb_prodT hX (fun i => (P[i]?.getD (0, ⟨#[]⟩)).2) k W (p / W) hc
    unfold sb at this
    rw [this]
    unfold prodN decF
    exact Mx.dot_congr (fun i hi => hXe _ i hj hi) (fun _ _ => rfl)
end Go.Proofs.YtmaalkjimppnkaaDoor
