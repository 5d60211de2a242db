/- The walk of coder.Decode. -/
import Derived.Test.YtabboioamdphmaaGreatDoorKAskHears13
import GoSem.Op.String
namespace Go.Proofs.YtabboioamdphmaaGreatDoor
open Go.RowKit

namespace Mx
theorem dot_zeroR (r : Nat → Nat) : ∀ c, dot r (fun _ => 0) c = 0
  | 0 => rfl
  | c + 1 => by show dot r _ c ^^^ Gf.mul _ 0 = 0; rw [dot_zeroR r c, Gf.mul_zero]; rfl
/-- rows that were picked turn nothing but 0 to 0. -/
theorem spr_ker {k : Nat} (hk : k ≤ 200) {xs : List Nat} (hl : xs.length = k) (hx : Bytes xs) (hu : Unlike xs) {v : Nat → Nat} (hv : By v) (h : Ker (fun i => spr k (xs[i]?.getD 0)) k k v) : ∀ j, j < k → v j = 0 := by
  intro j hj
  have h1 := back hk hl hx hu hv (show j < 256 by omega)
  rw [top_is hk hv hj] at h1
  rw [← h1, dot_congr (r' := fun i => bas xs i j) (v' := fun _ => 0) (fun _ _ => rfl) (fun i hi => h i hi), dot_zeroR]
end Mx
/-- the numbers of shards. -/
def numS (P : List Sh) : List Nat := P.map fun x => x.1.toNat
theorem numS_length (P : List Sh) : (numS P).length = P.length := by simp [numS]
/-- no two have one number. -/
def UnlikeS (P : List Sh) : Prop := P.Pairwise fun x y => x.1 ≠ y.1
theorem stepS_unlike {k : Nat} {out : List Sh} {s : Sh} (h : UnlikeS out) : UnlikeS (stepS k out s) := by
  unfold stepS
  split
  · rename_i h1
    have h2 := h1.2
    rw [List.any_eq_false] at h2
    unfold UnlikeS
    rw [List.pairwise_append]
    refine ⟨h, by simp, fun a ha b hb => ?_⟩
    rw [List.mem_singleton.1 hb]
    simpa using h2 a ha
  · exact h
theorem pickS_unlike (k : Nat) (l : List Sh) : UnlikeS (pickS k l) := by
  unfold pickS
  have : ∀ (l out : List Sh), UnlikeS out → UnlikeS (l.foldl (stepS k) out) := by
    intro l
    induction l with
    | nil => intro out h; exact h
    | cons s r ih => intro out h; exact ih _ (stepS_unlike h)
  exact this l [] List.Pairwise.nil
theorem pickS_sub (k : Nat) (l : List Sh) : ∀ s ∈ pickS k l, s ∈ l := by
  unfold pickS
  have : ∀ (l out : List Sh), ∀ s ∈ l.foldl (stepS k) out, s ∈ out ∨ s ∈ l := by
    intro l
    induction l with
    | nil => intro out s h; exact .inl h
    | cons x r ih =>
      intro out s h
      rcases ih _ s h with h1 | h1
      · unfold stepS at h1
        split at h1
        · rcases List.mem_append.1 h1 with h2 | h2
          · exact .inl h2
          · rw [List.mem_singleton.1 h2]; exact .inr (List.mem_cons_self)
        · exact .inl h1
      · exact .inr (List.mem_cons_of_mem _ h1)
  intro s hs
  rcases this l [] s hs with h | h
  · cases h
  · exact h
theorem numS_unlike {n W : Nat} {P : List Sh} (h : UnlikeS P) (hg : ∀ s ∈ P, GoodS n W s) : Unlike (numS P) := by
  apply unlike_of_nodup
  unfold numS
  rw [List.nodup_iff_pairwise_ne, List.pairwise_map]
  refine List.Pairwise.imp_of_mem ?_ h
  intro a b ha hb hne e
  have h1 := (hg a ha).1
  have h2 := (hg b hb).1
  exact hne (by omega)
theorem numS_lt {n W : Nat} {P : List Sh} (hg : ∀ s ∈ P, GoodS n W s) : ∀ x ∈ numS P, x < n := fun x hx => by
  obtain ⟨s, hs, rfl⟩ := List.mem_map.1 hx
  have h1 := (hg s hs).1
  have h2 := (hg s hs).2.1
  omega
theorem numS_at {P : List Sh} {i : Nat} (hi : i < P.length) : (numS P)[i]?.getD 0 = (P[i]?.getD (0, ⟨#[]⟩)).1.toNat := by simp [numS, hi]

/-- one answer of Decode's. -/
def decF (P : List Sh) (k W : Nat) (p : Nat) : Nat := Mx.dot (fun i => bas (numS P) i (p / W)) (fun i => sb (P[i]?.getD (0, ⟨#[]⟩)).2 (p % W)) k
theorem decF_lt (P : List Sh) (k W p : Nat) : decF P k W p < 256 := Mx.dot_lt (fun _ => Mx.bas_lt _ _ _) k
/-- a text out of a row. -/
def textOf (f : Nat → Nat) (n : Nat) : ByteArray := ⟨(rowText f n).toArray⟩
theorem textOf_size (f : Nat → Nat) (n : Nat) : (textOf f n).size = n := by
  show (rowText f n).toArray.size = n
  simp [rowText]
theorem sb_textOf {f : Nat → Nat} (hf : ∀ j, f j < 256) (n i : Nat) : sb (textOf f n) i = if i < n then f i else 0 := by
  by_cases h : i < n
  · rw [if_pos h]
    unfold sb textOf rowText
    simp [h]
    exact hf i
  · rw [if_neg h]
    exact sb_out _ _ (by rw [textOf_size]; omega)
/-- texts are told by their bytes. -/
theorem text_ext {s t : ByteArray} (hs : s.size = t.size) (h : ∀ i, i < s.size → sb s i = sb t i) : s = t := by
  have : s.data.toList = t.data.toList := by
    apply List.ext_getElem
    · simpa using hs
    · intro i h1 h2
      have := h i (by simpa using h1)
      unfold sb at this
      rw [List.getElem?_eq_getElem h1, List.getElem?_eq_getElem h2] at this
      exact UInt8.toNat_inj.1 this
  cases s; cases t
  congr 1
  exact Array.toList_inj.1 this
theorem join_nil_eq (L : List (List UInt8)) : Lib.join L [] = L.flatten := by
  unfold Lib.join
  induction L with
  | nil => rfl
  | cons x r ih =>
    cases r with
    | nil => simp [List.intercalate]
    | cons y r => simp [List.intercalate] at ih ⊢; exact ih
theorem flatten_at {W : Nat} : ∀ (L : List (List UInt8)), (∀ x ∈ L, x.length = W) → ∀ p, W ≠ 0 → L.flatten[p]? = (L[p / W]?).bind (fun x => x[p % W]?)
  | [], _, p, _ => by simp
  | x :: r, h, p, hW => by
    have hx := h x List.mem_cons_self
    rw [List.flatten_cons]
    by_cases hp : p < W
    · rw [List.getElem?_append_left (by omega), Nat.div_eq_of_lt hp, Nat.mod_eq_of_lt hp]; rfl
    · rw [List.getElem?_append_right (by omega), hx, flatten_at r (fun y hy => h y (List.mem_cons_of_mem _ hy)) (p - W) hW]
      have e1 : p / W = (p - W) / W + 1 := by
        have := Nat.sub_mul_div p W 1
        rw [Nat.mul_one] at this
        have h2 : 1 ≤ p / W := (Nat.one_le_div_iff (by omega)).2 (by omega)
        omega
      have e2 : (p - W) % W = p % W := by
        conv => rhs; rw [show p = (p - W) + W by omega, Nat.add_mod_right]
      rw [e1, e2]; rfl
/-- the joined texts, cut, are what was asked for. -/
theorem joined_dec {k W size : Nat} {P : List Sh} {X : Nat → Nat → Nat} (hX : Mx.ByM X) (hXe : ∀ j i, j < k → i < k → X j i = bas (numS P) i j) (hsz : size ≤ k * W) :
    (⟨(((List.range k).map fun j => (prodT X (fun i => (P[i]?.getD (0, ⟨#[]⟩)).2) k W j).data.toList).flatten).toArray⟩ : ByteArray).extract 0 size = textOf (decF P k W) size := by
  have hall : ∀ x ∈ (List.range k).map fun j => (prodT X (fun i => (P[i]?.getD (0, ⟨#[]⟩)).2) k W j).data.toList, x.length = W := fun x hx => by
    obtain ⟨j, _, rfl⟩ := List.mem_map.1 hx
    have := prodT_size X (fun i => (P[i]?.getD (0, ⟨#[]⟩)).2) k W j
    simpa using this
  have hlen : (((List.range k).map fun j => (prodT X (fun i => (P[i]?.getD (0, ⟨#[]⟩)).2) k W j).data.toList).flatten).length = k * W := by
    rw [List.length_flatten, List.map_map]
    have : (List.range k).map (List.length ∘ fun j => (prodT X (fun i => (P[i]?.getD (0, ⟨#[]⟩)).2) k W j).data.toList) = List.replicate k W := by
      rw [List.eq_replicate_iff]
      refine ⟨by simp, fun y hy => ?_⟩
      obtain ⟨j, hj, rfl⟩ := List.mem_map.1 hy
      exact hall _ (List.mem_map.2 ⟨j, hj, rfl⟩)
    rw [this]; simp
  have hs1 : (⟨(((List.range k).map fun j => (prodT X (fun i => (P[i]?.getD (0, ⟨#[]⟩)).2) k W j).data.toList).flatten).toArray⟩ : ByteArray).size = k * W := by
    show (((List.range k).map _).flatten).toArray.size = _
    rw [List.size_toArray]; exact hlen
  refine text_ext ?_ ?_
  · rw [ByteArray.size_extract, textOf_size, hs1]; omega
  · intro p hp
    rw [ByteArray.size_extract, hs1] at hp
    have hpl : p < size := by omega
    have hW : W ≠ 0 := fun e => by rw [e] at hsz; omega
    rw [sb_extract _ _ _ _ (by omega), Nat.zero_add, sb_textOf (decF_lt P k W), if_pos hpl]
    have hj : p / W < k := by
      rw [Nat.div_lt_iff_lt_mul (by omega)]; omega
    have hc : p % W < W := Nat.mod_lt _ (by omega)
    unfold sb
    show ((((List.range k).map fun j => (prodT X (fun i => (P[i]?.getD (0, ⟨#[]⟩)).2) k W j).data.toList).flatten)[p]?.getD 0).toNat = _
    rw [flatten_at _ hall p hW, List.getElem?_map, List.getElem?_range hj]
    show ((prodT X (fun i => (P[i]?.getD (0, ⟨#[]⟩)).2) k W (p / W)).data.toList[p % W]?.getD 0).toNat = _
    have := sb_prodT hX (fun i => (P[i]?.getD (0, ⟨#[]⟩)).2) k W (p / W) hc
    unfold sb at this
    rw [this]
    unfold prodN decF
    exact Mx.dot_congr (fun i hi => hXe _ i hj hi) (fun _ _ => rfl)
end Go.Proofs.YtabboioamdphmaaGreatDoor
/- Plain: the first k of unlike shards. -/
namespace Go.Proofs.YtabboioamdphmaaGreatDoor
open Go.RowKit

theorem pickS_take (k : Nat) (l : List Sh) (hu : UnlikeS l) : ∀ i, i ≤ l.length → pickS k (l.take i) = (l.take i).take k
  | 0, _ => by simp [pickS]
  | i + 1, hi => by
    have hil : i < l.length := by omega
    have ht : l.take (i + 1) = l.take i ++ [l[i]] := List.take_succ_eq_append_getElem hil
    have hu2 : UnlikeS (l.take (i + 1)) := List.Pairwise.sublist (List.take_sublist _ _) hu
    rw [ht] at hu2 ⊢
    rw [pickS_snoc, pickS_take k l hu i (by omega)]
    have hlen : (l.take i).length = i := by rw [List.length_take]; omega
    unfold stepS
    by_cases hik : i < k
    · have e1 : (l.take i).take k = l.take i := List.take_of_length_le (by omega)
      have hc : (l.take i).length < k ∧ (l.take i).any (fun x => decide (x.1 = l[i].1)) = false := by
        refine ⟨by omega, ?_⟩
        rw [List.any_eq_false]
        intro x hx
        have := (List.pairwise_append.1 hu2).2.2 x hx l[i] (List.mem_singleton_self _)
        simpa using this
      rw [e1, if_pos hc]
      exact (List.take_of_length_le (by rw [List.length_append, hlen]; simp; omega)).symm
    · rw [if_neg, List.take_append_of_le_length (by omega)]
      intro h
      have := h.1
      rw [List.length_take, hlen] at this
      omega
theorem pickS_all {k : Nat} {l : List Sh} (hu : UnlikeS l) : pickS k l = l.take k := by
  have := pickS_take k l hu l.length (Nat.le_refl _)
  rwa [List.take_length] at this
end Go.Proofs.YtabboioamdphmaaGreatDoor
/- Plain: names of nodes and keys; what the check of nodes answers. -/
namespace Go.Proofs.YtabboioamdphmaaGreatDoor

instance memText (s : ByteArray) (L : List ByteArray) : Decidable (s ∈ L) := decidable_of_iff (L.any (fun x => decide (x = s)) = true) (by simp)
/-- a byte of a name. -/
def letterB (c : UInt8) : Bool := decide ((97 ≤ c.toNat ∧ c.toNat ≤ 122) ∨ (48 ≤ c.toNat ∧ c.toNat ≤ 57) ∨ c.toNat = 45)
/-- a name. -/
def nameB (s : ByteArray) : Bool := decide (1 ≤ s.size ∧ s.size ≤ 16) && s.data.toList.all letterB
/-- what is wrong with node i: an error's number. -/
def badAt (L : List ByteArray) (i : Nat) : Nat := if nameB (L[i]?.getD ⟨#[]⟩) = true then (if (L[i]?.getD ⟨#[]⟩) ∈ L.take i then 6 else 0) else 4
/-- what the check of nodes answers: an error's number, a place. -/
def nodesF (L : List ByteArray) : Nat × Int :=
  if 1 ≤ L.length ∧ L.length ≤ 16 then
    match (List.range L.length).find? (fun i => decide (badAt L i ≠ 0)) with
    | some i => (badAt L i, (i : Int))
    | none => (0, -1)
  else (2, -1)
theorem nodesF_out {L : List ByteArray} (h : ¬ (1 ≤ L.length ∧ L.length ≤ 16)) : nodesF L = (2, -1) := if_neg h
theorem find_first {n i : Nat} {p : Nat → Bool} (hi : i < n) (h : ∀ j, j < i → p j = false) (hp : p i = true) : (List.range n).find? p = some i := by
  rw [List.find?_eq_some_iff_getElem]
  refine ⟨hp, i, by simpa using hi, by simp, fun j hj => ?_⟩
  simp
  exact h j hj
theorem find_none {n : Nat} {p : Nat → Bool} (h : ∀ j, j < n → p j = false) : (List.range n).find? p = none := by
  rw [List.find?_eq_none]
  intro x hx
  rw [h x (List.mem_range.1 hx)]
  decide
theorem nodesF_at {L : List ByteArray} (h : 1 ≤ L.length ∧ L.length ≤ 16) {i : Nat} (hi : i < L.length) (hj : ∀ j, j < i → badAt L j = 0) (hb : badAt L i ≠ 0) : nodesF L = (badAt L i, (i : Int)) := by
  unfold nodesF
  rw [if_pos h, find_first hi (fun j h1 => by simp [hj j h1]) (by simpa using hb)]
theorem nodesF_ok {L : List ByteArray} (h : 1 ≤ L.length ∧ L.length ≤ 16) (hj : ∀ j, j < L.length → badAt L j = 0) : nodesF L = (0, -1) := by
  unfold nodesF
  rw [if_pos h, find_none (fun j h1 => by simp [hj j h1])]
theorem badAt_name {L : List ByteArray} {i : Nat} (h : nameB (L[i]?.getD ⟨#[]⟩) = false) : badAt L i = 4 := by unfold badAt; rw [h]; rfl
theorem badAt_exist {L : List ByteArray} {i : Nat} (h : nameB (L[i]?.getD ⟨#[]⟩) = true) (hm : (L[i]?.getD ⟨#[]⟩) ∈ L.take i) : badAt L i = 6 := by unfold badAt; rw [if_pos h, if_pos hm]
theorem badAt_ok {L : List ByteArray} {i : Nat} (h : nameB (L[i]?.getD ⟨#[]⟩) = true) (hm : (L[i]?.getD ⟨#[]⟩) ∉ L.take i) : badAt L i = 0 := by unfold badAt; rw [if_pos h, if_neg hm]
theorem badAt_cases (L : List ByteArray) (i : Nat) : badAt L i = 0 ∨ badAt L i = 4 ∨ badAt L i = 6 := by
  unfold badAt
  split
  · split
    · exact .inr (.inr rfl)
    · exact .inl rfl
  · exact .inr (.inl rfl)
/-- what the check says of nodes that pass. -/
theorem nodesF_zero {L : List ByteArray} (h : (nodesF L).1 = 0) : (1 ≤ L.length ∧ L.length ≤ 16) ∧ L.Nodup ∧ (∀ s ∈ L, nameB s = true) ∧ nodesF L = (0, -1) := by
  by_cases hl : 1 ≤ L.length ∧ L.length ≤ 16
  · have hall : ∀ j, j < L.length → badAt L j = 0 := by
      unfold nodesF at h
      rw [if_pos hl] at h
      cases hf : (List.range L.length).find? (fun i => decide (badAt L i ≠ 0)) with
      | none =>
        rw [List.find?_eq_none] at hf
        intro j hj
        have := hf j (List.mem_range.2 hj)
        simpa using this
      | some i =>
        rw [hf] at h
        have := List.find?_some hf
        simp at this
        exact absurd h this
    have hn : ∀ j, j < L.length → nameB (L[j]?.getD ⟨#[]⟩) = true ∧ (L[j]?.getD ⟨#[]⟩) ∉ L.take j := fun j hj => by
      have h0 := hall j hj
      unfold badAt at h0
      split at h0
      · rename_i h1
        split at h0
        · cases h0
        · rename_i h2; exact ⟨h1, h2⟩
      · cases h0
    refine ⟨hl, ?_, fun s hs => ?_, nodesF_ok hl hall⟩
    · rw [List.nodup_iff_pairwise_ne, List.pairwise_iff_getElem]
      intro i j hi hj hij e
      have h1 := (hn j hj).2
      rw [List.getElem?_eq_getElem hj] at h1
      apply h1
      simp only [Option.getD_some]
      rw [← e]
      exact List.mem_take_iff_getElem.2 ⟨i, by omega, rfl⟩
    · obtain ⟨j, hj, rfl⟩ := List.getElem_of_mem hs
      have := (hn j hj).1
      rw [List.getElem?_eq_getElem hj] at this
      exact this
  · rw [nodesF_out hl] at h
    cases h
theorem nodesF_le (L : List ByteArray) : (nodesF L).1 ≤ 12 := by
  unfold nodesF
  split
  · split
    · rename_i i _
      rcases badAt_cases L i with h | h | h <;> simp [h]
    · decide
  · decide
/-- the index of a text in a list, -1: none. -/
def idxT (L : List ByteArray) (s : ByteArray) : Int := match (List.range L.length).find? (fun i => decide ((L[i]?.getD ⟨#[]⟩) = s)) with | some i => (i : Int) | none => -1
theorem idxT_at {L : List ByteArray} {s : ByteArray} {i : Nat} (hi : i < L.length) (hj : ∀ j, j < i → (L[j]?.getD ⟨#[]⟩) ≠ s) (h : (L[i]?.getD ⟨#[]⟩) = s) : idxT L s = (i : Int) := by
  unfold idxT
  rw [find_first hi (fun j h1 => by simp [hj j h1]) (by simpa using h)]
theorem idxT_none {L : List ByteArray} {s : ByteArray} (hj : ∀ j, j < L.length → (L[j]?.getD ⟨#[]⟩) ≠ s) : idxT L s = -1 := by
  unfold idxT
  rw [find_none (fun j h1 => by simp [hj j h1])]
theorem idxT_range (L : List ByteArray) (s : ByteArray) : -1 ≤ idxT L s ∧ idxT L s < L.length ∧ (0 ≤ idxT L s ↔ s ∈ L) := by
  by_cases h : ∃ i, i < L.length ∧ (L[i]?.getD ⟨#[]⟩) = s
  · unfold idxT
    cases hf : (List.range L.length).find? (fun i => decide ((L[i]?.getD ⟨#[]⟩) = s)) with
    | none =>
      rw [List.find?_eq_none] at hf
      obtain ⟨i, hi, he⟩ := h
      have := hf i (List.mem_range.2 hi)
      simp [he] at this
    | some i =>
      have h1 := List.find?_some hf
      have h2 := List.mem_range.1 (List.mem_of_find?_eq_some hf)
      simp only [decide_eq_true_eq] at h1
      rw [List.getElem?_eq_getElem h2] at h1
      simp only [Option.getD_some] at h1
      refine ⟨by simp only; omega, by simp only; omega, fun _ => h1 ▸ List.getElem_mem h2, fun _ => by simp only; omega⟩
  · have hn : ∀ j, j < L.length → (L[j]?.getD ⟨#[]⟩) ≠ s := fun j hj e => h ⟨j, hj, e⟩
    rw [idxT_none hn]
    refine ⟨by omega, by omega, fun h => by omega, fun hs => ?_⟩
    obtain ⟨j, hj, rfl⟩ := List.getElem_of_mem hs
    exact absurd (by rw [List.getElem?_eq_getElem hj]; rfl) (hn j hj)
theorem idxT_pos {L : List ByteArray} {s : ByteArray} : decide (0 ≤ idxT L s) = decide (s ∈ L) := by
  rw [decide_eq_decide]; exact (idxT_range L s).2.2

/-! ### members that two lists share -/
/-- any two lists of unlike members of a list of N have at least |a| + |b| - N members in common. -/
theorem shared {α : Type} [DecidableEq α] {l a b : List α} (hl : l.Nodup) (ha : a.Nodup) (hb : b.Nodup) (hal : ∀ x ∈ a, x ∈ l) (hbl : ∀ x ∈ b, x ∈ l) :
    a.length + b.length ≤ l.length + (l.filter (fun x => decide (x ∈ a) && decide (x ∈ b))).length := by
  have hfa : (l.filter (fun x => decide (x ∈ a))).length = a.length := by
    apply List.Perm.length_eq
    rw [List.perm_ext_iff_of_nodup (hl.filter _) ha]
    intro x
    simp
    exact fun h => hal x h
  have hfb : (l.filter (fun x => decide (x ∈ b))).length = b.length := by
    apply List.Perm.length_eq
    rw [List.perm_ext_iff_of_nodup (hl.filter _) hb]
    intro x
    simp
    exact fun h => hbl x h
  rw [← hfa, ← hfb]
  clear hfa hfb ha hb hal hbl hl
  induction l with
  | nil => simp
  | cons x r ih =>
    by_cases h1 : x ∈ a <;> by_cases h2 : x ∈ b <;> simp [h1, h2] <;> omega
end Go.Proofs.YtabboioamdphmaaGreatDoor
