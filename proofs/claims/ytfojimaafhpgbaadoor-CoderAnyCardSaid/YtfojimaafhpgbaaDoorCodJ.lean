/- Plain: what shards tell. -/
import Derived.Test.YtfojimaafhpgbaaDoorCodI
namespace Go.Proofs.YtfojimaafhpgbaaDoor
open Go.RowKit

theorem pickS_take (k : Nat) (l : List Sh) (hu : UnlikeS l) : ∀ i, i ≤ l.length → pickS k (l.take i) = (l.take i).take k
  | 0, _ => by simp [pickS]
  | i + 1, hi => by
    have hil : i < l.length := by omega
    have ht : l.take (i + 1) = l.take i ++ [l[i]] := List.take_succ_eq_append_getElem hil
    have hu2 : UnlikeS (l.take (i + 1)) := List.Pairwise.sublist (List.take_sublist _ _) hu
    rw [ht] at hu2 ⊢
    rw [pickS_snoc, pickS_take k l hu i (by omega)]
    have hlen : (l.take i).length = i := by rw [List.length_take]; omega
    unfold stepS
    by_cases hik : i < k
    · have e1 : (l.take i).take k = l.take i := List.take_of_length_le (by omega)
      have hc : (l.take i).length < k ∧ (l.take i).any (fun x => decide (x.1 = l[i].1)) = false := by
        refine ⟨by omega, ?_⟩
        rw [List.any_eq_false]
        intro x hx
        have := (List.pairwise_append.1 hu2).2.2 x hx l[i] (List.mem_singleton_self _)
        simpa using this
      rw [e1, if_pos hc]
      exact (List.take_of_length_le (by rw [List.length_append, hlen]; simp; omega)).symm
    · rw [if_neg, List.take_append_of_le_length (by omega)]
      intro h
      have := h.1
      rw [List.length_take, hlen] at this
      omega
theorem pickS_all {k : Nat} {l : List Sh} (hu : UnlikeS l) : pickS k l = l.take k := by
  have := pickS_take k l hu l.length (Nat.le_refl _)
  rwa [List.take_length] at this
/-- k texts of an object tell it. -/
theorem dec_is {k n : Nat} {s : ByteArray} {P : List Sh} (hk : 1 ≤ k) (hk2 : k ≤ 12) (hl : P.length = k) (hu : UnlikeS P) (hg : ∀ x ∈ P, GoodS n (wideN k s.size) x) (hn : n ≤ 12) (he : ∀ x ∈ P, x.2 = encT k s x.1.toNat) : textOf (decF P k (wideN k s.size)) s.size = s := by
  refine text_ext (textOf_size _ _) fun p hp => ?_
  rw [textOf_size] at hp
  rw [sb_textOf (decF_lt P k _), if_pos hp]
  have hwf := (wide_facts k s.size hk).1
  obtain ⟨W, hW⟩ : ∃ W, wideN k s.size = W := ⟨_, rfl⟩
  have hW0 : 0 < W := by
    rw [hW] at hwf
    rcases Nat.eq_zero_or_pos W with h | h
    · rw [h, Nat.mul_zero] at hwf; omega
    · exact h
  rw [hW] at hwf ⊢
  have hpk : p / W < k := Nat.div_lt_of_lt_mul (by rw [Nat.mul_comm]; omega)
  have hpm : p % W < W := Nat.mod_lt _ hW0
  have hv : Mx.By (fun l => sb s (l * W + p % W)) := fun l => sb_lt _ _
  have hx : Bytes (numS P) := fun x hx => by have := numS_lt hg x hx; omega
  have hxl : (numS P).length = k := by rw [numS_length]; exact hl
  have hb := Mx.back (by omega) hxl hx (numS_unlike hu hg) hv (show p / W < 256 by omega)
  rw [Mx.top_is (by omega) hv hpk] at hb
  unfold decF
  rw [Mx.dot_congr (r' := fun i => bas (numS P) i (p / W)) (v' := fun i => Mx.dot (Mx.spr k ((numS P)[i]?.getD 0)) (fun l => sb s (l * W + p % W)) k) (fun _ _ => rfl) (fun i hi => ?_), hb]
  · show sb s (p / W * W + p % W) = _
    rw [Nat.mul_comm, Nat.div_add_mod]
  · have hil : i < P.length := by omega
    rw [numS_at hil, List.getElem?_eq_getElem hil]
    show sb P[i].2 _ = _
    rw [he _ (List.getElem_mem hil), sb_encT k s _ (by rw [hW]; exact hpm)]
    unfold encF
    rw [hW]
    rfl
/-- two objects of one size that agree at k places are one. -/
theorem tells {k : Nat} {s t : ByteArray} (hk : 1 ≤ k) (hk2 : k ≤ 12) (hst : s.size = t.size) {xs : List Nat} (hl : xs.length = k) (hx : Bytes xs) (hu : Unlike xs) (h : ∀ x ∈ xs, encT k s x = encT k t x) : s = t := by
  refine text_ext hst fun p hp => ?_
  have hwf := (wide_facts k s.size hk).1
  obtain ⟨W, hW⟩ : ∃ W, wideN k s.size = W := ⟨_, rfl⟩
  have hWt : wideN k t.size = W := by rw [← hst]; exact hW
  have hW0 : 0 < W := by
    rw [hW] at hwf
    rcases Nat.eq_zero_or_pos W with h | h
    · rw [h, Nat.mul_zero] at hwf; omega
    · exact h
  rw [hW] at hwf
  have hpk : p / W < k := Nat.div_lt_of_lt_mul (by rw [Nat.mul_comm]; omega)
  have hpm : p % W < W := Nat.mod_lt _ hW0
  have hv : Mx.By (fun l => sb s (l * W + p % W)) := fun l => sb_lt _ _
  have hv2 : Mx.By (fun l => sb t (l * W + p % W)) := fun l => sb_lt _ _
  have hb := Mx.back (by omega) hl hx hu hv (show p / W < 256 by omega)
  have hb2 := Mx.back (by omega) hl hx hu hv2 (show p / W < 256 by omega)
  rw [Mx.top_is (by omega) hv hpk] at hb
  rw [Mx.top_is (by omega) hv2 hpk] at hb2
  have e : p / W * W + p % W = p := by rw [Nat.mul_comm, Nat.div_add_mod]
  rw [e] at hb hb2
  rw [← hb, ← hb2]
  refine Mx.dot_congr (fun _ _ => rfl) (fun i hi => ?_)
  have hil : i < xs.length := by omega
  rw [List.getElem?_eq_getElem hil]
  have hh := congrArg (fun y => sb y (p % W)) (h _ (List.getElem_mem hil))
  change sb (encT k s xs[i]) (p % W) = sb (encT k t xs[i]) (p % W) at hh
  rw [sb_encT k s _ (by rw [hW]; exact hpm), sb_encT k t _ (by rw [hWt]; exact hpm)] at hh
  unfold encF at hh
  rw [hW, hWt] at hh
  exact hh
/-- k places other than one. -/
def skipL (k a : Nat) : List Nat := (List.range k).map fun i => if i < a then i else i + 1
theorem skipL_length (k a : Nat) : (skipL k a).length = k := by simp [skipL]
theorem skipL_mem {k a x : Nat} (h : x ∈ skipL k a) : x ≠ a ∧ x ≤ k := by
  unfold skipL at h
  obtain ⟨i, hi, rfl⟩ := List.mem_map.1 h
  have := List.mem_range.1 hi
  by_cases e : i < a
  · rw [if_pos e]; omega
  · rw [if_neg e]; omega
theorem skipL_unlike (k a : Nat) : Unlike (skipL k a) := by
  intro i j hi hj hne
  rw [skipL_length] at hi hj
  have e : ∀ m, m < k → (skipL k a)[m]?.getD 0 = if m < a then m else m + 1 := fun m hm => by
    unfold skipL
    rw [List.getElem?_map, List.getElem?_range hm]; rfl
  rw [e i hi, e j hj]
  split <;> split <;> omega
end Go.Proofs.YtfojimaafhpgbaaDoor
