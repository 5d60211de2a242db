/- Plain: names of nodes and keys; what the check of nodes answers. -/
import GoSem.Op.String
namespace Go.Proofs.YthdicfcgkbepdaaGreatDoor

instance memText (s : ByteArray) (L : List ByteArray) : Decidable (s ∈ L) := decidable_of_iff (L.any (fun x => decide (x = s)) = true) (by simp)
/-- a byte of a name. -/
def letterB (c : UInt8) : Bool := decide ((97 ≤ c.toNat ∧ c.toNat ≤ 122) ∨ (48 ≤ c.toNat ∧ c.toNat ≤ 57) ∨ c.toNat = 45)
/-- a name. -/
def nameB (s : ByteArray) : Bool := decide (1 ≤ s.size ∧ s.size ≤ 16) && s.data.toList.all letterB
/-- what is wrong with node i: an error's number. -/
def badAt (L : List ByteArray) (i : Nat) : Nat := if nameB (L[i]?.getD ⟨#[]⟩) = true then (if (L[i]?.getD ⟨#[]⟩) ∈ L.take i then 6 else 0) else 4
/-- what the check of nodes answers: an error's number, a place. -/
def nodesF (L : List ByteArray) : Nat × Int :=
  if 1 ≤ L.length ∧ L.length ≤ 16 then
    match (List.range L.length).find? (fun i => decide (badAt L i ≠ 0)) with
    | some i => (badAt L i, (i : Int))
    | none => (0, -1)
  else (2, -1)
theorem nodesF_out {L : List ByteArray} (h : ¬ (1 ≤ L.length ∧ L.length ≤ 16)) : nodesF L = (2, -1) := if_neg h
theorem find_first {n i : Nat} {p : Nat → Bool} (hi : i < n) (h : ∀ j, j < i → p j = false) (hp : p i = true) : (List.range n).find? p = some i := by
  rw [List.find?_eq_some_iff_getElem]
  refine ⟨hp, i, by simpa using hi, by simp, fun j hj => ?_⟩
  simp
  exact h j hj
theorem find_none {n : Nat} {p : Nat → Bool} (h : ∀ j, j < n → p j = false) : (List.range n).find? p = none := by
  rw [List.find?_eq_none]
  intro x hx
  rw [h x (List.mem_range.1 hx)]
  decide
theorem nodesF_at {L : List ByteArray} (h : 1 ≤ L.length ∧ L.length ≤ 16) {i : Nat} (hi : i < L.length) (hj : ∀ j, j < i → badAt L j = 0) (hb : badAt L i ≠ 0) : nodesF L = (badAt L i, (i : Int)) := by
  unfold nodesF
  rw [if_pos h, find_first hi (fun j h1 => by simp [hj j h1]) (by simpa using hb)]
theorem nodesF_ok {L : List ByteArray} (h : 1 ≤ L.length ∧ L.length ≤ 16) (hj : ∀ j, j < L.length → badAt L j = 0) : nodesF L = (0, -1) := by
  unfold nodesF
  rw [if_pos h, find_none (fun j h1 => by simp [hj j h1])]
theorem badAt_name {L : List ByteArray} {i : Nat} (h : nameB (L[i]?.getD ⟨#[]⟩) = false) : badAt L i = 4 := by unfold badAt; rw [h]; rfl
theorem badAt_exist {L : List ByteArray} {i : Nat} (h : nameB (L[i]?.getD ⟨#[]⟩) = true) (hm : (L[i]?.getD ⟨#[]⟩) ∈ L.take i) : badAt L i = 6 := by unfold badAt; rw [if_pos h, if_pos hm]
theorem badAt_ok {L : List ByteArray} {i : Nat} (h : nameB (L[i]?.getD ⟨#[]⟩) = true) (hm : (L[i]?.getD ⟨#[]⟩) ∉ L.take i) : badAt L i = 0 := by unfold badAt; rw [if_pos h, if_neg hm]
theorem badAt_cases (L : List ByteArray) (i : Nat) : badAt L i = 0 ∨ badAt L i = 4 ∨ badAt L i = 6 := by
  unfold badAt
  split
  · split
    · exact .inr (.inr rfl)
    · exact .inl rfl
  · exact .inr (.inl rfl)
/-- what the check says of nodes that pass. -/
theorem nodesF_zero {L : List ByteArray} (h : (nodesF L).1 = 0) : (1 ≤ L.length ∧ L.length ≤ 16) ∧ L.Nodup ∧ (∀ s ∈ L, nameB s = true) ∧ nodesF L = (0, -1) := by
  by_cases hl : 1 ≤ L.length ∧ L.length ≤ 16
  · have hall : ∀ j, j < L.length → badAt L j = 0 := by
      unfold nodesF at h
      rw [if_pos hl] at h
      cases hf : (List.range L.length).find? (fun i => decide (badAt L i ≠ 0)) with
      | none =>
        rw [List.find?_eq_none] at hf
        intro j hj
        have := hf j (List.mem_range.2 hj)
        simpa using this
      | some i =>
        rw [hf] at h
        have := List.find?_some hf
        simp at this
        exact absurd h this
    have hn : ∀ j, j < L.length → nameB (L[j]?.getD ⟨#[]⟩) = true ∧ (L[j]?.getD ⟨#[]⟩) ∉ L.take j := fun j hj => by
      have h0 := hall j hj
      unfold badAt at h0
      split at h0
      · rename_i h1
        split at h0
        · cases h0
        · rename_i h2; exact ⟨h1, h2⟩
      · cases h0
    refine ⟨hl, ?_, fun s hs => ?_, nodesF_ok hl hall⟩
    · rw [List.nodup_iff_pairwise_ne, List.pairwise_iff_getElem]
      intro i j hi hj hij e
      have h1 := (hn j hj).2
      rw [List.getElem?_eq_getElem hj] at h1
      apply h1
      simp only [Option.getD_some]
      rw [← e]
      exact List.mem_take_iff_getElem.2 ⟨i, by omega, rfl⟩
    · obtain ⟨j, hj, rfl⟩ := List.getElem_of_mem hs
      have := (hn j hj).1
      rw [List.getElem?_eq_getElem hj] at this
      exact this
  · rw [nodesF_out hl] at h
    cases h
theorem nodesF_le (L : List ByteArray) : (nodesF L).1 ≤ 12 := by
  unfold nodesF
  split
  · split
    · rename_i i _
      rcases badAt_cases L i with h | h | h <;> simp [h]
    · decide
  · decide
/-- the index of a text in a list, -1: none. -/
def idxT (L : List ByteArray) (s : ByteArray) : Int := match (List.range L.length).find? (fun i => decide ((L[i]?.getD ⟨#[]⟩) = s)) with | some i => (i : Int) | none => -1
theorem idxT_at {L : List ByteArray} {s : ByteArray} {i : Nat} (hi : i < L.length) (hj : ∀ j, j < i → (L[j]?.getD ⟨#[]⟩) ≠ s) (h : (L[i]?.getD ⟨#[]⟩) = s) : idxT L s = (i : Int) := by
  unfold idxT
  rw [find_first hi (fun j h1 => by simp [hj j h1]) (by simpa using h)]
theorem idxT_none {L : List ByteArray} {s : ByteArray} (hj : ∀ j, j < L.length → (L[j]?.getD ⟨#[]⟩) ≠ s) : idxT L s = -1 := by
  unfold idxT
  rw [find_none (fun j h1 => by simp [hj j h1])]
theorem idxT_range (L : List ByteArray) (s : ByteArray) : -1 ≤ idxT L s ∧ idxT L s < L.length ∧ (0 ≤ idxT L s ↔ s ∈ L) := by
  by_cases h : ∃ i, i < L.length ∧ (L[i]?.getD ⟨#[]⟩) = s
  · unfold idxT
    cases hf : (List.range L.length).find? (fun i => decide ((L[i]?.getD ⟨#[]⟩) = s)) with
    | none =>
      rw [List.find?_eq_none] at hf
      obtain ⟨i, hi, he⟩ := h
      have := hf i (List.mem_range.2 hi)
      simp [he] at this
    | some i =>
      have h1 := List.find?_some hf
      have h2 := List.mem_range.1 (List.mem_of_find?_eq_some hf)
      simp only [decide_eq_true_eq] at h1
      rw [List.getElem?_eq_getElem h2] at h1
      simp only [Option.getD_some] at h1
      refine ⟨by simp only; omega, by simp only; omega, fun _ => h1 ▸ List.getElem_mem h2, fun _ => by simp only; omega⟩
  · have hn : ∀ j, j < L.length → (L[j]?.getD ⟨#[]⟩) ≠ s := fun j hj e => h ⟨j, hj, e⟩
    rw [idxT_none hn]
    refine ⟨by omega, by omega, fun h => by omega, fun hs => ?_⟩
    obtain ⟨j, hj, rfl⟩ := List.getElem_of_mem hs
    exact absurd (by rw [List.getElem?_eq_getElem hj]; rfl) (hn j hj)
theorem idxT_pos {L : List ByteArray} {s : ByteArray} : decide (0 ≤ idxT L s) = decide (s ∈ L) := by
  rw [decide_eq_decide]; exact (idxT_range L s).2.2

/-! ### members that two lists share -/
/-- any two lists of unlike members of a list of N have at least |a| + |b| - N members in common. -/
theorem shared {α : Type} [DecidableEq α] {l a b : List α} (hl : l.Nodup) (ha : a.Nodup) (hb : b.Nodup) (hal : ∀ x ∈ a, x ∈ l) (hbl : ∀ x ∈ b, x ∈ l) :
    a.length + b.length ≤ l.length + (l.filter (fun x => decide (x ∈ a) && decide (x ∈ b))).length := by
  have hfa : (l.filter (fun x => decide (x ∈ a))).length = a.length := by
    apply List.Perm.length_eq
    rw [List.perm_ext_iff_of_nodup (hl.filter _) ha]
    intro x
    simp
    exact fun h => hal x h
  have hfb : (l.filter (fun x => decide (x ∈ b))).length = b.length := by
    apply List.Perm.length_eq
    rw [List.perm_ext_iff_of_nodup (hl.filter _) hb]
    intro x
    simp
    exact fun h => hbl x h
  rw [← hfa, ← hfb]
  clear hfa hfb ha hb hal hbl hl
  induction l with
  | nil => simp
  | cons x r ih =>
    by_cases h1 : x ∈ a <;> by_cases h2 : x ∈ b <;> simp [h1, h2] <;> omega
end Go.Proofs.YthdicfcgkbepdaaGreatDoor
