/- Slices of versions: that are read, and that are the call's own. -/
import Derived.Test.YtjhjpijjfpfjeaaGreatDoorKQuorumBest01
import Derived.Maps.AppendAt
import Derived.Laws.AppendOwnNone
import Derived.Deep.SlicePairs
import GoSem.Op.String
namespace Go.Proofs.YtjhjpijjfpfjeaaGreatDoor
open Go.RowKit

/-- a version: its tag's two numbers, its size, its shard's number, its shard's text. -/
abbrev Ver := Int × Int × Int × Int × ByteArray
def ver0 : Ver := (0, 0, 0, 0, ⟨#[]⟩)
def encVr (x : Ver) : List Value := [.int .i64 x.1, .int .i64 x.2.1, .int .i64 x.2.2.1, .int .i64 x.2.2.2.1, .string x.2.2.2.2]
def verV (x : Ver) : Value := .agg #[.int .i64 x.1, .int .i64 x.2.1, .int .i64 x.2.2.1, .int .i64 x.2.2.2.1, .string x.2.2.2.2]
/-- the cells of versions. -/
def vrV : List Ver → List Value
  | [] => []
  | x :: r => encVr x ++ vrV r
theorem vrV_append : ∀ (a b : List Ver), vrV (a ++ b) = vrV a ++ vrV b
  | [], _ => rfl
  | x :: r, b => by show encVr x ++ vrV (r ++ b) = (encVr x ++ vrV r) ++ vrV b; rw [vrV_append r b, List.append_assoc]
theorem vrV_length : ∀ l : List Ver, (vrV l).length = l.length * 5
  | [] => rfl
  | x :: r => by
    show (encVr x ++ vrV r).length = (r.length + 1) * 5
    rw [List.length_append, vrV_length r]
    show 5 + _ = _
    omega
theorem vrV_at : ∀ (l : List Ver) (i j : Nat), i < l.length → j < 5 → (vrV l)[i * 5 + j]? = (encVr (l[i]?.getD ver0))[j]?
  | [], _, _, h, _ => by simp at h
  | x :: r, 0, j, _, hj => by
    show (encVr x ++ vrV r)[0 * 5 + j]? = _
    rw [List.getElem?_append_left (by show 0 * 5 + j < 5; omega)]
    simp
  | x :: r, i + 1, j, h, hj => by
    show (encVr x ++ vrV r)[(i + 1) * 5 + j]? = _
    rw [List.getElem?_append_right (by show 5 ≤ (i + 1) * 5 + j; omega)]
    have := vrV_at r i j (by simpa using h) hj
    have e : (i + 1) * 5 + j - (encVr x).length = i * 5 + j := by show (i + 1) * 5 + j - 5 = _; omega
    rw [e, this]
    simp
theorem vrV_one : ∀ (l : List Ver), ∀ u ∈ vrV l, u.oneCell' = true
  | [], _, h => by cases h
  | x :: r, u, h => by
    rcases List.mem_append.1 (show u ∈ encVr x ++ vrV r from h) with h | h
    · simp [encVr] at h
      rcases h with rfl | rfl | rfl | rfl | rfl <;> rfl
    · exact vrV_one r u h
/-- v owns the versions l. -/
def OwnV (B : Nat) (w : World) (v : Value) (l : List Ver) : Prop := w.ownsRow B 51 5 v l.length (vrV l)
theorem OwnV.nil (B : Nat) (w : World) : OwnV B w (.slice none 0 0) [] := World.ownsRow_nil _ _ _ _
theorem OwnV.lt {B : Nat} {w : World} {v : Value} {l : List Ver} (h : OwnV B w v l) : ∀ k, v.ownBlock = some k → B ≤ k ∧ k < w.heap.size := World.ownsRow.lt h
theorem OwnV.kept {B : Nat} {w w' : World} {row : Option Nat} {v : Value} {l : List Ver} (h : OwnV B w v l) (hg : w.grownBy w' row) (hne : v.ownBlock = none ∨ v.ownBlock ≠ row) : OwnV B w' v l := World.ownsRow.kept h hg hne
theorem OwnV.below {B n₀ : Nat} {w w' : World} {v : Value} {l : List Ver} (h : OwnV B w v l) (hb : Below n₀ w w') (hn : w.heap.size ≤ n₀) : OwnV B w' v l :=
  OwnV.kept (row := none) h ⟨hb.os, hb.tape, hb.output, hb.size, fun k hk _ => hb.block k (by omega)⟩ (by cases v.ownBlock <;> simp)
theorem OwnV.lower {B B' : Nat} {w : World} {v : Value} {l : List Ver} (h : OwnV B w v l) (hB : B' ≤ B) : OwnV B' w v l := by
  unfold OwnV World.ownsRow at *
  refine ⟨h.1, ?_⟩
  rcases h.2 with h2 | ⟨g, cap, cur, e, hb, h3⟩
  · exact .inl h2
  · exact .inr ⟨g, cap, cur, e, Nat.le_trans hB hb, h3⟩
theorem info_version : (Tryz.prog.info? 51).map (fun i => (i.zero, i.size, i.bytes)) = some (some (.agg #[.int .i64 0, .int .i64 0, .int .i64 0, .int .i64 0, .string ⟨#[]⟩]), 5, 48) := by kernel_rfl
/-- versions that are read. -/
def VrR (n₀ : Nat) (w : World) (a : Option Addr) (l : List Ver) : Prop :=
  l = [] ∨ ∃ b off, a = some ⟨b, off, none⟩ ∧ b < n₀ ∧ ∀ i j, i < l.length → j < 5 → w.cell? ⟨b, off + i * 5 + j, none⟩ = (encVr (l[i]?.getD ver0))[j]?
theorem VrR.below {n₀ : Nat} {A B : World} (h : Below n₀ A B) {a : Option Addr} {l : List Ver} : VrR n₀ A a l → VrR n₀ B a l
  | .inl e => .inl e
  | .inr ⟨b, off, e, hb, hc⟩ => .inr ⟨b, off, e, hb, fun i j hi hj => (h.cell (p := ⟨b, off + i * 5 + j, none⟩) hb).trans (hc i j hi hj)⟩
theorem VrR.mono {n₀ n₁ : Nat} {A : World} (h : n₀ ≤ n₁) {a : Option Addr} {l : List Ver} : VrR n₀ A a l → VrR n₁ A a l
  | .inl e => .inl e
  | .inr ⟨b, off, e, hb, hc⟩ => .inr ⟨b, off, e, by omega, hc⟩
theorem OwnV.read {B : Nat} {w : World} {v : Value} {l : List Ver} (h : OwnV B w v l) : ∃ a cap, v = .slice a l.length cap ∧ l.length ≤ cap ∧ cap ≤ maxLen ∧ (a = none → cap = 0) ∧ VrR w.heap.size w a l := by
  rcases h.2 with ⟨rfl, hn⟩ | ⟨g, cap, cur, rfl, hb, hg, hc, hm, hs, ht⟩
  · have : l = [] := List.length_eq_zero_iff.1 hn
    subst this
    exact ⟨none, 0, rfl, Nat.le_refl _, by simp [maxLen], fun _ => rfl, .inl rfl⟩
  · have hh : w.ownsRow B 51 5 (.slice (some ⟨g, 0, none⟩) l.length cap) l.length (vrV l) := ⟨h.1, .inr ⟨g, cap, cur, rfl, hb, hg, hc, hm, hs, ht⟩⟩
    refine ⟨_, cap, rfl, hc, hm, (fun e => by cases e), .inr ⟨g, 0, rfl, (Array.getElem?_eq_some_iff.1 hg).1, fun i j hi hj => ?_⟩⟩
    have hlen := vrV_length l
    rw [Nat.zero_add, ← vrV_at l i j hi hj]
    exact hh.cellAt (i * 5 + j) (by omega)
/-- append(s, l...) of versions. -/
theorem append_vers {ops : Array Oper} {rest : List Oper} {o : Oper} {a : Act} {Q : Exit → Act → World → Prop} {w : World} (s x : Nat) (hgd : o.guard = none)
    (ho : o.op = .call { callee := .builtin .append, args := #[.tmp s, .tmp x], argTypes := #[47, 47] }) (B : Nat) (v : Value) (L : List Ver) (n₀ : Nat) (ad : Option Addr) (len cap : Nat) (M : List Ver)
    (hs : a.eval (.tmp s) = v) (hx : a.eval (.tmp x) = .slice ad len cap) (hown : OwnV B w v L) (hlen : M.length = len) (hl : L.length + M.length ≤ 1000000) (ha : ad = none → cap = 0) (hI : VrR n₀ w ad M) (hB : B ≤ w.heap.size)
    (h : ∀ v' w', OwnV B w' v' (L ++ M) → w.grownBy w' v.ownBlock → (v' = .slice none 0 0 ↔ v = .slice none 0 0 ∧ len = 0) → (v'.ownBlock = v.ownBlock ∨ v'.ownBlock = some w.heap.size) → wpList Tryz.prog ops Q rest (a.put o.dst v') w') :
    wpList Tryz.prog ops Q (o :: rest) a w := by
  obtain ⟨i, hi, hz0, hz1, hz2⟩ := info_parts info_version
  subst hlen
  have at_ : ∀ y : Addr, ad = some y → (∀ j u, (vrV M)[j]? = some u → w.cell? (y.add j) = some u) → wpList Tryz.prog ops Q (o :: rest) a w := fun y e hc => by
    refine wpList_append_own_at _ hgd (.tmp s) (.tmp x) 47 ho B 51 i _ 5 48 Tryz.underlying47 hi hz0 hz1 hz2 rfl (by decide) v L.length (vrV L) hs hown y M.length cap (vrV M) (hx.trans (by rw [e])) (vrV_length M) hc (vrV_one M) (by unfold maxLen; omega) (by omega) hB ?_
    intro v' w' h1 h2 h3 h4
    refine h v' w' ?_ h2 h3 h4
    unfold OwnV
    rw [vrV_append, List.length_append]
    exact h1
  rcases hI with rfl | ⟨b, off, e, _, hcell⟩
  · cases ad with
    | none =>
      obtain rfl := ha rfl
      refine wpList_append_own_none hgd (.tmp s) (.tmp x) 47 ho B 51 i 5 Tryz.underlying47 hi v L.length (vrV L) hs hown hx ?_
      exact h v w (by simpa using hown) (World.grownBy.refl _ _) ⟨fun e => ⟨e, rfl⟩, fun e => e.1⟩ (.inl rfl)
    | some ad => exact at_ ad rfl (fun j u hj => by simp [vrV] at hj)
  · refine at_ _ e (fun j u hj => ?_)
    have hj2 : j < M.length * 5 := by have := (List.getElem?_eq_some_iff.1 hj).1; rw [vrV_length] at this; exact this
    have h9 := vrV_at M (j / 5) (j % 5) (by omega) (by omega)
    have e5 : j / 5 * 5 + j % 5 = j := by omega
    rw [e5, hj] at h9
    rw [Go.WideShapes.add_plain, h9, ← hcell (j / 5) (j % 5) (by omega) (by omega)]
    rw [show off + j / 5 * 5 + j % 5 = off + j by omega]
end Go.Proofs.YtjhjpijjfpfjeaaGreatDoor
/- Plain: names of nodes and keys; what the check of nodes answers. -/
namespace Go.Proofs.YtjhjpijjfpfjeaaGreatDoor

instance memText (s : ByteArray) (L : List ByteArray) : Decidable (s ∈ L) := decidable_of_iff (L.any (fun x => decide (x = s)) = true) (by simp)
/-- a byte of a name. -/
def letterB (c : UInt8) : Bool := decide ((97 ≤ c.toNat ∧ c.toNat ≤ 122) ∨ (48 ≤ c.toNat ∧ c.toNat ≤ 57) ∨ c.toNat = 45)
/-- a name. -/
def nameB (s : ByteArray) : Bool := decide (1 ≤ s.size ∧ s.size ≤ 16) && s.data.toList.all letterB
/-- what is wrong with node i: an error's number. -/
def badAt (L : List ByteArray) (i : Nat) : Nat := if nameB (L[i]?.getD ⟨#[]⟩) = true then (if (L[i]?.getD ⟨#[]⟩) ∈ L.take i then 6 else 0) else 4
/-- what the check of nodes answers: an error's number, a place. -/
def nodesF (L : List ByteArray) : Nat × Int :=
  if 1 ≤ L.length ∧ L.length ≤ 16 then
    match (List.range L.length).find? (fun i => decide (badAt L i ≠ 0)) with
    | some i => (badAt L i, (i : Int))
    | none => (0, -1)
  else (2, -1)
theorem nodesF_out {L : List ByteArray} (h : ¬ (1 ≤ L.length ∧ L.length ≤ 16)) : nodesF L = (2, -1) := if_neg h
theorem find_first {n i : Nat} {p : Nat → Bool} (hi : i < n) (h : ∀ j, j < i → p j = false) (hp : p i = true) : (List.range n).find? p = some i := by
  rw [List.find?_eq_some_iff_getElem]
  refine ⟨hp, i, by simpa using hi, by simp, fun j hj => ?_⟩
  simp
  exact h j hj
theorem find_none {n : Nat} {p : Nat → Bool} (h : ∀ j, j < n → p j = false) : (List.range n).find? p = none := by
  rw [List.find?_eq_none]
  intro x hx
  rw [h x (List.mem_range.1 hx)]
  decide
theorem nodesF_at {L : List ByteArray} (h : 1 ≤ L.length ∧ L.length ≤ 16) {i : Nat} (hi : i < L.length) (hj : ∀ j, j < i → badAt L j = 0) (hb : badAt L i ≠ 0) : nodesF L = (badAt L i, (i : Int)) := by
  unfold nodesF
  rw [if_pos h, find_first hi (fun j h1 => by simp [hj j h1]) (by simpa using hb)]
theorem nodesF_ok {L : List ByteArray} (h : 1 ≤ L.length ∧ L.length ≤ 16) (hj : ∀ j, j < L.length → badAt L j = 0) : nodesF L = (0, -1) := by
  unfold nodesF
  rw [if_pos h, find_none (fun j h1 => by simp [hj j h1])]
theorem badAt_name {L : List ByteArray} {i : Nat} (h : nameB (L[i]?.getD ⟨#[]⟩) = false) : badAt L i = 4 := by unfold badAt; rw [h]; rfl
theorem badAt_exist {L : List ByteArray} {i : Nat} (h : nameB (L[i]?.getD ⟨#[]⟩) = true) (hm : (L[i]?.getD ⟨#[]⟩) ∈ L.take i) : badAt L i = 6 := by unfold badAt; rw [if_pos h, if_pos hm]
theorem badAt_ok {L : List ByteArray} {i : Nat} (h : nameB (L[i]?.getD ⟨#[]⟩) = true) (hm : (L[i]?.getD ⟨#[]⟩) ∉ L.take i) : badAt L i = 0 := by unfold badAt; rw [if_pos h, if_neg hm]
theorem badAt_cases (L : List ByteArray) (i : Nat) : badAt L i = 0 ∨ badAt L i = 4 ∨ badAt L i = 6 := by
  unfold badAt
  split
  · split
    · exact .inr (.inr rfl)
    · exact .inl rfl
  · exact .inr (.inl rfl)
/-- what the check says of nodes that pass. -/
theorem nodesF_zero {L : List ByteArray} (h : (nodesF L).1 = 0) : (1 ≤ L.length ∧ L.length ≤ 16) ∧ L.Nodup ∧ (∀ s ∈ L, nameB s = true) ∧ nodesF L = (0, -1) := by
  by_cases hl : 1 ≤ L.length ∧ L.length ≤ 16
  · have hall : ∀ j, j < L.length → badAt L j = 0 := by
      unfold nodesF at h
      rw [if_pos hl] at h
      cases hf : (List.range L.length).find? (fun i => decide (badAt L i ≠ 0)) with
      | none =>
        rw [List.find?_eq_none] at hf
        intro j hj
        have := hf j (List.mem_range.2 hj)
        simpa using this
      | some i =>
        rw [hf] at h
        have := List.find?_some hf
        simp at this
        exact absurd h this
    have hn : ∀ j, j < L.length → nameB (L[j]?.getD ⟨#[]⟩) = true ∧ (L[j]?.getD ⟨#[]⟩) ∉ L.take j := fun j hj => by
      have h0 := hall j hj
      unfold badAt at h0
      split at h0
      · rename_i h1
        split at h0
        · cases h0
        · rename_i h2; exact ⟨h1, h2⟩
      · cases h0
    refine ⟨hl, ?_, fun s hs => ?_, nodesF_ok hl hall⟩
    · rw [List.nodup_iff_pairwise_ne, List.pairwise_iff_getElem]
      intro i j hi hj hij e
      have h1 := (hn j hj).2
      rw [List.getElem?_eq_getElem hj] at h1
      apply h1
      simp only [Option.getD_some]
      rw [← e]
      exact List.mem_take_iff_getElem.2 ⟨i, by omega, rfl⟩
    · obtain ⟨j, hj, rfl⟩ := List.getElem_of_mem hs
      have := (hn j hj).1
      rw [List.getElem?_eq_getElem hj] at this
      exact this
  · rw [nodesF_out hl] at h
    cases h
theorem nodesF_le (L : List ByteArray) : (nodesF L).1 ≤ 12 := by
  unfold nodesF
  split
  · split
    · rename_i i _
      rcases badAt_cases L i with h | h | h <;> simp [h]
    · decide
  · decide
/-- the index of a text in a list, -1: none. -/
def idxT (L : List ByteArray) (s : ByteArray) : Int := match (List.range L.length).find? (fun i => decide ((L[i]?.getD ⟨#[]⟩) = s)) with | some i => (i : Int) | none => -1
theorem idxT_at {L : List ByteArray} {s : ByteArray} {i : Nat} (hi : i < L.length) (hj : ∀ j, j < i → (L[j]?.getD ⟨#[]⟩) ≠ s) (h : (L[i]?.getD ⟨#[]⟩) = s) : idxT L s = (i : Int) := by
  unfold idxT
  rw [find_first hi (fun j h1 => by simp [hj j h1]) (by simpa using h)]
theorem idxT_none {L : List ByteArray} {s : ByteArray} (hj : ∀ j, j < L.length → (L[j]?.getD ⟨#[]⟩) ≠ s) : idxT L s = -1 := by
  unfold idxT
  rw [find_none (fun j h1 => by simp [hj j h1])]
theorem idxT_range (L : List ByteArray) (s : ByteArray) : -1 ≤ idxT L s ∧ idxT L s < L.length ∧ (0 ≤ idxT L s ↔ s ∈ L) := by
  by_cases h : ∃ i, i < L.length ∧ (L[i]?.getD ⟨#[]⟩) = s
  · unfold idxT
    cases hf : (List.range L.length).find? (fun i => decide ((L[i]?.getD ⟨#[]⟩) = s)) with
    | none =>
      rw [List.find?_eq_none] at hf
      obtain ⟨i, hi, he⟩ := h
      have := hf i (List.mem_range.2 hi)
      simp [he] at this
    | some i =>
      have h1 := List.find?_some hf
      have h2 := List.mem_range.1 (List.mem_of_find?_eq_some hf)
      simp only [decide_eq_true_eq] at h1
      rw [List.getElem?_eq_getElem h2] at h1
      simp only [Option.getD_some] at h1
      refine ⟨by simp only; omega, by simp only; omega, fun _ => h1 ▸ List.getElem_mem h2, fun _ => by simp only; omega⟩
  · have hn : ∀ j, j < L.length → (L[j]?.getD ⟨#[]⟩) ≠ s := fun j hj e => h ⟨j, hj, e⟩
    rw [idxT_none hn]
    refine ⟨by omega, by omega, fun h => by omega, fun hs => ?_⟩
    obtain ⟨j, hj, rfl⟩ := List.getElem_of_mem hs
    exact absurd (by rw [List.getElem?_eq_getElem hj]; rfl) (hn j hj)
theorem idxT_pos {L : List ByteArray} {s : ByteArray} : decide (0 ≤ idxT L s) = decide (s ∈ L) := by
  rw [decide_eq_decide]; exact (idxT_range L s).2.2

/-! ### members that two lists share -/
/-- any two lists of unlike members of a list of N have at least |a| + |b| - N members in common. -/
theorem shared {α : Type} [DecidableEq α] {l a b : List α} (hl : l.Nodup) (ha : a.Nodup) (hb : b.Nodup) (hal : ∀ x ∈ a, x ∈ l) (hbl : ∀ x ∈ b, x ∈ l) :
    a.length + b.length ≤ l.length + (l.filter (fun x => decide (x ∈ a) && decide (x ∈ b))).length := by
  have hfa : (l.filter (fun x => decide (x ∈ a))).length = a.length := by
    apply List.Perm.length_eq
    rw [List.perm_ext_iff_of_nodup (hl.filter _) ha]
    intro x
    simp
    exact fun h => hal x h
  have hfb : (l.filter (fun x => decide (x ∈ b))).length = b.length := by
    apply List.Perm.length_eq
    rw [List.perm_ext_iff_of_nodup (hl.filter _) hb]
    intro x
    simp
    exact fun h => hbl x h
  rw [← hfa, ← hfb]
  clear hfa hfb ha hb hal hbl hl
  induction l with
  | nil => simp
  | cons x r ih =>
    by_cases h1 : x ∈ a <;> by_cases h2 : x ∈ b <;> simp [h1, h2] <;> omega
end Go.Proofs.YtjhjpijjfpfjeaaGreatDoor
