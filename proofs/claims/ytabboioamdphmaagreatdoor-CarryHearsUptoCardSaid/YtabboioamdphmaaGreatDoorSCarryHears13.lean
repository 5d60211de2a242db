/- Plain: names of nodes and keys; what the check of nodes answers. -/
import GoSem.Op.String
import Derived.Laws.Strings
import Derived.Test.YtabboioamdphmaaGreatDoorSCarryHears01
import Derived.StillTailTactics
import Derived.Lib.QuietBelow
import Derived.Maps.AppendAt
import Derived.Laws.AppendOwnNone
import Derived.Deep.SlicePairs
namespace Go.Proofs.YtabboioamdphmaaGreatDoor

instance memText (s : ByteArray) (L : List ByteArray) : Decidable (s ∈ L) := decidable_of_iff (L.any (fun x => decide (x = s)) = true) (by simp)
def letterB (c : UInt8) : Bool := decide ((97 ≤ c.toNat ∧ c.toNat ≤ 122) ∨ (48 ≤ c.toNat ∧ c.toNat ≤ 57) ∨ c.toNat = 45)
def nameB (s : ByteArray) : Bool := decide (1 ≤ s.size ∧ s.size ≤ 16) && s.data.toList.all letterB
def badAt (L : List ByteArray) (i : Nat) : Nat := if nameB (L[i]?.getD ⟨#[]⟩) = true then (if (L[i]?.getD ⟨#[]⟩) ∈ L.take i then 6 else 0) else 4
def nodesF (L : List ByteArray) : Nat × Int :=
  if 1 ≤ L.length ∧ L.length ≤ 16 then
    match (List.range L.length).find? (fun i => decide (badAt L i ≠ 0)) with
    | some i => (badAt L i, (i : Int))
    | none => (0, -1)
  else (2, -1)
theorem nodesF_out {L : List ByteArray} (h : ¬ (1 ≤ L.length ∧ L.length ≤ 16)) : nodesF L = (2, -1) := if_neg h
theorem find_first {n i : Nat} {p : Nat → Bool} (hi : i < n) (h : ∀ j, j < i → p j = false) (hp : p i = true) : (List.range n).find? p = some i := by
  rw [List.find?_eq_some_iff_getElem]
  refine ⟨hp, i, by simpa using hi, by simp, fun j hj => ?_⟩
  simp
  exact h j hj
theorem find_none {n : Nat} {p : Nat → Bool} (h : ∀ j, j < n → p j = false) : (List.range n).find? p = none := by
  rw [List.find?_eq_none]
  intro x hx
  rw [h x (List.mem_range.1 hx)]
  decide
theorem nodesF_at {L : List ByteArray} (h : 1 ≤ L.length ∧ L.length ≤ 16) {i : Nat} (hi : i < L.length) (hj : ∀ j, j < i → badAt L j = 0) (hb : badAt L i ≠ 0) : nodesF L = (badAt L i, (i : Int)) := by
  unfold nodesF
  rw [if_pos h, find_first hi (fun j h1 => by simp [hj j h1]) (by simpa using hb)]
theorem nodesF_ok {L : List ByteArray} (h : 1 ≤ L.length ∧ L.length ≤ 16) (hj : ∀ j, j < L.length → badAt L j = 0) : nodesF L = (0, -1) := by
  unfold nodesF
  rw [if_pos h, find_none (fun j h1 => by simp [hj j h1])]
theorem badAt_name {L : List ByteArray} {i : Nat} (h : nameB (L[i]?.getD ⟨#[]⟩) = false) : badAt L i = 4 := by unfold badAt; rw [h]; rfl
theorem badAt_exist {L : List ByteArray} {i : Nat} (h : nameB (L[i]?.getD ⟨#[]⟩) = true) (hm : (L[i]?.getD ⟨#[]⟩) ∈ L.take i) : badAt L i = 6 := by unfold badAt; rw [if_pos h, if_pos hm]
theorem badAt_ok {L : List ByteArray} {i : Nat} (h : nameB (L[i]?.getD ⟨#[]⟩) = true) (hm : (L[i]?.getD ⟨#[]⟩) ∉ L.take i) : badAt L i = 0 := by unfold badAt; rw [if_pos h, if_neg hm]
theorem nodesF_zero {L : List ByteArray} (h : (nodesF L).1 = 0) : (1 ≤ L.length ∧ L.length ≤ 16) ∧ L.Nodup ∧ (∀ s ∈ L, nameB s = true) ∧ nodesF L = (0, -1) := by
  by_cases hl : 1 ≤ L.length ∧ L.length ≤ 16
  · have hall : ∀ j, j < L.length → badAt L j = 0 := by
      unfold nodesF at h
      rw [if_pos hl] at h
      cases hf : (List.range L.length).find? (fun i => decide (badAt L i ≠ 0)) with
      | none =>
        rw [List.find?_eq_none] at hf
        intro j hj
        have := hf j (List.mem_range.2 hj)
        simpa using this
      | some i =>
        rw [hf] at h
        have := List.find?_some hf
        simp at this
        exact absurd h this
    have hn : ∀ j, j < L.length → nameB (L[j]?.getD ⟨#[]⟩) = true ∧ (L[j]?.getD ⟨#[]⟩) ∉ L.take j := fun j hj => by
      have h0 := hall j hj
      unfold badAt at h0
      split at h0
      · rename_i h1
        split at h0
        · cases h0
        · rename_i h2; exact ⟨h1, h2⟩
      · cases h0
    refine ⟨hl, ?_, fun s hs => ?_, nodesF_ok hl hall⟩
    · rw [List.nodup_iff_pairwise_ne, List.pairwise_iff_getElem]
      intro i j hi hj hij e
      have h1 := (hn j hj).2
      rw [List.getElem?_eq_getElem hj] at h1
      apply h1
      simp only [Option.getD_some]
      rw [← e]
      exact List.mem_take_iff_getElem.2 ⟨i, by omega, rfl⟩
    · obtain ⟨j, hj, rfl⟩ := List.getElem_of_mem hs
      have := (hn j hj).1
      rw [List.getElem?_eq_getElem hj] at this
      exact this
  · rw [nodesF_out hl] at h
    cases h
def idxT (L : List ByteArray) (s : ByteArray) : Int := match (List.range L.length).find? (fun i => decide ((L[i]?.getD ⟨#[]⟩) = s)) with | some i => (i : Int) | none => -1
theorem idxT_at {L : List ByteArray} {s : ByteArray} {i : Nat} (hi : i < L.length) (hj : ∀ j, j < i → (L[j]?.getD ⟨#[]⟩) ≠ s) (h : (L[i]?.getD ⟨#[]⟩) = s) : idxT L s = (i : Int) := by
  unfold idxT
  rw [find_first hi (fun j h1 => by simp [hj j h1]) (by simpa using h)]
theorem idxT_none {L : List ByteArray} {s : ByteArray} (hj : ∀ j, j < L.length → (L[j]?.getD ⟨#[]⟩) ≠ s) : idxT L s = -1 := by
  unfold idxT
  rw [find_none (fun j h1 => by simp [hj j h1])]
theorem idxT_range (L : List ByteArray) (s : ByteArray) : -1 ≤ idxT L s ∧ idxT L s < L.length ∧ (0 ≤ idxT L s ↔ s ∈ L) := by
  by_cases h : ∃ i, i < L.length ∧ (L[i]?.getD ⟨#[]⟩) = s
  · unfold idxT
    cases hf : (List.range L.length).find? (fun i => decide ((L[i]?.getD ⟨#[]⟩) = s)) with
    | none =>
      rw [List.find?_eq_none] at hf
      obtain ⟨i, hi, he⟩ := h
      have := hf i (List.mem_range.2 hi)
      simp [he] at this
    | some i =>
      have h1 := List.find?_some hf
      have h2 := List.mem_range.1 (List.mem_of_find?_eq_some hf)
      simp only [decide_eq_true_eq] at h1
      rw [List.getElem?_eq_getElem h2] at h1
      simp only [Option.getD_some] at h1
      refine ⟨by simp only; omega, by simp only; omega, fun _ => h1 ▸ List.getElem_mem h2, fun _ => by simp only; omega⟩
  · have hn : ∀ j, j < L.length → (L[j]?.getD ⟨#[]⟩) ≠ s := fun j hj e => h ⟨j, hj, e⟩
    rw [idxT_none hn]
    refine ⟨by omega, by omega, fun h => by omega, fun hs => ?_⟩
    obtain ⟨j, hj, rfl⟩ := List.getElem_of_mem hs
    exact absurd (by rw [List.getElem?_eq_getElem hj]; rfl) (hn j hj)
theorem idxT_pos {L : List ByteArray} {s : ByteArray} : decide (0 ≤ idxT L s) = decide (s ∈ L) := by
  rw [decide_eq_decide]; exact (idxT_range L s).2.2

/-! ### members that two lists share -/
end Go.Proofs.YtabboioamdphmaaGreatDoor
/- Plain: the ring: nodes in the order of their first points behind a key's place. -/
namespace Go.Proofs.YtabboioamdphmaaGreatDoor.Rg

def tlt (a b : ByteArray) : Bool := Op.bytesLess a.toList b.toList
theorem bytesLess_is : ∀ (x y : List UInt8), Op.bytesLess x y = decide (x < y)
  | x, [] => by cases x <;> simp [Op.bytesLess]
  | [], b :: y => by simp [Op.bytesLess]
  | a :: x, b :: y => by
    rw [Op.bytesLess, bytesLess_is x y, Bool.eq_iff_iff]
    simp [List.cons_lt_cons_iff]
theorem tlt_iff (a b : ByteArray) : tlt a b = true ↔ a.toList < b.toList := by unfold tlt; rw [bytesLess_is]; simp
theorem toList_inj {a b : ByteArray} (h : a.toList = b.toList) : a = b := by
  rw [ByteArray.toList_eq, ByteArray.toList_eq] at h
  obtain ⟨a⟩ := a
  obtain ⟨b⟩ := b
  exact congrArg ByteArray.mk (Array.toList_inj.1 h)
theorem tlt_irrefl (a : ByteArray) : tlt a a = false := by
  rw [Bool.eq_false_iff, Ne, tlt_iff]; exact List.lt_irrefl _
theorem tlt_trans {a b c : ByteArray} (h1 : tlt a b = true) (h2 : tlt b c = true) : tlt a c = true := by
  rw [tlt_iff] at *; exact List.lt_trans h1 h2
def sh (h a : Nat) : Nat := if a < h then a + 4294967296 else a
def mini (f : Nat → Nat) : Nat → Nat
  | 0 => f 0
  | k + 1 => min (mini f k) (f (k + 1))
section
variable (H : ByteArray → Nat → Nat) (h : Nat)
def m8 (s : ByteArray) : Nat := mini (fun k => sh h (H s k)) 7
def nlt (s t : ByteArray) : Prop := m8 H h s < m8 H h t ∨ (m8 H h s = m8 H h t ∧ tlt s t = true)
def IsPref (L O : List ByteArray) : Prop := O.Perm L ∧ O.Pairwise (nlt H h)
end
variable {H : ByteArray → Nat → Nat} {h : Nat}
theorem nlt_irrefl (s : ByteArray) : ¬ nlt H h s s := by
  unfold nlt
  rintro (h1 | ⟨_, h1⟩)
  · omega
  · rw [tlt_irrefl] at h1; cases h1
theorem nlt_trans {a b c : ByteArray} (h1 : nlt H h a b) (h2 : nlt H h b c) : nlt H h a c := by
  unfold nlt at *
  rcases h1 with h1 | ⟨h1, t1⟩ <;> rcases h2 with h2 | ⟨h2, t2⟩
  · left; omega
  · left; omega
  · left; omega
  · right; exact ⟨by omega, tlt_trans t1 t2⟩
theorem nlt_asymm {a b : ByteArray} (h1 : nlt H h a b) : ¬ nlt H h b a := fun h2 => nlt_irrefl a (nlt_trans h1 h2)
theorem sorted_eq {α : Type} {r : α → α → Prop} (hr : ∀ a b, r a b → ¬ r b a) : ∀ {l m : List α}, l.Perm m → l.Pairwise r → m.Pairwise r → l = m
  | [], m, hp, _, _ => (List.nil_perm.1 hp).symm
  | a :: l, [], hp, _, _ => by have := hp.length_eq; simp at this
  | a :: l, b :: m, hp, h1, h2 => by
    have e : a = b := by
      have ha : a ∈ b :: m := hp.mem_iff.1 (by simp)
      have hb : b ∈ a :: l := hp.mem_iff.2 (by simp)
      rcases List.mem_cons.1 ha with rfl | ha
      · rfl
      rcases List.mem_cons.1 hb with rfl | hb
      · rfl
      exact absurd ((List.pairwise_cons.1 h2).1 a ha) (hr _ _ ((List.pairwise_cons.1 h1).1 b hb))
    subst e
    rw [sorted_eq hr (List.Perm.cons_inv hp) (List.pairwise_cons.1 h1).2 (List.pairwise_cons.1 h2).2]
abbrev Pt := Nat × ByteArray × Nat
structure Inv (H : ByteArray → Nat → Nat) (h : Nat) (R : List Pt) (out : List ByteArray) : Prop where
  nd : out.Nodup
  mem : ∀ s, s ∈ out ↔ ∃ p ∈ R, p.2.1 = s
  srt : out.Pairwise (nlt H h)
/-! ### the order of the program's points -/
/-! ### the document's choice -/
/-! ### one node more -/
theorem filter_prefix {α : Type} {l m : List α} (p : α → Bool) (hp : l <+: m) : l.filter p <+: m.filter p := by
  obtain ⟨t, rfl⟩ := hp
  rw [List.filter_append]
  exact List.prefix_append _ _
theorem comes {L O O' : List ByteArray} {x : ByteArray} (h1 : IsPref H h L O) (h2 : IsPref H h (L ++ [x]) O') (hn : (L ++ [x]).Nodup) (n : Nat) :
    n - 1 ≤ ((O'.take n).filter (fun s => decide (s ≠ x))).length + (n - O'.length) ∧ (O'.take n).filter (fun s => decide (s ≠ x)) = (O.take n).take ((O'.take n).filter (fun s => decide (s ≠ x))).length := by
  have hx : x ∉ L := by
    rw [List.nodup_append] at hn
    exact fun hm => hn.2.2 x hm x (by simp) rfl
  have e : O'.filter (fun s => decide (s ≠ x)) = O := by
    have hf : (L ++ [x]).filter (fun s => decide (s ≠ x)) = L := by
      rw [List.filter_append, List.filter_eq_self.2 (fun a ha => by simpa using fun e : a = x => hx (e ▸ ha))]
      simp
    refine sorted_eq (fun _ _ a => nlt_asymm a) ?_ (h2.2.filter _) h1.2
    have := h2.1.filter (fun s => decide (s ≠ x))
    rw [hf] at this
    exact this.trans h1.1.symm
  have hpre := filter_prefix (fun s => decide (s ≠ x)) (List.take_prefix n O')
  rw [e] at hpre
  have hle : ((O'.take n).filter (fun s => decide (s ≠ x))).length ≤ n := Nat.le_trans (List.length_filter_le _ _) (List.length_take_le _ _)
  refine ⟨?_, ?_⟩
  · have hnd : (O'.take n).Nodup := ((h2.1.nodup_iff).2 hn).sublist (List.take_sublist _ _)
    have hc : (O'.take n).length ≤ ((O'.take n).filter (fun s => decide (s ≠ x))).length + 1 := by
      generalize O'.take n = l at hnd
      clear hpre hle e
      induction l with
      | nil => simp
      | cons a r ih =>
        have hr := (List.nodup_cons.1 hnd)
        by_cases ha : a = x
        · subst ha
          have : r.filter (fun s => decide (s ≠ a)) = r := List.filter_eq_self.2 (fun b hb => by simpa using fun e : b = a => hr.1 (e ▸ hb))
          rw [List.filter_cons, if_neg (by simp), this]
          simp
        · have := ih hr.2
          rw [List.filter_cons, if_pos (by simpa using ha)]
          simp only [List.length_cons]
          omega
    rw [List.length_take] at hc
    omega
  · rw [List.take_take, Nat.min_eq_left hle]
    exact List.prefix_iff_eq_take.1 hpre
end Go.Proofs.YtabboioamdphmaaGreatDoor.Rg
/- Walks: cmp.Compare, cmp.Or of three. -/
namespace Go.Proofs.YtabboioamdphmaaGreatDoor
open Go.RowKit

def cmpI (x y : Int) : Int := if x < y then -1 else if y < x then 1 else 0
theorem nanI_walk (x : Int) (w : World) : Calls Tryz.prog 133 #[.int .i64 x] w fun e w' => e = .returned (.bool false) ∧ w = w' := by
  go_enter Tryz.func133, Tryz.ntmps133
  go_wp2
  go_ret
  exact ⟨by simp, rfl⟩
set_option maxHeartbeats 1000000 in
theorem cmpi_walk (x y : Int) (w : World) : Calls Tryz.prog 117 #[.int .i64 x, .int .i64 y] w fun e w' => e = .returned (.int .i64 (cmpI x y)) ∧ w = w' := by
  have H := Lib.hid (fun x => nanI_walk x w)
  rcases (show x < y ∨ (¬ x < y ∧ y < x) ∨ (¬ x < y ∧ ¬ y < x) by omega) with h1 | ⟨h1, h2⟩ | ⟨h1, h2⟩
  case' inl => rw [show cmpI x y = -1 from if_pos h1]
  case' inr.inl => rw [show cmpI x y = 1 from (if_neg h1).trans (if_pos h2)]
  case' inr.inr => rw [show cmpI x y = 0 from (if_neg h1).trans (if_neg h2)]
  all_goals
    go_enter Tryz.func117, Tryz.ntmps117
    go_wp2_with fail
    refine (H.out x).mono ?_
    rintro e w' ⟨rfl, rfl⟩
    go_wp2_with fail
    refine (H.out y).mono ?_
    rintro e w' ⟨rfl, rfl⟩
    go_wp2
    go_ret
    exact ⟨rfl, rfl⟩
end Go.Proofs.YtabboioamdphmaaGreatDoor
/- Walks: the order of two tags: hold.order, hold.Less, the document's Less. -/
namespace Go.Proofs.YtabboioamdphmaaGreatDoor
open Go.RowKit

def or2 (a b : Int) : Int := if a ≠ 0 then a else b
set_option maxRecDepth 100000 in
set_option maxHeartbeats 1000000 in
theorem or2_walk (g : Nat) (f : Nat → Int) (w : World) (hc : ∀ j, j < 2 → w.cell? ⟨g, j, none⟩ = some (.int .i64 (f j))) :
    Calls Tryz.prog 116 #[.slice (some ⟨g, 0, none⟩) 2 2] w fun e w' => e = .returned (.int .i64 (or2 (f 0) (f 1))) ∧ w = w' := by
  have Hc := Lib.hid hc
  obtain ⟨r, hr⟩ : ∃ r, or2 (f 0) (f 1) = r := ⟨_, rfl⟩
  have Hr := Lib.hid hr
  rw [hr]
  clear hc hr
  go_enter Tryz.func116, Tryz.ntmps116
  go_wp2
  go_loop [8] (fun vi => ∃ i : Nat, i ≤ 2 ∧ vi = .int .i64 i ∧ Hid (∀ j, j < i → f j = 0)) (fun i => 2 - (intOf i).toNat)
  case atStart => exact ⟨0, by omega, rfl, Lib.hid (fun j hj => by omega)⟩
  case round =>
    obtain ⟨i, hi, rfl, Hj⟩ := hrel
    have hi2 : i < 2 ∨ i = 2 := by omega
    rcases hi2 with hlt | rfl
    · have hlt2 : (i : Int) < 2 := by omega
      have h1 := Hc.out i hlt
      obtain ⟨x, hx⟩ : ∃ x, f i = x := ⟨_, rfl⟩
      rw [hx] at h1
      have Hx := Lib.hid hx
      clear hx
      by_cases h0 : x = 0
      · subst h0
        go_wp2
        go_round
        case rel => exact ⟨i + 1, by omega, by go_num, Lib.hid (fun j hj => by
          by_cases e : j = i
          · rw [e, Hx.out]
          · exact Hj.out j (by omega))⟩
        case measure => simp [intOf]; omega
      · have e1 : (x == 0) = false := by simpa using h0
        have hrx : x = r := by
          rw [← Hr.out, ← Hx.out]
          have h9 := Hj.out
          have h8 := Hx.out
          unfold or2
          rcases (show i = 0 ∨ i = 1 by omega) with rfl | rfl
          · rw [if_pos (by rw [h8]; exact h0)]
          · rw [if_neg (by rw [h9 0 (by omega)]; decide)]
        subst hrx
        clear h0
        go_wp2
        go_ret
        exact ⟨rfl, rfl⟩
    · have hr0 : r = 0 := by
        rw [← Hr.out]
        have h9 := Hj.out
        unfold or2
        rw [if_neg (by rw [h9 0 (by omega)]; decide), h9 1 (by omega)]
      subst hr0
      go_wp2
      go_ret
      exact ⟨rfl, rfl⟩
def tagO (n1 w1 n2 w2 : Int) : Int := or2 (cmpI n1 n2) (cmpI w1 w2)
def tagLt (n1 w1 n2 w2 : Int) : Bool := decide (n1 < n2 ∨ (n1 = n2 ∧ w1 < w2))
theorem cmpI_sgn (x y : Int) : (cmpI x y < 0 ↔ x < y) ∧ (cmpI x y = 0 ↔ x = y) := by
  unfold cmpI
  by_cases h1 : x < y
  · rw [if_pos h1]; omega
  · rw [if_neg h1]
    by_cases h2 : y < x
    · rw [if_pos h2]; omega
    · rw [if_neg h2]; omega
theorem tagO_lt (n1 w1 n2 w2 : Int) : decide (tagO n1 w1 n2 w2 < 0) = tagLt n1 w1 n2 w2 := by
  obtain ⟨a1, a2⟩ := cmpI_sgn n1 n2
  obtain ⟨b1, b2⟩ := cmpI_sgn w1 w2
  unfold tagLt tagO or2
  rw [decide_eq_decide]
  by_cases h : cmpI n1 n2 = 0
  · rw [if_neg (by simpa using h), b1]
    have := a2.1 h
    omega
  · rw [if_pos h, a1]
    have : n1 ≠ n2 := fun e => h (a2.2 e)
    omega
def tagV (n w : Int) : Value := .agg #[.int .i64 n, .int .i64 w]
set_option maxRecDepth 100000 in
set_option maxHeartbeats 2000000 in
theorem order_walk (n1 w1 n2 w2 : Int) (w : World) :
    Calls Tryz.prog 98 #[tagV n1 w1, tagV n2 w2] w fun e w' => e = .returned (.int .i64 (tagO n1 w1 n2 w2)) ∧ ∃ q os', w' = Go.Sort.grow (w.drewN q) os' := by
  have h1 := Lib.hid (fun W => (cmpi_walk n1 n2 W).mono fun e w' h => And.intro h.1 h.2.symm)
  have h2 := Lib.hid (fun W => (cmpi_walk w1 w2 W).mono fun e w' h => And.intro h.1 h.2.symm)
  unfold tagO
  generalize cmpI n1 n2 = c1 at *
  generalize cmpI w1 w2 = c2 at *
  show Calls Tryz.prog 98 #[.agg #[.int .i64 n1, .int .i64 w1], .agg #[.int .i64 n2, .int .i64 w2]] w _
  obtain ⟨W, hW⟩ : ∃ W, (w.alloc (.cells #[.int .i64 n1, .int .i64 w1] 44)).alloc (.cells #[.int .i64 n2, .int .i64 w2] 44) = W := ⟨_, rfl⟩
  have ha : ∀ j, W.cell? ⟨w.heap.size, j, none⟩ = (#[.int .i64 n1, .int .i64 w1] : Array Value)[j]? := fun j => by
    rw [← hW, World.cell?_alloc_lt _ _ _ (by simp), World.cell?_alloc_at _ _ _ _ rfl]
  have hb : ∀ j, W.cell? ⟨w.heap.size + 1, j, none⟩ = (#[.int .i64 n2, .int .i64 w2] : Array Value)[j]? := fun j => by
    rw [← hW, World.cell?_alloc_at _ _ _ _ (by simp)]
  have x0 := ha 0
  have x1 := ha 1
  have y0 := hb 0
  have y1 := hb 1
  simp at x0 x1 y0 y1
  have HW := Lib.hid hW
  obtain ⟨b, hb0⟩ : ∃ b, w.heap.size = b := ⟨_, rfl⟩
  rw [hb0] at x0 x1 y0 y1
  have Hb := Lib.hid hb0
  clear ha hb hW hb0
  go_enter Tryz.func98, Tryz.ntmps98
  go_wp2
  rw [HW.out, Hb.out]
  refine wp_region_still_tail 10 (by kernel_rfl) (by kernel_rfl) ?_
  simp only [List.take_succ_cons, List.take_zero, List.drop_succ_cons, List.drop_zero]
  repeat still_step
  still_call (h1.out _)
  repeat still_step
  still_call (h2.out _)
  repeat still_step
  refine wpStill_nil ?_
  clear x0 x1 y0 y1
  change wpList _ _ _ _ _ W.drew
  have Ho := Lib.hid (or2_walk W.heap.size (fun j => if j = 0 then c1 else c2) (W.drew.alloc (.cells #[.int .i64 c1, .int .i64 c2] 3)) (fun j hj => by
    have e : W.heap.size = W.drew.heap.size := rfl
    rw [e, World.cell?_alloc_at _ _ _ _ rfl]
    rcases (show j = 0 ∨ j = 1 by omega) with rfl | rfl <;> rfl))
  have hfin : ∃ q os', W.drew.alloc (.cells #[.int .i64 c1, .int .i64 c2] 3) = Go.Sort.grow (w.drewN q) os' := by
    rw [← HW.out]
    refine ⟨1, #[.cells #[.int .i64 n1, .int .i64 w1] 44] ++ #[.cells #[.int .i64 n2, .int .i64 w2] 44] ++ #[.cells #[.int .i64 c1, .int .i64 c2] 3], ?_⟩
    rw [Go.Sort.alloc_eq_grow, Go.Sort.alloc_eq_grow, Go.Sort.alloc_eq_grow, Go.Sort.grow_grow, Go.Sort.drew_grow, Go.Sort.grow_grow]
    rfl
  have HF := Lib.hid hfin
  clear hfin
  go_wp2_with fail
  refine Ho.out.mono ?_
  rintro e w' ⟨rfl, rfl⟩
  go_wp2
  go_ret
  exact ⟨rfl, HF.out⟩
theorem below_grow {B : Nat} {w w' : World} (hB : B ≤ w.heap.size) (h : ∃ q os', w' = Go.Sort.grow (w.drewN q) os') : Below B w w' := by
  obtain ⟨q, os', rfl⟩ := h
  refine ⟨rfl, rfl, rfl, ?_, fun k hk => ?_⟩
  · show w.heap.size ≤ (w.heap ++ os').size
    simp
  · show (w.heap ++ os')[k]? = w.heap[k]?
    rw [Array.getElem?_append, if_pos (by omega)]
set_option maxRecDepth 100000 in
set_option maxHeartbeats 1000000 in
theorem less_walk (n1 w1 n2 w2 : Int) (w : World) :
    Calls Tryz.prog 70 #[.agg #[.int .i64 n1, .int .i64 w1], .agg #[.int .i64 n2, .int .i64 w2]] w fun e w' => e = .returned (.bool (tagLt n1 w1 n2 w2)) ∧ Below w.heap.size w w' := by
  have Ho := Lib.hid (fun W => order_walk n1 w1 n2 w2 W)
  have hlt := tagO_lt n1 w1 n2 w2
  obtain ⟨r, hr⟩ : ∃ r, tagLt n1 w1 n2 w2 = r := ⟨_, rfl⟩
  obtain ⟨o, ho⟩ : ∃ o, tagO n1 w1 n2 w2 = o := ⟨_, rfl⟩
  rw [hr] at hlt ⊢
  rw [ho] at hlt Ho
  unfold tagV at Ho
  have hB : Below w.heap.size w ((w.alloc (.cells #[.int .i64 n1, .int .i64 w1] 44)).alloc (.cells #[.int .i64 n2, .int .i64 w2] 44)) := ((Below.refl _ w).alloc (Nat.le_refl _) _).alloc (by simp) _
  have HB := Lib.hid hB
  have Hlt := Lib.hid hlt
  clear hlt hB ho hr
  go_enter Tryz.func70, Tryz.ntmps70
  go_wp2_with fail
  refine (Ho.out _).mono ?_
  rintro e w' ⟨rfl, hg⟩
  have Hg := Lib.hid (HB.out.trans ((below_grow (Nat.le_refl _) hg).mono HB.out.size))
  clear hg
  have hlt := Hlt.out
  go_wp2
  go_ret
  exact ⟨by simp [← hlt], Hg.out⟩
set_option maxRecDepth 100000 in
set_option maxHeartbeats 1000000 in
theorem rless_walk (n1 w1 n2 w2 : Int) (w : World) :
    Calls Tryz.prog 74 #[.agg #[.int .i64 n1, .int .i64 w1], .agg #[.int .i64 n2, .int .i64 w2]] w fun e w' => e = .returned (.bool (tagLt n1 w1 n2 w2)) ∧ Below w.heap.size w w' := by
  have hB : Below w.heap.size w ((w.alloc (.cells #[.int .i64 n1, .int .i64 w1] 44)).alloc (.cells #[.int .i64 n2, .int .i64 w2] 44)) := ((Below.refl _ w).alloc (Nat.le_refl _) _).alloc (by simp) _
  have HB := Lib.hid hB
  clear hB
  by_cases h1 : n1 < n2
  · rw [show tagLt n1 w1 n2 w2 = true from decide_eq_true (.inl h1)]
    go_enter Tryz.func74, Tryz.ntmps74
    go_wp2
    go_ret
    exact ⟨rfl, HB.out⟩
  · by_cases h2 : n1 = n2
    · subst h2
      by_cases h3 : w1 < w2
      · rw [show tagLt n1 w1 n1 w2 = true from decide_eq_true (.inr ⟨rfl, h3⟩)]
        go_enter Tryz.func74, Tryz.ntmps74
        go_wp2
        go_ret
        exact ⟨by simp, HB.out⟩
      · rw [show tagLt n1 w1 n1 w2 = false from decide_eq_false (by omega)]
        go_enter Tryz.func74, Tryz.ntmps74
        go_wp2
        go_ret
        exact ⟨by simp, HB.out⟩
    · rw [show tagLt n1 w1 n2 w2 = false from decide_eq_false (by omega)]
      have e1 : (n1 == n2) = false := by simpa using h2
      go_enter Tryz.func74, Tryz.ntmps74
      go_wp2
      go_ret
      exact ⟨by simp, HB.out⟩
end Go.Proofs.YtabboioamdphmaaGreatDoor
/- The walks of hold.Tag, the document's IsTag. -/
namespace Go.Proofs.YtabboioamdphmaaGreatDoor
section
open Go.RowKit

def tagB (n m : Int) : Bool := decide (0 ≤ n ∧ n ≤ 1099511627776 ∧ 0 ≤ m ∧ m ≤ 1099511627776)
set_option maxRecDepth 100000 in
set_option maxHeartbeats 2000000 in
theorem tagb_walk (n m : Int) (w : World) :
    Calls Tryz.prog 80 #[.agg #[.int .i64 n, .int .i64 m]] w fun e w' => e = .returned (.bool (tagB n m)) ∧ Below w.heap.size w w' := by
  have hB : Below w.heap.size w (w.alloc (.cells #[.int .i64 n, .int .i64 m] 44)) := (Below.refl _ w).alloc (Nat.le_refl _) _
  have HB := Lib.hid hB
  clear hB
  have hcs : (¬ 0 ≤ n ∧ tagB n m = false) ∨ (0 ≤ n ∧ ¬ n ≤ 1099511627776 ∧ tagB n m = false) ∨ (0 ≤ n ∧ n ≤ 1099511627776 ∧ ¬ 0 ≤ m ∧ tagB n m = false) ∨ (0 ≤ n ∧ n ≤ 1099511627776 ∧ 0 ≤ m ∧ ¬ m ≤ 1099511627776 ∧ tagB n m = false) ∨ (0 ≤ n ∧ n ≤ 1099511627776 ∧ 0 ≤ m ∧ m ≤ 1099511627776 ∧ tagB n m = true) := by
    unfold tagB
    simp only [decide_eq_false_iff_not, decide_eq_true_eq]
    omega
  rcases hcs with ⟨h1, hr⟩ | ⟨h1, h2, hr⟩ | ⟨h1, h2, h3, hr⟩ | ⟨h1, h2, h3, h4, hr⟩ | ⟨h1, h2, h3, h4, hr⟩
  all_goals
    rw [hr]
    clear hr
    go_enter Tryz.func80, Tryz.ntmps80
    go_wp2
    go_ret
    exact ⟨by simp, HB.out⟩
set_option maxRecDepth 100000 in
set_option maxHeartbeats 2000000 in
theorem rtag_walk (n m : Int) (w : World) :
    Calls Tryz.prog 130 #[.agg #[.int .i64 n, .int .i64 m]] w fun e w' => e = .returned (.bool (tagB n m)) ∧ Below w.heap.size w w' := by
  have hB : Below w.heap.size w (w.alloc (.cells #[.int .i64 n, .int .i64 m] 44)) := (Below.refl _ w).alloc (Nat.le_refl _) _
  have HB := Lib.hid hB
  clear hB
  have hcs : (¬ 0 ≤ n ∧ tagB n m = false) ∨ (0 ≤ n ∧ ¬ n ≤ 1099511627776 ∧ tagB n m = false) ∨ (0 ≤ n ∧ n ≤ 1099511627776 ∧ ¬ 0 ≤ m ∧ tagB n m = false) ∨ (0 ≤ n ∧ n ≤ 1099511627776 ∧ 0 ≤ m ∧ ¬ m ≤ 1099511627776 ∧ tagB n m = false) ∨ (0 ≤ n ∧ n ≤ 1099511627776 ∧ 0 ≤ m ∧ m ≤ 1099511627776 ∧ tagB n m = true) := by
    unfold tagB
    simp only [decide_eq_false_iff_not, decide_eq_true_eq]
    omega
  rcases hcs with ⟨h1, hr⟩ | ⟨h1, h2, hr⟩ | ⟨h1, h2, h3, hr⟩ | ⟨h1, h2, h3, h4, hr⟩ | ⟨h1, h2, h3, h4, hr⟩
  all_goals
    rw [hr]
    clear hr
    go_enter Tryz.func130, Tryz.ntmps130
    go_wp2
    go_ret
    exact ⟨by simp, HB.out⟩
end
end Go.Proofs.YtabboioamdphmaaGreatDoor
/- Slices of versions: that are read, and that are the call's own. -/
namespace Go.Proofs.YtabboioamdphmaaGreatDoor
open Go.RowKit

abbrev Ver := Int × Int × Int × Int × ByteArray
def ver0 : Ver := (0, 0, 0, 0, ⟨#[]⟩)
def encVr (x : Ver) : List Value := [.int .i64 x.1, .int .i64 x.2.1, .int .i64 x.2.2.1, .int .i64 x.2.2.2.1, .string x.2.2.2.2]
def vrV : List Ver → List Value
  | [] => []
  | x :: r => encVr x ++ vrV r
theorem vrV_append : ∀ (a b : List Ver), vrV (a ++ b) = vrV a ++ vrV b
  | [], _ => rfl
  | x :: r, b => by show encVr x ++ vrV (r ++ b) = (encVr x ++ vrV r) ++ vrV b; rw [vrV_append r b, List.append_assoc]
theorem vrV_length : ∀ l : List Ver, (vrV l).length = l.length * 5
  | [] => rfl
  | x :: r => by
    show (encVr x ++ vrV r).length = (r.length + 1) * 5
    rw [List.length_append, vrV_length r]
    show 5 + _ = _
    omega
theorem vrV_at : ∀ (l : List Ver) (i j : Nat), i < l.length → j < 5 → (vrV l)[i * 5 + j]? = (encVr (l[i]?.getD ver0))[j]?
  | [], _, _, h, _ => by simp at h
  | x :: r, 0, j, _, hj => by
    show (encVr x ++ vrV r)[0 * 5 + j]? = _
    rw [List.getElem?_append_left (by show 0 * 5 + j < 5; omega)]
    simp
  | x :: r, i + 1, j, h, hj => by
    show (encVr x ++ vrV r)[(i + 1) * 5 + j]? = _
    rw [List.getElem?_append_right (by show 5 ≤ (i + 1) * 5 + j; omega)]
    have := vrV_at r i j (by simpa using h) hj
    have e : (i + 1) * 5 + j - (encVr x).length = i * 5 + j := by show (i + 1) * 5 + j - 5 = _; omega
    rw [e, this]
    simp
theorem vrV_one : ∀ (l : List Ver), ∀ u ∈ vrV l, u.oneCell' = true
  | [], _, h => by cases h
  | x :: r, u, h => by
    rcases List.mem_append.1 (show u ∈ encVr x ++ vrV r from h) with h | h
    · simp [encVr] at h
      rcases h with rfl | rfl | rfl | rfl | rfl <;> rfl
    · exact vrV_one r u h
def OwnV (B : Nat) (w : World) (v : Value) (l : List Ver) : Prop := w.ownsRow B 76 5 v l.length (vrV l)
theorem OwnV.nil (B : Nat) (w : World) : OwnV B w (.slice none 0 0) [] := World.ownsRow_nil _ _ _ _
theorem OwnV.lt {B : Nat} {w : World} {v : Value} {l : List Ver} (h : OwnV B w v l) : ∀ k, v.ownBlock = some k → B ≤ k ∧ k < w.heap.size := World.ownsRow.lt h
theorem OwnV.kept {B : Nat} {w w' : World} {row : Option Nat} {v : Value} {l : List Ver} (h : OwnV B w v l) (hg : w.grownBy w' row) (hne : v.ownBlock = none ∨ v.ownBlock ≠ row) : OwnV B w' v l := World.ownsRow.kept h hg hne
theorem OwnV.below {B n₀ : Nat} {w w' : World} {v : Value} {l : List Ver} (h : OwnV B w v l) (hb : Below n₀ w w') (hn : w.heap.size ≤ n₀) : OwnV B w' v l :=
  OwnV.kept (row := none) h ⟨hb.os, hb.tape, hb.output, hb.size, fun k hk _ => hb.block k (by omega)⟩ (by cases v.ownBlock <;> simp)
theorem OwnV.lower {B B' : Nat} {w : World} {v : Value} {l : List Ver} (h : OwnV B w v l) (hB : B' ≤ B) : OwnV B' w v l := by
  unfold OwnV World.ownsRow at *
  refine ⟨h.1, ?_⟩
  rcases h.2 with h2 | ⟨g, cap, cur, e, hb, h3⟩
  · exact .inl h2
  · exact .inr ⟨g, cap, cur, e, Nat.le_trans hB hb, h3⟩
theorem info_version : (Tryz.prog.info? 76).map (fun i => (i.zero, i.size, i.bytes)) = some (some (.agg #[.int .i64 0, .int .i64 0, .int .i64 0, .int .i64 0, .string ⟨#[]⟩]), 5, 48) := by kernel_rfl
def VrR (n₀ : Nat) (w : World) (a : Option Addr) (l : List Ver) : Prop :=
  l = [] ∨ ∃ b off, a = some ⟨b, off, none⟩ ∧ b < n₀ ∧ ∀ i j, i < l.length → j < 5 → w.cell? ⟨b, off + i * 5 + j, none⟩ = (encVr (l[i]?.getD ver0))[j]?
theorem VrR.below {n₀ : Nat} {A B : World} (h : Below n₀ A B) {a : Option Addr} {l : List Ver} : VrR n₀ A a l → VrR n₀ B a l
  | .inl e => .inl e
  | .inr ⟨b, off, e, hb, hc⟩ => .inr ⟨b, off, e, hb, fun i j hi hj => (h.cell (p := ⟨b, off + i * 5 + j, none⟩) hb).trans (hc i j hi hj)⟩
theorem VrR.mono {n₀ n₁ : Nat} {A : World} (h : n₀ ≤ n₁) {a : Option Addr} {l : List Ver} : VrR n₀ A a l → VrR n₁ A a l
  | .inl e => .inl e
  | .inr ⟨b, off, e, hb, hc⟩ => .inr ⟨b, off, e, by omega, hc⟩
theorem OwnV.read {B : Nat} {w : World} {v : Value} {l : List Ver} (h : OwnV B w v l) : ∃ a cap, v = .slice a l.length cap ∧ l.length ≤ cap ∧ cap ≤ maxLen ∧ (a = none → cap = 0) ∧ VrR w.heap.size w a l := by
  rcases h.2 with ⟨rfl, hn⟩ | ⟨g, cap, cur, rfl, hb, hg, hc, hm, hs, ht⟩
  · have : l = [] := List.length_eq_zero_iff.1 hn
    subst this
    exact ⟨none, 0, rfl, Nat.le_refl _, by simp [maxLen], fun _ => rfl, .inl rfl⟩
  · have hh : w.ownsRow B 76 5 (.slice (some ⟨g, 0, none⟩) l.length cap) l.length (vrV l) := ⟨h.1, .inr ⟨g, cap, cur, rfl, hb, hg, hc, hm, hs, ht⟩⟩
    refine ⟨_, cap, rfl, hc, hm, (fun e => by cases e), .inr ⟨g, 0, rfl, (Array.getElem?_eq_some_iff.1 hg).1, fun i j hi hj => ?_⟩⟩
    have hlen := vrV_length l
    rw [Nat.zero_add, ← vrV_at l i j hi hj]
    exact hh.cellAt (i * 5 + j) (by omega)
theorem append_vers {ops : Array Oper} {rest : List Oper} {o : Oper} {a : Act} {Q : Exit → Act → World → Prop} {w : World} (s x : Nat) (hgd : o.guard = none)
    (ho : o.op = .call { callee := .builtin .append, args := #[.tmp s, .tmp x], argTypes := #[53, 53] }) (B : Nat) (v : Value) (L : List Ver) (n₀ : Nat) (ad : Option Addr) (len cap : Nat) (M : List Ver)
    (hs : a.eval (.tmp s) = v) (hx : a.eval (.tmp x) = .slice ad len cap) (hown : OwnV B w v L) (hlen : M.length = len) (hl : L.length + M.length ≤ 1000000) (ha : ad = none → cap = 0) (hI : VrR n₀ w ad M) (hB : B ≤ w.heap.size)
    (h : ∀ v' w', OwnV B w' v' (L ++ M) → w.grownBy w' v.ownBlock → (v' = .slice none 0 0 ↔ v = .slice none 0 0 ∧ len = 0) → (v'.ownBlock = v.ownBlock ∨ v'.ownBlock = some w.heap.size) → wpList Tryz.prog ops Q rest (a.put o.dst v') w') :
    wpList Tryz.prog ops Q (o :: rest) a w := by
  obtain ⟨i, hi, hz0, hz1, hz2⟩ := info_parts info_version
  subst hlen
  have at_ : ∀ y : Addr, ad = some y → (∀ j u, (vrV M)[j]? = some u → w.cell? (y.add j) = some u) → wpList Tryz.prog ops Q (o :: rest) a w := fun y e hc => by
    refine wpList_append_own_at _ hgd (.tmp s) (.tmp x) 53 ho B 76 i _ 5 48 Tryz.underlying53 hi hz0 hz1 hz2 rfl (by decide) v L.length (vrV L) hs hown y M.length cap (vrV M) (hx.trans (by rw [e])) (vrV_length M) hc (vrV_one M) (by unfold maxLen; omega) (by omega) hB ?_
    intro v' w' h1 h2 h3 h4
    refine h v' w' ?_ h2 h3 h4
    unfold OwnV
    rw [vrV_append, List.length_append]
    exact h1
  rcases hI with rfl | ⟨b, off, e, _, hcell⟩
  · cases ad with
    | none =>
      obtain rfl := ha rfl
      refine wpList_append_own_none hgd (.tmp s) (.tmp x) 53 ho B 76 i 5 Tryz.underlying53 hi v L.length (vrV L) hs hown hx ?_
      exact h v w (by simpa using hown) (World.grownBy.refl _ _) ⟨fun e => ⟨e, rfl⟩, fun e => e.1⟩ (.inl rfl)
    | some ad => exact at_ ad rfl (fun j u hj => by simp [vrV] at hj)
  · refine at_ _ e (fun j u hj => ?_)
    have hj2 : j < M.length * 5 := by have := (List.getElem?_eq_some_iff.1 hj).1; rw [vrV_length] at this; exact this
    have h9 := vrV_at M (j / 5) (j % 5) (by omega) (by omega)
    have e5 : j / 5 * 5 + j % 5 = j := by omega
    rw [e5, hj] at h9
    rw [Go.WideShapes.add_plain, h9, ← hcell (j / 5) (j % 5) (by omega) (by omega)]
    rw [show off + j / 5 * 5 + j % 5 = off + j by omega]
end Go.Proofs.YtabboioamdphmaaGreatDoor
