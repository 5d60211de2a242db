/- Plain: the ring: nodes in the order of their first points behind a key's place. -/
import Derived.Test.YthdicfcgkbepdaaGreatDoorNod
import Derived.Laws.Strings
namespace Go.Proofs.YthdicfcgkbepdaaGreatDoor.Rg

/-- the order of texts. -/
def tlt (a b : ByteArray) : Bool := Op.bytesLess a.toList b.toList
theorem bytesLess_is : ∀ (x y : List UInt8), Op.bytesLess x y = decide (x < y)
  | x, [] => by cases x <;> simp [Op.bytesLess]
  | [], b :: y => by simp [Op.bytesLess]
  | a :: x, b :: y => by
    rw [Op.bytesLess, bytesLess_is x y, Bool.eq_iff_iff]
    simp [List.cons_lt_cons_iff]
theorem tlt_iff (a b : ByteArray) : tlt a b = true ↔ a.toList < b.toList := by unfold tlt; rw [bytesLess_is]; simp
theorem toList_inj {a b : ByteArray} (h : a.toList = b.toList) : a = b := by
  rw [ByteArray.toList_eq, ByteArray.toList_eq] at h
  obtain ⟨a⟩ := a
  obtain ⟨b⟩ := b
  exact congrArg ByteArray.mk (Array.toList_inj.1 h)
theorem tlt_irrefl (a : ByteArray) : tlt a a = false := by
  rw [Bool.eq_false_iff, Ne, tlt_iff]; exact List.lt_irrefl _
theorem tlt_trans {a b c : ByteArray} (h1 : tlt a b = true) (h2 : tlt b c = true) : tlt a c = true := by
  rw [tlt_iff] at *; exact List.lt_trans h1 h2
theorem tlt_total {a b : ByteArray} (h1 : tlt a b = false) (h2 : tlt b a = false) : a = b := by
  rw [Bool.eq_false_iff, Ne, tlt_iff] at h1 h2
  exact toList_inj (List.le_antisymm (List.not_lt.1 h2) (List.not_lt.1 h1))
theorem tlt_asymm {a b : ByteArray} (h : tlt a b = true) : tlt b a = false := by
  cases h2 : tlt b a with
  | false => rfl
  | true => exact absurd (tlt_trans h h2) (by rw [tlt_irrefl]; decide)

/-- a place as seen from a key's. -/
def sh (h a : Nat) : Nat := if a < h then a + 4294967296 else a
def mini (f : Nat → Nat) : Nat → Nat
  | 0 => f 0
  | k + 1 => min (mini f k) (f (k + 1))
theorem mini_le (f : Nat → Nat) : ∀ k i, i ≤ k → mini f k ≤ f i
  | 0, i, h => by
    obtain rfl : i = 0 := by omega
    exact Nat.le_refl _
  | k + 1, i, h => by
    unfold mini
    by_cases e : i = k + 1
    · rw [e]; exact Nat.min_le_right _ _
    · exact Nat.le_trans (Nat.min_le_left _ _) (mini_le f k i (by omega))
theorem mini_mem (f : Nat → Nat) : ∀ k, ∃ i, i ≤ k ∧ mini f k = f i
  | 0 => ⟨0, Nat.le_refl _, rfl⟩
  | k + 1 => by
    obtain ⟨i, hi, e⟩ := mini_mem f k
    unfold mini
    rcases Nat.le_total (mini f k) (f (k + 1)) with h | h
    · exact ⟨i, by omega, by rw [Nat.min_eq_left h, e]⟩
    · exact ⟨k + 1, Nat.le_refl _, Nat.min_eq_right h⟩
section
variable (H : ByteArray → Nat → Nat) (h : Nat)
/-- a node's first place behind the key's. -/
def m8 (s : ByteArray) : Nat := mini (fun k => sh h (H s k)) 7
/-- s is preferred to t. -/
def nlt (s t : ByteArray) : Prop := m8 H h s < m8 H h t ∨ (m8 H h s = m8 H h t ∧ tlt s t = true)
/-- O has the nodes L in the order of preference. -/
def IsPref (L O : List ByteArray) : Prop := O.Perm L ∧ O.Pairwise (nlt H h)
end
variable {H : ByteArray → Nat → Nat} {h : Nat}
theorem nlt_irrefl (s : ByteArray) : ¬ nlt H h s s := by
  unfold nlt
  rintro (h1 | ⟨_, h1⟩)
  · omega
  · rw [tlt_irrefl] at h1; cases h1
theorem nlt_trans {a b c : ByteArray} (h1 : nlt H h a b) (h2 : nlt H h b c) : nlt H h a c := by
  unfold nlt at *
  rcases h1 with h1 | ⟨h1, t1⟩ <;> rcases h2 with h2 | ⟨h2, t2⟩
  · left; omega
  · left; omega
  · left; omega
  · right; exact ⟨by omega, tlt_trans t1 t2⟩
theorem nlt_asymm {a b : ByteArray} (h1 : nlt H h a b) : ¬ nlt H h b a := fun h2 => nlt_irrefl a (nlt_trans h1 h2)
/-- sorted by a strict order, lists of the same members are the same. -/
theorem sorted_eq {α : Type} {r : α → α → Prop} (hr : ∀ a b, r a b → ¬ r b a) : ∀ {l m : List α}, l.Perm m → l.Pairwise r → m.Pairwise r → l = m
  | [], m, hp, _, _ => (List.nil_perm.1 hp).symm
  | a :: l, [], hp, _, _ => by have := hp.length_eq; simp at this
  | a :: l, b :: m, hp, h1, h2 => by
    have e : a = b := by
      have ha : a ∈ b :: m := hp.mem_iff.1 (by simp)
      have hb : b ∈ a :: l := hp.mem_iff.2 (by simp)
      rcases List.mem_cons.1 ha with rfl | ha
      · rfl
      rcases List.mem_cons.1 hb with rfl | hb
      · rfl
      exact absurd ((List.pairwise_cons.1 h2).1 a ha) (hr _ _ ((List.pairwise_cons.1 h1).1 b hb))
    subst e
    rw [sorted_eq hr (List.Perm.cons_inv hp) (List.pairwise_cons.1 h1).2 (List.pairwise_cons.1 h2).2]
theorem IsPref.unique {L L' O O' : List ByteArray} (h1 : IsPref H h L O) (h2 : IsPref H h L' O') (hp : L.Perm L') : O = O' :=
  sorted_eq (fun _ _ a => nlt_asymm a) (h1.1.trans (hp.trans h2.1.symm)) h1.2 h2.2

/-- a point: its place, its node, its number. -/
abbrev Pt := Nat × ByteArray × Nat
/-- the points of nodes. -/
def pts (H : ByteArray → Nat → Nat) (L : List ByteArray) : List Pt := L.flatMap fun s => (List.range 8).map fun k => (H s k, s, k)
theorem mem_pts {L : List ByteArray} {p : Pt} : p ∈ pts H L ↔ p.2.1 ∈ L ∧ p.2.2 < 8 ∧ p.1 = H p.2.1 p.2.2 := by
  unfold pts
  rw [List.mem_flatMap]
  constructor
  · rintro ⟨s, hs, hp⟩
    obtain ⟨k, hk, rfl⟩ := List.mem_map.1 hp
    exact ⟨hs, List.mem_range.1 hk, rfl⟩
  · rintro ⟨hs, hk, e⟩
    exact ⟨p.2.1, hs, List.mem_map.2 ⟨p.2.2, List.mem_range.2 hk, by rw [← e]⟩⟩
theorem m8_le {s : ByteArray} {k : Nat} (hk : k < 8) : m8 H h s ≤ sh h (H s k) := mini_le _ 7 k (by omega)
theorem m8_mem (s : ByteArray) : ∃ k, k < 8 ∧ m8 H h s = sh h (H s k) := by
  obtain ⟨k, hk, e⟩ := mini_mem (fun k => sh h (H s k)) 7
  exact ⟨k, by omega, e⟩

/-- one more name, if it is new. -/
def addN (out : List ByteArray) (s : ByteArray) : List ByteArray := if s ∈ out then out else out ++ [s]
/-- the names, each once. -/
def firsts (l : List ByteArray) : List ByteArray := l.foldl addN []
theorem firsts_snoc (l : List ByteArray) (s : ByteArray) : firsts (l ++ [s]) = addN (firsts l) s := by simp [firsts]
theorem foldl_prefix : ∀ (m o : List ByteArray), o <+: m.foldl addN o
  | [], o => List.prefix_refl o
  | s :: r, o => by
    refine List.IsPrefix.trans ?_ (foldl_prefix r (addN o s))
    unfold addN
    split
    · exact List.prefix_refl _
    · exact List.prefix_append _ _
theorem firsts_prefix (l m : List ByteArray) : firsts l <+: firsts (l ++ m) := by
  unfold firsts
  rw [List.foldl_append]
  exact foldl_prefix m _
/-- the points as they come, from the key's place on. -/
def Round (h : Nat) (R : List Pt) : Prop := R.Pairwise fun p q => sh h p.1 < sh h q.1 ∨ (sh h p.1 = sh h q.1 ∧ (tlt p.2.1 q.2.1 = true ∨ p.2.1 = q.2.1))
structure Inv (H : ByteArray → Nat → Nat) (h : Nat) (R : List Pt) (out : List ByteArray) : Prop where
  nd : out.Nodup
  mem : ∀ s, s ∈ out ↔ ∃ p ∈ R, p.2.1 = s
  srt : out.Pairwise (nlt H h)
theorem firsts_inv {L : List ByteArray} {R : List Pt} (hm : ∀ p ∈ R, p ∈ pts H L) (hall : ∀ s ∈ L, ∀ k, k < 8 → (H s k, s, k) ∈ R) (hr : Round h R) : ∀ i, i ≤ R.length → Inv H h (R.take i) (firsts ((R.take i).map (·.2.1)))
  | 0, _ => ⟨by simp [firsts], by simp [firsts], by simp [firsts]⟩
  | i + 1, hi => by
    have ih := firsts_inv hm hall hr i (by omega)
    have hi' : i < R.length := hi
    rw [List.take_succ_eq_append_getElem hi', List.map_append, List.map_cons, List.map_nil, firsts_snoc]
    obtain ⟨p, hp⟩ : ∃ p, R[i] = p := ⟨_, rfl⟩
    rw [hp]
    generalize ho : firsts ((R.take i).map (·.2.1)) = out at ih ⊢
    unfold addN
    by_cases hin : p.2.1 ∈ out
    · rw [if_pos hin]
      refine ⟨ih.nd, fun s => ?_, ih.srt⟩
      rw [ih.mem s]
      constructor
      · rintro ⟨q, hq, e⟩; exact ⟨q, by simp [hq], e⟩
      · rintro ⟨q, hq, e⟩
        rcases List.mem_append.1 hq with hq | hq
        · exact ⟨q, hq, e⟩
        · rw [List.mem_singleton.1 hq] at e
          rw [← e]; exact (ih.mem _).1 hin
    · rw [if_neg hin]
      refine ⟨?_, fun s => ?_, ?_⟩
      · rw [List.nodup_append]
        exact ⟨ih.nd, by simp, fun a ha b hb e => by
          rw [List.mem_singleton.1 hb] at e
          exact hin (e ▸ ha)⟩
      · rw [List.mem_append, ih.mem s]
        constructor
        · rintro (⟨q, hq, e⟩ | e)
          · exact ⟨q, by simp [hq], e⟩
          · exact ⟨p, by simp, (List.mem_singleton.1 e).symm⟩
        · rintro ⟨q, hq, e⟩
          rcases List.mem_append.1 hq with hq | hq
          · exact .inl ⟨q, hq, e⟩
          · rw [List.mem_singleton.1 hq] at e
            exact .inr (by rw [← e]; simp)
      · rw [List.pairwise_append]
        refine ⟨ih.srt, by simp, fun s hs t ht => ?_⟩
        obtain rfl := List.mem_singleton.1 ht
        -- p is the first of its node
        have hpm := mem_pts.1 (hm p (hp ▸ List.getElem_mem hi'))
        have hR := List.pairwise_iff_getElem.1 hr
        have mt : m8 H h p.2.1 = sh h p.1 := by
          obtain ⟨k, hk, e⟩ := m8_mem (H := H) (h := h) p.2.1
          have hq := hall p.2.1 hpm.1 k hk
          obtain ⟨j, hj, ej⟩ := List.getElem_of_mem hq
          have hle : m8 H h p.2.1 ≤ sh h p.1 := by rw [hpm.2.2]; exact m8_le hpm.2.1
          rcases Nat.lt_trichotomy j i with hji | hji | hji
          · exfalso
            apply hin
            rw [ih.mem]
            exact ⟨R[j], List.mem_take_iff_getElem.2 ⟨j, by omega, rfl⟩, by rw [ej]⟩
          · subst hji
            rw [hp] at ej
            rw [e]; have : p.1 = H p.2.1 k := by rw [ej]
            rw [this]
          · have := hR i j hi' hj hji
            rw [hp, ej] at this
            simp only at this
            omega
        obtain ⟨q, hq, e⟩ := (ih.mem s).1 hs
        obtain ⟨j, hj, ej⟩ := List.mem_take_iff_getElem.1 hq
        have hji : j < i := by omega
        have hqm := mem_pts.1 (hm q (by rw [← ej]; exact List.getElem_mem _))
        have h1 := hR j i (by omega) hi' hji
        rw [hp, ej] at h1
        have hms : m8 H h s ≤ sh h q.1 := by rw [← e, hqm.2.2]; exact m8_le hqm.2.1
        have hne : s ≠ p.2.1 := fun e2 => hin (e2 ▸ hs)
        unfold nlt
        rw [mt]
        rcases h1 with h1 | ⟨h1, h2 | h2⟩
        · left; omega
        · rcases Nat.lt_or_ge (m8 H h s) (sh h p.1) with h3 | h3
          · exact .inl h3
          · exact .inr ⟨by omega, by rw [← e]; exact h2⟩
        · exact absurd (e.symm.trans h2) hne
theorem firsts_pref {L : List ByteArray} {R : List Pt} (hL : L.Nodup) (hp : R.Perm (pts H L)) (hr : Round h R) : IsPref H h L (firsts (R.map (·.2.1))) := by
  have h1 := firsts_inv (L := L) (fun p hp' => hp.mem_iff.1 hp') (fun s hs k hk => hp.mem_iff.2 (mem_pts.2 ⟨hs, hk, rfl⟩)) hr R.length (Nat.le_refl _)
  rw [List.take_length] at h1
  refine ⟨(List.perm_ext_iff_of_nodup h1.nd hL).2 fun s => ?_, h1.srt⟩
  rw [h1.mem]
  constructor
  · rintro ⟨p, hp', rfl⟩; exact (mem_pts.1 (hp.mem_iff.1 hp')).1
  · intro hs
    exact ⟨(H s 0, s, 0), hp.mem_iff.2 (mem_pts.2 ⟨hs, (by decide : 0 < 8), rfl⟩), rfl⟩
/-- what the first i names come to is a beginning of the order. -/
theorem firsts_take {R : List Pt} (i : Nat) : firsts ((R.take i).map (·.2.1)) = (firsts (R.map (·.2.1))).take (firsts ((R.take i).map (·.2.1))).length := by
  have h1 := firsts_prefix ((R.take i).map (·.2.1)) ((R.drop i).map (·.2.1))
  rw [← List.map_append, List.take_append_drop] at h1
  exact (List.prefix_iff_eq_take.1 h1)

/-! ### the order of the program's points -/
def plt (x y : Pt) : Bool := decide (x.1 < y.1) || (decide (x.1 = y.1) && (tlt x.2.1 y.2.1 || (decide (x.2.1 = y.2.1) && decide (x.2.2 < y.2.2))))
theorem plt_iff (x y : Pt) : plt x y = true ↔ x.1 < y.1 ∨ (x.1 = y.1 ∧ (tlt x.2.1 y.2.1 = true ∨ (x.2.1 = y.2.1 ∧ x.2.2 < y.2.2))) := by simp [plt]
theorem plt_irrefl (x : Pt) : plt x x = false := by
  rw [Bool.eq_false_iff, Ne, plt_iff]
  rintro (h1 | ⟨_, h1 | ⟨_, h1⟩⟩)
  · omega
  · rw [tlt_irrefl] at h1; cases h1
  · omega
theorem plt_trans {x y z : Pt} (h1 : plt x y = true) (h2 : plt y z = true) : plt x z = true := by
  rw [plt_iff] at *
  rcases h1 with h1 | ⟨h1, t1 | ⟨t1, t1'⟩⟩ <;> rcases h2 with h2 | ⟨h2, t2 | ⟨t2, t2'⟩⟩
  · left; omega
  · left; omega
  · left; omega
  · left; omega
  · exact .inr ⟨by omega, .inl (tlt_trans t1 t2)⟩
  · exact .inr ⟨by omega, .inl (by rw [← t2]; exact t1)⟩
  · left; omega
  · exact .inr ⟨by omega, .inl (by rw [t1]; exact t2)⟩
  · exact .inr ⟨by omega, .inr ⟨t1.trans t2, by omega⟩⟩
theorem plt_total {x y : Pt} (h1 : plt x y = false) (h2 : plt y x = false) : x = y := by
  rw [Bool.eq_false_iff, Ne, plt_iff] at h1 h2
  obtain ⟨a, s, i⟩ := x
  obtain ⟨b, t, j⟩ := y
  simp only at h1 h2
  have e1 : a = b := by
    rcases Nat.lt_trichotomy a b with h | h | h
    · exact absurd (.inl h) h1
    · exact h
    · exact absurd (.inl h) h2
  subst e1
  have e2 : s = t := by
    refine tlt_total ?_ ?_
    · rw [Bool.eq_false_iff]; exact fun e => h1 (.inr ⟨rfl, .inl e⟩)
    · rw [Bool.eq_false_iff]; exact fun e => h2 (.inr ⟨rfl, .inl e⟩)
  subst e2
  have e3 : i = j := by
    rcases Nat.lt_trichotomy i j with h | h | h
    · exact absurd (.inr ⟨rfl, .inr ⟨rfl, h⟩⟩) h1
    · exact h
    · exact absurd (.inr ⟨rfl, .inr ⟨rfl, h⟩⟩) h2
  subst e3
  rfl
/-- turned around so that the key's place comes first. -/
theorem round_of_sorted {P : List Pt} {f : Nat} (hs : P.Pairwise fun x y => plt y x = false) (hb : ∀ p ∈ P, p.1 < 4294967296) (hlo : ∀ j (hj : j < P.length), j < f → P[j].1 < h) (hhi : ∀ j (hj : j < P.length), f ≤ j → h ≤ P[j].1) : Round h (P.drop f ++ P.take f) := by
  have key : ∀ x y : Pt, plt y x = false → (x.1 < h ↔ y.1 < h) → sh h x.1 < sh h y.1 ∨ (sh h x.1 = sh h y.1 ∧ (tlt x.2.1 y.2.1 = true ∨ x.2.1 = y.2.1)) := fun x y hxy hh => by
    rw [Bool.eq_false_iff, Ne, plt_iff] at hxy
    have hle : x.1 ≤ y.1 := by
      rcases Nat.lt_or_ge y.1 x.1 with h1 | h1
      · exact absurd (.inl h1) hxy
      · exact h1
    unfold sh
    rcases Nat.lt_or_ge x.1 y.1 with h1 | h1
    · left
      by_cases h2 : x.1 < h
      · rw [if_pos h2, if_pos (hh.1 h2)]; omega
      · rw [if_neg h2, if_neg (fun h3 => h2 (hh.2 h3))]; exact h1
    · have e : x.1 = y.1 := by omega
      right
      refine ⟨by rw [e], ?_⟩
      cases ht : tlt x.2.1 y.2.1 with
      | true => exact .inl rfl
      | false =>
        right
        refine tlt_total ht ?_
        rw [Bool.eq_false_iff]; exact fun e2 => hxy (.inr ⟨e.symm, .inl e2⟩)
  unfold Round
  have hd : ∀ x ∈ P.drop f, h ≤ x.1 := fun x hx => by
    obtain ⟨j, hj, rfl⟩ := List.getElem_of_mem hx
    rw [List.getElem_drop]
    simp at hj
    exact hhi _ (by omega) (by omega)
  have ht : ∀ x ∈ P.take f, x.1 < h := fun x hx => by
    obtain ⟨j, hj, rfl⟩ := List.mem_take_iff_getElem.1 hx
    exact hlo j (by omega) (by omega)
  rw [List.pairwise_append]
  refine ⟨?_, ?_, fun x hx y hy => ?_⟩
  · refine List.Pairwise.imp_of_mem ?_ (hs.drop)
    intro x y hx hy hxy
    have h1 := hd x hx
    have h2 := hd y hy
    exact key x y hxy (by omega)
  · refine List.Pairwise.imp_of_mem ?_ (hs.take)
    intro x y hx hy hxy
    have h1 := ht x hx
    have h2 := ht y hy
    exact key x y hxy (by omega)
  · left
    have h1 := hd x hx
    have h2 := ht y hy
    have h3 := hb x (List.mem_of_mem_drop hx)
    unfold sh
    rw [if_neg (by omega), if_pos h2]; omega
/-! ### the document's choice -/
/-- is point p ahead of q, as seen from the key? -/
def ahead (h : Nat) (p q : Pt) : Bool := decide (sh h p.1 < sh h q.1) || (decide (sh h p.1 = sh h q.1) && tlt p.2.1 q.2.1)
/-- the node of a point that none other (of nodes not yet chosen) is ahead of: the next one. -/
theorem next_is {L O : List ByteArray} (hO : IsPref H h L O) (hL : L.Nodup) {j : Nat} (hj : j < O.length) {b : Pt} (hb : b ∈ pts H L) (hbo : b.2.1 ∉ O.take j) (hmin : ∀ p ∈ pts H L, p.2.1 ∉ O.take j → ahead h p b = false) : b.2.1 = O[j] := by
  have hbm := mem_pts.1 hb
  have hbO : b.2.1 ∈ O := hO.1.mem_iff.2 hbm.1
  have hnd : O.Nodup := (hO.1.nodup_iff).2 hL
  obtain ⟨i, hi, e⟩ := List.getElem_of_mem hbO
  rcases Nat.lt_trichotomy i j with h1 | h1 | h1
  · exact absurd (List.mem_take_iff_getElem.2 ⟨i, by omega, e⟩) hbo
  · subst h1; exact e.symm
  · exfalso
    have hs := List.pairwise_iff_getElem.1 hO.2 j i hj hi h1
    rw [e] at hs
    have hsL : O[j] ∈ L := hO.1.mem_iff.1 (List.getElem_mem hj)
    obtain ⟨k, hk, ek⟩ := m8_mem (H := H) (h := h) O[j]
    have hno : O[j] ∉ O.take j := fun hm => by
      obtain ⟨i2, hi2, e2⟩ := List.mem_take_iff_getElem.1 hm
      have := (List.nodup_iff_pairwise_ne.1 hnd)
      exact (List.pairwise_iff_getElem.1 this) i2 j (by omega) hj (by omega) e2
    have h2 := hmin (H O[j] k, O[j], k) (mem_pts.2 ⟨hsL, hk, rfl⟩) hno
    have h3 : m8 H h b.2.1 ≤ sh h b.1 := by rw [hbm.2.2]; exact m8_le hbm.2.1
    unfold ahead at h2
    simp only [Bool.or_eq_false_iff, decide_eq_false_iff_not, Bool.and_eq_false_iff] at h2
    unfold nlt at hs
    rw [ek] at hs
    rcases hs with hs | ⟨hs, ht⟩
    · omega
    · rcases h2.2 with h4 | h4
      · omega
      · rw [h4] at ht; cases ht
/-! ### one node more -/
theorem filter_prefix {α : Type} {l m : List α} (p : α → Bool) (hp : l <+: m) : l.filter p <+: m.filter p := by
  obtain ⟨t, rfl⟩ := hp
  rw [List.filter_append]
  exact List.prefix_append _ _
theorem comes {L O O' : List ByteArray} {x : ByteArray} (h1 : IsPref H h L O) (h2 : IsPref H h (L ++ [x]) O') (hn : (L ++ [x]).Nodup) (n : Nat) :
    n - 1 ≤ ((O'.take n).filter (fun s => decide (s ≠ x))).length + (n - O'.length) ∧ (O'.take n).filter (fun s => decide (s ≠ x)) = (O.take n).take ((O'.take n).filter (fun s => decide (s ≠ x))).length := by
  have hx : x ∉ L := by
    rw [List.nodup_append] at hn
    exact fun hm => hn.2.2 x hm x (by simp) rfl
  have e : O'.filter (fun s => decide (s ≠ x)) = O := by
    have hf : (L ++ [x]).filter (fun s => decide (s ≠ x)) = L := by
      rw [List.filter_append, List.filter_eq_self.2 (fun a ha => by simpa using fun e : a = x => hx (e ▸ ha))]
      simp
    refine sorted_eq (fun _ _ a => nlt_asymm a) ?_ (h2.2.filter _) h1.2
    have := h2.1.filter (fun s => decide (s ≠ x))
    rw [hf] at this
    exact this.trans h1.1.symm
  have hpre := filter_prefix (fun s => decide (s ≠ x)) (List.take_prefix n O')
  rw [e] at hpre
  have hle : ((O'.take n).filter (fun s => decide (s ≠ x))).length ≤ n := Nat.le_trans (List.length_filter_le _ _) (List.length_take_le _ _)
  refine ⟨?_, ?_⟩
  · have hnd : (O'.take n).Nodup := ((h2.1.nodup_iff).2 hn).sublist (List.take_sublist _ _)
    have hc : (O'.take n).length ≤ ((O'.take n).filter (fun s => decide (s ≠ x))).length + 1 := by
      generalize O'.take n = l at hnd
      clear hpre hle e
      induction l with
      | nil => simp
      | cons a r ih =>
        have hr := (List.nodup_cons.1 hnd)
        by_cases ha : a = x
        · subst ha
          have : r.filter (fun s => decide (s ≠ a)) = r := List.filter_eq_self.2 (fun b hb => by simpa using fun e : b = a => hr.1 (e ▸ hb))
          rw [List.filter_cons, if_neg (by simp), this]
          simp
        · have := ih hr.2
          rw [List.filter_cons, if_pos (by simpa using ha)]
          simp only [List.length_cons]
          omega
    rw [List.length_take] at hc
    omega
  · rw [List.take_take, Nat.min_eq_left hle]
    exact List.prefix_iff_eq_take.1 hpre
end Go.Proofs.YthdicfcgkbepdaaGreatDoor.Rg
