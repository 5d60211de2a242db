/- Plain: the best of what was told: groups of versions by tag; the same by the document. -/
import Derived.Test.YtolbdcmoblcakaaGreatDoorKRepairAll22
import Derived.Test.YtolbdcmoblcakaaGreatDoorKRepairAll05
import Derived.Test.YtolbdcmoblcakaaGreatDoorKRepairAll01
import Derived.Test.YtolbdcmoblcakaaGreatDoorKRepairAll08
import Derived.Test.YtolbdcmoblcakaaGreatDoorKRepairAll20
namespace Go.Proofs.YtolbdcmoblcakaaGreatDoor

/-- a group of versions of one tag: its tag, its size, its shards. -/
abbrev Grp := (Int × Int) × Int × List Sh
def sh (x : Ver) : Sh := (x.2.2.2.1, x.2.2.2.2)
def tg (x : Ver) : Int × Int := (x.1, x.2.1)
def lessT (a b : Int × Int) : Bool := tagLt a.1 a.2 b.1 b.2
/-- can a version be? -/
def canB (n k : Nat) (x : Ver) : Bool := tagB x.1 x.2.1 && decide (0 ≤ x.2.2.1 ∧ x.2.2.1 ≤ 1000 ∧ 0 ≤ x.2.2.2.1 ∧ x.2.2.2.1 < n ∧ x.2.2.2.2.size = wideN k x.2.2.1.toNat)
def hasAt (l : List Sh) (at_ : Int) : Bool := l.any fun s => decide (s.1 = at_)
def addG (g : Grp) (x : Ver) : Grp := if g.2.1 = x.2.2.1 ∧ hasAt g.2.2 x.2.2.2.1 = false then (g.1, g.2.1, g.2.2 ++ [sh x]) else g
def hasG (gs : List Grp) (t : Int × Int) : Bool := gs.any fun g => decide (g.1 = t)
def stepG (n k : Nat) (gs : List Grp) (x : Ver) : List Grp :=
  if canB n k x = true then (if hasG gs (tg x) = true then gs.map (fun g => if g.1 = tg x then addG g x else g) else gs ++ [addG (tg x, x.2.2.1, []) x]) else gs
def groupsL (n k : Nat) (xs : List Ver) : List Grp := xs.foldl (stepG n k) []
theorem groupsL_snoc (n k : Nat) (xs : List Ver) (x : Ver) : groupsL n k (xs ++ [x]) = stepG n k (groupsL n k xs) x := by simp [groupsL]
/-- the document's: a size (-1: none), the shards. -/
def stepT (n k : Nat) (t : Int × Int) (s : Int × List Sh) (x : Ver) : Int × List Sh :=
  if tg x = t ∧ canB n k x = true then
    (if s.1 < 0 then x.2.2.1 else s.1, if x.2.2.1 = (if s.1 < 0 then x.2.2.1 else s.1) ∧ hasAt s.2 x.2.2.2.1 = false then s.2 ++ [sh x] else s.2)
  else s
def shardsT (n k : Nat) (t : Int × Int) (xs : List Ver) : Int × List Sh := xs.foldl (stepT n k t) (-1, [])
theorem shardsT_snoc (n k : Nat) (t : Int × Int) (xs : List Ver) (x : Ver) : shardsT n k t (xs ++ [x]) = stepT n k t (shardsT n k t xs) x := by simp [shardsT]
def getG (gs : List Grp) (t : Int × Int) : Int × List Sh := ((gs.find? fun g => decide (g.1 = t)).map (·.2)).getD (-1, [])
theorem addG_tag (g : Grp) (x : Ver) : (addG g x).1 = g.1 := by unfold addG; split <;> rfl
theorem addG_size (g : Grp) (x : Ver) : (addG g x).2.1 = g.2.1 := by unfold addG; split <;> rfl
theorem canB_spec {n k : Nat} {x : Ver} (h : canB n k x = true) : 0 ≤ x.2.2.1 ∧ x.2.2.1 ≤ 1000 ∧ 0 ≤ x.2.2.2.1 ∧ x.2.2.2.1 < n ∧ x.2.2.2.2.size = wideN k x.2.2.1.toNat := by
  unfold canB at h
  rw [Bool.and_eq_true] at h
  exact of_decide_eq_true h.2
/-- what is known of groups. -/
structure GrpsOk (n k : Nat) (xs : List Ver) (gs : List Grp) : Prop where
  nodup : (gs.map (·.1)).Nodup
  size : ∀ g ∈ gs, 0 ≤ g.2.1 ∧ g.2.1 ≤ 1000
  good : ∀ g ∈ gs, ∀ s ∈ g.2.2, GoodS n (wideN k g.2.1.toNat) s
  unlike : ∀ g ∈ gs, UnlikeS g.2.2
  tag : ∀ g ∈ gs, ∃ x ∈ xs, tg x = g.1
theorem hasG_mem {gs : List Grp} {t : Int × Int} : hasG gs t = true ↔ ∃ g ∈ gs, g.1 = t := by
  unfold hasG
  rw [List.any_eq_true]
  constructor
  · rintro ⟨g, hg, h⟩; exact ⟨g, hg, of_decide_eq_true h⟩
  · rintro ⟨g, hg, h⟩; exact ⟨g, hg, decide_eq_true h⟩
theorem add_ok {n k : Nat} {g : Grp} {x : Ver} (hc : canB n k x = true) (hs : 0 ≤ g.2.1 ∧ g.2.1 ≤ 1000) (hg : ∀ s ∈ g.2.2, GoodS n (wideN k g.2.1.toNat) s) (hu : UnlikeS g.2.2) :
    (0 ≤ (addG g x).2.1 ∧ (addG g x).2.1 ≤ 1000) ∧ (∀ s ∈ (addG g x).2.2, GoodS n (wideN k (addG g x).2.1.toNat) s) ∧ UnlikeS (addG g x).2.2 := by
  rw [addG_size]
  refine ⟨hs, ?_⟩
  unfold addG
  by_cases h : g.2.1 = x.2.2.1 ∧ hasAt g.2.2 x.2.2.2.1 = false
  · rw [if_pos h]
    obtain ⟨_, _, c3, c4, c5⟩ := canB_spec hc
    refine ⟨fun s hs2 => ?_, ?_⟩
    · rcases List.mem_append.1 hs2 with h2 | h2
      · exact hg s h2
      · rw [List.mem_singleton.1 h2, h.1]
        exact ⟨c3, c4, c5⟩
    · refine List.pairwise_append.2 ⟨hu, List.pairwise_singleton _ _, fun y hy z hz => ?_⟩
      rw [List.mem_singleton.1 hz]
      have h3 := h.2
      unfold hasAt at h3
      rw [List.any_eq_false] at h3
      have h4 := h3 y hy
      simpa [sh] using h4
  · rw [if_neg h]
    exact ⟨hg, hu⟩
theorem groups_ok (n k : Nat) (xs : List Ver) : GrpsOk n k xs (groupsL n k xs) := by
  suffices h : ∀ ys : List Ver, GrpsOk n k ys.reverse (groupsL n k ys.reverse) by
    have := h xs.reverse
    rwa [List.reverse_reverse] at this
  intro ys
  induction ys with
  | nil => exact ⟨List.nodup_nil, fun g hg => (by cases hg), fun g hg => (by cases hg), fun g hg => (by cases hg), fun g hg => (by cases hg)⟩
  | cons x ys ih =>
    rw [List.reverse_cons, groupsL_snoc]
    obtain ⟨xs, hxs⟩ : ∃ xs, ys.reverse = xs := ⟨_, rfl⟩
    rw [hxs] at ih ⊢
    have hmono : ∀ {g : Grp}, (∃ y ∈ xs, tg y = g.1) → ∃ y ∈ xs ++ [x], tg y = g.1 := fun ⟨y, hy, e⟩ => ⟨y, List.mem_append_left _ hy, e⟩
    unfold stepG
    by_cases hc : canB n k x = true
    · rw [if_pos hc]
      by_cases hg : hasG (groupsL n k xs) (tg x) = true
      · rw [if_pos hg]
        have hmap : ((groupsL n k xs).map (fun g => if g.1 = tg x then addG g x else g)).map (·.1) = (groupsL n k xs).map (·.1) := by
          rw [List.map_map]
          refine List.map_congr_left fun g _ => ?_
          show (if g.1 = tg x then addG g x else g).1 = g.1
          by_cases e : g.1 = tg x
          · rw [if_pos e, addG_tag]
          · rw [if_neg e]
        refine ⟨by rw [hmap]; exact ih.nodup, fun g hg2 => ?_, fun g hg2 => ?_, fun g hg2 => ?_, fun g hg2 => ?_⟩
        all_goals
          obtain ⟨g0, h0, rfl⟩ := List.mem_map.1 hg2
          by_cases e : g0.1 = tg x
        · rw [if_pos e]; exact (add_ok hc (ih.size g0 h0) (ih.good g0 h0) (ih.unlike g0 h0)).1
        · rw [if_neg e]; exact ih.size g0 h0
        · rw [if_pos e]; exact (add_ok hc (ih.size g0 h0) (ih.good g0 h0) (ih.unlike g0 h0)).2.1
        · rw [if_neg e]; exact ih.good g0 h0
        · rw [if_pos e]; exact (add_ok hc (ih.size g0 h0) (ih.good g0 h0) (ih.unlike g0 h0)).2.2
        · rw [if_neg e]; exact ih.unlike g0 h0
        · rw [if_pos e, addG_tag]; exact hmono (ih.tag g0 h0)
        · rw [if_neg e]; exact hmono (ih.tag g0 h0)
      · rw [if_neg hg]
        have hcs := canB_spec hc
        have hnew := add_ok (g := (tg x, x.2.2.1, [])) hc ⟨hcs.1, hcs.2.1⟩ (fun s hs => by cases hs) List.Pairwise.nil
        refine ⟨?_, fun g hg2 => ?_, fun g hg2 => ?_, fun g hg2 => ?_, fun g hg2 => ?_⟩
        · rw [List.map_append, List.map_singleton, List.nodup_append]
          refine ⟨ih.nodup, by simp, fun a ha b hb => ?_⟩
          rw [List.mem_singleton.1 hb, addG_tag]
          obtain ⟨g0, h0, rfl⟩ := List.mem_map.1 ha
          exact fun e => hg (hasG_mem.2 ⟨g0, h0, e⟩)
        all_goals
          rcases List.mem_append.1 hg2 with h0 | h0
        · exact ih.size g h0
        · rw [List.mem_singleton.1 h0]; exact hnew.1
        · exact ih.good g h0
        · rw [List.mem_singleton.1 h0]; exact hnew.2.1
        · exact ih.unlike g h0
        · rw [List.mem_singleton.1 h0]; exact hnew.2.2
        · exact hmono (ih.tag g h0)
        · rw [List.mem_singleton.1 h0, addG_tag]; exact ⟨x, by simp, rfl⟩
    · rw [if_neg hc]
      exact ⟨ih.nodup, ih.size, ih.good, ih.unlike, fun g hg => hmono (ih.tag g hg)⟩
theorem getG_mem {gs : List Grp} (hn : (gs.map (·.1)).Nodup) {g : Grp} (hg : g ∈ gs) : getG gs g.1 = g.2 := by
  unfold getG
  induction gs with
  | nil => cases hg
  | cons y gs ih =>
    rw [List.map_cons, List.nodup_cons] at hn
    rcases List.mem_cons.1 hg with rfl | hg
    · simp
    · have hne : ¬ y.1 = g.1 := fun e => hn.1 (by rw [e]; exact List.mem_map.2 ⟨g, hg, rfl⟩)
      rw [List.find?_cons_of_neg (by simpa using hne)]
      exact ih hn.2 hg
theorem getG_none {gs : List Grp} {t : Int × Int} (h : hasG gs t = false) : getG gs t = (-1, []) := by
  unfold getG
  have : gs.find? (fun g => decide (g.1 = t)) = none := by
    rw [List.find?_eq_none]
    intro g hg
    unfold hasG at h
    rw [List.any_eq_false] at h
    exact h g hg
  rw [this]; rfl
theorem stepG_map {n k : Nat} {gs : List Grp} {x : Ver} (hc : canB n k x = true) (hg : hasG gs (tg x) = true) : stepG n k gs x = gs.map (fun g => if g.1 = tg x then addG g x else g) := by unfold stepG; rw [if_pos hc, if_pos hg]
theorem stepG_new {n k : Nat} {gs : List Grp} {x : Ver} (hc : canB n k x = true) (hg : hasG gs (tg x) = false) : stepG n k gs x = gs ++ [addG (tg x, x.2.2.1, []) x] := by unfold stepG; rw [if_pos hc, if_neg (by rw [hg]; decide)]
theorem stepG_no {n k : Nat} {gs : List Grp} {x : Ver} (hc : canB n k x = false) : stepG n k gs x = gs := by unfold stepG; rw [if_neg (by rw [hc]; decide)]
theorem stepT_yes {n k : Nat} {s : Int × List Sh} {x : Ver} (hc : canB n k x = true) : stepT n k (tg x) s x = (if s.1 < 0 then x.2.2.1 else s.1, if x.2.2.1 = (if s.1 < 0 then x.2.2.1 else s.1) ∧ hasAt s.2 x.2.2.2.1 = false then s.2 ++ [sh x] else s.2) := by unfold stepT; exact if_pos ⟨rfl, hc⟩
theorem stepT_other {n k : Nat} {t : Int × Int} {s : Int × List Sh} {x : Ver} (h : tg x ≠ t) : stepT n k t s x = s := by unfold stepT; exact if_neg (fun e => h e.1)
theorem stepT_no {n k : Nat} {t : Int × Int} {s : Int × List Sh} {x : Ver} (hc : canB n k x = false) : stepT n k t s x = s := by unfold stepT; exact if_neg (fun e => by rw [hc] at e; exact absurd e.2 (by decide))
/-- the document's shards of a tag are those of its group. -/
theorem getG_groups (n k : Nat) (t : Int × Int) (xs : List Ver) : getG (groupsL n k xs) t = shardsT n k t xs := by
  suffices h : ∀ ys : List Ver, getG (groupsL n k ys.reverse) t = shardsT n k t ys.reverse by
    have := h xs.reverse
    rwa [List.reverse_reverse] at this
  intro ys
  induction ys with
  | nil => rfl
  | cons x ys ih =>
    rw [List.reverse_cons, groupsL_snoc, shardsT_snoc]
    obtain ⟨xs, hxs⟩ : ∃ xs, ys.reverse = xs := ⟨_, rfl⟩
    rw [hxs] at ih ⊢
    have hok := groups_ok n k xs
    obtain ⟨gs, hgs⟩ : ∃ gs, groupsL n k xs = gs := ⟨_, rfl⟩
    rw [hgs] at ih hok ⊢
    rw [← ih]
    by_cases hc : canB n k x = true
    · by_cases ht : tg x = t
      · subst ht
        rw [stepT_yes hc]
        by_cases hg : hasG gs (tg x) = true
        · rw [stepG_map hc hg]
          obtain ⟨g, hm, e⟩ := hasG_mem.1 hg
          have hmap : (gs.map (fun g => if g.1 = tg x then addG g x else g)).map (·.1) = gs.map (·.1) := by
            rw [List.map_map]
            refine List.map_congr_left fun g _ => ?_
            show (if g.1 = tg x then addG g x else g).1 = g.1
            by_cases e : g.1 = tg x
            · rw [if_pos e, addG_tag]
            · rw [if_neg e]
          have hm2 : addG g x ∈ gs.map (fun g => if g.1 = tg x then addG g x else g) := List.mem_map.2 ⟨g, hm, by rw [if_pos e]⟩
          have h1 := getG_mem (by rw [hmap]; exact hok.nodup) hm2
          rw [addG_tag, e] at h1
          have h2 := getG_mem hok.nodup hm
          rw [e] at h2
          rw [h1, h2]
          have hsz := (hok.size g hm).1
          rw [if_neg (by omega)]
          unfold addG
          by_cases h : g.2.1 = x.2.2.1 ∧ hasAt g.2.2 x.2.2.2.1 = false
          · rw [if_pos h, if_pos ⟨h.1.symm, h.2⟩]
          · rw [if_neg h, if_neg (fun h3 => h ⟨h3.1.symm, h3.2⟩)]
        · have hf : hasG gs (tg x) = false := by simpa using hg
          rw [stepG_new hc hf, getG_none hf]
          have hcs := canB_spec hc
          have hnd : ((gs ++ [addG (tg x, x.2.2.1, []) x]).map (·.1)).Nodup := by
            rw [List.map_append, List.map_singleton, List.nodup_append]
            refine ⟨hok.nodup, by simp, fun a ha b hb => ?_⟩
            rw [List.mem_singleton.1 hb, addG_tag]
            obtain ⟨g0, h0, rfl⟩ := List.mem_map.1 ha
            exact fun e => hg (hasG_mem.2 ⟨g0, h0, e⟩)
          have h1 := getG_mem hnd (List.mem_append_right _ (List.mem_singleton_self _))
          rw [addG_tag] at h1
          rw [h1]
          unfold addG
          simp [hasAt]
      · rw [stepT_other ht]
        by_cases hg : hasG gs (tg x) = true
        · rw [stepG_map hc hg]
          unfold getG
          rw [List.find?_map]
          have hfun : ((fun g : Grp => decide (g.1 = t)) ∘ fun g => if g.1 = tg x then addG g x else g) = fun g => decide (g.1 = t) := by
            funext g
            show decide ((if g.1 = tg x then addG g x else g).1 = t) = _
            by_cases e : g.1 = tg x
            · rw [if_pos e, addG_tag]
            · rw [if_neg e]
          rw [hfun]
          cases hfd : gs.find? (fun g => decide (g.1 = t)) with
          | none => rfl
          | some g =>
            have h2 := List.find?_some hfd
            have h3 : g.1 = t := of_decide_eq_true h2
            simp only [Option.map_some, Option.getD_some]
            rw [if_neg (by rw [h3]; exact fun e => ht e.symm)]
        · rw [stepG_new hc (by simpa using hg)]
          unfold getG
          rw [List.find?_append]
          cases hfd : gs.find? (fun g => decide (g.1 = t)) with
          | some g => rfl
          | none =>
            have : ([addG (tg x, x.2.2.1, []) x] : List Grp).find? (fun g => decide (g.1 = t)) = none := by
              rw [List.find?_eq_none]
              intro g hg2
              rw [List.mem_singleton.1 hg2, addG_tag]
              simpa using ht
            rw [this]; rfl
    · have hf : canB n k x = false := by simpa using hc
      rw [stepG_no hf, stepT_no hf]
/-- is a tag greater than the best till now? -/
def beats : Option (Int × Int) → Int × Int → Bool
  | none, _ => true
  | some s, t => lessT s t
/-- the best of groups. -/
def bestStep (k : Nat) (b : Option Grp) (g : Grp) : Option Grp :=
  if k ≤ g.2.2.length ∧ beats (b.map (·.1)) g.1 = true then some g else b
def bestG (k : Nat) (gs : List Grp) : Option Grp := gs.foldl (bestStep k) none
theorem bestG_snoc (k : Nat) (gs : List Grp) (g : Grp) : bestG k (gs ++ [g]) = bestStep k (bestG k gs) g := by simp [bestG]
/-- the document's. -/
def refStep (n k : Nat) (xs : List Ver) (b : Option (Int × Int)) (x : Ver) : Option (Int × Int) :=
  if beats b (tg x) = true ∧ k ≤ (shardsT n k (tg x) xs).2.length then some (tg x) else b
def refB (n k : Nat) (xs ys : List Ver) : Option (Int × Int) := ys.foldl (refStep n k xs) none
theorem refB_snoc (n k : Nat) (xs ys : List Ver) (x : Ver) : refB n k xs (ys ++ [x]) = refStep n k xs (refB n k xs ys) x := by simp [refB]
/-- the greatest tag of those that are meant. -/
def IsMax (q : Int × Int → Prop) (o : Option (Int × Int)) : Prop := (o = none → ∀ t, ¬ q t) ∧ ∀ t, o = some t → q t ∧ ∀ t', q t' → lessT t t' = false
theorem lessT_irrefl (a : Int × Int) : lessT a a = false := by unfold lessT tagLt; simp
theorem lessT_tri {a b : Int × Int} (h1 : lessT a b = false) (h2 : lessT b a = false) : a = b := by
  unfold lessT tagLt at h1 h2
  simp only [decide_eq_false_iff_not] at h1 h2
  obtain ⟨a1, a2⟩ := a
  obtain ⟨b1, b2⟩ := b
  simp only [Prod.mk.injEq]
  dsimp only at h1 h2
  omega
theorem lessT_trans {a b c : Int × Int} (h1 : lessT a b = true) (h2 : lessT c b = false) : lessT c a = false := by
  unfold lessT tagLt at *
  simp only [decide_eq_false_iff_not, decide_eq_true_eq] at *
  omega
theorem IsMax.eq {q : Int × Int → Prop} {o o' : Option (Int × Int)} (h : IsMax q o) (h' : IsMax q o') : o = o' := by
  cases o with
  | none =>
    cases o' with
    | none => rfl
    | some t => exact absurd (h'.2 t rfl).1 (h.1 rfl t)
  | some t =>
    cases o' with
    | none => exact absurd (h.2 t rfl).1 (h'.1 rfl t)
    | some t' => exact congrArg some (lessT_tri ((h.2 t rfl).2 t' (h'.2 t' rfl).1) ((h'.2 t' rfl).2 t (h.2 t rfl).1))
/-- one more is looked at. -/
theorem IsMax.step {q : Int × Int → Prop} {o : Option (Int × Int)} (h : IsMax q o) (t : Int × Int) (c : Prop) [Decidable c] :
    IsMax (fun u => q u ∨ (u = t ∧ c)) (if c ∧ beats o t = true then some t else o) := by
  by_cases hc : c
  · cases o with
    | none =>
      rw [if_pos ⟨hc, rfl⟩]
      exact ⟨(fun e => by cases e), fun u e => by
        cases e
        exact ⟨.inr ⟨rfl, hc⟩, fun u hu => by
          rcases hu with hu | hu
          · exact absurd hu (h.1 rfl u)
          · rw [hu.1]; exact lessT_irrefl _⟩⟩
    | some s =>
      by_cases hl : lessT s t = true
      · rw [if_pos ⟨hc, hl⟩]
        exact ⟨(fun e => by cases e), fun u e => by
          cases e
          exact ⟨.inr ⟨rfl, hc⟩, fun u hu => by
            rcases hu with hu | hu
            · have h1 := (h.2 s rfl).2 u hu
              unfold lessT tagLt at *
              simp only [decide_eq_false_iff_not, decide_eq_true_eq] at *
              omega
            · rw [hu.1]; exact lessT_irrefl _⟩⟩
      · rw [if_neg (fun e => hl e.2)]
        exact ⟨fun e => (by cases e), fun u e => by
          cases e
          exact ⟨.inl (h.2 s rfl).1, fun u hu => by
            rcases hu with hu | hu
            · exact (h.2 s rfl).2 u hu
            · rw [hu.1]; simpa using hl⟩⟩
  · rw [if_neg (fun e => hc e.1)]
    exact ⟨fun e t' hq => by
      rcases hq with hq | hq
      · exact h.1 e t' hq
      · exact hc hq.2, fun u e => ⟨.inl (h.2 u e).1, fun t' hq => by
      rcases hq with hq | hq
      · exact (h.2 u e).2 t' hq
      · exact absurd hq.2 hc⟩⟩
theorem IsMax.congr {q q' : Int × Int → Prop} {o : Option (Int × Int)} (h : IsMax q o) (hq : ∀ t, q t ↔ q' t) : IsMax q' o :=
  ⟨fun e t h2 => h.1 e t ((hq t).2 h2), fun t e => ⟨(hq t).1 (h.2 t e).1, fun t' h2 => (h.2 t e).2 t' ((hq t').2 h2)⟩⟩
theorem bestG_max (k : Nat) (gs : List Grp) : IsMax (fun t => ∃ g ∈ gs, g.1 = t ∧ k ≤ g.2.2.length) ((bestG k gs).map (·.1)) := by
  suffices h : ∀ ys : List Grp, IsMax (fun t => ∃ g ∈ ys.reverse, g.1 = t ∧ k ≤ g.2.2.length) ((bestG k ys.reverse).map (·.1)) by
    have := h gs.reverse
    rwa [List.reverse_reverse] at this
  intro ys
  induction ys with
  | nil => exact ⟨fun _ t ⟨g, hg, _⟩ => (by cases hg), (fun t e => by cases e)⟩
  | cons g ys ih =>
    rw [List.reverse_cons, bestG_snoc]
    have h := ih.step g.1 (k ≤ g.2.2.length)
    have e : (bestStep k (bestG k ys.reverse) g).map (·.1) = if k ≤ g.2.2.length ∧ beats ((bestG k ys.reverse).map (·.1)) g.1 = true then some g.1 else (bestG k ys.reverse).map (·.1) := by
      unfold bestStep
      split <;> rfl
    rw [e]
    refine h.congr fun t => ?_
    constructor
    · rintro (⟨g', h1, h2⟩ | ⟨rfl, h2⟩)
      · exact ⟨g', List.mem_append_left _ h1, h2⟩
      · exact ⟨g, by simp, rfl, h2⟩
    · rintro ⟨g', h1, h2, h3⟩
      rcases List.mem_append.1 h1 with h1 | h1
      · exact .inl ⟨g', h1, h2, h3⟩
      · rw [List.mem_singleton.1 h1] at h2 h3
        exact .inr ⟨h2.symm, h3⟩
theorem refB_max (n k : Nat) (xs ys : List Ver) : IsMax (fun t => ∃ x ∈ ys, tg x = t ∧ k ≤ (shardsT n k t xs).2.length) (refB n k xs ys) := by
  suffices h : ∀ zs : List Ver, IsMax (fun t => ∃ x ∈ zs.reverse, tg x = t ∧ k ≤ (shardsT n k t xs).2.length) (refB n k xs zs.reverse) by
    have := h ys.reverse
    rwa [List.reverse_reverse] at this
  intro zs
  induction zs with
  | nil => exact ⟨fun _ t ⟨g, hg, _⟩ => (by cases hg), (fun t e => by cases e)⟩
  | cons x zs ih =>
    rw [List.reverse_cons, refB_snoc]
    have h := ih.step (tg x) (k ≤ (shardsT n k (tg x) xs).2.length)
    have e : refStep n k xs (refB n k xs zs.reverse) x = if k ≤ (shardsT n k (tg x) xs).2.length ∧ beats (refB n k xs zs.reverse) (tg x) = true then some (tg x) else refB n k xs zs.reverse := by
      unfold refStep
      simp only [And.comm]
    rw [e]
    refine h.congr fun t => ?_
    constructor
    · rintro (⟨g', h1, h2⟩ | ⟨rfl, h2⟩)
      · exact ⟨g', List.mem_append_left _ h1, h2⟩
      · exact ⟨x, by simp, rfl, h2⟩
    · rintro ⟨g', h1, h2, h3⟩
      rcases List.mem_append.1 h1 with h1 | h1
      · exact .inl ⟨g', h1, h2, h3⟩
      · rw [List.mem_singleton.1 h1] at h2
        subst h2
        exact .inr ⟨rfl, h3⟩
/-- both find the same; its group is what the document reckons. -/
theorem best_same (n k : Nat) (hk : 1 ≤ k) (xs : List Ver) : refB n k xs xs = (bestG k (groupsL n k xs)).map (·.1) := by
  refine (refB_max n k xs xs).eq ((bestG_max k (groupsL n k xs)).congr fun t => ?_)
  have hok := groups_ok n k xs
  constructor
  · rintro ⟨g, h1, rfl, h3⟩
    obtain ⟨x, hx, e⟩ := hok.tag g h1
    have h4 := getG_mem hok.nodup h1
    rw [getG_groups] at h4
    exact ⟨x, hx, e, by rw [h4]; exact h3⟩
  · rintro ⟨x, _, rfl, h3⟩
    rw [← getG_groups] at h3
    cases hg : hasG (groupsL n k xs) (tg x) with
    | false => rw [getG_none hg] at h3; simp at h3; omega
    | true =>
      obtain ⟨g, hm, e⟩ := hasG_mem.1 hg
      have h4 := getG_mem hok.nodup hm
      rw [e] at h4
      rw [h4] at h3
      exact ⟨g, hm, e, h3⟩
theorem bestG_mem {k : Nat} {gs : List Grp} {g : Grp} (h : bestG k gs = some g) : g ∈ gs ∧ k ≤ g.2.2.length := by
  have key : ∀ ys : List Grp, ∀ g, bestG k ys.reverse = some g → g ∈ ys.reverse ∧ k ≤ g.2.2.length := by
    intro ys
    induction ys with
    | nil => intro g h; cases h
    | cons y ys ih =>
      intro g h
      rw [List.reverse_cons, bestG_snoc] at h
      rw [List.reverse_cons]
      unfold bestStep at h
      by_cases hc : k ≤ y.2.2.length ∧ beats ((bestG k ys.reverse).map (·.1)) y.1 = true
      · rw [if_pos hc] at h
        cases h
        exact ⟨by simp, hc.1⟩
      · rw [if_neg hc] at h
        exact ⟨List.mem_append_left _ (ih g h).1, (ih g h).2⟩
  have := key gs.reverse g
  rw [List.reverse_reverse] at this
  exact this h
/-- the best group's shards tell a text. -/
theorem best_good {n k : Nat} {xs : List Ver} {g : Grp} (h : bestG k (groupsL n k xs) = some g) : (0 ≤ g.2.1 ∧ g.2.1 ≤ 1000) ∧ (∀ s ∈ g.2.2, GoodS n (wideN k g.2.1.toNat) s) ∧ (pickS k g.2.2).length = k ∧ shardsT n k g.1 xs = g.2 := by
  obtain ⟨hm, hl⟩ := bestG_mem h
  have hok := groups_ok n k xs
  refine ⟨hok.size g hm, hok.good g hm, ?_, ?_⟩
  · rw [pickS_all (hok.unlike g hm), List.length_take]; omega
  · rw [← getG_groups]; exact getG_mem hok.nodup hm
end Go.Proofs.YtolbdcmoblcakaaGreatDoor
/- The walks of quorum.Check, quorum.Enough. -/
namespace Go.Proofs.YtolbdcmoblcakaaGreatDoor
open Go.RowKit

structure ErrQx (w : World) (E : Nat → Addr) : Prop where
  nx : ErrNx w E
  c2 : w.cell? ⟨6, 0, none⟩ = some (errV (E 2))
theorem ErrQx.below {n : Nat} {w w' : World} {E : Nat → Addr} (hb : Below n w w') (hn : w.heap.size ≤ n) (h : ErrQx w E) : ErrQx w' E :=
  ⟨h.nx.below hb hn, (hb.cell (Nat.lt_of_lt_of_le (lt_of_cell h.c2) hn)).trans h.c2⟩
theorem ErrEnv.qx {w : World} {E : Nat → Addr} (h : ErrEnv w E) : ErrQx w E := ⟨h.nx, h.c2⟩
/-- what the check of a configuration answers. -/
def configF (n k : Int) (L : List ByteArray) : Nat × Int := if isSpreadB n k = true then (if (L.length : Int) = n then nodesF L else (3, -1)) else (2, -1)
theorem configF_bad {n k : Int} {L : List ByteArray} (h : isSpreadB n k = false) : configF n k L = (2, -1) := by unfold configF; rw [h]; rfl
theorem configF_shape {n k : Int} {L : List ByteArray} (h : isSpreadB n k = true) (hl : (L.length : Int) ≠ n) : configF n k L = (3, -1) := by unfold configF; rw [if_pos h, if_neg hl]
theorem configF_nodes {n k : Int} {L : List ByteArray} (h : isSpreadB n k = true) (hl : (L.length : Int) = n) : configF n k L = nodesF L := by unfold configF; rw [if_pos h, if_pos hl]
theorem configF_zero {n k : Int} {L : List ByteArray} (h : (configF n k L).1 = 0) : (1 ≤ k ∧ k ≤ n ∧ n ≤ 12) ∧ (L.length : Int) = n ∧ L.Nodup ∧ (∀ s ∈ L, nameB s = true) ∧ configF n k L = (0, -1) := by
  cases hs : isSpreadB n k with
  | false => rw [configF_bad hs] at h; cases h
  | true =>
    by_cases hl : (L.length : Int) = n
    · rw [configF_nodes hs hl] at h ⊢
      have := nodesF_zero h
      exact ⟨of_decide_eq_true hs, hl, this.2.1, this.2.2.1, this.2.2.2⟩
    · rw [configF_shape hs hl] at h; cases h
/-- a configuration by value. -/
abbrev cfgV (n k : Int) (v : Value) : Value := .agg #[.int .i64 n, .int .i64 k, v]
/-- its box. -/
structure CfgAt (w : World) (b : Nat) (n k : Int) (v : Value) : Prop where
  c0 : w.cell? ⟨b, 0, none⟩ = some (.int .i64 n)
  c1 : w.cell? ⟨b, 1, none⟩ = some (.int .i64 k)
  c2 : w.cell? ⟨b, 2, none⟩ = some v
theorem CfgAt.new (w : World) (n k : Int) (v : Value) : CfgAt (w.alloc (.cells #[.int .i64 n, .int .i64 k, v] 24)) w.heap.size n k v := ⟨by simp, by simp, by simp⟩
theorem CfgAt.below {m : Nat} {w w' : World} {b : Nat} {n k : Int} {v : Value} (h : CfgAt w b n k v) (hb : Below m w w') (hn : b < m) : CfgAt w' b n k v :=
  ⟨(hb.cell (p := ⟨b, 0, none⟩) hn).trans h.c0, (hb.cell (p := ⟨b, 1, none⟩) hn).trans h.c1, (hb.cell (p := ⟨b, 2, none⟩) hn).trans h.c2⟩

set_option maxRecDepth 100000 in
set_option maxHeartbeats 2000000 in
theorem qcheck_walk (n k : Int) (n₀ : Nat) (a : Option Addr) (len cap : Nat) (L : List ByteArray) (w : World) (E : Nat → Addr) (hE : ErrQx w E) (hlen : L.length = len) (hcap : len ≤ cap) (hsz : ∀ j : Nat, (L[j]?.getD (⟨#[]⟩ : ByteArray)).size ≤ maxLen) (hI : TxsAt n₀ w a L) (hn : n₀ ≤ w.heap.size) :
    Calls Tryz.prog 44 #[cfgV n k (.slice a len cap)] w fun e w' => (∃ v, e = .returned v ∧ FltV w' E (configF n k L) v) ∧ Below w.heap.size w w' := by
  have hB0 : Below w.heap.size w (w.alloc (.cells #[.int .i64 n, .int .i64 k, .slice a len cap] 24)) := (Below.refl _ w).alloc (Nat.le_refl _) _
  have hz : w.heap.size < (w.alloc (.cells #[.int .i64 n, .int .i64 k, .slice a len cap] 24)).heap.size := by simp
  have hE0 := hE.below hB0 (Nat.le_refl _)
  have hC := CfgAt.new w n k (.slice a len cap)
  have hI0 := (hI.mono hn).below hB0
  cases hs : isSpreadB n k with
  | false =>
    have hp := powers_bad n k _ (errV (E 1)) hE0.nx.c1 (of_decide_eq_false hs)
    have Hp := Lib.hid hp
    have HB := Lib.hid hB0
    rw [configF_bad hs]
    clear hs hp hB0 hz hE0 hE hC hI0 hI hsz hlen
    go_enter Tryz.func44, Tryz.ntmps44
    go_wp2_with fail
    refine Hp.out.mono ?_
    rintro e w1 ⟨rfl, hq⟩
    have HB1 : Hid (Below w.heap.size w w1) := Lib.hid (by
      obtain ⟨q, rfl⟩ := hq
      exact HB.out.trans (same_below' _ q))
    clear hq
    go_wp2
    go_ret
    exact ⟨⟨_, rfl, .inr (.inl ⟨1, by decide, rfl, rfl⟩)⟩, HB1.out⟩
  | true =>
    have hsp := of_decide_eq_true hs
    obtain ⟨k, rfl⟩ := Int.eq_ofNat_of_zero_le (show 0 ≤ k by omega)
    obtain ⟨n, rfl⟩ := Int.eq_ofNat_of_zero_le (show 0 ≤ n by omega)
    have Hp := Lib.hid (powers_walk n k (w.alloc (.cells #[.int .i64 (n : Int), .int .i64 (k : Int), .slice a len cap] 24)) (by omega) (by omega) (by omega))
    have HB := Lib.hid (And.intro hB0 hz)
    have HE := Lib.hid hE0
    have HC := Lib.hid hC
    have HI := Lib.hid hI0
    have Hsz := Lib.hid hsz
    have Hlen := Lib.hid hlen
    by_cases hl : len = n
    · subst hl
      obtain ⟨F, hF⟩ : ∃ F, configF (len : Int) (k : Int) L = F := ⟨_, rfl⟩
      have hF2 := hF
      rw [configF_nodes hs (by omega)] at hF2
      have HF := Lib.hid hF2
      rw [hF]
      clear hF hF2 hs hsp hB0 hz hE0 hE hC hI0 hI hsz hlen
      go_enter Tryz.func44, Tryz.ntmps44
      go_wp2_with fail
      refine Hp.out.mono ?_
      rintro e w1 ⟨⟨v, bs, cps, rfl, _⟩, hb1⟩
      have HB1 := Lib.hid (HB.out.1.trans (hb1.mono HB.out.1.size))
      obtain ⟨c0, c1, c2⟩ := HC.out.below hb1 HB.out.2
      have Hk := Lib.hid (check_walk w.heap.size a len cap L w1 E (HE.out.below hb1 (Nat.le_refl _)).nx Hlen.out hcap Hsz.out (HI.out.below (hb1.mono HB.out.1.size)) HB1.out.size)
      clear hb1
      go_wp2_with fail
      refine Hk.out.mono ?_
      rintro e w2 ⟨⟨v, rfl, hv⟩, hb2⟩
      rw [HF.out] at hv
      have HV := Lib.hid (And.intro hv (HB1.out.trans (hb2.mono HB1.out.size)))
      clear hv hb2
      go_wp2
      go_ret
      exact ⟨⟨_, rfl, HV.out.1⟩, HV.out.2⟩
    · have e1 : ((len : Int) == (n : Int)) = false := beq_eq_false_iff_ne.2 (by omega)
      have e2 : ((len : Int) != (n : Int)) = true := bne_iff_ne.2 (by omega)
      have e3 : (len == n) = false := beq_eq_false_iff_ne.2 hl
      rw [configF_shape hs (by omega)]
      clear hs hsp hB0 hz hE0 hE hC hI0 hI hsz hlen hl
      go_enter Tryz.func44, Tryz.ntmps44
      go_wp2_with fail
      refine Hp.out.mono ?_
      rintro e w1 ⟨⟨v, bs, cps, rfl, _⟩, hb1⟩
      have HB1 := Lib.hid (HB.out.1.trans (hb1.mono HB.out.1.size))
      obtain ⟨c0, c1, c2⟩ := HC.out.below hb1 HB.out.2
      have hsh := (HE.out.below hb1 (Nat.le_refl _)).c2
      clear hb1
      go_wp2
      go_ret
      exact ⟨⟨_, rfl, .inr (.inl ⟨2, by decide, rfl, rfl⟩)⟩, HB1.out⟩

/-- what Enough answers. -/
def EnoughOut (w w' : World) (E : Nat → Addr) (n k : Int) (L : List ByteArray) (e : Ending) : Prop := Below w.heap.size w w' ∧
  (((configF n k L).1 = 0 ∧ e = .returned (.tuple #[.int .i64 ((n + k + 1) / 2), .nilIface])) ∨ ((configF n k L).1 ≠ 0 ∧ ∃ v, ((∃ x, v = errV x) ∨ ∃ m, v = faultV m) ∧ FltV w' E (configF n k L) v ∧ e = .returned (.tuple #[.int .i64 0, v])))
end Go.Proofs.YtolbdcmoblcakaaGreatDoor
