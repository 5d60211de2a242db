/- Groups in memory: what each step leaves. -/
import Derived.Test.YtabboioamdphmaaGreatDoorSCarryHears18
import Derived.Deep.AppendLies
import Derived.Deep.RegionLaw
import Derived.Deep.RegionHeld3
import Derived.Deep.RegionHeld
namespace Go.Proofs.YtabboioamdphmaaGreatDoor
section
open Go.RowKit Go.BigFrame

def grp0 : Grp := ((0, 0), 0, [])
theorem own1_heap {E : TypeId} {B : Nat} {w : World} {v : Value} {us : List Value} (h : Own1 E B w v us) {g : Nat} (hg : v.ownBlock = some g) : ∃ cs, w.heap[g]? = some (.cells cs E (0, 0)) := by
  rcases h.2 with ⟨rfl, _⟩ | ⟨g', cap, cur, rfl, _, h2, _⟩
  · cases hg
  · have e : g' = g := by simpa [Value.ownBlock] using hg
    exact ⟨cur, by rw [← e]; exact h2⟩
theorem owns_heap {B : Nat} {w : World} {v : Value} {l : List Sh} (h : OwnS B w v l) {g : Nat} (hg : v.ownBlock = some g) : ∃ cs, w.heap[g]? = some (.cells cs 74 (0, 0)) := by
  rcases h.2 with ⟨rfl, _⟩ | ⟨g', cap, cur, rfl, _, h2, _⟩
  · cases hg
  · have e : g' = g := by simpa [Value.ownBlock] using hg
    exact ⟨cur, by rw [← e]; exact h2⟩
theorem OwnS.heapK {B : Nat} {w w' : World} {v : Value} {l : List Sh} (h : OwnS B w v l) (hg : ∀ g, v.ownBlock = some g → w'.heap[g]? = w.heap[g]?) : OwnS B w' v l := by
  refine ⟨h.1, ?_⟩
  rcases h.2 with hn | ⟨g, cap, cur, rfl, hb, hgg, rest⟩
  · exact .inl hn
  · exact .inr ⟨g, cap, cur, rfl, hb, (hg g rfl).trans hgg, rest⟩
theorem Own1.heapK {E : TypeId} {B : Nat} {w w' : World} {v : Value} {us : List Value} (h : Own1 E B w v us) (hg : ∀ g, v.ownBlock = some g → w'.heap[g]? = w.heap[g]?) : Own1 E B w' v us := by
  refine ⟨h.1, ?_⟩
  rcases h.2 with hn | ⟨g, cap, cur, rfl, hb, hgg, rest⟩
  · exact .inl hn
  · exact .inr ⟨g, cap, cur, rfl, hb, (hg g rfl).trans hgg, rest⟩
def grpC (g : Grp) (v : Value) : Obj := .cells #[.int .i64 g.1.1, .int .i64 g.1.2, .int .i64 g.2.1, v] 136 (0, 0)
structure GrpsAt (B : Nat) (w : World) (v : Value) (gs : List Grp) (bs : List Nat) (vs : List Value) : Prop where
  lenb : bs.length = gs.length
  lenv : vs.length = gs.length
  ptr : Own1 132 B w v (bs.map fun b => .pointer (some ⟨b, 0, none⟩))
  blk : ∀ i, i < gs.length → w.heap[bs[i]?.getD 0]? = some (grpC (gs[i]?.getD grp0) (vs[i]?.getD undef)) ∧ B ≤ bs[i]?.getD 0 ∧ OwnS B w (vs[i]?.getD undef) (gs[i]?.getD grp0).2.2
  nodup : bs.Nodup
  apart : ∀ i j, i < gs.length → j < gs.length → i ≠ j → ∀ g, (vs[i]?.getD undef).ownBlock = some g → (vs[j]?.getD undef).ownBlock ≠ some g
theorem GrpsAt.nil (B : Nat) (w : World) : GrpsAt B w (.slice none 0 0) [] [] [] := ⟨rfl, rfl, Own1.nil _ _ _, fun i hi => (by simp at hi), List.nodup_nil, fun i j hi => (by simp at hi)⟩
theorem GrpsAt.heapK {B : Nat} {w w' : World} {v : Value} {gs : List Grp} {bs : List Nat} {vs : List Value} (h : GrpsAt B w v gs bs vs) (hk : ∀ (b : Nat) (o : Obj), w.heap[b]? = some o → w'.heap[b]? = some o) : GrpsAt B w' v gs bs vs := by
  refine ⟨h.lenb, h.lenv, h.ptr.heapK (fun g hg => ?_), fun i hi => ?_, h.nodup, h.apart⟩
  · obtain ⟨cs, e⟩ := own1_heap h.ptr hg
    rw [e]; exact hk g _ e
  · obtain ⟨h1, h2, h3⟩ := h.blk i hi
    refine ⟨hk _ _ h1, h2, h3.heapK (fun g hg => ?_)⟩
    obtain ⟨cs, e⟩ := owns_heap h3 hg
    rw [e]; exact hk g _ e
theorem GrpsAt.below {B : Nat} {w w' : World} {v : Value} {gs : List Grp} {bs : List Nat} {vs : List Value} (h : GrpsAt B w v gs bs vs) (hb : Below w.heap.size w w') : GrpsAt B w' v gs bs vs :=
  h.heapK (fun b _ e => (hb.block b (Array.getElem?_eq_some_iff.1 e).1).trans e)
theorem GrpsAt.ptrs {B : Nat} {w : World} {v : Value} {gs : List Grp} {bs : List Nat} {vs : List Value} (h : GrpsAt B w v gs bs vs) : ∃ a cap, v = .slice a bs.length cap ∧ bs.length ≤ cap ∧ cap ≤ maxLen ∧ PtR w a bs := by
  rcases h.ptr.shape with ⟨rfl, hl⟩ | ⟨g, cap, rfl, _, hg, hc, hm, _, hcell⟩
  · have : bs = [] := by simpa using hl
    subst this
    exact ⟨none, 0, rfl, Nat.le_refl _, by simp [maxLen], .inl rfl⟩
  · refine ⟨_, cap, by simp, by simpa using hc, hm, .inr ⟨g, 0, rfl, hg, fun j hj => ?_⟩⟩
    rw [Nat.zero_add, hcell j (by simpa using hj)]
    simp [hj]
theorem GrpsAt.tags {B : Nat} {w : World} {v : Value} {gs : List Grp} {bs : List Nat} {vs : List Value} (h : GrpsAt B w v gs bs vs) : GTags w bs (gs.map (·.1)) := fun j hj => by
  have hj2 : j < gs.length := by rw [← h.lenb]; exact hj
  obtain ⟨h1, _, _⟩ := h.blk j hj2
  have e : (gs.map (·.1))[j]?.getD (0, 0) = (gs[j]?.getD grp0).1 := by simp [hj2]
  rw [e]
  unfold grpC at h1
  exact ⟨(cell_of_heap h1 0).trans rfl, (cell_of_heap h1 1).trans rfl⟩
theorem getD_snoc {α : Type} (l : List α) (x z : α) (i : Nat) : (l ++ [x])[i]?.getD z = if i < l.length then l[i]?.getD z else if i = l.length then x else z := by
  by_cases h : i < l.length
  · rw [if_pos h, List.getElem?_append_left h]
  · rw [if_neg h]
    by_cases h2 : i = l.length
    · rw [if_pos h2, h2]; simp
    · rw [if_neg h2, List.getElem?_eq_none (by simp; omega)]; rfl
theorem GrpsAt.new {B : Nat} {w w' : World} {v v' : Value} {gs : List Grp} {bs : List Nat} {vs : List Value} {o : Obj} (h : GrpsAt B w v gs bs vs) (hB : B ≤ w.heap.size) (t : Int × Int) (sz : Int)
    (hp : Own1 132 B w' v' ((bs.map fun b => .pointer (some ⟨b, 0, none⟩)) ++ [.pointer (some ⟨w.heap.size, 0, none⟩)]))
    (hg : ((w.alloc (.cells #[.int .i64 t.1, .int .i64 t.2, .int .i64 sz, .slice none 0 0] 136)).alloc o).grownBy w' v.ownBlock) :
    GrpsAt B w' v' (gs ++ [(t, sz, [])]) (bs ++ [w.heap.size]) (vs ++ [.slice none 0 0]) ∧ Below B w w' ∧ ∀ (b : Nat) (cs : Array Value) (ty : TypeId), w.heap[b]? = some (.cells cs ty (0, 0)) → ty ≠ 132 → w'.heap[b]? = some (.cells cs ty (0, 0)) := by
  obtain ⟨w2, hw2⟩ : ∃ w2, (w.alloc (.cells #[.int .i64 t.1, .int .i64 t.2, .int .i64 sz, .slice none 0 0] 136)).alloc o = w2 := ⟨_, rfl⟩
  have hs2 : w2.heap.size = w.heap.size + 1 + 1 := by rw [← hw2]; simp
  have hB2 : Below w.heap.size w w2 := by rw [← hw2]; exact ((Below.refl _ w).alloc (Nat.le_refl _) _).alloc (by simp) _
  have hnew : w2.heap[w.heap.size]? = some (.cells #[.int .i64 t.1, .int .i64 t.2, .int .i64 sz, .slice none 0 0] 136 (0, 0)) := by
    rw [← hw2, Below.heap_alloc _ _ _ (by simp)]; exact heap_alloc_new _ _
  rw [hw2] at hg
  have hvb : ∀ g, v.ownBlock = some g → ∃ cs, w.heap[g]? = some (.cells cs 132 (0, 0)) := fun g e => own1_heap h.ptr e
  have hkeep : ∀ (b : Nat) (cs : Array Value) (ty : TypeId), w.heap[b]? = some (.cells cs ty (0, 0)) → ty ≠ 132 → w'.heap[b]? = some (.cells cs ty (0, 0)) := fun b cs ty e hty => by
    have hlt := (Array.getElem?_eq_some_iff.1 e).1
    have e2 : w2.heap[b]? = some (.cells cs ty (0, 0)) := (hB2.block b hlt).trans e
    refine (hg.block b (by omega) (fun e3 => ?_)).trans e2
    obtain ⟨cs', e4⟩ := hvb b e3.symm
    rw [e] at e4
    simp at e4
    exact hty e4.2
  have hnb : ∀ i, i < gs.length → bs[i]?.getD 0 < w.heap.size := fun i hi => (Array.getElem?_eq_some_iff.1 (h.blk i hi).1).1
  refine ⟨⟨by simp [h.lenb], by simp [h.lenv], by rw [List.map_append]; exact hp, fun i hi => ?_, ?_, fun i j hi hj hne g hgi => ?_⟩, ?_⟩
  · rw [getD_snoc, getD_snoc, getD_snoc, h.lenb, h.lenv]
    by_cases hil : i < gs.length
    · rw [if_pos hil, if_pos hil, if_pos hil]
      obtain ⟨h1, h2, h3⟩ := h.blk i hil
      refine ⟨hkeep _ _ 136 h1 (by decide), h2, h3.heapK (fun g e => ?_)⟩
      obtain ⟨cs, e2⟩ := owns_heap h3 e
      rw [e2]; exact hkeep _ _ 74 e2 (by decide)
    · have hieq : i = gs.length := by simp at hi; omega
      rw [if_neg hil, if_neg hil, if_neg hil, if_pos hieq, if_pos hieq, if_pos hieq]
      refine ⟨?_, hB, OwnS.nil _ _⟩
      refine (hg.block w.heap.size (by omega) (fun e3 => ?_)).trans hnew
      obtain ⟨cs', e4⟩ := hvb _ e3.symm
      have := (Array.getElem?_eq_some_iff.1 e4).1
      omega
  · rw [List.nodup_append]
    refine ⟨h.nodup, by simp, fun a ha b hb => ?_⟩
    rw [List.mem_singleton.1 hb]
    obtain ⟨i, hi, rfl⟩ := List.getElem_of_mem ha
    have h9 := hnb i (by rw [← h.lenb]; exact hi)
    rw [List.getElem?_eq_getElem hi] at h9
    exact Nat.ne_of_lt h9
  · rw [getD_snoc, h.lenv] at hgi ⊢
    by_cases hil : i < gs.length
    · rw [if_pos hil] at hgi
      by_cases hjl : j < gs.length
      · rw [if_pos hjl]; exact h.apart i j hil hjl hne g hgi
      · rw [if_neg hjl]; split <;> (intro e; cases e)
    · rw [if_neg hil] at hgi
      split at hgi <;> cases hgi
  · exact ⟨(hB2.mono hB).trans (World.grownBy.below hg (by omega) (fun k e => (h.ptr.lt k e).1)), hkeep⟩
theorem getD_set {α : Type} (l : List α) (x z : α) (i j : Nat) (hi : i < l.length) : (l.set i x)[j]?.getD z = if j = i then x else l[j]?.getD z := by
  by_cases h : j = i
  · rw [if_pos h, h, List.getElem?_set_self hi]; rfl
  · rw [if_neg h, List.getElem?_set_ne (fun e => h e.symm)]
theorem GrpsAt.add {B : Nat} {w w0 w' : World} {v v' : Value} {gs : List Grp} {bs : List Nat} {vs : List Value} {i : Nat} {s : Sh} (h : GrpsAt B w v gs bs vs) (hi : i < gs.length) (hB : B ≤ w.heap.size) (hb0 : Below w.heap.size w w0)
    (hp : OwnS B w' v' ((gs[i]?.getD grp0).2.2 ++ [s])) (hg : w0.grownBy w' (vs[i]?.getD undef).ownBlock) (hat : v'.ownBlock = (vs[i]?.getD undef).ownBlock ∨ ∀ g, v'.ownBlock = some g → w.heap.size ≤ g) :
    GrpsAt B (w'.setCell ⟨bs[i]?.getD 0, 3, none⟩ v') v (gs.set i ((gs[i]?.getD grp0).1, (gs[i]?.getD grp0).2.1, (gs[i]?.getD grp0).2.2 ++ [s])) bs (vs.set i v') ∧ Below B w (w'.setCell ⟨bs[i]?.getD 0, 3, none⟩ v') := by
  obtain ⟨b1, b2, b3⟩ := h.blk i hi
  obtain ⟨gb, hgb⟩ : ∃ gb, bs[i]?.getD 0 = gb := ⟨_, rfl⟩
  rw [hgb] at b1 b2
  have hlt := (Array.getElem?_eq_some_iff.1 b1).1
  have hvb : ∀ g, (vs[i]?.getD undef).ownBlock = some g → ∃ cs, w.heap[g]? = some (.cells cs 74 (0, 0)) := fun g e => owns_heap b3 e
  have hk1 : ∀ (b : Nat) (o : Obj), w.heap[b]? = some o → (vs[i]?.getD undef).ownBlock ≠ some b → w'.heap[b]? = some o := fun b o e hne => by
    have hl := (Array.getElem?_eq_some_iff.1 e).1
    exact (hg.block b (Nat.lt_of_lt_of_le hl hb0.size) (fun e3 => hne e3.symm)).trans ((hb0.block b hl).trans e)
  have hk2 : ∀ (b : Nat) (o : Obj), b ≠ gb → w'.heap[b]? = some o → (w'.setCell ⟨gb, 3, none⟩ v').heap[b]? = some o := fun b o hne e => (Below.heap_setCell _ _ _ _ hne).trans e
  have hty : ∀ (b : Nat) (cs : Array Value) (ty : TypeId), w.heap[b]? = some (.cells cs ty (0, 0)) → ty ≠ 74 → (vs[i]?.getD undef).ownBlock ≠ some b := fun b cs ty e ht e3 => by
    obtain ⟨cs', e4⟩ := hvb b e3
    rw [e] at e4
    simp at e4
    exact ht e4.2
  have hgbw' : w'.heap[gb]? = some (grpC (gs[i]?.getD grp0) (vs[i]?.getD undef)) := hk1 _ _ b1 (hty _ _ 136 b1 (by decide))
  have hib : i < bs.length := by rw [h.lenb]; exact hi
  have hiv : i < vs.length := by rw [h.lenv]; exact hi
  rw [hgb]
  have hv'gb : ∀ g, v'.ownBlock = some g → g ≠ gb := fun g e e2 => by
    obtain ⟨cs', e4⟩ := owns_heap hp e
    rw [e2, hgbw'] at e4
    unfold grpC at e4
    simp at e4
  refine ⟨⟨by simp [h.lenb], by simp [h.lenv], h.ptr.heapK (fun g e => ?_), fun j hj => ?_, h.nodup, fun j k hj hk hne g e => ?_⟩, ?_⟩
  · obtain ⟨cs, e2⟩ := own1_heap h.ptr e
    rw [e2]
    have hne : g ≠ gb := fun e3 => by rw [e3, b1] at e2; unfold grpC at e2; simp at e2
    exact hk2 _ _ hne (hk1 _ _ e2 (hty _ _ 132 e2 (by decide)))
  · rw [List.length_set] at hj
    rw [getD_set gs _ _ i j hi, getD_set vs _ _ i j hiv]
    by_cases hji : j = i
    · subst hji
      rw [if_pos rfl, if_pos rfl, hgb]
      refine ⟨?_, b2, hp.heapK (fun g e => Below.heap_setCell _ _ _ _ (hv'gb g e))⟩
      unfold grpC at hgbw' ⊢
      exact (heap_setCell_same w' gb 3 _ _ _ hgbw').trans (by simp)
    · rw [if_neg hji, if_neg hji]
      obtain ⟨c1, c2, c3⟩ := h.blk j hj
      have hjb : j < bs.length := by rw [h.lenb]; exact hj
      have hne : bs[j]?.getD 0 ≠ gb := fun e => by
        rw [← hgb, List.getElem?_eq_getElem hjb, List.getElem?_eq_getElem hib] at e
        have e9 : bs[j] = bs[i] := e
        rcases Nat.lt_or_gt_of_ne hji with h9 | h9
        · exact List.pairwise_iff_getElem.1 h.nodup j i hjb hib h9 e9
        · exact List.pairwise_iff_getElem.1 h.nodup i j hib hjb h9 e9.symm
      refine ⟨hk2 _ _ hne (hk1 _ _ c1 (hty _ _ 136 c1 (by decide))), c2, c3.heapK (fun g e => ?_)⟩
      obtain ⟨cs, e2⟩ := owns_heap c3 e
      rw [e2]
      have hne2 : g ≠ gb := fun e3 => by rw [e3, b1] at e2; unfold grpC at e2; simp at e2
      exact hk2 _ _ hne2 (hk1 _ _ e2 (h.apart j i hj hi hji g e))
  · rw [List.length_set] at hj hk
    rw [getD_set vs _ _ i j hiv] at e
    rw [getD_set vs _ _ i k hiv]
    by_cases hji : j = i
    · rw [if_pos hji] at e
      rw [if_neg (fun e3 => hne (hji.trans e3.symm))]
      intro e3
      have hki : k ≠ i := fun e4 => hne (hji.trans e4.symm)
      obtain ⟨cs, e5⟩ := owns_heap (h.blk k hk).2.2 e3
      rcases hat with e4 | e4
      · rw [e] at e4
        exact h.apart i k hi hk (fun e6 => hki e6.symm) g e4.symm e3
      · have := e4 g e
        have := (Array.getElem?_eq_some_iff.1 e5).1
        omega
    · rw [if_neg hji] at e
      by_cases hki : k = i
      · rw [if_pos hki]
        intro e3
        obtain ⟨cs, e5⟩ := owns_heap (h.blk j hj).2.2 e
        rcases hat with e4 | e4
        · rw [e3] at e4
          exact h.apart j i hj hi hji g e e4.symm
        · have := e4 g e3
          have := (Array.getElem?_eq_some_iff.1 e5).1
          omega
      · rw [if_neg hki]
        exact h.apart j k hj hk hne g e
  · exact ((hb0.mono hB).trans (World.grownBy.below hg (Nat.le_trans hB hb0.size) (fun k e => (b3.lt k e).1))).setCell b2 _
end
end Go.Proofs.YtabboioamdphmaaGreatDoor
/- The walk of groups. -/
namespace Go.Proofs.YtabboioamdphmaaGreatDoor
section
open Go.RowKit Go.BigFrame

theorem step_append_shard {ops : Array Oper} {o : Oper} {a : Act} {K : Act → World → Prop} {Q : Exit → Act → World → Prop} {E : Prop} {w : World} (s x : Nat) (hgd : o.guard = none)
    (ho : o.op = .call { callee := .builtin .append, args := #[.tmp s, .tmp x], argTypes := #[125, 125] }) (B : Nat) (v : Value) (l : List Sh) (n : Int) (t : ByteArray) (nb : Nat)
    (hs : a.eval (.tmp s) = v) (hx : a.eval (.tmp x) = .slice (some ⟨nb, 0, none⟩) 1 1) (hn0 : w.cell? ⟨nb, 0, none⟩ = some (.int .i64 n)) (hn1 : w.cell? ⟨nb, 1, none⟩ = some (.string t)) (hown : OwnS B w v l) (hl : l.length ≤ 1000000) (hB : B ≤ w.heap.size)
    (h : ∀ g cap w', OwnS B w' (.slice (some ⟨g, 0, none⟩) (l.length + 1) cap) (l ++ [(n, t)]) → w.grownBy w' v.ownBlock → (v.ownBlock = some g ∨ g = w.heap.size) → K (a.put o.dst (.slice (some ⟨g, 0, none⟩) (l.length + 1) cap)) w') :
    if Region.wanted o (yielded ops a.tmps) = true then Oper.wp Tryz.prog o a w K Q else E := by
  obtain ⟨i, hi, hz0, hz1, hz2⟩ := info_parts info_shard
  refine step_append_lies w hgd (.tmp s) (.tmp x) 125 ho B 74 i _ 2 24 Tryz.underlying125 hi hz0 hz1 hz2 rfl (by decide) v l.length (shV l) hs hown ⟨nb, 0, none⟩ 1 1 [.int .i64 n, .string t] hx rfl (fun j u hj => ?_) (fun u hu => ?_) (by decide) (by unfold maxLen; omega) (by omega) hB _ rfl ?_
  · match j, hj with
    | 0, hj => simp at hj; subst hj; simpa [Addr.add] using hn0
    | 1, hj => simp at hj; subst hj; simpa [Addr.add] using hn1
  · simp at hu
    rcases hu with rfl | rfl <;> rfl
  · intro g cap w' h1 h2 h3 _
    refine h g cap w' ?_ h2 h3
    unfold OwnS
    rw [shV_append, List.length_append]
    exact h1
theorem groupsL_len (n k : Nat) (xs : List Ver) : (groupsL n k xs).length ≤ xs.length := by
  suffices h : ∀ ys : List Ver, (groupsL n k ys.reverse).length ≤ ys.length by
    have := h xs.reverse
    rwa [List.reverse_reverse, List.length_reverse] at this
  intro ys
  induction ys with
  | nil => exact Nat.le_refl _
  | cons x ys ih =>
    rw [List.reverse_cons, groupsL_snoc]
    unfold stepG
    split
    · split
      · simp; omega
      · simp; omega
    · simp; omega
theorem groupsL_shards (n k : Nat) (xs : List Ver) : ∀ g ∈ groupsL n k xs, g.2.2.length ≤ xs.length := by
  suffices h : ∀ ys : List Ver, ∀ g ∈ groupsL n k ys.reverse, g.2.2.length ≤ ys.length by
    have := h xs.reverse
    rwa [List.reverse_reverse, List.length_reverse] at this
  have ha : ∀ (g : Grp) (x : Ver), (addG g x).2.2.length ≤ g.2.2.length + 1 := fun g x => by unfold addG; split <;> simp
  intro ys
  induction ys with
  | nil => intro g hg; cases hg
  | cons x ys ih =>
    rw [List.reverse_cons, groupsL_snoc]
    intro g hg
    unfold stepG at hg
    rw [List.length_cons]
    split at hg
    · split at hg
      · obtain ⟨g0, h0, rfl⟩ := List.mem_map.1 hg
        have h1 := ih g0 h0
        split
        · have := ha g0 x; omega
        · omega
      · rcases List.mem_append.1 hg with h0 | h0
        · have := ih g h0; omega
        · rw [List.mem_singleton.1 h0]
          have := ha (tg x, x.2.2.1, []) x
          simp at this; omega
    · have := ih g hg; omega
theorem map_set_at (l : List Grp) (t : Int × Int) (f : Grp → Grp) : ∀ (i : Nat), (l.map (·.1)).Nodup → i < l.length → (l[i]?.getD grp0).1 = t → l.map (fun g => if g.1 = t then f g else g) = l.set i (f (l[i]?.getD grp0)) := by
  induction l with
  | nil => intro i _ hi; simp at hi
  | cons y l ih =>
    intro i hn hi ht
    rw [List.map_cons, List.nodup_cons] at hn
    cases i with
    | zero =>
      have ht' : y.1 = t := by simpa using ht
      rw [List.map_cons, if_pos ht']
      have e : l.map (fun g => if g.1 = t then f g else g) = l := by
        conv => rhs; rw [← List.map_id l]
        refine List.map_congr_left fun g hg => ?_
        rw [if_neg (fun e => hn.1 (List.mem_map.2 ⟨g, hg, e.trans ht'.symm⟩))]; rfl
      rw [e]; rfl
    | succ i =>
      have hi' : i < l.length := by simpa using hi
      have ht2 : (l[i]?.getD grp0).1 = t := by simpa using ht
      have hne : ¬ y.1 = t := fun e => hn.1 (by
        refine List.mem_map.2 ⟨l[i]?.getD grp0, ?_, ht2.trans e.symm⟩
        rw [List.getElem?_eq_getElem hi']; exact List.getElem_mem hi')
      rw [List.map_cons, if_neg hne, ih i hn.2 hi' ht2]
      rfl
def AtG (n k : Nat) (gs : List Grp) (x : Ver) (gs1 : List Grp) (i : Nat) : Prop := i < gs1.length ∧ (gs1[i]?.getD grp0).1 = tg x ∧ stepG n k gs x = gs1.set i (addG (gs1[i]?.getD grp0) x)
theorem atG_old {n k : Nat} {gs : List Grp} {x : Ver} {i : Nat} (hc : canB n k x = true) (hn : (gs.map (·.1)).Nodup) (hi : i < (gs.map (·.1)).length) (ht : (gs.map (·.1))[i]? = some (tg x)) : AtG n k gs x gs i := by
  have hi' : i < gs.length := by simpa using hi
  have ht' : (gs[i]?.getD grp0).1 = tg x := by
    rw [List.getElem?_eq_getElem hi']
    rw [List.getElem?_map, List.getElem?_eq_getElem hi'] at ht
    simpa using ht
  refine ⟨hi', ht', ?_⟩
  rw [stepG_map hc (hasG_mem.2 ⟨gs[i]?.getD grp0, by rw [List.getElem?_eq_getElem hi']; exact List.getElem_mem hi', ht'⟩)]
  exact map_set_at gs (tg x) (fun g => addG g x) i hn hi' ht'
theorem atG_new {n k : Nat} {gs : List Grp} {x : Ver} (hc : canB n k x = true) (ht : tg x ∉ gs.map (·.1)) : AtG n k gs x (gs ++ [(tg x, x.2.2.1, [])]) gs.length := by
  have e : (gs ++ [(tg x, x.2.2.1, ([] : List Sh))])[gs.length]?.getD grp0 = (tg x, x.2.2.1, []) := by simp
  refine ⟨by simp, by rw [e], ?_⟩
  have hf : hasG gs (tg x) = false := by
    cases h : hasG gs (tg x) with
    | false => rfl
    | true =>
      obtain ⟨g, hg, h2⟩ := hasG_mem.1 h
      exact absurd (List.mem_map.2 ⟨g, hg, h2⟩) ht
  rw [stepG_new hc hf, e]
  simp
theorem AtG.no {n k : Nat} {gs gs1 : List Grp} {x : Ver} {i : Nat} (h : AtG n k gs x gs1 i) (hno : addG (gs1[i]?.getD grp0) x = gs1[i]?.getD grp0) : stepG n k gs x = gs1 := by
  rw [h.2.2, hno, List.getElem?_eq_getElem h.1]
  exact List.set_getElem_self h.1
theorem take_snoc {α : Type} (l : List α) (z : α) (i : Nat) (h : i < l.length) : l.take (i + 1) = l.take i ++ [l[i]?.getD z] := by
  rw [List.take_succ_eq_append_getElem h, List.getElem?_eq_getElem h]; rfl
theorem GrpsAt.group {B : Nat} {w : World} {v : Value} {gs : List Grp} {bs : List Nat} {vs : List Value} (h : GrpsAt B w v gs bs vs) {i : Nat} (hi : i < gs.length) : ∃ gb sv, bs[i]?.getD 0 = gb ∧ vs[i]?.getD undef = sv ∧ w.heap[gb]? = some (grpC (gs[i]?.getD grp0) sv) ∧ OwnS B w sv (gs[i]?.getD grp0).2.2 :=
  ⟨_, _, rfl, rfl, (h.blk i hi).1, (h.blk i hi).2.2⟩
theorem info_grp : (Tryz.prog.info? 132).map (fun i => (i.zero, i.size, i.bytes)) = some (some (.pointer none), 1, 8) := by kernel_rfl
theorem append_grp {ops : Array Oper} {rest : List Oper} {o : Oper} {a : Act} {Q : Exit → Act → World → Prop} {w0 : World} (s x : Nat) (hgd : o.guard = none)
    (ho : o.op = .call { callee := .builtin .append, args := #[.tmp s, .tmp x], argTypes := #[133, 133] }) (B : Nat) (v : Value) (us : List Value) (p : Addr)
    (hs : a.eval (.tmp s) = v) (hx : a.eval (.tmp x) = .slice (some ⟨w0.heap.size, 0, none⟩) 1 1) (hown : Own1 132 B w0 v us) (hl : us.length ≤ 1000000) (hB : B ≤ w0.heap.size)
    (h : ∀ v' w', Own1 132 B w' v' (us ++ [.pointer (some p)]) → (w0.alloc (.cells #[.pointer (some p)] 132)).grownBy w' v.ownBlock → (v'.ownBlock = v.ownBlock ∨ v'.ownBlock = some (w0.heap.size + 1)) → wpList Tryz.prog ops Q rest (a.put o.dst v') w') :
    wpList Tryz.prog ops Q (o :: rest) a (w0.alloc (.cells #[.pointer (some p)] 132)) :=
  append_one 133 132 (.pointer none) 8 Tryz.underlying133 info_grp rfl s x hgd ho B v us _ rfl hs hx hown (by omega) (by unfold maxLen; omega) hB h
end
end Go.Proofs.YtabboioamdphmaaGreatDoor
