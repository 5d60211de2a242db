/- Groups in memory: what each step leaves. -/
import Derived.Test.YtolbdcmoblcakaaGreatDoorKRepairAll25
import Derived.Deep.AppendLies
import Derived.Deep.RegionLaw
import Derived.Deep.RegionHeld3
import Derived.Test.YtolbdcmoblcakaaGreatDoorKRepairAll05
import Derived.Test.YtolbdcmoblcakaaGreatDoorKRepairAll21
namespace Go.Proofs.YtolbdcmoblcakaaGreatDoor
section
open Go.RowKit Go.BigFrame

def grp0 : Grp := ((0, 0), 0, [])
theorem own1_heap {E : TypeId} {B : Nat} {w : World} {v : Value} {us : List Value} (h : Own1 E B w v us) {g : Nat} (hg : v.ownBlock = some g) : ∃ cs, w.heap[g]? = some (.cells cs E (0, 0)) := by
  rcases h.2 with ⟨rfl, _⟩ | ⟨g', cap, cur, rfl, _, h2, _⟩
  · cases hg
  · have e : g' = g := by simpa [Value.ownBlock] using hg
    exact ⟨cur, by rw [← e]; exact h2⟩
theorem owns_heap {B : Nat} {w : World} {v : Value} {l : List Sh} (h : OwnS B w v l) {g : Nat} (hg : v.ownBlock = some g) : ∃ cs, w.heap[g]? = some (.cells cs 56 (0, 0)) := by
  rcases h.2 with ⟨rfl, _⟩ | ⟨g', cap, cur, rfl, _, h2, _⟩
  · cases hg
  · have e : g' = g := by simpa [Value.ownBlock] using hg
    exact ⟨cur, by rw [← e]; exact h2⟩
theorem OwnS.heapK {B : Nat} {w w' : World} {v : Value} {l : List Sh} (h : OwnS B w v l) (hg : ∀ g, v.ownBlock = some g → w'.heap[g]? = w.heap[g]?) : OwnS B w' v l := by
  refine ⟨h.1, ?_⟩
  rcases h.2 with hn | ⟨g, cap, cur, rfl, hb, hgg, rest⟩
  · exact .inl hn
  · exact .inr ⟨g, cap, cur, rfl, hb, (hg g rfl).trans hgg, rest⟩
theorem Own1.heapK {E : TypeId} {B : Nat} {w w' : World} {v : Value} {us : List Value} (h : Own1 E B w v us) (hg : ∀ g, v.ownBlock = some g → w'.heap[g]? = w.heap[g]?) : Own1 E B w' v us := by
  refine ⟨h.1, ?_⟩
  rcases h.2 with hn | ⟨g, cap, cur, rfl, hb, hgg, rest⟩
  · exact .inl hn
  · exact .inr ⟨g, cap, cur, rfl, hb, (hg g rfl).trans hgg, rest⟩
/-- a group's block. -/
def grpC (g : Grp) (v : Value) : Obj := .cells #[.int .i64 g.1.1, .int .i64 g.1.2, .int .i64 g.2.1, v] 135 (0, 0)
/-- groups lie in memory: pointers to them, their blocks, their shards. -/
structure GrpsAt (B : Nat) (w : World) (v : Value) (gs : List Grp) (bs : List Nat) (vs : List Value) : Prop where
  lenb : bs.length = gs.length
  lenv : vs.length = gs.length
  ptr : Own1 131 B w v (bs.map fun b => .pointer (some ⟨b, 0, none⟩))
  blk : ∀ i, i < gs.length → w.heap[bs[i]?.getD 0]? = some (grpC (gs[i]?.getD grp0) (vs[i]?.getD undef)) ∧ B ≤ bs[i]?.getD 0 ∧ OwnS B w (vs[i]?.getD undef) (gs[i]?.getD grp0).2.2
  nodup : bs.Nodup
  apart : ∀ i j, i < gs.length → j < gs.length → i ≠ j → ∀ g, (vs[i]?.getD undef).ownBlock = some g → (vs[j]?.getD undef).ownBlock ≠ some g
theorem GrpsAt.nil (B : Nat) (w : World) : GrpsAt B w (.slice none 0 0) [] [] [] := ⟨rfl, rfl, Own1.nil _ _ _, fun i hi => (by simp at hi), List.nodup_nil, fun i j hi => (by simp at hi)⟩
theorem GrpsAt.heapK {B : Nat} {w w' : World} {v : Value} {gs : List Grp} {bs : List Nat} {vs : List Value} (h : GrpsAt B w v gs bs vs) (hk : ∀ (b : Nat) (o : Obj), w.heap[b]? = some o → w'.heap[b]? = some o) : GrpsAt B w' v gs bs vs := by
  refine ⟨h.lenb, h.lenv, h.ptr.heapK (fun g hg => ?_), fun i hi => ?_, h.nodup, h.apart⟩
  · obtain ⟨cs, e⟩ := own1_heap h.ptr hg
    rw [e]; exact hk g _ e
  · obtain ⟨h1, h2, h3⟩ := h.blk i hi
    refine ⟨hk _ _ h1, h2, h3.heapK (fun g hg => ?_)⟩
    obtain ⟨cs, e⟩ := owns_heap h3 hg
    rw [e]; exact hk g _ e
theorem GrpsAt.below {B : Nat} {w w' : World} {v : Value} {gs : List Grp} {bs : List Nat} {vs : List Value} (h : GrpsAt B w v gs bs vs) (hb : Below w.heap.size w w') : GrpsAt B w' v gs bs vs :=
  h.heapK (fun b _ e => (hb.block b (Array.getElem?_eq_some_iff.1 e).1).trans e)
theorem GrpsAt.ptrs {B : Nat} {w : World} {v : Value} {gs : List Grp} {bs : List Nat} {vs : List Value} (h : GrpsAt B w v gs bs vs) : ∃ a cap, v = .slice a bs.length cap ∧ bs.length ≤ cap ∧ cap ≤ maxLen ∧ PtR w a bs := by
  rcases h.ptr.shape with ⟨rfl, hl⟩ | ⟨g, cap, rfl, _, hg, hc, hm, _, hcell⟩
  · have : bs = [] := by simpa using hl
    subst this
    exact ⟨none, 0, rfl, Nat.le_refl _, by simp [maxLen], .inl rfl⟩
  · refine ⟨_, cap, by simp, by simpa using hc, hm, .inr ⟨g, 0, rfl, hg, fun j hj => ?_⟩⟩
    rw [Nat.zero_add, hcell j (by simpa using hj)]
    simp [hj]
theorem GrpsAt.tags {B : Nat} {w : World} {v : Value} {gs : List Grp} {bs : List Nat} {vs : List Value} (h : GrpsAt B w v gs bs vs) : GTags w bs (gs.map (·.1)) := fun j hj => by
  have hj2 : j < gs.length := by rw [← h.lenb]; exact hj
  obtain ⟨h1, _, _⟩ := h.blk j hj2
  have e : (gs.map (·.1))[j]?.getD (0, 0) = (gs[j]?.getD grp0).1 := by simp [hj2]
  rw [e]
  unfold grpC at h1
  exact ⟨(cell_of_heap h1 0).trans rfl, (cell_of_heap h1 1).trans rfl⟩
theorem getD_snoc {α : Type} (l : List α) (x z : α) (i : Nat) : (l ++ [x])[i]?.getD z = if i < l.length then l[i]?.getD z else if i = l.length then x else z := by
  by_cases h : i < l.length
  · rw [if_pos h, List.getElem?_append_left h]
  · rw [if_neg h]
    by_cases h2 : i = l.length
    · rw [if_pos h2, h2]; simp
    · rw [if_neg h2, List.getElem?_eq_none (by simp; omega)]; rfl
/-- a group is made. -/
theorem GrpsAt.new {B : Nat} {w w' : World} {v v' : Value} {gs : List Grp} {bs : List Nat} {vs : List Value} {o : Obj} (h : GrpsAt B w v gs bs vs) (hB : B ≤ w.heap.size) (t : Int × Int) (sz : Int)
    (hp : Own1 131 B w' v' ((bs.map fun b => .pointer (some ⟨b, 0, none⟩)) ++ [.pointer (some ⟨w.heap.size, 0, none⟩)]))
    (hg : ((w.alloc (.cells #[.int .i64 t.1, .int .i64 t.2, .int .i64 sz, .slice none 0 0] 135)).alloc o).grownBy w' v.ownBlock) :
    GrpsAt B w' v' (gs ++ [(t, sz, [])]) (bs ++ [w.heap.size]) (vs ++ [.slice none 0 0]) ∧ Below B w w' ∧ ∀ (b : Nat) (cs : Array Value) (ty : TypeId), w.heap[b]? = some (.cells cs ty (0, 0)) → ty ≠ 131 → w'.heap[b]? = some (.cells cs ty (0, 0)) := by
  obtain ⟨w2, hw2⟩ : ∃ w2, (w.alloc (.cells #[.int .i64 t.1, .int .i64 t.2, .int .i64 sz, .slice none 0 0] 135)).alloc o = w2 := ⟨_, rfl⟩
  have hs2 : w2.heap.size = w.heap.size + 1 + 1 := by rw [← hw2]; simp
  have hB2 : Below w.heap.size w w2 := by rw [← hw2]; exact ((Below.refl _ w).alloc (Nat.le_refl _) _).alloc (by simp) _
  have hnew : w2.heap[w.heap.size]? = some (.cells #[.int .i64 t.1, .int .i64 t.2, .int .i64 sz, .slice none 0 0] 135 (0, 0)) := by
    rw [← hw2, Below.heap_alloc _ _ _ (by simp)]; exact heap_alloc_new _ _
  rw [hw2] at hg
  have hvb : ∀ g, v.ownBlock = some g → ∃ cs, w.heap[g]? = some (.cells cs 131 (0, 0)) := fun g e => own1_heap h.ptr e
  have hkeep : ∀ (b : Nat) (cs : Array Value) (ty : TypeId), w.heap[b]? = some (.cells cs ty (0, 0)) → ty ≠ 131 → w'.heap[b]? = some (.cells cs ty (0, 0)) := fun b cs ty e hty => by
    have hlt := (Array.getElem?_eq_some_iff.1 e).1
    have e2 : w2.heap[b]? = some (.cells cs ty (0, 0)) := (hB2.block b hlt).trans e
    refine (hg.block b (by omega) (fun e3 => ?_)).trans e2
    obtain ⟨cs', e4⟩ := hvb b e3.symm
    rw [e] at e4
    simp at e4
    exact hty e4.2
  have hnb : ∀ i, i < gs.length → bs[i]?.getD 0 < w.heap.size := fun i hi => (Array.getElem?_eq_some_iff.1 (h.blk i hi).1).1
  refine ⟨⟨by simp [h.lenb], by simp [h.lenv], by rw [List.map_append]; exact hp, fun i hi => ?_, ?_, fun i j hi hj hne g hgi => ?_⟩, ?_⟩
  · rw [getD_snoc, getD_snoc, getD_snoc, h.lenb, h.lenv]
    by_cases hil : i < gs.length
    · rw [if_pos hil, if_pos hil, if_pos hil]
      obtain ⟨h1, h2, h3⟩ := h.blk i hil
      refine ⟨hkeep _ _ 135 h1 (by decide), h2, h3.heapK (fun g e => ?_)⟩
      obtain ⟨cs, e2⟩ := owns_heap h3 e
      rw [e2]; exact hkeep _ _ 56 e2 (by decide)
    · have hieq : i = gs.length := by simp at hi; omega
      rw [if_neg hil, if_neg hil, if_neg hil, if_pos hieq, if_pos hieq, if_pos hieq]
      refine ⟨?_, hB, OwnS.nil _ _⟩
      refine (hg.block w.heap.size (by omega) (fun e3 => ?_)).trans hnew
      obtain ⟨cs', e4⟩ := hvb _ e3.symm
      have := (Array.getElem?_eq_some_iff.1 e4).1
      omega
  · rw [List.nodup_append]
    refine ⟨h.nodup, by simp, fun a ha b hb => ?_⟩
    rw [List.mem_singleton.1 hb]
    obtain ⟨i, hi, rfl⟩ := List.getElem_of_mem ha
    have h9 := hnb i (by rw [← h.lenb]; exact hi)
    rw [List.getElem?_eq_getElem hi] at h9
    exact Nat.ne_of_lt h9
  · rw [getD_snoc, h.lenv] at hgi ⊢
    by_cases hil : i < gs.length
    · rw [if_pos hil] at hgi
      by_cases hjl : j < gs.length
      · rw [if_pos hjl]; exact h.apart i j hil hjl hne g hgi
      · rw [if_neg hjl]; split <;> (intro e; cases e)
    · rw [if_neg hil] at hgi
      split at hgi <;> cases hgi
  · exact ⟨(hB2.mono hB).trans (World.grownBy.below hg (by omega) (fun k e => (h.ptr.lt k e).1)), hkeep⟩
theorem getD_set {α : Type} (l : List α) (x z : α) (i j : Nat) (hi : i < l.length) : (l.set i x)[j]?.getD z = if j = i then x else l[j]?.getD z := by
  by_cases h : j = i
  · rw [if_pos h, h, List.getElem?_set_self hi]; rfl
  · rw [if_neg h, List.getElem?_set_ne (fun e => h e.symm)]
/-- a shard comes to a group. -/
theorem GrpsAt.add {B : Nat} {w w0 w' : World} {v v' : Value} {gs : List Grp} {bs : List Nat} {vs : List Value} {i : Nat} {s : Sh} (h : GrpsAt B w v gs bs vs) (hi : i < gs.length) (hB : B ≤ w.heap.size) (hb0 : Below w.heap.size w w0)
    (hp : OwnS B w' v' ((gs[i]?.getD grp0).2.2 ++ [s])) (hg : w0.grownBy w' (vs[i]?.getD undef).ownBlock) (hat : v'.ownBlock = (vs[i]?.getD undef).ownBlock ∨ ∀ g, v'.ownBlock = some g → w.heap.size ≤ g) :
    GrpsAt B (w'.setCell ⟨bs[i]?.getD 0, 3, none⟩ v') v (gs.set i ((gs[i]?.getD grp0).1, (gs[i]?.getD grp0).2.1, (gs[i]?.getD grp0).2.2 ++ [s])) bs (vs.set i v') ∧ Below B w (w'.setCell ⟨bs[i]?.getD 0, 3, none⟩ v') := by
  obtain ⟨b1, b2, b3⟩ := h.blk i hi
  obtain ⟨gb, hgb⟩ : ∃ gb, bs[i]?.getD 0 = gb := ⟨_, rfl⟩
  rw [hgb] at b1 b2
  have hlt := (Array.getElem?_eq_some_iff.1 b1).1
  have hvb : ∀ g, (vs[i]?.getD undef).ownBlock = some g → ∃ cs, w.heap[g]? = some (.cells cs 56 (0, 0)) := fun g e => owns_heap b3 e
  have hk1 : ∀ (b : Nat) (o : Obj), w.heap[b]? = some o → (vs[i]?.getD undef).ownBlock ≠ some b → w'.heap[b]? = some o := fun b o e hne => by
    have hl := (Array.getElem?_eq_some_iff.1 e).1
    exact (hg.block b (Nat.lt_of_lt_of_le hl hb0.size) (fun e3 => hne e3.symm)).trans ((hb0.block b hl).trans e)
  have hk2 : ∀ (b : Nat) (o : Obj), b ≠ gb → w'.heap[b]? = some o → (w'.setCell ⟨gb, 3, none⟩ v').heap[b]? = some o := fun b o hne e => (Below.heap_setCell _ _ _ _ hne).trans e
  have hty : ∀ (b : Nat) (cs : Array Value) (ty : TypeId), w.heap[b]? = some (.cells cs ty (0, 0)) → ty ≠ 56 → (vs[i]?.getD undef).ownBlock ≠ some b := fun b cs ty e ht e3 => by
    obtain ⟨cs', e4⟩ := hvb b e3
    rw [e] at e4
    simp at e4
    exact ht e4.2
  have hgbw' : w'.heap[gb]? = some (grpC (gs[i]?.getD grp0) (vs[i]?.getD undef)) := hk1 _ _ b1 (hty _ _ 135 b1 (by decide))
  have hib : i < bs.length := by rw [h.lenb]; exact hi
  have hiv : i < vs.length := by rw [h.lenv]; exact hi
  rw [hgb]
  have hv'gb : ∀ g, v'.ownBlock = some g → g ≠ gb := fun g e e2 => by
    obtain ⟨cs', e4⟩ := owns_heap hp e
    rw [e2, hgbw'] at e4
    unfold grpC at e4
    simp at e4
  refine ⟨⟨by simp [h.lenb], by simp [h.lenv], h.ptr.heapK (fun g e => ?_), fun j hj => ?_, h.nodup, fun j k hj hk hne g e => ?_⟩, ?_⟩
  · obtain ⟨cs, e2⟩ := own1_heap h.ptr e
    rw [e2]
    have hne : g ≠ gb := fun e3 => by rw [e3, b1] at e2; unfold grpC at e2; simp at e2
    exact hk2 _ _ hne (hk1 _ _ e2 (hty _ _ 131 e2 (by decide)))
  · rw [List.length_set] at hj
    rw [getD_set gs _ _ i j hi, getD_set vs _ _ i j hiv]
    by_cases hji : j = i
    · subst hji
      rw [if_pos rfl, if_pos rfl, hgb]
      refine ⟨?_, b2, hp.heapK (fun g e => Below.heap_setCell _ _ _ _ (hv'gb g e))⟩
      unfold grpC at hgbw' ⊢
      exact (heap_setCell_same w' gb 3 _ _ _ hgbw').trans (by simp)
    · rw [if_neg hji, if_neg hji]
      obtain ⟨c1, c2, c3⟩ := h.blk j hj
      have hjb : j < bs.length := by rw [h.lenb]; exact hj
      have hne : bs[j]?.getD 0 ≠ gb := fun e => by
        rw [← hgb, List.getElem?_eq_getElem hjb, List.getElem?_eq_getElem hib] at e
        have e9 : bs[j] = bs[i] := e
        rcases Nat.lt_or_gt_of_ne hji with h9 | h9
        · exact List.pairwise_iff_getElem.1 h.nodup j i hjb hib h9 e9
        · exact List.pairwise_iff_getElem.1 h.nodup i j hib hjb h9 e9.symm
      refine ⟨hk2 _ _ hne (hk1 _ _ c1 (hty _ _ 135 c1 (by decide))), c2, c3.heapK (fun g e => ?_)⟩
      obtain ⟨cs, e2⟩ := owns_heap c3 e
      rw [e2]
      have hne2 : g ≠ gb := fun e3 => by rw [e3, b1] at e2; unfold grpC at e2; simp at e2
      exact hk2 _ _ hne2 (hk1 _ _ e2 (h.apart j i hj hi hji g e))
  · rw [List.length_set] at hj hk
    rw [getD_set vs _ _ i j hiv] at e
    rw [getD_set vs _ _ i k hiv]
    by_cases hji : j = i
    · rw [if_pos hji] at e
      rw [if_neg (fun e3 => hne (hji.trans e3.symm))]
      intro e3
      have hki : k ≠ i := fun e4 => hne (hji.trans e4.symm)
      obtain ⟨cs, e5⟩ := owns_heap (h.blk k hk).2.2 e3
      rcases hat with e4 | e4
      · rw [e] at e4
        exact h.apart i k hi hk (fun e6 => hki e6.symm) g e4.symm e3
      · have := e4 g e
        have := (Array.getElem?_eq_some_iff.1 e5).1
        omega
    · rw [if_neg hji] at e
      by_cases hki : k = i
      · rw [if_pos hki]
        intro e3
        obtain ⟨cs, e5⟩ := owns_heap (h.blk j hj).2.2 e
        rcases hat with e4 | e4
        · rw [e3] at e4
          exact h.apart j i hj hi hji g e e4.symm
        · have := e4 g e3
          have := (Array.getElem?_eq_some_iff.1 e5).1
          omega
      · rw [if_neg hki]
        exact h.apart j k hj hk hne g e
  · exact ((hb0.mono hB).trans (World.grownBy.below hg (Nat.le_trans hB hb0.size) (fun k e => (b3.lt k e).1))).setCell b2 _
end
end Go.Proofs.YtolbdcmoblcakaaGreatDoor
/- Walk: shelves: holds and models of what came in. -/
namespace Go.Proofs.YtolbdcmoblcakaaGreatDoor
section
open Go.RowKit Go.Maps Go.BigFrame

/-- what is none of a rack's: all ahead of n, and both rows of pointers. -/
def Zof (n : Nat) (va vb : Value) : Nat → Prop := fun b => b < n ∨ va.ownBlock = some b ∨ vb.ownBlock = some b
theorem RackAt.appendH {n : Nat} {w0 w' : World} {va va' vb : Value} {o : Obj} {sl : List Slot} {us : List Value} {E : TypeId} (h : RackAt (Zof n va vb) w0 sl) (hg : (w0.alloc o).grownBy w' va.ownBlock) (hv : va'.ownBlock = va.ownBlock ∨ va'.ownBlock = some (w0.heap.size + 1)) (ho : Own1 E n w' va' us) : RackAt (Zof n va' vb) w' sl := by
  have h1 := h.turn (KeptBut.of_below (F := fun b => w0.heap.size ≤ b) ((Below.refl w0.heap.size w0).alloc (Nat.le_refl _) o) (fun _ _ h => h)) (fun b hb h9 => by omega)
  have h2 := h1.turn (KeptBut.of_grown (F := fun b => va.ownBlock = some b) hg (fun k e => e)) (fun b _ e => .inl (.inr (.inl e)))
  have hs := hg.size
  have hs0 : (w0.alloc o).heap.size = w0.heap.size + 1 := by simp
  refine h2.lessZ fun b hb => ?_
  rcases hb with hb | hb | hb
  · exact .inl (.inl (.inl hb))
  · rcases hv with e | e
    · rw [e] at hb; exact .inl (.inl (.inr (.inl hb)))
    · rw [e] at hb
      obtain rfl := Option.some.inj hb
      have h9 := (ho.lt _ e).2
      exact .inr ⟨by omega, h9⟩
  · exact .inl (.inl (.inr (.inr hb)))
theorem RackAt.appendM {n : Nat} {w0 w' : World} {va vb vb' : Value} {o : Obj} {sl : List Slot} {us : List Value} {E : TypeId} (h : RackAt (Zof n va vb) w0 sl) (hg : (w0.alloc o).grownBy w' vb.ownBlock) (hv : vb'.ownBlock = vb.ownBlock ∨ vb'.ownBlock = some (w0.heap.size + 1)) (ho : Own1 E n w' vb' us) : RackAt (Zof n va vb') w' sl := by
  have e : ∀ x, Zof n x vb = Zof n x vb := fun _ => rfl
  have h0 : RackAt (Zof n vb va) w0 sl := h.lessZ fun b hb => by
    rcases hb with hb | hb | hb
    · exact .inl hb
    · exact .inr (.inr hb)
    · exact .inr (.inl hb)
  exact (h0.appendH hg hv ho).lessZ fun b hb => by
    rcases hb with hb | hb | hb
    · exact .inl hb
    · exact .inr (.inr hb)
    · exact .inr (.inl hb)
theorem sep_types {n : Nat} {w : World} {E F : TypeId} {va vb : Value} {us vs : List Value} (ha : Own1 E n w va us) (hb : Own1 F n w vb vs) (hne : E ≠ F) : Sep va vb := fun g e1 e2 => by
  obtain ⟨c1, h1⟩ := own1_heap ha e1
  obtain ⟨c2, h2⟩ := own1_heap hb e2
  rw [h1] at h2
  simp at h2
  exact hne h2.2
/-- the state of the loop. -/
def ShState (n : Nat) (w wr : World) (i : Nat) (va vb : Value) (sl : List Slot) : Prop :=
  Below n w wr ∧ sl.length = i ∧ OwnH n wr va (ptrsH sl) ∧ OwnN n wr vb (ptrsM sl) ∧ RackAt (Zof n va vb) wr sl ∧ consH sl = consM sl
theorem ptrsH_snoc (sl : List Slot) (s : Slot) : ptrsH (sl ++ [s]) = ptrsH sl ++ [s.map fun x => (⟨x.1, 0, none⟩ : Addr)] := by simp [ptrsH]
theorem ptrsM_snoc (sl : List Slot) (s : Slot) : ptrsM (sl ++ [s]) = ptrsM sl ++ [s.map fun x => (⟨x.2.1, 0, none⟩ : Addr)] := by simp [ptrsM]
theorem cons_snoc {sl : List Slot} {s : Slot} (h : consH sl = consM sl) (hs : (s.map fun x => x.2.2.1) = s.map fun x => x.2.2.2) : consH (sl ++ [s]) = consM (sl ++ [s]) := by
  unfold consH consM at *
  rw [List.map_append, List.map_append, h, List.map_singleton, List.map_singleton, hs]
theorem Own1.keptBut {P : Nat → Prop} {n : Nat} {w w' : World} {E : TypeId} {v : Value} {us : List Value} (h : Own1 E n w v us) (hk : KeptBut P w w') (hP : ∀ b, P b → v.ownBlock ≠ some b) : Own1 E n w' v us :=
  h.heapK fun g e => hk.block g (h.lt g e).2 fun hp => hP g hp e
theorem size_ptrsH (sl : List Slot) : (ptrsH sl).length = sl.length := by simp [ptrsH]
theorem size_ptrsM (sl : List Slot) : (ptrsM sl).length = sl.length := by simp [ptrsM]
theorem ShState.next {n : Nat} {w wr w1 w2 : World} {i : Nat} {va va' vb vb' : Value} {sl : List Slot} {s : Slot} {o o' : Obj} (hn : n ≤ wr.heap.size) (h1 : Below n w wr) (hl : sl.length = i) (ha : OwnH n wr va (ptrsH sl)) (hb : OwnN n wr vb (ptrsM sl)) (hr : RackAt (Zof n va vb) wr (sl ++ [s])) (hc : consH (sl ++ [s]) = consM (sl ++ [s]))
    (k1 : OwnH n w1 va' (ptrsH sl ++ [s.map fun x => (⟨x.1, 0, none⟩ : Addr)])) (g1 : (wr.alloc o).grownBy w1 va.ownBlock) (v1 : va'.ownBlock = va.ownBlock ∨ va'.ownBlock = some (wr.heap.size + 1))
    (k2 : OwnN n w2 vb' (ptrsM sl ++ [s.map fun x => (⟨x.2.1, 0, none⟩ : Addr)])) (g2 : (w1.alloc o').grownBy w2 vb.ownBlock) (v2 : vb'.ownBlock = vb.ownBlock ∨ vb'.ownBlock = some (w1.heap.size + 1)) : ShState n w w2 (i + 1) va' vb' (sl ++ [s]) := by
  have hw1 : n ≤ w1.heap.size := by have := g1.size; simp at this; omega
  have hB1 : Below n wr w1 := ((Below.refl n wr).alloc hn o).trans (World.grownBy.below g1 (by simp; omega) (fun k e => (ha.lt k e).1))
  have hb1 : OwnN n w1 vb (ptrsM sl) := Own1.other hb (sep_types ha hb (by decide)) g1
  have hB2 : Below n w1 w2 := ((Below.refl n w1).alloc hw1 o').trans (World.grownBy.below g2 (by simp; omega) (fun k e => (hb1.lt k e).1))
  refine ⟨h1.trans (hB1.trans hB2), by simp [hl], ?_, by rw [ptrsM_snoc]; exact k2, (hr.appendH g1 v1 k1).appendM g2 v2 k2, hc⟩
  rw [ptrsH_snoc]
  exact Own1.other k1 (sep_types hb1 k1 (by decide)) g2
set_option maxRecDepth 100000 in
set_option maxHeartbeats 8000000 in
theorem shelves_walk (a : Option Addr) (len cap : Nat) (l : List ShelfS) (key : ByteArray) (w : World) (E : Nat → Addr) (hA : ShsIn w a len cap l) (hE : ErrHx w E) (hk : key.size ≤ maxLen) (hlen : len * 32 ≤ 140737488355328) :
    Calls Tryz.prog 8 #[.slice a len cap, .string key] w fun e w' => ∃ va vb sl, e = .returned (.tuple #[va, vb]) ∧ ShState w.heap.size w w' len va vb sl := by
  obtain ⟨hl, hc, hm, ha, hR, hok⟩ := hA
  have hm9 : len ≤ 9223372036854775807 := by omega
  have Hl := Lib.hid (And.intro hl (And.intro hR (And.intro hok (And.intro hE (And.intro hk hlen)))))
  obtain ⟨n, hn⟩ : ∃ n, w.heap.size = n := ⟨_, rfl⟩
  rw [hn]
  have Hn := Lib.hid hn
  clear hl ha hR hok hm hE hk hn hlen
  go_enter Tryz.func8, Tryz.ntmps8
  go_wp2
  go_loopw [6, 7, 8] (fun va vb vi wr => ∃ (i : Nat) (ua ub : Value), i ≤ len ∧ vi = .int .i64 i ∧ ua = va ∧ ub = vb ∧ Hid (∃ sl, ShState n w wr i ua ub sl)) (fun _ _ vi _ => len - (intOf vi).toNat)
  case atStart => exact ⟨0, _, _, by omega, rfl, rfl, rfl, Lib.hid ⟨[], Below.refl _ _, rfl, Own1.nil _ _ _, Own1.nil _ _ _, RackAt.nil (fun b hb => by
    rcases hb with hb | hb | hb
    · rw [Hn.out]; exact hb
    · cases hb
    · cases hb), rfl⟩⟩
  case round =>
    obtain ⟨i, va, vb, hi, rfl, hva, hvb, Hs⟩ := hrel
    subst hva hvb
    obtain ⟨sl, hbr, hsl, hoa, hob, hrk, hco⟩ := Hs.out
    have hszr : n ≤ wr.heap.size := by have := hbr.size; rw [Hn.out] at this; exact this
    have hi2 : i < len ∨ len = i := by omega
    rcases hi2 with hilt | rfl
    · have hilt2 : (i : Int) < len := by omega
      rcases Hl.out.2.1 with he | ⟨b, off, rfl, hbl, hcx⟩
      · exfalso
        have := Hl.out.1
        rw [he] at this; simp at this; omega
      obtain ⟨k0, ad, cp, k1, q1, q2, q3, q4⟩ := hcx i (by rw [Hl.out.1]; exact hilt)
      have hvok := Hl.out.2.2.1 i hilt
      obtain ⟨⟨nn, L⟩, hx⟩ : ∃ x, l[i]?.getD shelf0 = x := ⟨_, rfl⟩
      rw [hx] at k0 k1 q1 q4 hvok
      dsimp only at k0 k1 q1 q4 hvok
      obtain ⟨m, hmm⟩ : ∃ m, L.length = m := ⟨_, rfl⟩
      rw [hmm] at k1 q1
      have hm9' : m ≤ 9223372036854775807 := by unfold maxLen at q2; omega
      rw [Hn.out] at hbl
      have KW : Hid (∀ W, Below n w W → W.cell? ⟨b, off + i * 2, none⟩ = some (.bool nn) ∧ W.cell? ⟨b, off + i * 2 + 1, none⟩ = some (.slice ad m cp)) := Lib.hid fun W hb => ⟨(hb.cell (p := ⟨b, off + i * 2, none⟩) hbl).trans k0, (hb.cell (p := ⟨b, off + i * 2 + 1, none⟩) hbl).trans k1⟩
      have HQ := Lib.hid (And.intro q4 (And.intro hmm hvok))
      have HS := Lib.hid (And.intro hbr (And.intro hsl (And.intro hoa (And.intro hob (And.intro hrk hco)))))
      have Hsz := Lib.hid hszr
      obtain ⟨kw0, kw1⟩ := KW.out _ hbr
      clear hcx hx q1 q2 q3 q4 hmm k0 k1 hvok hbr hsl hoa hob hrk hco Hs hbl
      cases nn with
      | true =>
        go_wp2_with (at_builtin; refine append_hold 23 24 rfl rfl n va (ptrsH sl) none rfl rfl HS.out.2.2.1 (by rw [size_ptrsH, HS.out.2.1]; have := Hl.out.2.2.2.2.2; omega) Hsz.out ?_)
        intro va' w1 k1 g1 v1
        have hw1 : n ≤ w1.heap.size := by have := g1.size; simp at this; have := Hsz.out; omega
        have H1 := Lib.hid (And.intro k1 (And.intro g1 (And.intro v1 (And.intro hw1 (Own1.other HS.out.2.2.2.1 (sep_types HS.out.2.2.1 HS.out.2.2.2.1 (by decide)) g1)))))
        clear k1 g1 v1 hw1 kw0 kw1
        go_wp2_with (at_builtin; refine append_model 26 27 rfl rfl n vb (ptrsM sl) none rfl rfl H1.out.2.2.2.2 (by rw [size_ptrsM, HS.out.2.1]; have := Hl.out.2.2.2.2.2; omega) H1.out.2.2.2.1 ?_)
        intro vb' w2 k2 g2 v2
        have HN : Hid (∃ sl, ShState n w w2 (i + 1) va' vb' sl) := Lib.hid ⟨_, ShState.next (s := none) Hsz.out HS.out.1 HS.out.2.1 HS.out.2.2.1 HS.out.2.2.2.1 HS.out.2.2.2.2.1.pushNone (cons_snoc HS.out.2.2.2.2.2 rfl) H1.out.1 H1.out.2.1 H1.out.2.2.1 k2 g2 v2⟩
        clear k2 g2 v2
        go_wp2
        go_roundw
        case rel =>
          first
          | exact ⟨i + 1, _, _, by omega, by go_num, rfl, rfl, HN⟩
          | (repeat apply Exists.intro); exact ⟨⟨i + 1, _, _, by omega, by go_num, rfl, rfl, HN⟩, rfl⟩
        case measure => simp [intOf]; omega
      | false =>
        obtain ⟨W1, hW1⟩ : ∃ W1, wr.alloc (.cells #[.map none, .bool false] 68) = W1 := ⟨_, rfl⟩
        obtain ⟨W2, hW2⟩ : ∃ W2, W1.alloc (.cells #[.slice none 0 0, .bool false] 75) = W2 := ⟨_, rfl⟩
        obtain ⟨hb, hhb⟩ : ∃ hb, wr.heap.size = hb := ⟨_, rfl⟩
        have hs1 : W1.heap.size = hb + 1 := by rw [← hW1, ← hhb]; simp
        have hs2 : W2.heap.size = hb + 2 := by rw [← hW2]; simp [hs1]
        have hB1 : Below wr.heap.size wr W1 := by rw [← hW1]; exact (Below.refl _ wr).alloc (Nat.le_refl _) _
        have hB2 : Below W1.heap.size W1 W2 := by rw [← hW2]; exact (Below.refl _ W1).alloc (Nat.le_refl _) _
        have hB12 : Below wr.heap.size wr W2 := hB1.trans (hB2.mono hB1.size)
        have hh1 : W1.heap[hb]? = some (.cells #[.map none, .bool false] 68 (0, 0)) := by rw [← hW1, ← hhb]; exact heap_alloc_new _ _
        have hh : W2.heap[hb]? = some (.cells #[.map none, .bool false] 68 (0, 0)) := (hB2.block hb (by rw [hs1]; omega)).trans hh1
        have hmo : W2.heap[hb + 1]? = some (.cells #[.slice none 0 0, .bool false] 75 (0, 0)) := by rw [← hW2, ← hs1]; exact heap_alloc_new _ _
        have ht : Two (fun b => wr.heap.size ≤ b) W2 hb (hb + 1) false [] false [] := two_new hh hmo (by omega) (by omega) (by omega) (by omega)
        have H0 : Hid (Below n w W2 ∧ OwnH n W2 va (ptrsH sl) ∧ OwnN n W2 vb (ptrsM sl) ∧ ∃ lk, RackAt (Zof n va vb) W2 (sl ++ [some (hb, hb + 1, lk, lk)])) := Lib.hid ⟨HS.out.1.trans (hB12.mono Hsz.out), Own1.below HS.out.2.2.1 hB12 (Nat.le_refl _), Own1.below HS.out.2.2.2.1 hB12 (Nat.le_refl _), [], HS.out.2.2.2.2.1.push hB12 ht⟩
        have HW := Lib.hid (And.intro hW1 (And.intro hW2 (And.intro hhb hs1)))
        have kk := KW.out _ H0.out.1
        clear hs2 hB1 hB2 hB12 hh1 hh hmo ht
        go_wp2
        go_loopw [11] (fun vk wi => ∃ (k : Nat), k ≤ m ∧ vk = .int .i64 k ∧ Hid (Below n w wi ∧ OwnH n wi va (ptrsH sl) ∧ OwnN n wi vb (ptrsM sl) ∧ ∃ lk, RackAt (Zof n va vb) wi (sl ++ [some (hb, hb + 1, lk, lk)]))) (fun vk _ => m - (intOf vk).toNat)
        case atStart => exact ⟨0, by omega, rfl, H0⟩
        case round =>
          obtain ⟨k, hk, rfl, Hr⟩ := hrel
          have hk2 : k < m ∨ m = k := by omega
          obtain ⟨kw0, kw1⟩ := KW.out _ Hr.out.1
          rcases hk2 with hklt | rfl
          · have hklt2 : (k : Int) < m := by omega
            have hsl2 : ∀ lk : List Kp, (sl ++ [some (hb, hb + 1, lk, lk)])[sl.length]? = some (some (hb, hb + 1, lk, lk)) := fun lk => by simp
            obtain ⟨hbr, hoa, hob, lk, hrk⟩ := Hr.out
            obtain ⟨b', off', rfl, f0, f1, f2, f3, f4⟩ : ∃ b' off', ad = some ⟨b', off', none⟩ ∧ (∀ W, Below n w W → W.cell? ⟨b', off' + k * 5, none⟩ = some (.int .i64 (L[k]?.getD ver0).1)) ∧ (∀ W, Below n w W → W.cell? ⟨b', off' + k * 5 + 1, none⟩ = some (.int .i64 (L[k]?.getD ver0).2.1)) ∧ (∀ W, Below n w W → W.cell? ⟨b', off' + k * 5 + 2, none⟩ = some (.int .i64 (L[k]?.getD ver0).2.2.1)) ∧ (∀ W, Below n w W → W.cell? ⟨b', off' + k * 5 + 3, none⟩ = some (.int .i64 (L[k]?.getD ver0).2.2.2.1)) ∧ (∀ W, Below n w W → W.cell? ⟨b', off' + k * 5 + 4, none⟩ = some (.string (L[k]?.getD ver0).2.2.2.2)) := by
              rcases HQ.out.1 with he | ⟨b', off', h, hbl, hc⟩
              · exfalso
                have h9 := HQ.out.2.1
                rw [he] at h9; simp at h9; omega
              · obtain ⟨f0, f1, f2, f3, f4⟩ := VrR.at5 hc (i := k) (by rw [HQ.out.2.1]; exact hklt)
                rw [Hn.out] at hbl
                exact ⟨b', off', h, fun W hW => (hW.cell (p := ⟨b', off' + k * 5, none⟩) hbl).trans f0, fun W hW => (hW.cell (p := ⟨b', off' + k * 5 + 1, none⟩) hbl).trans f1, fun W hW => (hW.cell (p := ⟨b', off' + k * 5 + 2, none⟩) hbl).trans f2, fun W hW => (hW.cell (p := ⟨b', off' + k * 5 + 3, none⟩) hbl).trans f3, fun W hW => (hW.cell (p := ⟨b', off' + k * 5 + 4, none⟩) hbl).trans f4⟩
            have hv9 := HQ.out.2.2 (L[k]?.getD ver0) (by
              have hkl : k < L.length := by rw [HQ.out.2.1]; exact hklt
              rw [List.getElem?_eq_getElem hkl]
              exact List.getElem_mem hkl)
            obtain ⟨⟨x1, x2, x3, x4, x5⟩, hx⟩ : ∃ x, L[k]?.getD ver0 = x := ⟨_, rfl⟩
            rw [hx] at f0 f1 f2 f3 f4 hv9
            dsimp only at f0 f1 f2 f3 f4
            have q0 := f0 _ hbr
            have q1 := f1 _ hbr
            have q2 := f2 _ hbr
            have q3 := f3 _ hbr
            have q4 := f4 _ hbr
            have HF := Lib.hid (And.intro f0 (And.intro f1 (And.intro f2 (And.intro f3 f4))))
            obtain ⟨fi1, _, P, ht, hPZ, hback⟩ := hrk.act (hsl2 lk)
            have hnP : ∀ b, P b → n ≤ b := fun b hp => by
              rcases Nat.lt_or_ge b n with h9 | h9
              · exact absurd (.inl h9) (hPZ b hp)
              · exact h9
            have hEr : ErrHx wr E := Hl.out.2.2.2.1.below hbr (by rw [Hn.out]; exact Nat.le_refl _)
            have Hput := Lib.hid (two_hput ht fi1 E hEr key x1 x2 x3 x4 x5 Hl.out.2.2.2.2.1)
            have HA := Lib.hid (And.intro hbr (And.intro hoa (And.intro hob (And.intro hPZ (And.intro hback (And.intro hnP (And.intro fi1 hv9)))))))
            clear hbr hoa hob hrk f0 f1 f2 f3 f4 hx hv9 fi1 ht hPZ hback hnP hEr hsl2 Hr
            go_wp2_with fail
            refine Hput.out.mono ?_
            rintro e w5 ⟨⟨v5, rfl, _⟩, ht5, hk5⟩
            have hsz5 : n ≤ wr.heap.size := by have := HA.out.1.size; rw [Hn.out] at this; exact this
            have hb5 : Below n w w5 := HA.out.1.trans (hk5.below hsz5 HA.out.2.2.2.2.2.1)
            have r0 := HF.out.1 _ hb5
            have r1 := HF.out.2.1 _ hb5
            have r2 := HF.out.2.2.1 _ hb5
            have r3 := HF.out.2.2.2.1 _ hb5
            have r4 := HF.out.2.2.2.2 _ hb5
            obtain ⟨kw0, kw1⟩ := KW.out _ hb5
            have Hput2 := Lib.hid (two_mput ht5 HA.out.2.2.2.2.2.2.1 key x1 x2 x3 x4 x5 Hl.out.2.2.2.2.1 HA.out.2.2.2.2.2.2.2.2.2.2.2)
            have H5 := Lib.hid (And.intro hb5 (And.intro hk5 hsz5))
            clear ht5 hk5 hb5 hsz5
            go_wp2_with fail
            refine Hput2.out.mono ?_
            rintro e w6 ⟨rfl, ht6, hk6⟩
            have hk56 : KeptBut _ wr w6 := H5.out.2.1.trans hk6
            have hr6 := HA.out.2.2.2.2.1 w6 _ _ ht6 hk56 HA.out.2.2.2.2.2.2.1.put HA.out.2.2.2.2.2.2.1.put
            have hset : (sl ++ [some (hb, hb + 1, lk, lk)]).set sl.length (some (hb, hb + 1, afterP false lk key (x1, x2, x3, x4, x5), afterP false lk key (x1, x2, x3, x4, x5))) = sl ++ [some (hb, hb + 1, afterP false lk key (x1, x2, x3, x4, x5), afterP false lk key (x1, x2, x3, x4, x5))] := by simp
            rw [hset] at hr6
            have HN : Hid (Below n w w6 ∧ OwnH n w6 va (ptrsH sl) ∧ OwnN n w6 vb (ptrsM sl) ∧ ∃ lk, RackAt (Zof n va vb) w6 (sl ++ [some (hb, hb + 1, lk, lk)])) := Lib.hid ⟨HA.out.1.trans (hk56.below H5.out.2.2 HA.out.2.2.2.2.2.1), Own1.keptBut HA.out.2.1 hk56 (fun b hp e => HA.out.2.2.2.1 b hp (.inr (.inl e))), Own1.keptBut HA.out.2.2.1 hk56 (fun b hp e => HA.out.2.2.2.1 b hp (.inr (.inr e))), _, hr6⟩
            clear ht6 hk6 hk56 hr6 hset
            go_wp2
            go_roundw
            case rel => exact ⟨k + 1, by omega, by go_num, HN⟩
            case measure => simp [intOf]; omega
          · obtain ⟨hbr, hoa, hob, lk, hrk⟩ := Hr.out
            have hszr : n ≤ wr.heap.size := by have := hbr.size; rw [Hn.out] at this; exact this
            have HR := Lib.hid (And.intro hbr (And.intro hoa (And.intro hob (And.intro hrk hszr))))
            clear hbr hoa hob hrk hszr Hr
            go_wp2_with (at_builtin; refine append_hold 65 67 rfl rfl n va (ptrsH sl) (some ⟨hb, 0, none⟩) rfl rfl HR.out.2.1 (by rw [size_ptrsH, HS.out.2.1]; have := Hl.out.2.2.2.2.2; omega) HR.out.2.2.2.2 ?_)
            intro va' w1 k1 g1 v1
            have hw1 : n ≤ w1.heap.size := by have := g1.size; simp at this; have := HR.out.2.2.2.2; omega
            have H1 := Lib.hid (And.intro k1 (And.intro g1 (And.intro v1 (And.intro hw1 (Own1.other HR.out.2.2.1 (sep_types HR.out.2.1 HR.out.2.2.1 (by decide)) g1)))))
            clear k1 g1 v1 hw1 kw0 kw1
            go_wp2_with (at_builtin; refine append_model 69 71 rfl rfl n vb (ptrsM sl) (some ⟨hb + 1, 0, none⟩) rfl rfl H1.out.2.2.2.2 (by rw [size_ptrsM, HS.out.2.1]; have := Hl.out.2.2.2.2.2; omega) H1.out.2.2.2.1 ?_)
            intro vb' w2 k2 g2 v2
            have HN : Hid (∃ sl, ShState n w w2 (i + 1) va' vb' sl) := Lib.hid ⟨_, ShState.next (s := some (hb, hb + 1, lk, lk)) HR.out.2.2.2.2 HR.out.1 HS.out.2.1 HR.out.2.1 HR.out.2.2.1 HR.out.2.2.2.1 (cons_snoc HS.out.2.2.2.2.2 rfl) H1.out.1 H1.out.2.1 H1.out.2.2.1 k2 g2 v2⟩
            clear k2 g2 v2
            go_wp2
            go_roundw
            case rel =>
              first
              | exact ⟨i + 1, _, _, by omega, by go_num, rfl, rfl, HN⟩
              | (repeat apply Exists.intro); exact ⟨⟨i + 1, _, _, by omega, by go_num, rfl, rfl, HN⟩, rfl⟩
            case measure => simp [intOf]; omega
    · have HS : Hid (∃ sl, ShState n w wr len va vb sl) := Lib.hid ⟨sl, hbr, hsl, hoa, hob, hrk, hco⟩
      clear hbr hsl hoa hob hrk hco Hs
      go_wp2
      go_ret2
      obtain ⟨sl, h9⟩ := HS.out
      exact ⟨_, _, sl, rfl, h9⟩
end
end Go.Proofs.YtolbdcmoblcakaaGreatDoor
/- Lists of versions of the call's own. -/
namespace Go.Proofs.YtolbdcmoblcakaaGreatDoor
section
open Go.RowKit Go.BigFrame

theorem ownv_heap {B : Nat} {w : World} {v : Value} {l : List Ver} (h : OwnV B w v l) {g : Nat} (hg : v.ownBlock = some g) : ∃ cs, w.heap[g]? = some (.cells cs 58 (0, 0)) := by
  rcases h.2 with ⟨rfl, _⟩ | ⟨g', cap, cur, rfl, _, h2, _⟩
  · cases hg
  · have e : g' = g := by simpa [Value.ownBlock] using hg
    exact ⟨cur, by rw [← e]; exact h2⟩
theorem OwnV.heapK {B : Nat} {w w' : World} {v : Value} {l : List Ver} (h : OwnV B w v l) (hg : ∀ g, v.ownBlock = some g → w'.heap[g]? = w.heap[g]?) : OwnV B w' v l := by
  refine ⟨h.1, ?_⟩
  rcases h.2 with hn | ⟨g, cap, cur, rfl, hb, hgg, rest⟩
  · exact .inl hn
  · exact .inr ⟨g, cap, cur, rfl, hb, (hg g rfl).trans hgg, rest⟩
/-- v owns lists that are owned themselves. -/
structure OwnVs (B : Nat) (w : World) (v : Value) (ls : List (List Ver)) (us : List Value) : Prop where
  lenu : us.length = ls.length
  own : Own1 46 B w v us
  row : ∀ i, i < ls.length → OwnV B w (us[i]?.getD undef) (ls[i]?.getD [])
theorem OwnVs.nil (B : Nat) (w : World) : OwnVs B w (.slice none 0 0) [] [] := ⟨rfl, Own1.nil _ _ _, fun i hi => (by simp at hi)⟩
theorem OwnVs.heapK {B : Nat} {w w' : World} {v : Value} {ls : List (List Ver)} {us : List Value} (h : OwnVs B w v ls us) (hb : Below w.heap.size w w') : OwnVs B w' v ls us :=
  ⟨h.lenu, Own1.below h.own hb (Nat.le_refl _), fun i hi => OwnV.below (h.row i hi) hb (Nat.le_refl _)⟩
theorem OwnVs.snoc {B : Nat} {w w' : World} {v v' u : Value} {ls : List (List Ver)} {us : List Value} {l : List Ver} {o : Obj} (h : OwnVs B w v ls us) (hu : OwnV B w u l) (hp : Own1 46 B w' v' (us ++ [u])) (hg : (w.alloc o).grownBy w' v.ownBlock) : OwnVs B w' v' (ls ++ [l]) (us ++ [u]) := by
  have key : ∀ (x : Value) (m : List Ver), OwnV B w x m → OwnV B w' x m := fun x m hx => hx.heapK (fun g e => by
    obtain ⟨cs, e2⟩ := ownv_heap hx e
    have hlt := (Array.getElem?_eq_some_iff.1 e2).1
    refine (hg.block g (by simp; omega) (fun e3 => ?_)).trans (Below.heap_alloc _ _ _ hlt)
    obtain ⟨cs', e4⟩ := own1_heap h.own e3.symm
    rw [e2] at e4
    simp at e4)
  refine ⟨by simp [h.lenu], hp, fun i hi => ?_⟩
  by_cases hil : i < ls.length
  · have h1 : (us ++ [u])[i]?.getD undef = us[i]?.getD undef := by rw [List.getElem?_append_left (by rw [h.lenu]; exact hil)]
    have h2 : (ls ++ [l])[i]?.getD [] = ls[i]?.getD [] := by rw [List.getElem?_append_left hil]
    rw [h1, h2]
    exact key _ _ (h.row i hil)
  · have hie : i = ls.length := by simp at hi; omega
    have h1 : (us ++ [u])[i]?.getD undef = u := by rw [hie, ← h.lenu]; simp
    have h2 : (ls ++ [l])[i]?.getD [] = l := by rw [hie]; simp
    rw [h1, h2]
    exact key _ _ hu
theorem OwnVs.read {B : Nat} {w : World} {v : Value} {ls : List (List Ver)} {us : List Value} (h : OwnVs B w v ls us) : ∃ a cap, v = .slice a ls.length cap ∧ VssR w a ls := by
  rcases h.own.shape with ⟨rfl, hl⟩ | ⟨g, cap, rfl, _, hg, hc, hm, _, hcell⟩
  · have : us = [] := by simpa using hl
    have h0 : ls = [] := List.length_eq_zero_iff.1 (by rw [← h.lenu, this]; rfl)
    subst h0
    exact ⟨none, 0, rfl, .inl rfl⟩
  · refine ⟨_, cap, by rw [h.lenu], .inr ⟨g, 0, rfl, hg, fun i hi => ?_⟩⟩
    obtain ⟨ad, cp, e, q1, q2, q3, q4⟩ := (h.row i hi).read
    refine ⟨ad, cp, ?_, q1, q2, q3, q4⟩
    have hiu : i < us.length := by rw [h.lenu]; exact hi
    rw [Nat.zero_add, hcell i hiu, ← e, List.getElem?_eq_getElem hiu]; rfl
theorem info_vers : (Tryz.prog.info? 46).map (fun i => (i.zero, i.size, i.bytes)) = some (some (.slice none 0 0), 1, 24) := by kernel_rfl
end
end Go.Proofs.YtolbdcmoblcakaaGreatDoor
