/- Lists of lists of versions that come in, and their bulk. -/
import Derived.Test.YtjhjpijjfpfjeaaGreatDoorKQuorumBest08
import Derived.Test.YtjhjpijjfpfjeaaGreatDoorKQuorumBest28
import Derived.Deep.AppendLies
import Derived.Deep.RegionLaw
import Derived.Deep.RegionHeld3
namespace Go.Proofs.YtjhjpijjfpfjeaaGreatDoor
section
open Go.RowKit

variable {H : Type} {enc : TypeId × Value → H} {W : World}
/-- what is known of lists of versions that came in. -/
def VssIn (w : World) (a : Option Addr) (len cap : Nat) (ls : List (List Ver)) : Prop := ls.length = len ∧ len ≤ cap ∧ cap ≤ maxLen ∧ VssR w a ls
/-- how many lists, how many versions. -/
def vssbulk (ls : List (List Ver)) : Nat := max (2 * totV ls) ls.length
theorem blk_pos (d : DataW H) : 1 ≤ Rows.uptoBulk d := by
  cases d with
  | lit l => cases l <;> simp [Rows.uptoBulk]
  | _ => simp [Rows.uptoBulk]
theorem sum_blkv {f : Nat → List Ver} {D : Nat → DataW H} {n : Nat} (h : ∀ i, i < n → vsbulk (f i) ≤ Rows.uptoBulk (D i)) : vssbulk ((List.range n).map f) ≤ Rows.uptoBulkAll ((List.range n).map D) := by
  have key : ∀ l : List Nat, (∀ i ∈ l, vsbulk (f i) ≤ Rows.uptoBulk (D i)) → 2 * totV (l.map f) ≤ Rows.uptoBulkAll (l.map D) ∧ l.length ≤ Rows.uptoBulkAll (l.map D) := by
    intro l
    induction l with
    | nil => intro _; exact ⟨by simp [totV], by simp⟩
    | cons i l ih =>
      intro h
      have h1 := h i (List.mem_cons_self ..)
      have h2 := ih (fun k hk => h k (List.mem_cons_of_mem _ hk))
      have h3 := vsbulk_length (f i)
      have h4 := blk_pos (D i)
      unfold totV at h2 ⊢
      simp only [List.map_cons, List.sum_cons, Rows.uptoBulkAll, List.length_cons]
      omega
  have h9 := key (List.range n) (fun i hi => h i (List.mem_range.1 hi))
  unfold vssbulk
  have e : ((List.range n).map f).length = (List.range n).length := by simp
  rw [e]
  exact Nat.max_le.2 h9
set_option maxRecDepth 10000 in
theorem open_versionss {a : Option Addr} {len cap : Nat} {d : DataW H} {p : List MemPlace} (h : DataW.Trod enc Tryz.prog W 0 (fun _ => true) true 25 (.slice a len cap) d p) :
    ∃ ls, VssIn W a len cap ls ∧ vssbulk ls ≤ Rows.uptoBulk d := by
  obtain ⟨fuel, hf⟩ := h
  rcases Go.Deep.open_slice Tryz.underlying25 hf with ⟨hcs, hy⟩ | ⟨x, len, cap, m, n, D, Pl, hcs, _, hl, hm, hmm, hy, hr⟩
  · simp [Value.cells] at hcs
    obtain ⟨rfl, rfl, rfl⟩ := hcs
    exact ⟨[], ⟨rfl, Nat.le_refl _, by simp [maxLen], .inl rfl⟩, by simp [vssbulk, totV]⟩
  · simp [Value.cells] at hcs
    obtain ⟨rfl, rfl, rfl⟩ := hcs
    rw [if_pos rfl] at hmm
    subst hmm
    have ec : Tryz.prog.cellsOf 47 = 1 := by kernel_rfl
    rw [ec] at hr
    have each : ∀ i, i < m → ∃ z : List Ver × Option Addr × Nat, VersIn W z.2.1 z.1.length z.2.2 z.1 ∧ vsbulk z.1 ≤ Rows.uptoBulk (D i) ∧ W.cell? (x.add (i * 1)) = some (.slice z.2.1 z.1.length z.2.2) := fun i hi => by
      obtain ⟨cs', h3, h4⟩ := hr i hi
      obtain ⟨_, hlen, hcell⟩ := World.cells?_some h3
      have hc0 := hcell 0 (by omega)
      obtain ⟨v, rfl⟩ : ∃ v, cs' = [v] := by
        cases cs' with
        | nil => simp at hlen
        | cons v r => cases r with
          | nil => exact ⟨v, rfl⟩
          | cons u r => simp at hlen
      obtain ⟨ad, l2, cp, L, rfl, hin, _, hb⟩ := vers_blk h4
      have e := hin.1
      subst e
      refine ⟨(L, ad, cp), hin, hb, ?_⟩
      have e0 : (x.add (i * 1)).add 0 = x.add (i * 1) := by simp [Addr.add]
      rw [e0] at hc0
      exact hc0.trans rfl
    obtain ⟨f, hff⟩ := Go.Deep.choose_lt each
    refine ⟨(List.range len).map (fun i => (f i).1), ⟨by simp, hl, hm, ?_⟩, ?_⟩
    · by_cases h0 : len = 0
      · left; subst h0; rfl
      · obtain ⟨b, off, spot⟩ := x
        have h00 := (hff 0 (by omega)).2.2
        have hspot : spot = none := by
          simpa [Addr.add] using World.cell?_spot h00
        subst hspot
        have hb : b < W.heap.size := by
          simpa [Addr.add] using lt_of_cell h00
        refine .inr ⟨b, off, rfl, hb, fun i hi => ?_⟩
        have hi2 : i < len := by simpa using hi
        have e : ((List.range len).map (fun i => (f i).1))[i]?.getD [] = (f i).1 := by simp [hi2]
        rw [e]
        obtain ⟨g1, g2, g3⟩ := hff i (by omega)
        refine ⟨(f i).2.1, (f i).2.2, ?_, g1.2.1, g1.2.2.1, g1.2.2.2.1, g1.2.2.2.2.1⟩
        have e0 : (Addr.mk b off none).add (i * 1) = ⟨b, off + i, none⟩ := by simp [Addr.add]
        rw [e0] at g3
        exact g3
    · obtain ⟨rfl, rfl⟩ := Prod.mk.inj hy
      simp only [Rows.uptoBulk]
      have h9 := sum_blkv (f := fun i => (f i).1) (D := D) (n := len) (fun i hi => (hff i (by omega)).2.1)
      omega
end
end Go.Proofs.YtjhjpijjfpfjeaaGreatDoor
/- Groups in memory: what each step leaves. -/
namespace Go.Proofs.YtjhjpijjfpfjeaaGreatDoor
section
open Go.RowKit Go.BigFrame

def grp0 : Grp := ((0, 0), 0, [])
theorem own1_heap {E : TypeId} {B : Nat} {w : World} {v : Value} {us : List Value} (h : Own1 E B w v us) {g : Nat} (hg : v.ownBlock = some g) : ∃ cs, w.heap[g]? = some (.cells cs E (0, 0)) := by
  rcases h.2 with ⟨rfl, _⟩ | ⟨g', cap, cur, rfl, _, h2, _⟩
  · cases hg
  · have e : g' = g := by simpa [Value.ownBlock] using hg
    exact ⟨cur, by rw [← e]; exact h2⟩
theorem owns_heap {B : Nat} {w : World} {v : Value} {l : List Sh} (h : OwnS B w v l) {g : Nat} (hg : v.ownBlock = some g) : ∃ cs, w.heap[g]? = some (.cells cs 49 (0, 0)) := by
  rcases h.2 with ⟨rfl, _⟩ | ⟨g', cap, cur, rfl, _, h2, _⟩
  · cases hg
  · have e : g' = g := by simpa [Value.ownBlock] using hg
    exact ⟨cur, by rw [← e]; exact h2⟩
theorem OwnS.heapK {B : Nat} {w w' : World} {v : Value} {l : List Sh} (h : OwnS B w v l) (hg : ∀ g, v.ownBlock = some g → w'.heap[g]? = w.heap[g]?) : OwnS B w' v l := by
  refine ⟨h.1, ?_⟩
  rcases h.2 with hn | ⟨g, cap, cur, rfl, hb, hgg, rest⟩
  · exact .inl hn
  · exact .inr ⟨g, cap, cur, rfl, hb, (hg g rfl).trans hgg, rest⟩
theorem Own1.heapK {E : TypeId} {B : Nat} {w w' : World} {v : Value} {us : List Value} (h : Own1 E B w v us) (hg : ∀ g, v.ownBlock = some g → w'.heap[g]? = w.heap[g]?) : Own1 E B w' v us := by
  refine ⟨h.1, ?_⟩
  rcases h.2 with hn | ⟨g, cap, cur, rfl, hb, hgg, rest⟩
  · exact .inl hn
  · exact .inr ⟨g, cap, cur, rfl, hb, (hg g rfl).trans hgg, rest⟩
/-- a group's block. -/
def grpC (g : Grp) (v : Value) : Obj := .cells #[.int .i64 g.1.1, .int .i64 g.1.2, .int .i64 g.2.1, v] 58 (0, 0)
/-- groups lie in memory: pointers to them, their blocks, their shards. -/
structure GrpsAt (B : Nat) (w : World) (v : Value) (gs : List Grp) (bs : List Nat) (vs : List Value) : Prop where
  lenb : bs.length = gs.length
  lenv : vs.length = gs.length
  ptr : Own1 53 B w v (bs.map fun b => .pointer (some ⟨b, 0, none⟩))
  blk : ∀ i, i < gs.length → w.heap[bs[i]?.getD 0]? = some (grpC (gs[i]?.getD grp0) (vs[i]?.getD undef)) ∧ B ≤ bs[i]?.getD 0 ∧ OwnS B w (vs[i]?.getD undef) (gs[i]?.getD grp0).2.2
  nodup : bs.Nodup
  apart : ∀ i j, i < gs.length → j < gs.length → i ≠ j → ∀ g, (vs[i]?.getD undef).ownBlock = some g → (vs[j]?.getD undef).ownBlock ≠ some g
theorem GrpsAt.nil (B : Nat) (w : World) : GrpsAt B w (.slice none 0 0) [] [] [] := ⟨rfl, rfl, Own1.nil _ _ _, fun i hi => (by simp at hi), List.nodup_nil, fun i j hi => (by simp at hi)⟩
theorem GrpsAt.heapK {B : Nat} {w w' : World} {v : Value} {gs : List Grp} {bs : List Nat} {vs : List Value} (h : GrpsAt B w v gs bs vs) (hk : ∀ (b : Nat) (o : Obj), w.heap[b]? = some o → w'.heap[b]? = some o) : GrpsAt B w' v gs bs vs := by
  refine ⟨h.lenb, h.lenv, h.ptr.heapK (fun g hg => ?_), fun i hi => ?_, h.nodup, h.apart⟩
  · obtain ⟨cs, e⟩ := own1_heap h.ptr hg
    rw [e]; exact hk g _ e
  · obtain ⟨h1, h2, h3⟩ := h.blk i hi
    refine ⟨hk _ _ h1, h2, h3.heapK (fun g hg => ?_)⟩
    obtain ⟨cs, e⟩ := owns_heap h3 hg
    rw [e]; exact hk g _ e
theorem GrpsAt.below {B : Nat} {w w' : World} {v : Value} {gs : List Grp} {bs : List Nat} {vs : List Value} (h : GrpsAt B w v gs bs vs) (hb : Below w.heap.size w w') : GrpsAt B w' v gs bs vs :=
  h.heapK (fun b _ e => (hb.block b (Array.getElem?_eq_some_iff.1 e).1).trans e)
theorem GrpsAt.ptrs {B : Nat} {w : World} {v : Value} {gs : List Grp} {bs : List Nat} {vs : List Value} (h : GrpsAt B w v gs bs vs) : ∃ a cap, v = .slice a bs.length cap ∧ bs.length ≤ cap ∧ cap ≤ maxLen ∧ PtR w a bs := by
  rcases h.ptr.shape with ⟨rfl, hl⟩ | ⟨g, cap, rfl, _, hg, hc, hm, _, hcell⟩
  · have : bs = [] := by simpa using hl
    subst this
    exact ⟨none, 0, rfl, Nat.le_refl _, by simp [maxLen], .inl rfl⟩
  · refine ⟨_, cap, by simp, by simpa using hc, hm, .inr ⟨g, 0, rfl, hg, fun j hj => ?_⟩⟩
    rw [Nat.zero_add, hcell j (by simpa using hj)]
    simp [hj]
theorem GrpsAt.tags {B : Nat} {w : World} {v : Value} {gs : List Grp} {bs : List Nat} {vs : List Value} (h : GrpsAt B w v gs bs vs) : GTags w bs (gs.map (·.1)) := fun j hj => by
  have hj2 : j < gs.length := by rw [← h.lenb]; exact hj
  obtain ⟨h1, _, _⟩ := h.blk j hj2
  have e : (gs.map (·.1))[j]?.getD (0, 0) = (gs[j]?.getD grp0).1 := by simp [hj2]
  rw [e]
  unfold grpC at h1
  exact ⟨(cell_of_heap h1 0).trans rfl, (cell_of_heap h1 1).trans rfl⟩
theorem getD_snoc {α : Type} (l : List α) (x z : α) (i : Nat) : (l ++ [x])[i]?.getD z = if i < l.length then l[i]?.getD z else if i = l.length then x else z := by
  by_cases h : i < l.length
  · rw [if_pos h, List.getElem?_append_left h]
  · rw [if_neg h]
    by_cases h2 : i = l.length
    · rw [if_pos h2, h2]; simp
    · rw [if_neg h2, List.getElem?_eq_none (by simp; omega)]; rfl
/-- a group is made. -/
theorem GrpsAt.new {B : Nat} {w w' : World} {v v' : Value} {gs : List Grp} {bs : List Nat} {vs : List Value} {o : Obj} (h : GrpsAt B w v gs bs vs) (hB : B ≤ w.heap.size) (t : Int × Int) (sz : Int)
    (hp : Own1 53 B w' v' ((bs.map fun b => .pointer (some ⟨b, 0, none⟩)) ++ [.pointer (some ⟨w.heap.size, 0, none⟩)]))
    (hg : ((w.alloc (.cells #[.int .i64 t.1, .int .i64 t.2, .int .i64 sz, .slice none 0 0] 58)).alloc o).grownBy w' v.ownBlock) :
    GrpsAt B w' v' (gs ++ [(t, sz, [])]) (bs ++ [w.heap.size]) (vs ++ [.slice none 0 0]) ∧ Below B w w' ∧ ∀ (b : Nat) (cs : Array Value) (ty : TypeId), w.heap[b]? = some (.cells cs ty (0, 0)) → ty ≠ 53 → w'.heap[b]? = some (.cells cs ty (0, 0)) := by
  obtain ⟨w2, hw2⟩ : ∃ w2, (w.alloc (.cells #[.int .i64 t.1, .int .i64 t.2, .int .i64 sz, .slice none 0 0] 58)).alloc o = w2 := ⟨_, rfl⟩
  have hs2 : w2.heap.size = w.heap.size + 1 + 1 := by rw [← hw2]; simp
  have hB2 : Below w.heap.size w w2 := by rw [← hw2]; exact ((Below.refl _ w).alloc (Nat.le_refl _) _).alloc (by simp) _
  have hnew : w2.heap[w.heap.size]? = some (.cells #[.int .i64 t.1, .int .i64 t.2, .int .i64 sz, .slice none 0 0] 58 (0, 0)) := by
    rw [← hw2, Below.heap_alloc _ _ _ (by simp)]; exact heap_alloc_new _ _
  rw [hw2] at hg
  have hvb : ∀ g, v.ownBlock = some g → ∃ cs, w.heap[g]? = some (.cells cs 53 (0, 0)) := fun g e => own1_heap h.ptr e
  have hkeep : ∀ (b : Nat) (cs : Array Value) (ty : TypeId), w.heap[b]? = some (.cells cs ty (0, 0)) → ty ≠ 53 → w'.heap[b]? = some (.cells cs ty (0, 0)) := fun b cs ty e hty => by
    have hlt := (Array.getElem?_eq_some_iff.1 e).1
    have e2 : w2.heap[b]? = some (.cells cs ty (0, 0)) := (hB2.block b hlt).trans e
    refine (hg.block b (by omega) (fun e3 => ?_)).trans e2
    obtain ⟨cs', e4⟩ := hvb b e3.symm
    rw [e] at e4
    simp at e4
    exact hty e4.2
  have hnb : ∀ i, i < gs.length → bs[i]?.getD 0 < w.heap.size := fun i hi => (Array.getElem?_eq_some_iff.1 (h.blk i hi).1).1
  refine ⟨⟨by simp [h.lenb], by simp [h.lenv], by rw [List.map_append]; exact hp, fun i hi => ?_, ?_, fun i j hi hj hne g hgi => ?_⟩, ?_⟩
  · rw [getD_snoc, getD_snoc, getD_snoc, h.lenb, h.lenv]
    by_cases hil : i < gs.length
    · rw [if_pos hil, if_pos hil, if_pos hil]
      obtain ⟨h1, h2, h3⟩ := h.blk i hil
      refine ⟨hkeep _ _ 58 h1 (by decide), h2, h3.heapK (fun g e => ?_)⟩
      obtain ⟨cs, e2⟩ := owns_heap h3 e
      rw [e2]; exact hkeep _ _ 49 e2 (by decide)
    · have hieq : i = gs.length := by simp at hi; omega
      rw [if_neg hil, if_neg hil, if_neg hil, if_pos hieq, if_pos hieq, if_pos hieq]
      refine ⟨?_, hB, OwnS.nil _ _⟩
      refine (hg.block w.heap.size (by omega) (fun e3 => ?_)).trans hnew
      obtain ⟨cs', e4⟩ := hvb _ e3.symm
      have := (Array.getElem?_eq_some_iff.1 e4).1
      omega
  · rw [List.nodup_append]
    refine ⟨h.nodup, by simp, fun a ha b hb => ?_⟩
    rw [List.mem_singleton.1 hb]
    obtain ⟨i, hi, rfl⟩ := List.getElem_of_mem ha
    have h9 := hnb i (by rw [← h.lenb]; exact hi)
    rw [List.getElem?_eq_getElem hi] at h9
    exact Nat.ne_of_lt h9
  · rw [getD_snoc, h.lenv] at hgi ⊢
    by_cases hil : i < gs.length
    · rw [if_pos hil] at hgi
      by_cases hjl : j < gs.length
      · rw [if_pos hjl]; exact h.apart i j hil hjl hne g hgi
      · rw [if_neg hjl]; split <;> (intro e; cases e)
    · rw [if_neg hil] at hgi
      split at hgi <;> cases hgi
  · exact ⟨(hB2.mono hB).trans (World.grownBy.below hg (by omega) (fun k e => (h.ptr.lt k e).1)), hkeep⟩
theorem getD_set {α : Type} (l : List α) (x z : α) (i j : Nat) (hi : i < l.length) : (l.set i x)[j]?.getD z = if j = i then x else l[j]?.getD z := by
  by_cases h : j = i
  · rw [if_pos h, h, List.getElem?_set_self hi]; rfl
  · rw [if_neg h, List.getElem?_set_ne (fun e => h e.symm)]
/-- a shard comes to a group. -/
theorem GrpsAt.add {B : Nat} {w w0 w' : World} {v v' : Value} {gs : List Grp} {bs : List Nat} {vs : List Value} {i : Nat} {s : Sh} (h : GrpsAt B w v gs bs vs) (hi : i < gs.length) (hB : B ≤ w.heap.size) (hb0 : Below w.heap.size w w0)
    (hp : OwnS B w' v' ((gs[i]?.getD grp0).2.2 ++ [s])) (hg : w0.grownBy w' (vs[i]?.getD undef).ownBlock) (hat : v'.ownBlock = (vs[i]?.getD undef).ownBlock ∨ ∀ g, v'.ownBlock = some g → w.heap.size ≤ g) :
    GrpsAt B (w'.setCell ⟨bs[i]?.getD 0, 3, none⟩ v') v (gs.set i ((gs[i]?.getD grp0).1, (gs[i]?.getD grp0).2.1, (gs[i]?.getD grp0).2.2 ++ [s])) bs (vs.set i v') ∧ Below B w (w'.setCell ⟨bs[i]?.getD 0, 3, none⟩ v') := by
  obtain ⟨b1, b2, b3⟩ := h.blk i hi
  obtain ⟨gb, hgb⟩ : ∃ gb, bs[i]?.getD 0 = gb := ⟨_, rfl⟩
  rw [hgb] at b1 b2
  have hlt := (Array.getElem?_eq_some_iff.1 b1).1
  have hvb : ∀ g, (vs[i]?.getD undef).ownBlock = some g → ∃ cs, w.heap[g]? = some (.cells cs 49 (0, 0)) := fun g e => owns_heap b3 e
  have hk1 : ∀ (b : Nat) (o : Obj), w.heap[b]? = some o → (vs[i]?.getD undef).ownBlock ≠ some b → w'.heap[b]? = some o := fun b o e hne => by
    have hl := (Array.getElem?_eq_some_iff.1 e).1
    exact (hg.block b (Nat.lt_of_lt_of_le hl hb0.size) (fun e3 => hne e3.symm)).trans ((hb0.block b hl).trans e)
  have hk2 : ∀ (b : Nat) (o : Obj), b ≠ gb → w'.heap[b]? = some o → (w'.setCell ⟨gb, 3, none⟩ v').heap[b]? = some o := fun b o hne e => (Below.heap_setCell _ _ _ _ hne).trans e
  have hty : ∀ (b : Nat) (cs : Array Value) (ty : TypeId), w.heap[b]? = some (.cells cs ty (0, 0)) → ty ≠ 49 → (vs[i]?.getD undef).ownBlock ≠ some b := fun b cs ty e ht e3 => by
    obtain ⟨cs', e4⟩ := hvb b e3
    rw [e] at e4
    simp at e4
    exact ht e4.2
  have hgbw' : w'.heap[gb]? = some (grpC (gs[i]?.getD grp0) (vs[i]?.getD undef)) := hk1 _ _ b1 (hty _ _ 58 b1 (by decide))
  have hib : i < bs.length := by rw [h.lenb]; exact hi
  have hiv : i < vs.length := by rw [h.lenv]; exact hi
  rw [hgb]
  have hv'gb : ∀ g, v'.ownBlock = some g → g ≠ gb := fun g e e2 => by
    obtain ⟨cs', e4⟩ := owns_heap hp e
    rw [e2, hgbw'] at e4
    unfold grpC at e4
    simp at e4
  refine ⟨⟨by simp [h.lenb], by simp [h.lenv], h.ptr.heapK (fun g e => ?_), fun j hj => ?_, h.nodup, fun j k hj hk hne g e => ?_⟩, ?_⟩
  · obtain ⟨cs, e2⟩ := own1_heap h.ptr e
    rw [e2]
    have hne : g ≠ gb := fun e3 => by rw [e3, b1] at e2; unfold grpC at e2; simp at e2
    exact hk2 _ _ hne (hk1 _ _ e2 (hty _ _ 53 e2 (by decide)))
  · rw [List.length_set] at hj
    rw [getD_set gs _ _ i j hi, getD_set vs _ _ i j hiv]
    by_cases hji : j = i
    · subst hji
      rw [if_pos rfl, if_pos rfl, hgb]
      refine ⟨?_, b2, hp.heapK (fun g e => Below.heap_setCell _ _ _ _ (hv'gb g e))⟩
      unfold grpC at hgbw' ⊢
      exact (heap_setCell_same w' gb 3 _ _ _ hgbw').trans (by simp)
    · rw [if_neg hji, if_neg hji]
      obtain ⟨c1, c2, c3⟩ := h.blk j hj
      have hjb : j < bs.length := by rw [h.lenb]; exact hj
      have hne : bs[j]?.getD 0 ≠ gb := fun e => by
        rw [← hgb, List.getElem?_eq_getElem hjb, List.getElem?_eq_getElem hib] at e
        have e9 : bs[j] = bs[i] := e
        rcases Nat.lt_or_gt_of_ne hji with h9 | h9
        · exact List.pairwise_iff_getElem.1 h.nodup j i hjb hib h9 e9
        · exact List.pairwise_iff_getElem.1 h.nodup i j hib hjb h9 e9.symm
      refine ⟨hk2 _ _ hne (hk1 _ _ c1 (hty _ _ 58 c1 (by decide))), c2, c3.heapK (fun g e => ?_)⟩
      obtain ⟨cs, e2⟩ := owns_heap c3 e
      rw [e2]
      have hne2 : g ≠ gb := fun e3 => by rw [e3, b1] at e2; unfold grpC at e2; simp at e2
      exact hk2 _ _ hne2 (hk1 _ _ e2 (h.apart j i hj hi hji g e))
  · rw [List.length_set] at hj hk
    rw [getD_set vs _ _ i j hiv] at e
    rw [getD_set vs _ _ i k hiv]
    by_cases hji : j = i
    · rw [if_pos hji] at e
      rw [if_neg (fun e3 => hne (hji.trans e3.symm))]
      intro e3
      have hki : k ≠ i := fun e4 => hne (hji.trans e4.symm)
      obtain ⟨cs, e5⟩ := owns_heap (h.blk k hk).2.2 e3
      rcases hat with e4 | e4
      · rw [e] at e4
        exact h.apart i k hi hk (fun e6 => hki e6.symm) g e4.symm e3
      · have := e4 g e
        have := (Array.getElem?_eq_some_iff.1 e5).1
        omega
    · rw [if_neg hji] at e
      by_cases hki : k = i
      · rw [if_pos hki]
        intro e3
        obtain ⟨cs, e5⟩ := owns_heap (h.blk j hj).2.2 e
        rcases hat with e4 | e4
        · rw [e3] at e4
          exact h.apart j i hj hi hji g e e4.symm
        · have := e4 g e3
          have := (Array.getElem?_eq_some_iff.1 e5).1
          omega
      · rw [if_neg hki]
        exact h.apart j k hj hk hne g e
  · exact ((hb0.mono hB).trans (World.grownBy.below hg (Nat.le_trans hB hb0.size) (fun k e => (b3.lt k e).1))).setCell b2 _
end
end Go.Proofs.YtjhjpijjfpfjeaaGreatDoor
