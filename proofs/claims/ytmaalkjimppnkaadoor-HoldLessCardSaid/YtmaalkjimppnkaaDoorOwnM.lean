/- Matrices of the call's own, row by row: what an append leaves of them, and how they read. -/
import Derived.Test.YtmaalkjimppnkaaDoorMatC
import Derived.Test.YtmaalkjimppnkaaDoorRowsB
namespace Go.Proofs.YtmaalkjimppnkaaDoor
open Go.RowKit

/-- v owns n rows of C bytes, each in a block of its own. -/
structure OwnM (B : Nat) (w : World) (v : Value) (n C : Nat) (bs caps : Nat → Nat) (M : Nat → Nat → Nat) : Prop where
  own : Own1 122 B w v ((List.range n).map fun i => Value.slice (some ⟨bs i, 0, none⟩) C (caps i))
  row : ∀ i, i < n → RowV w (bs i) C (M i)
  inj : ∀ i j, i < n → j < n → bs i = bs j → i = j
  low : ∀ i, i < n → B ≤ bs i
  lt : ∀ i, i < n → bs i < w.heap.size
  off : ∀ i, i < n → v.ownBlock ≠ some (bs i)
  cap : ∀ i, i < n → C ≤ caps i ∧ caps i ≤ maxLen
theorem OwnM.nil (B : Nat) (w : World) (C : Nat) (bs caps : Nat → Nat) (M : Nat → Nat → Nat) : OwnM B w (.slice none 0 0) 0 C bs caps M :=
  ⟨Own1.nil _ _ _, fun _ h => by omega, fun _ _ h => by omega, fun _ h => by omega, fun _ h => by omega, fun _ h => by omega, fun _ h => by omega⟩
theorem RowV.heap {w w' : World} {b C : Nat} {f : Nat → Nat} (h : RowV w b C f) (e : w'.heap[b]? = w.heap[b]?) : RowV w' b C f :=
  ⟨fun j hj => by have := h.cell j hj; unfold World.cell? at this ⊢; rw [e]; exact this, fun j hj => by have := h.free j hj; unfold World.frozen? at this ⊢; rw [e]; exact this⟩
/-- what grows by another row leaves it. -/
theorem OwnM.kept {B : Nat} {w w' : World} {v : Value} {n C : Nat} {bs caps : Nat → Nat} {M : Nat → Nat → Nat} (h : OwnM B w v n C bs caps M) {r : Option Nat} (hg : w.grownBy w' r) (h1 : ∀ i, i < n → r ≠ some (bs i)) (h2 : ∀ k, v.ownBlock = some k → r ≠ some k) : OwnM B w' v n C bs caps M :=
  ⟨h.own.kept hg (by
      cases e : v.ownBlock with
      | none => exact .inl rfl
      | some k => exact .inr (fun e2 => h2 k e e2.symm)),
    fun i hi => (h.row i hi).heap (hg.block _ (h.lt i hi) (fun e => h1 i hi e.symm)), h.inj, h.low, fun i hi => Nat.lt_of_lt_of_le (h.lt i hi) hg.size, h.off, h.cap⟩
theorem OwnM.below {B n₀ : Nat} {w w' : World} {v : Value} {n C : Nat} {bs caps : Nat → Nat} {M : Nat → Nat → Nat} (h : OwnM B w v n C bs caps M) (hb : Below n₀ w w') (hn : w.heap.size ≤ n₀) : OwnM B w' v n C bs caps M :=
  h.kept (r := none) ⟨hb.os, hb.tape, hb.output, hb.size, fun k hk _ => hb.block k (by omega)⟩ (fun _ _ e => by cases e) (fun _ _ e => by cases e)
theorem OwnM.congr {B : Nat} {w : World} {v : Value} {n C : Nat} {bs caps : Nat → Nat} {M M' : Nat → Nat → Nat} (h : OwnM B w v n C bs caps M) (e : ∀ i, i < n → ∀ j, j < C → M i j = M' i j) : OwnM B w v n C bs caps M' :=
  { h with row := fun i hi => (h.row i hi).congr (e i hi) }
/-- one row more is appended. -/
theorem OwnM.snoc {B : Nat} {w0 w' : World} {v v' : Value} {n C : Nat} {bs caps : Nat → Nat} {M : Nat → Nat → Nat} (h : OwnM B w0 v n C bs caps M) {nb nc : Nat} {f : Nat → Nat} {o : Obj}
    (hr : RowV w0 nb C f) (hB : B ≤ nb) (hlt : nb < w0.heap.size) (hne : ∀ i, i < n → bs i ≠ nb) (hoff : v.ownBlock ≠ some nb) (hcap : C ≤ nc ∧ nc ≤ maxLen)
    (hown : Own1 122 B w' v' ((List.range n).map (fun i => Value.slice (some ⟨bs i, 0, none⟩) C (caps i)) ++ [Value.slice (some ⟨nb, 0, none⟩) C nc])) (hg : (w0.alloc o).grownBy w' v.ownBlock)
    (hat : v'.ownBlock = v.ownBlock ∨ v'.ownBlock = some (w0.heap.size + 1)) : OwnM B w' v' (n + 1) C (Mx.upd bs n nb) (Mx.upd caps n nc) (Mx.putR M n f) := by
  have hgb : ∀ b, b < w0.heap.size → v.ownBlock ≠ some b → w'.heap[b]? = w0.heap[b]? := fun b hb hne => (hg.block b (by simp; omega) (fun e => hne e.symm)).trans (heap_alloc_lt _ hb)
  have hsz : w0.heap.size + 1 ≤ w'.heap.size := by have := hg.size; simpa using this
  refine ⟨?_, fun i hi => ?_, fun i j hi hj e => ?_, fun i hi => ?_, fun i hi => ?_, fun i hi => ?_, fun i hi => ?_⟩
  · rw [List.range_succ, List.map_append]
    have e1 : (List.range n).map (fun i => Value.slice (some ⟨Mx.upd bs n nb i, 0, none⟩) C (Mx.upd caps n nc i)) = (List.range n).map (fun i => Value.slice (some ⟨bs i, 0, none⟩) C (caps i)) := by
      refine List.map_congr_left fun i hi => ?_
      have := List.mem_range.1 hi
      unfold Mx.upd; rw [if_neg (by omega), if_neg (by omega)]
    rw [e1]
    have e2 : [n].map (fun i => Value.slice (some ⟨Mx.upd bs n nb i, 0, none⟩) C (Mx.upd caps n nc i)) = [Value.slice (some ⟨nb, 0, none⟩) C nc] := by simp [Mx.upd]
    rw [e2]; exact hown
  · unfold Mx.upd Mx.putR
    by_cases e : i = n
    · rw [if_pos e, if_pos e]; exact hr.heap (hgb _ hlt hoff)
    · rw [if_neg e, if_neg e]; exact (h.row i (by omega)).heap (hgb _ (h.lt i (by omega)) (h.off i (by omega)))
  · unfold Mx.upd at e
    by_cases e1 : i = n <;> by_cases e2 : j = n
    · omega
    · rw [if_pos e1, if_neg e2] at e; exact absurd e.symm (hne j (by omega))
    · rw [if_neg e1, if_pos e2] at e; exact absurd e (hne i (by omega))
    · rw [if_neg e1, if_neg e2] at e; exact h.inj i j (by omega) (by omega) e
  · unfold Mx.upd
    by_cases e : i = n
    · rw [if_pos e]; exact hB
    · rw [if_neg e]; exact h.low i (by omega)
  · unfold Mx.upd
    by_cases e : i = n
    · rw [if_pos e]; omega
    · rw [if_neg e]; have := h.lt i (by omega); omega
  · have hx : Mx.upd bs n nb i < w0.heap.size ∧ v.ownBlock ≠ some (Mx.upd bs n nb i) := by
      unfold Mx.upd
      by_cases e : i = n
      · rw [if_pos e]; exact ⟨hlt, hoff⟩
      · rw [if_neg e]; exact ⟨h.lt i (by omega), h.off i (by omega)⟩
    rcases hat with e | e
    · rw [e]; exact hx.2
    · rw [e]; intro e2
      have := Option.some.inj e2
      omega
  · unfold Mx.upd
    by_cases e : i = n
    · rw [if_pos e]; exact hcap
    · rw [if_neg e]; exact h.cap i (by omega)
theorem OwnM.mat {B : Nat} {w : World} {v : Value} {n C : Nat} {bs caps : Nat → Nat} {M : Nat → Nat → Nat} (h : OwnM B w v n C bs caps M) (hn : 0 < n) : ∃ g cap, v = .slice (some ⟨g, 0, none⟩) n cap ∧ n ≤ cap ∧ cap ≤ maxLen ∧ MatV B w g n C bs caps M := by
  rcases h.own.shape with ⟨_, e⟩ | ⟨g, cap, e, hg, hlt, hc, hm, hf, hcell⟩
  · have := congrArg List.length e
    simp at this; omega
  · have hl : ((List.range n).map fun i => Value.slice (some ⟨bs i, 0, none⟩) C (caps i)).length = n := by simp
    rw [hl] at e hc hcell
    refine ⟨g, cap, e, hc, hm, ⟨fun i hi => ?_, fun i _ => hf i, h.row, h.inj, fun i hi e2 => ?_, h.low, hg, h.cap⟩⟩
    · rw [hcell i hi]; simp [hi]
    · have := h.off i hi
      rw [e, e2] at this
      exact this rfl
theorem MatV.rows {B : Nat} {w : World} {g n C : Nat} {bs caps : Nat → Nat} {M : Nat → Nat → Nat} (h : MatV B w g n C bs caps M) (hn : 0 < n) (hC : 0 < C) : RowsAt w.heap.size w (some ⟨g, 0, none⟩) (rowsOf M n C) := by
  have hl := h.lt hn hC
  refine .inr ⟨g, 0, fun i => some ⟨bs i, 0, none⟩, caps, rfl, hl g (.inl rfl), fun i hi => ?_⟩
  rw [rowsOf_length] at hi
  rw [rowsOf_at M hi, Nat.zero_add]
  refine ⟨by simpa using h.head i hi, by simpa using (h.cap i hi).1, (h.cap i hi).2, .inr ⟨bs i, 0, rfl, hl _ (.inr ⟨i, hi, rfl⟩), fun j hj => ?_⟩, fun e => by cases e⟩
  simp at hj
  rw [Nat.zero_add, (h.row i hi).cell j hj]
  simp [hj]
theorem OwnB.rowV {B : Nat} {w : World} {v : Value} {l : List Nat} (h : OwnB B w v l) (hl : 0 < l.length) : ∃ g cap, v = .slice (some ⟨g, 0, none⟩) l.length cap ∧ B ≤ g ∧ g < w.heap.size ∧ l.length ≤ cap ∧ cap ≤ maxLen ∧ RowV w g l.length (fun j => l[j]?.getD 0) := by
  rcases Own1.shape h with ⟨_, e⟩ | ⟨g, cap, e, hg, hlt, hc, hm, hf, hcell⟩
  · have : l = [] := by simpa using e
    subst this; simp at hl
  · have hl2 : (l.map fun n : Nat => Value.int .u8 (n : Int)).length = l.length := by simp
    rw [hl2] at e hc hcell
    refine ⟨g, cap, e, hg, hlt, hc, hm, ⟨fun j hj => ?_, fun j _ => hf j⟩⟩
    rw [hcell j hj]; simp [hj]
end Go.Proofs.YtmaalkjimppnkaaDoor
