/- Matrices of the call's own, row by row: what an append leaves of them, and how they read. -/
import Derived.Test.YtolbdcmoblcakaaGreatDoorKRepairAll17
import Derived.Test.YtolbdcmoblcakaaGreatDoorKRepairAll01
import Derived.Lib.AppendZeros
import Derived.Laws.AppendOwnNone
import Derived.Test.YtolbdcmoblcakaaGreatDoorKRepairAll04
namespace Go.Proofs.YtolbdcmoblcakaaGreatDoor
open Go.RowKit

/-- v owns n rows of C bytes, each in a block of its own. -/
structure OwnM (B : Nat) (w : World) (v : Value) (n C : Nat) (bs caps : Nat → Nat) (M : Nat → Nat → Nat) : Prop where
  own : Own1 92 B w v ((List.range n).map fun i => Value.slice (some ⟨bs i, 0, none⟩) C (caps i))
  row : ∀ i, i < n → RowV w (bs i) C (M i)
  inj : ∀ i j, i < n → j < n → bs i = bs j → i = j
  low : ∀ i, i < n → B ≤ bs i
  lt : ∀ i, i < n → bs i < w.heap.size
  off : ∀ i, i < n → v.ownBlock ≠ some (bs i)
  cap : ∀ i, i < n → C ≤ caps i ∧ caps i ≤ maxLen
theorem OwnM.nil (B : Nat) (w : World) (C : Nat) (bs caps : Nat → Nat) (M : Nat → Nat → Nat) : OwnM B w (.slice none 0 0) 0 C bs caps M :=
  ⟨Own1.nil _ _ _, fun _ h => by omega, fun _ _ h => by omega, fun _ h => by omega, fun _ h => by omega, fun _ h => by omega, fun _ h => by omega⟩
theorem RowV.heap {w w' : World} {b C : Nat} {f : Nat → Nat} (h : RowV w b C f) (e : w'.heap[b]? = w.heap[b]?) : RowV w' b C f :=
  ⟨fun j hj => by have := h.cell j hj; unfold World.cell? at this ⊢; rw [e]; exact this, fun j hj => by have := h.free j hj; unfold World.frozen? at this ⊢; rw [e]; exact this⟩
/-- what grows by another row leaves it. -/
theorem OwnM.kept {B : Nat} {w w' : World} {v : Value} {n C : Nat} {bs caps : Nat → Nat} {M : Nat → Nat → Nat} (h : OwnM B w v n C bs caps M) {r : Option Nat} (hg : w.grownBy w' r) (h1 : ∀ i, i < n → r ≠ some (bs i)) (h2 : ∀ k, v.ownBlock = some k → r ≠ some k) : OwnM B w' v n C bs caps M :=
  ⟨h.own.kept hg (by
      cases e : v.ownBlock with
      | none => exact .inl rfl
      | some k => exact .inr (fun e2 => h2 k e e2.symm)),
    fun i hi => (h.row i hi).heap (hg.block _ (h.lt i hi) (fun e => h1 i hi e.symm)), h.inj, h.low, fun i hi => Nat.lt_of_lt_of_le (h.lt i hi) hg.size, h.off, h.cap⟩
theorem OwnM.below {B n₀ : Nat} {w w' : World} {v : Value} {n C : Nat} {bs caps : Nat → Nat} {M : Nat → Nat → Nat} (h : OwnM B w v n C bs caps M) (hb : Below n₀ w w') (hn : w.heap.size ≤ n₀) : OwnM B w' v n C bs caps M :=
  h.kept (r := none) ⟨hb.os, hb.tape, hb.output, hb.size, fun k hk _ => hb.block k (by omega)⟩ (fun _ _ e => by cases e) (fun _ _ e => by cases e)
theorem OwnM.congr {B : Nat} {w : World} {v : Value} {n C : Nat} {bs caps : Nat → Nat} {M M' : Nat → Nat → Nat} (h : OwnM B w v n C bs caps M) (e : ∀ i, i < n → ∀ j, j < C → M i j = M' i j) : OwnM B w v n C bs caps M' :=
  { h with row := fun i hi => (h.row i hi).congr (e i hi) }
/-- one row more is appended. -/
theorem OwnM.snoc {B : Nat} {w0 w' : World} {v v' : Value} {n C : Nat} {bs caps : Nat → Nat} {M : Nat → Nat → Nat} (h : OwnM B w0 v n C bs caps M) {nb nc : Nat} {f : Nat → Nat} {o : Obj}
    (hr : RowV w0 nb C f) (hB : B ≤ nb) (hlt : nb < w0.heap.size) (hne : ∀ i, i < n → bs i ≠ nb) (hoff : v.ownBlock ≠ some nb) (hcap : C ≤ nc ∧ nc ≤ maxLen)
    (hown : Own1 92 B w' v' ((List.range n).map (fun i => Value.slice (some ⟨bs i, 0, none⟩) C (caps i)) ++ [Value.slice (some ⟨nb, 0, none⟩) C nc])) (hg : (w0.alloc o).grownBy w' v.ownBlock)
    (hat : v'.ownBlock = v.ownBlock ∨ v'.ownBlock = some (w0.heap.size + 1)) : OwnM B w' v' (n + 1) C (Mx.upd bs n nb) (Mx.upd caps n nc) (Mx.putR M n f) := by
  have hgb : ∀ b, b < w0.heap.size → v.ownBlock ≠ some b → w'.heap[b]? = w0.heap[b]? := fun b hb hne => (hg.block b (by simp; omega) (fun e => hne e.symm)).trans (heap_alloc_lt _ hb)
  have hsz : w0.heap.size + 1 ≤ w'.heap.size := by have := hg.size; simpa using this
  refine ⟨?_, fun i hi => ?_, fun i j hi hj e => ?_, fun i hi => ?_, fun i hi => ?_, fun i hi => ?_, fun i hi => ?_⟩
  · rw [List.range_succ, List.map_append]
    have e1 : (List.range n).map (fun i => Value.slice (some ⟨Mx.upd bs n nb i, 0, none⟩) C (Mx.upd caps n nc i)) = (List.range n).map (fun i => Value.slice (some ⟨bs i, 0, none⟩) C (caps i)) := by
      refine List.map_congr_left fun i hi => ?_
      have := List.mem_range.1 hi
      unfold Mx.upd; rw [if_neg (by omega), if_neg (by omega)]
    rw [e1]
    have e2 : [n].map (fun i => Value.slice (some ⟨Mx.upd bs n nb i, 0, none⟩) C (Mx.upd caps n nc i)) = [Value.slice (some ⟨nb, 0, none⟩) C nc] := by simp [Mx.upd]
    rw [e2]; exact hown
  · unfold Mx.upd Mx.putR
    by_cases e : i = n
    · rw [if_pos e, if_pos e]; exact hr.heap (hgb _ hlt hoff)
    · rw [if_neg e, if_neg e]; exact (h.row i (by omega)).heap (hgb _ (h.lt i (by omega)) (h.off i (by omega)))
  · unfold Mx.upd at e
    by_cases e1 : i = n <;> by_cases e2 : j = n
    · omega
    · rw [if_pos e1, if_neg e2] at e; exact absurd e.symm (hne j (by omega))
    · rw [if_neg e1, if_pos e2] at e; exact absurd e (hne i (by omega))
    · rw [if_neg e1, if_neg e2] at e; exact h.inj i j (by omega) (by omega) e
  · unfold Mx.upd
    by_cases e : i = n
    · rw [if_pos e]; exact hB
    · rw [if_neg e]; exact h.low i (by omega)
  · unfold Mx.upd
    by_cases e : i = n
    · rw [if_pos e]; omega
    · rw [if_neg e]; have := h.lt i (by omega); omega
  · have hx : Mx.upd bs n nb i < w0.heap.size ∧ v.ownBlock ≠ some (Mx.upd bs n nb i) := by
      unfold Mx.upd
      by_cases e : i = n
      · rw [if_pos e]; exact ⟨hlt, hoff⟩
      · rw [if_neg e]; exact ⟨h.lt i (by omega), h.off i (by omega)⟩
    rcases hat with e | e
    · rw [e]; exact hx.2
    · rw [e]; intro e2
      have := Option.some.inj e2
      omega
  · unfold Mx.upd
    by_cases e : i = n
    · rw [if_pos e]; exact hcap
    · rw [if_neg e]; exact h.cap i (by omega)
theorem OwnM.mat {B : Nat} {w : World} {v : Value} {n C : Nat} {bs caps : Nat → Nat} {M : Nat → Nat → Nat} (h : OwnM B w v n C bs caps M) (hn : 0 < n) : ∃ g cap, v = .slice (some ⟨g, 0, none⟩) n cap ∧ n ≤ cap ∧ cap ≤ maxLen ∧ MatV B w g n C bs caps M := by
  rcases h.own.shape with ⟨_, e⟩ | ⟨g, cap, e, hg, hlt, hc, hm, hf, hcell⟩
  · have := congrArg List.length e
    simp at this; omega
  · have hl : ((List.range n).map fun i => Value.slice (some ⟨bs i, 0, none⟩) C (caps i)).length = n := by simp
    rw [hl] at e hc hcell
    refine ⟨g, cap, e, hc, hm, ⟨fun i hi => ?_, fun i _ => hf i, h.row, h.inj, fun i hi e2 => ?_, h.low, hg, h.cap⟩⟩
    · rw [hcell i hi]; simp [hi]
    · have := h.off i hi
      rw [e, e2] at this
      exact this rfl
theorem MatV.rows {B : Nat} {w : World} {g n C : Nat} {bs caps : Nat → Nat} {M : Nat → Nat → Nat} (h : MatV B w g n C bs caps M) (hn : 0 < n) (hC : 0 < C) : RowsAt w.heap.size w (some ⟨g, 0, none⟩) (rowsOf M n C) := by
  have hl := h.lt hn hC
  refine .inr ⟨g, 0, fun i => some ⟨bs i, 0, none⟩, caps, rfl, hl g (.inl rfl), fun i hi => ?_⟩
  rw [rowsOf_length] at hi
  rw [rowsOf_at M hi, Nat.zero_add]
  refine ⟨by simpa using h.head i hi, by simpa using (h.cap i hi).1, (h.cap i hi).2, .inr ⟨bs i, 0, rfl, hl _ (.inr ⟨i, hi, rfl⟩), fun j hj => ?_⟩, fun e => by cases e⟩
  simp at hj
  rw [Nat.zero_add, (h.row i hi).cell j hj]
  simp [hj]
theorem OwnB.rowV {B : Nat} {w : World} {v : Value} {l : List Nat} (h : OwnB B w v l) (hl : 0 < l.length) : ∃ g cap, v = .slice (some ⟨g, 0, none⟩) l.length cap ∧ B ≤ g ∧ g < w.heap.size ∧ l.length ≤ cap ∧ cap ≤ maxLen ∧ RowV w g l.length (fun j => l[j]?.getD 0) := by
  rcases Own1.shape h with ⟨_, e⟩ | ⟨g, cap, e, hg, hlt, hc, hm, hf, hcell⟩
  · have : l = [] := by simpa using e
    subst this; simp at hl
  · have hl2 : (l.map fun n : Nat => Value.int .u8 (n : Int)).length = l.length := by simp
    rw [hl2] at e hc hcell
    refine ⟨g, cap, e, hg, hlt, hc, hm, ⟨fun j hj => ?_, fun j _ => hf j⟩⟩
    rw [hcell j hj]; simp [hj]
end Go.Proofs.YtolbdcmoblcakaaGreatDoor
/- Laws on append over any program: append(s, make([]T, n)...) on a slice of the call's own of cells of one value; append of a read row of bytes. -/
namespace Go.Proofs.YtolbdcmoblcakaaGreatDoor
open Go.RowKit

/-- append(s, make([]T, m)...), s a slice of the call's own that holds something, T of one cell. -/
theorem run_append_own_zeros {P : Program} (w : World) (base : Nat) (t tn ty e : TypeId) (k kn : IntKind) (i : TypeInfo) (z : Value) (bytes : Nat) (ht : P.underlying t = some (.slice e)) (htn : P.underlying tn = some (.int kn)) (hi : P.info? e = some i) (hz : i.zero = some z)
    (hsize : i.size = 1) (hby : i.bytes = bytes) (hzs : ∀ m, Builtin.zeroCells z.cells m = (List.replicate m z).toArray) (hz1 : z.oneCell' = true) (v : Value) (xs : List Value) (hown : w.ownsRow base e 1 v xs.length xs) (h0 : 0 < xs.length) (m : Nat) (hm : 0 < m)
    (hbytes : (xs.length + m) * bytes ≤ 140737488355328) (h63 : xs.length + m ≤ maxLen) (hbase : base ≤ w.heap.size) (hb1 : m * bytes ≤ 140737488355328) :
    ∃ v' w', (Builtin.append_ #[t, tn] ty #[v, .int k m]).run P w = .ok v' w' ∧ w'.ownsRow base e 1 v' (xs.length + m) (xs ++ List.replicate m z) ∧ w.grownBy w' v.ownBlock ∧ (v'.ownBlock = v.ownBlock ∨ v'.ownBlock = some w.heap.size) := by
  subst hby
  have hsmall : xs.length + m ≤ 9223372036854775807 := by simp only [maxLen] at h63; omega
  have hw : IntKind.i64.wrap (m : Int) = m := by rw [IntKind.wrap_i64]; omega
  have hneg : ¬ ((m : Int) < 0) := by omega
  have hm0 : m ≠ 0 := by omega
  have h48i : ¬ (281474976710656 < (m : Int) * (i.bytes : Int)) := by rw [← Int.natCast_mul]; omega
  have hns : ¬ (m = 0 ∨ i.size = 0) := by omega
  rcases hown.2 with ⟨rfl, hx⟩ | ⟨g, cap, cur, rfl, hbg, hg, hnc, hcm, hcs, htake⟩
  · omega
  · by_cases hroom : xs.length + m ≤ cap
    · have hst := run_storeCells_at P g (xs.length * 1) e (List.replicate m z) 0 cur w hg (by simp; omega) (fun u hu => by rw [(List.mem_replicate.1 hu).2]; exact hz1)
      simp only [Nat.add_zero, Nat.mul_one] at hst
      have hr : (Builtin.append_ #[t, tn] ty #[.slice (some ⟨g, 0, none⟩) xs.length cap, .int k m]).run P w = .ok (.slice (some ⟨g, 0, none⟩) (xs.length + m) cap) (w.setRow g (cur.toList.take xs.length ++ List.replicate m z ++ cur.toList.drop (xs.length + (List.replicate m z).length)).toArray) := by
        simp [Builtin.append_, run_underlying ht, run_underlying htn, sizeOf, typeInfo, zeroValue, hi, hz, asInt, asIntOf, hw, hneg, h48i, hm0, hsize, hroom, hzs, Addr.add_lit, hst]
      refine ⟨_, _, hr, ⟨by simp, .inr ⟨g, cap, _, rfl, hbg, setRow_heap w g cur _ e _ hg, hroom, hcm, ?_, ?_⟩⟩, ⟨rfl, rfl, rfl, by simp, fun k' _ hk => setRow_other w g k' _ (fun e => hk (by simp [Value.ownBlock, e]))⟩, by simp [Value.ownBlock]⟩
      · simp only [List.size_toArray, List.length_append, List.length_take, List.length_drop, Array.length_toList, List.length_replicate]
        omega
      · rw [show xs.length * 1 = xs.length by omega] at htake
        rw [htake, show (xs.length + m) * 1 = (xs ++ List.replicate m z).length by simp]
        exact List.take_left
    · have holds : ∀ j u, xs[j]? = some u → w.cell? ((⟨g, 0, none⟩ : Addr).add j) = some u := hown.cells (g := g) rfl
      have hfo := run_firstCells_some (P := P) w.drew i.size xs.length ⟨g, 0, none⟩ xs.length cap xs (by rw [hsize]; omega) (by simpa using holds)
      have hfit := growslice_fits (show cap < xs.length + m by omega) hbytes
      have h63' : ¬ (9223372036854775807 < ((xs.length : Int) + (m : Int))) := by omega
      have h48' : ¬ (281474976710656 < Builtin.nextslicecap (xs.length + m) cap * i.bytes) := by omega
      have hr : (Builtin.append_ #[t, tn] ty #[.slice (some ⟨g, 0, none⟩) xs.length cap, .int k m]).run P w = .ok (.slice (some ⟨w.heap.size, 0, none⟩) (xs.length + m) (grownCap w (xs.length + m) cap e))
          (w.drew.alloc (.cells (xs.toArray ++ (List.replicate m z).toArray ++ Builtin.zeroCells z.cells (grownCap w (xs.length + m) cap e - (xs.length + m))) e)) := by
        rw [hsize] at hfo
        simp [Builtin.append_, run_underlying ht, run_underlying htn, sizeOf, typeInfo, zeroValue, hi, hz, asInt, asIntOf, hw, hneg, h48i, hm0, hsize, hroom, h63', h48', Question.forced, hfo, newRow, grownCap, hzs]
      have hge := grownCap_ge w (xs.length + m) cap e
      have hcm2 : grownCap w (xs.length + m) cap e ≤ maxLen := grownCap_le_maxLen w (xs.length + m) cap e h63
      refine ⟨_, _, hr, ⟨by simp, .inr ⟨w.heap.size, _, _, rfl, hbase, heap_alloc_new w.drew _, hge, hcm2, ?_, ?_⟩⟩, ⟨rfl, rfl, rfl, by simp, fun k' hk _ => heap_alloc_old w.drew _ hk⟩, .inr rfl⟩
      · rw [hzs]; simp; omega
      · rw [hzs]
        simp only [Array.toList_append, Nat.mul_one]
        exact List.take_left' (by simp)
theorem zeros_u8 (m : Nat) : Builtin.zeroCells (Value.int .u8 0).cells m = (List.replicate m (Value.int .u8 0)).toArray := by
  apply Array.ext
  · simp [Builtin.zeroCells, Value.cells]
  · intro i h1 h2
    simp [Builtin.zeroCells, Value.cells, Nat.mod_one]
/-- append(v, make([]byte, m)...). -/
theorem append_zeros {ops : Array Oper} {rest : List Oper} {o : Oper} {a : Act} {Q : Exit → Act → World → Prop} {w : World} (s x : Nat) (hgd : o.guard = none)
    (ho : o.op = .call { callee := .builtin .append, args := #[.tmp s, .tmp x], argTypes := #[92, 3] }) (B : Nat) (v : Value) (l : List Nat) (m : Nat) (hm : 0 < m) (h0 : 0 < l.length)
    (hs : a.eval (.tmp s) = v) (hx : a.eval (.tmp x) = .int .i64 m) (hown : OwnB B w v l) (hl : l.length + m ≤ 140737488355328) (hB : B ≤ w.heap.size)
    (h : ∀ v' w', OwnB B w' v' (l ++ List.replicate m 0) → w.grownBy w' v.ownBlock → (v'.ownBlock = v.ownBlock ∨ v'.ownBlock = some w.heap.size) → wpList Tryz.prog ops Q rest (a.put o.dst v') w') :
    wpList Tryz.prog ops Q (o :: rest) a w := by
  obtain ⟨i, hi, hz0, hz1, hz2⟩ := info_parts info_uint8
  have hown' : w.ownsRow B 5 1 v (l.map fun n : Nat => Value.int .u8 (n : Int)).length (l.map fun n : Nat => Value.int .u8 (n : Int)) := hown
  obtain ⟨v', w', hr, h1, h2, h3⟩ := run_append_own_zeros (P := Tryz.prog) w B 92 3 o.type 5 .i64 .i64 i (.int .u8 0) 1 Tryz.underlying92 Tryz.underlying3 hi hz0 hz1 hz2 zeros_u8 rfl v _ hown' (by simpa using h0) m hm (by simpa using hl) (by simp [maxLen]; omega) hB (by omega)
  refine Lib.wpList_append_run _ hgd _ _ _ _ ho _ _ hs hx v' w' hr (h v' w' ?_ h2 h3)
  unfold OwnB Own1
  rw [List.map_append, List.map_replicate, List.length_append, List.length_replicate]
  exact h1
/-- append(v, r...), r a row that is read. -/
theorem append_row {ops : Array Oper} {rest : List Oper} {o : Oper} {a : Act} {Q : Exit → Act → World → Prop} {w : World} (s x : Nat) (hgd : o.guard = none)
    (ho : o.op = .call { callee := .builtin .append, args := #[.tmp s, .tmp x], argTypes := #[92, 92] }) (B n₀ : Nat) (v : Value) (l0 l : List Nat) (ad : Option Addr) (c : Nat)
    (hs : a.eval (.tmp s) = v) (hx : a.eval (.tmp x) = .slice ad l.length c) (hown : OwnB B w v l0) (hr : RowAt n₀ w ad l) (hc : ad = none → c = 0) (hl : l0.length + l.length ≤ 140737488355328) (hB : B ≤ w.heap.size)
    (h : ∀ v' w', OwnB B w' v' (l0 ++ l) → w.grownBy w' v.ownBlock → (v'.ownBlock = v.ownBlock ∨ v'.ownBlock = some w.heap.size) → wpList Tryz.prog ops Q rest (a.put o.dst v') w') :
    wpList Tryz.prog ops Q (o :: rest) a w := by
  obtain ⟨i, hi, hz0, hz1, hz2⟩ := info_parts info_uint8
  have fin : ∀ (ad : Addr), ad = ad → (∀ j u, (l.map fun n : Nat => Value.int .u8 (n : Int))[j]? = some u → w.cell? (ad.add j) = some u) → a.eval (.tmp x) = .slice (some ad) l.length c → wpList Tryz.prog ops Q (o :: rest) a w := fun ad _ hn hx => by
    refine wpList_append_own_at _ hgd (.tmp s) (.tmp x) 92 ho B 5 i (.int .u8 0) 1 1 Tryz.underlying92 hi hz0 hz1 hz2 rfl (by decide) v _ _ hs hown ad l.length c (l.map fun n : Nat => Value.int .u8 (n : Int)) hx (by simp) hn
      (fun u hu => by obtain ⟨y, _, rfl⟩ := List.mem_map.1 hu; rfl) (by simp [maxLen]; omega) (by simpa using hl) hB ?_
    intro v' w' h1 h2 _ h4
    refine h v' w' ?_ h2 h4
    unfold OwnB Own1
    rw [List.map_append, List.length_append, List.length_map, List.length_map]
    simpa using h1
  rcases hr with rfl | ⟨b, off, rfl, _, hcell⟩
  · cases ad with
    | none =>
      obtain rfl := hc rfl
      refine wpList_append_own_none hgd (.tmp s) (.tmp x) 92 ho B 5 i 1 Tryz.underlying92 hi v _ _ hs hown hx ?_
      exact h v w (by rw [List.append_nil]; exact hown) ⟨rfl, rfl, rfl, Nat.le_refl _, fun _ _ _ => rfl⟩ (.inl rfl)
    | some ad => exact fin ad rfl (fun j u hj => by simp at hj) hx
  · refine fin _ rfl (fun j u hj => ?_) hx
    have hjl : j < l.length := by have := (List.getElem?_eq_some_iff.1 hj).1; simpa using this
    rw [Addr.add_lit, hcell j hjl, ← hj]
    simp [hjl]
end Go.Proofs.YtolbdcmoblcakaaGreatDoor
/- Walks: slices.Clone of bytes; matrix.Check; the document's IsMatrix; the law's wideMatrix. -/
namespace Go.Proofs.YtolbdcmoblcakaaGreatDoor
open Go.RowKit

set_option maxHeartbeats 1000000 in
set_option maxRecDepth 100000 in
/-- slices.Clone of a row that is not nil. -/
theorem clone_walk (n₀ : Nat) (ad : Addr) (c : Nat) (l : List Nat) (w : World) (hr : RowAt n₀ w (some ad) l) (hn : n₀ ≤ w.heap.size) (hl : l.length ≤ 140737488355328) :
    Calls Tryz.prog 114 #[.slice (some ad) l.length c] w fun e w' => (∃ v, e = .returned v ∧ OwnB w.heap.size w' v l) ∧ Below w.heap.size w w' := by
  have q := fun (w : World) (a : Option Addr) (n c n' c' : Nat) => Lib.run_eql_slice_nil (P := Tryz.prog) w 92 _ a n c n' c' Tryz.underlying92
  have hx : (w.alloc (.cells #[] 5)).heap.size = w.heap.size + 1 := by simp
  have hown : OwnB w.heap.size (w.alloc (.cells #[] 5)) (.slice (some ⟨w.heap.size, 0, none⟩) 0 0) [] := World.ownsRow_made w #[] 0 (Nat.le_refl _) (Nat.zero_le _) rfl
  have hr2 : RowAt n₀ (w.alloc (.cells #[] 5)) (some ad) l := hr.below ((Below.refl _ _).alloc hn _)
  have Hown := Lib.hid hown
  have Hr := Lib.hid hr2
  clear hown hr hr2 hx
  go_enter Tryz.func114, Tryz.ntmps114
  go_wp2_with (at_builtin; refine append_row 5 6 rfl rfl w.heap.size n₀ (.slice (some ⟨w.heap.size, 0, none⟩) 0 0) [] l (some ad) c rfl rfl Hown.out Hr.out (fun e => by cases e) (by simpa using hl) (by simp) ?_; intro v' w1 h1 h2 _)
  have hB : Below w.heap.size w w1 := ((Below.refl _ w).alloc (Nat.le_refl _) _).grown h2 (by simp) (by intro k hk; exact Nat.le_of_eq (Option.some.inj hk))
  have h3 : OwnB w.heap.size w1 v' l := h1
  clear h1 h2
  have H3 := Lib.hid h3
  clear h3
  go_wp2
  go_ret
  exact ⟨⟨v', rfl, H3.out⟩, hB⟩

/-! ### is it a matrix? -/
/-- so many rows, columns. -/
structure IsMat (L : List (List Nat)) : Prop where
  n1 : 1 ≤ L.length
  n2 : L.length ≤ 16
  c1 : 1 ≤ (L[0]?.getD []).length
  c2 : (L[0]?.getD []).length ≤ 16
  all : ∀ i, i < L.length → (L[i]?.getD []).length = (L[0]?.getD []).length
theorem notMat {L : List (List Nat)} (h : ¬ IsMat L) (h1 : 1 ≤ L.length) (h2 : L.length ≤ 16) (h3 : 1 ≤ (L[0]?.getD []).length) (h4 : (L[0]?.getD []).length ≤ 16) : ∃ i, i < L.length ∧ (L[i]?.getD []).length ≠ (L[0]?.getD []).length :=
  Classical.byContradiction fun hn => h ⟨h1, h2, h3, h4, fun i hi => Classical.byContradiction fun e => hn ⟨i, hi, e⟩⟩

set_option maxRecDepth 100000 in
theorem chk_pred (a0 a1 : Option Addr) (b off n cap k c c0 cap0 : Nat) (box : Addr) (w : World) (hn : 0 < n) (hb : w.cell? box = some (.slice (some ⟨b, off, none⟩) n cap)) (hc : w.cell? ⟨b, off, none⟩ = some (.slice a0 c0 cap0)) :
    Calls Tryz.prog 122 #[.slice a1 k c, .pointer (some box)] w fun e w' => e = .returned (.bool (decide (k ≠ c0))) ∧ w = w' := by
  have hn2 : (0 : Int) < n := by omega
  by_cases hx : k = c0
  · subst hx
    go_enter Tryz.func122, Tryz.ntmps122
    go_wp2
    go_ret
    exact ⟨by simp, rfl⟩
  · have hx0 : ((k : Int) != (c0 : Int)) = true := by simp; omega
    have hx1 : (k != c0) = true := by simpa using hx
    go_enter Tryz.func122, Tryz.ntmps122
    go_wp2
    go_ret
    exact ⟨by simp [hx], rfl⟩
set_option maxRecDepth 100000 in
set_option maxHeartbeats 1000000 in
theorem chk_find (g off m cap c0 : Nat) (A : Nat → Option Addr) (Ln C : Nat → Nat) (box : Addr) (w : World) (hm : m ≤ maxLen) (h0 : 0 < m) (hc0 : Ln 0 = c0) (hb : w.cell? box = some (.slice (some ⟨g, off, none⟩) m cap))
    (hh : ∀ j, j < m → w.cell? ⟨g, off + j, none⟩ = some (.slice (A j) (Ln j) (C j))) :
    Calls Tryz.prog 123 #[.slice (some ⟨g, off, none⟩) m cap, .func (.func 122) #[] #[.pointer (some box)]] w
      fun e w' => (((∀ j, j < m → Ln j = c0) ∧ e = .returned (.int .i64 (-1))) ∨ ∃ k, k < m ∧ Ln k ≠ c0 ∧ e = .returned (.int .i64 (k : Nat))) ∧ w = w' := by
  have hm' : m ≤ 9223372036854775807 := hm
  have hz0 := hh 0 h0
  rw [hc0] at hz0
  have Hz0 := Lib.hid hz0
  have Hh := Lib.hid hh
  have Hc0 := Lib.hid hc0
  clear hh hz0 hc0
  go_enter Tryz.func123, Tryz.ntmps123
  go_wp2
  go_loop [8] (fun vi => ∃ k : Nat, k ≤ m ∧ vi = .int .i64 k ∧ ∀ j, j < k → Ln j = c0) (fun i => m - (intOf i).toNat)
  case atStart => exact ⟨0, by omega, rfl, fun j hj => by omega⟩
  case round =>
    obtain ⟨k, hk, rfl, hz⟩ := hrel
    have Hz := Lib.hid hz; clear hz
    have hk2 : k < m ∨ k = m := by omega
    rcases hk2 with hlt | rfl
    · have hlt2 : (k : Int) < m := by omega
      have h1 := Hh.out k hlt
      have Hp := Lib.hid (chk_pred (A 0) (A k) g off m cap (Ln k) (C k) c0 (C 0) box w h0 hb Hz0.out)
      by_cases hx : Ln k = c0
      · have e1 : decide (Ln k ≠ c0) = false := by simp [hx]
        rw [e1] at Hp
        have Hx := Lib.hid hx; clear hx
        go_wp2_with (go_at_call 122; refine Hp.out.mono ?_; rintro e w' ⟨rfl, rfl⟩)
        go_round
        case rel => exact ⟨k + 1, by omega, by go_num, fun j hj => by
          by_cases e : j = k
          · rw [e, Hx.out]
          · exact Hz.out j (by omega)⟩
        case measure => simp [intOf]; omega
      · have e1 : decide (Ln k ≠ c0) = true := by simp [hx]
        rw [e1] at Hp
        go_wp2_with (go_at_call 122; refine Hp.out.mono ?_; rintro e w' ⟨rfl, rfl⟩)
        go_ret
        exact ⟨.inr ⟨k, hlt, hx, rfl⟩, rfl⟩
    · go_wp2
      go_ret
      exact ⟨.inl ⟨Hz.out, rfl⟩, rfl⟩
set_option maxRecDepth 100000 in
theorem chk_contains (g off m cap c0 : Nat) (A : Nat → Option Addr) (Ln C : Nat → Nat) (box : Addr) (w : World) (hm : m ≤ maxLen) (h0 : 0 < m) (hc0 : Ln 0 = c0) (hb : w.cell? box = some (.slice (some ⟨g, off, none⟩) m cap))
    (hh : ∀ j, j < m → w.cell? ⟨g, off + j, none⟩ = some (.slice (A j) (Ln j) (C j))) :
    Calls Tryz.prog 121 #[.slice (some ⟨g, off, none⟩) m cap, .func (.func 122) #[] #[.pointer (some box)]] w
      fun e w' => (((∀ j, j < m → Ln j = c0) ∧ e = .returned (.bool false)) ∨ (∃ k, k < m ∧ Ln k ≠ c0) ∧ e = .returned (.bool true)) ∧ w = w' := by
  have H := Lib.hid (chk_find g off m cap c0 A Ln C box w hm h0 hc0 hb hh)
  clear hh hb hc0
  go_enter Tryz.func121, Tryz.ntmps121
  go_wp2_with fail
  refine H.out.mono ?_
  rintro e w' ⟨hres, rfl⟩
  rcases hres with ⟨hz, rfl⟩ | ⟨k, hk, hne, rfl⟩
  · have Hz := Lib.hid hz; clear hz
    go_wp2
    go_ret
    exact ⟨.inl ⟨Hz.out, rfl⟩, rfl⟩
  · have hk0 : (0 : Int) ≤ (k : Int) := by omega
    have Hne := Lib.hid hne; clear hne
    go_wp2
    go_ret
    exact ⟨.inr ⟨⟨k, hk, Hne.out⟩, by simp⟩, rfl⟩
end Go.Proofs.YtolbdcmoblcakaaGreatDoor
/- Walks: matrix.Check; the document's IsMatrix; the law's wideMatrix. -/
namespace Go.Proofs.YtolbdcmoblcakaaGreatDoor
open Go.RowKit

set_option maxRecDepth 100000 in
set_option maxHeartbeats 1000000 in
theorem check_few (len cap : Nat) (a : Option Addr) (w : World) (z : Value) (hz : w.cell? ⟨6, 0, none⟩ = some z) (h : len < 1 ∨ 16 < len) :
    Calls Tryz.prog 113 #[.slice a len cap] w fun e w' => e = .returned z ∧ Below w.heap.size w w' := by
  have hz2 : (w.alloc (.cells #[.slice a len cap] 90)).cell? ⟨6, 0, none⟩ = some z := ((Below.refl _ w).alloc (Nat.le_refl _) _).cell (lt_of_cell hz) ▸ hz
  rcases h with h | h
  · have h0 : (len : Int) < 1 := by omega
    go_enter Tryz.func113, Tryz.ntmps113
    go_wp2
    go_ret
    exact ⟨rfl, (Below.refl _ w).alloc (Nat.le_refl _) _⟩
  · have h0 : ¬ (len : Int) < 1 := by omega
    have h1 : (16 : Int) < len := by omega
    go_enter Tryz.func113, Tryz.ntmps113
    go_wp2
    go_ret
    exact ⟨rfl, (Below.refl _ w).alloc (Nat.le_refl _) _⟩
set_option maxRecDepth 100000 in
set_option maxHeartbeats 1000000 in
theorem check_cols (b off len cap c0 cap0 : Nat) (a0 : Option Addr) (w : World) (z : Value) (hz : w.cell? ⟨6, 0, none⟩ = some z) (hn : 1 ≤ len) (hn2 : len ≤ 16) (hc : w.cell? ⟨b, off, none⟩ = some (.slice a0 c0 cap0)) (h : c0 < 1 ∨ 16 < c0) :
    Calls Tryz.prog 113 #[.slice (some ⟨b, off, none⟩) len cap] w fun e w' => e = .returned z ∧ Below w.heap.size w w' := by
  have hz2 : (w.alloc (.cells #[.slice (some ⟨b, off, none⟩) len cap] 90)).cell? ⟨6, 0, none⟩ = some z := ((Below.refl _ w).alloc (Nat.le_refl _) _).cell (lt_of_cell hz) ▸ hz
  have hc2 : (w.alloc (.cells #[.slice (some ⟨b, off, none⟩) len cap] 90)).cell? ⟨b, off, none⟩ = some (.slice a0 c0 cap0) := ((Below.refl _ w).alloc (Nat.le_refl _) _).cell (lt_of_cell hc) ▸ hc
  have g0 : ¬ (len : Int) < 1 := by omega
  have g1 : ¬ (16 : Int) < len := by omega
  have g2 : (0 : Int) < len := by omega
  rcases h with h | h
  · have h0 : (c0 : Int) < 1 := by omega
    go_enter Tryz.func113, Tryz.ntmps113
    go_wp2
    go_ret
    exact ⟨rfl, (Below.refl _ w).alloc (Nat.le_refl _) _⟩
  · have h0 : ¬ (c0 : Int) < 1 := by omega
    have h1 : (16 : Int) < c0 := by omega
    go_enter Tryz.func113, Tryz.ntmps113
    go_wp2
    go_ret
    exact ⟨rfl, (Below.refl _ w).alloc (Nat.le_refl _) _⟩
set_option maxRecDepth 100000 in
set_option maxHeartbeats 1000000 in
theorem check_all (b off len cap c0 : Nat) (A : Nat → Option Addr) (Ln C : Nat → Nat) (w : World) (z : Value) (hz : w.cell? ⟨6, 0, none⟩ = some z) (hn : 1 ≤ len) (hn2 : len ≤ 16)
    (hh : ∀ j, j < len → w.cell? ⟨b, off + j, none⟩ = some (.slice (A j) (Ln j) (C j))) (hc0 : Ln 0 = c0) (h1 : 1 ≤ c0) (h2 : c0 ≤ 16) :
    Calls Tryz.prog 113 #[.slice (some ⟨b, off, none⟩) len cap] w fun e w' => (((∀ j, j < len → Ln j = c0) ∧ e = .returned .nilIface) ∨ (∃ j, j < len ∧ Ln j ≠ c0) ∧ e = .returned z) ∧ Below w.heap.size w w' := by
  have hBl : Below w.heap.size w (w.alloc (.cells #[.slice (some ⟨b, off, none⟩) len cap] 90)) := (Below.refl _ w).alloc (Nat.le_refl _) _
  have hz2 : (w.alloc (.cells #[.slice (some ⟨b, off, none⟩) len cap] 90)).cell? ⟨6, 0, none⟩ = some z := hBl.cell (lt_of_cell hz) ▸ hz
  have hh2 : ∀ j, j < len → (w.alloc (.cells #[.slice (some ⟨b, off, none⟩) len cap] 90)).cell? ⟨b, off + j, none⟩ = some (.slice (A j) (Ln j) (C j)) := fun j hj => hBl.cell (p := ⟨b, off + j, none⟩) (lt_of_cell (hh 0 (by omega)) : b < w.heap.size) ▸ hh j hj
  have hc2 := hh2 0 (by omega)
  rw [hc0, Nat.add_zero] at hc2
  have hf := chk_contains b off len cap c0 A Ln C ⟨w.heap.size, 0, none⟩ _ (by unfold maxLen; omega) (by omega) hc0 (by simp) hh2
  have Hf := Lib.hid hf
  have g0 : ¬ (len : Int) < 1 := by omega
  have g1 : ¬ (16 : Int) < len := by omega
  have g2 : (0 : Int) < len := by omega
  have g3 : ¬ (c0 : Int) < 1 := by omega
  have g4 : ¬ (16 : Int) < c0 := by omega
  clear hf hh hh2 hz hc0
  go_enter Tryz.func113, Tryz.ntmps113
  go_wp2_with fail
  refine Hf.out.mono ?_
  rintro e w' ⟨hres, rfl⟩
  rcases hres with ⟨hzz, rfl⟩ | ⟨hne, rfl⟩
  · have Hz := Lib.hid hzz; clear hzz
    go_wp2
    go_ret
    exact ⟨.inl ⟨Hz.out, rfl⟩, hBl⟩
  · have Hz := Lib.hid hne; clear hne
    go_wp2
    go_ret
    exact ⟨.inr ⟨Hz.out, rfl⟩, hBl⟩
/-- matrix.Check. -/
theorem check_yes (n₀ : Nat) (a : Option Addr) (cap : Nat) (L : List (List Nat)) (w : World) (z : Value) (hz : w.cell? ⟨6, 0, none⟩ = some z) (hr : RowsAt n₀ w a L) (h : IsMat L) :
    Calls Tryz.prog 113 #[.slice a L.length cap] w fun e w' => e = .returned .nilIface ∧ Below w.heap.size w w' := by
  rcases hr with rfl | ⟨b, off, A, C, rfl, hb, hc⟩
  · exact absurd h.n1 (by simp)
  refine (check_all b off L.length cap _ A (fun i => (L[i]?.getD []).length) C w z hz h.n1 h.n2 (fun j hj => (hc j hj).1) rfl h.c1 h.c2).mono ?_
  rintro e w' ⟨h1 | ⟨⟨j, hj, hne⟩, _⟩, hB⟩
  · exact ⟨h1.2, hB⟩
  · exact absurd (h.all j hj) hne
theorem check_no (n₀ : Nat) (a : Option Addr) (cap : Nat) (L : List (List Nat)) (w : World) (z : Value) (hz : w.cell? ⟨6, 0, none⟩ = some z) (hr : RowsAt n₀ w a L) (h : ¬ IsMat L) :
    Calls Tryz.prog 113 #[.slice a L.length cap] w fun e w' => e = .returned z ∧ Below w.heap.size w w' := by
  by_cases h1 : L.length < 1 ∨ 16 < L.length
  · exact check_few _ _ _ w z hz h1
  rcases hr with rfl | ⟨b, off, A, C, rfl, hb, hc⟩
  · exact absurd (.inl (by simp)) h1
  have hc0 := (hc 0 (by omega)).1
  rw [Nat.add_zero] at hc0
  by_cases h2 : (L[0]?.getD []).length < 1 ∨ 16 < (L[0]?.getD []).length
  · exact check_cols b off _ cap _ _ _ w z hz (by omega) (by omega) hc0 h2
  refine (check_all b off L.length cap _ A (fun i => (L[i]?.getD []).length) C w z hz (by omega) (by omega) (fun j hj => (hc j hj).1) rfl (by omega) (by omega)).mono ?_
  rintro e w' ⟨h3 | h3, hB⟩
  · obtain ⟨i, hi, hne⟩ := notMat h (by omega) (by omega) (by omega) (by omega)
    exact absurd (h3.1 i hi) hne
  · exact ⟨h3.2, hB⟩

/-! ### the document's IsMatrix -/
end Go.Proofs.YtolbdcmoblcakaaGreatDoor
/- Slices of rows of the call's own that are only read from then on. -/
namespace Go.Proofs.YtolbdcmoblcakaaGreatDoor
open Go.RowKit

theorem info_row : (Tryz.prog.info? 92).map (fun i => (i.zero, i.size, i.bytes)) = some (some (.slice none 0 0), 1, 24) := by kernel_rfl
/-- append(s, r) of a row. -/
theorem append_rowv {ops : Array Oper} {rest : List Oper} {o : Oper} {a : Act} {Q : Exit → Act → World → Prop} {w0 : World} (s x : Nat) (hgd : o.guard = none)
    (ho : o.op = .call { callee := .builtin .append, args := #[.tmp s, .tmp x], argTypes := #[90, 90] }) (B : Nat) (v : Value) (us : List Value) (ad : Option Addr) (n c : Nat)
    (hs : a.eval (.tmp s) = v) (hx : a.eval (.tmp x) = .slice (some ⟨w0.heap.size, 0, none⟩) 1 1) (hown : Own1 92 B w0 v us) (hl : us.length ≤ 1000000) (hB : B ≤ w0.heap.size)
    (h : ∀ v' w', Own1 92 B w' v' (us ++ [.slice ad n c]) → (w0.alloc (.cells #[.slice ad n c] 92)).grownBy w' v.ownBlock → (v'.ownBlock = v.ownBlock ∨ v'.ownBlock = some (w0.heap.size + 1)) → wpList Tryz.prog ops Q rest (a.put o.dst v') w') :
    wpList Tryz.prog ops Q (o :: rest) a (w0.alloc (.cells #[.slice ad n c] 92)) :=
  append_one 90 92 (.slice none 0 0) 24 Tryz.underlying90 info_row rfl s x hgd ho B v us _ rfl hs hx hown (by omega) (by unfold maxLen; omega) hB h

theorem RowAt.heap {n₀ : Nat} {w w' : World} {l : List Nat} {ad : Option Addr} (h : RowAt n₀ w ad l) (e : ∀ p, ad = some p → p.block < n₀ → w'.heap[p.block]? = w.heap[p.block]?) : RowAt n₀ w' ad l := by
  rcases h with h | ⟨b, off, rfl, hb, hc⟩
  · exact .inl h
  · refine .inr ⟨b, off, rfl, hb, fun j hj => ?_⟩
    have := hc j hj
    have e1 := e _ rfl hb
    unfold World.cell? at this ⊢
    rw [e1]; exact this

/-- v owns rows that read as L. -/
structure OwnR (B : Nat) (w : World) (v : Value) (L : List (List Nat)) (A : Nat → Option Addr) (C : Nat → Nat) : Prop where
  own : Own1 92 B w v ((List.range L.length).map fun i => Value.slice (A i) (L[i]?.getD []).length (C i))
  row : ∀ i, i < L.length → (L[i]?.getD []).length ≤ C i ∧ C i ≤ maxLen ∧ RowAt w.heap.size w (A i) (L[i]?.getD []) ∧ (A i = none → C i = 0)
  off : ∀ i, i < L.length → ∀ p, A i = some p → v.ownBlock ≠ some p.block
theorem OwnR.nil (B : Nat) (w : World) (A : Nat → Option Addr) (C : Nat → Nat) : OwnR B w (.slice none 0 0) [] A C :=
  ⟨Own1.nil _ _ _, fun _ h => by simp at h, fun _ h => by simp at h⟩
theorem OwnR.kept {B : Nat} {w w' : World} {v : Value} {L : List (List Nat)} {A : Nat → Option Addr} {C : Nat → Nat} (h : OwnR B w v L A C) {r : Option Nat} (hg : w.grownBy w' r) (h1 : ∀ i, i < L.length → ∀ p, A i = some p → r ≠ some p.block) (h2 : ∀ k, v.ownBlock = some k → r ≠ some k) : OwnR B w' v L A C :=
  ⟨h.own.kept hg (by
      cases e : v.ownBlock with
      | none => exact .inl rfl
      | some k => exact .inr (fun e2 => h2 k e e2.symm)),
    fun i hi => ⟨(h.row i hi).1, (h.row i hi).2.1, ((h.row i hi).2.2.1.heap (fun p e hp => hg.block _ hp (fun e2 => h1 i hi p e e2.symm))).mono hg.size, (h.row i hi).2.2.2⟩, h.off⟩
theorem OwnR.below {B n₀ : Nat} {w w' : World} {v : Value} {L : List (List Nat)} {A : Nat → Option Addr} {C : Nat → Nat} (h : OwnR B w v L A C) (hb : Below n₀ w w') (hn : w.heap.size ≤ n₀) : OwnR B w' v L A C :=
  h.kept (r := none) ⟨hb.os, hb.tape, hb.output, hb.size, fun k hk _ => hb.block k (by omega)⟩ (fun _ _ _ _ e => by cases e) (fun _ _ e => by cases e)
def updA (A : Nat → Option Addr) (n : Nat) (x : Option Addr) : Nat → Option Addr := fun i => if i = n then x else A i
/-- one row more. -/
theorem OwnR.snoc {B : Nat} {w0 w' : World} {v v' : Value} {L : List (List Nat)} {A : Nat → Option Addr} {C : Nat → Nat} (h : OwnR B w0 v L A C) {ad : Option Addr} {l : List Nat} {c : Nat} {o : Obj}
    (hr : RowAt w0.heap.size w0 ad l) (hlc : l.length ≤ c) (hc : c ≤ maxLen) (h0 : ad = none → c = 0) (hoff : ∀ p, ad = some p → v.ownBlock ≠ some p.block) (hlt : ∀ p, ad = some p → p.block < w0.heap.size)
    (hltA : ∀ i, i < L.length → ∀ p, A i = some p → p.block < w0.heap.size)
    (hown : Own1 92 B w' v' ((List.range L.length).map (fun i => Value.slice (A i) (L[i]?.getD []).length (C i)) ++ [Value.slice ad l.length c])) (hg : (w0.alloc o).grownBy w' v.ownBlock)
    (hat : v'.ownBlock = v.ownBlock ∨ v'.ownBlock = some (w0.heap.size + 1)) : OwnR B w' v' (L ++ [l]) (updA A L.length ad) (Mx.upd C L.length c) := by
  have hgb : ∀ b, b < w0.heap.size → v.ownBlock ≠ some b → w'.heap[b]? = w0.heap[b]? := fun b hb hne => (hg.block b (by simp; omega) (fun e => hne e.symm)).trans (heap_alloc_lt _ hb)
  have hsz : w0.heap.size + 1 ≤ w'.heap.size := by have := hg.size; simpa using this
  have old : ∀ i, i < L.length → (L ++ [l])[i]?.getD [] = L[i]?.getD [] ∧ updA A L.length ad i = A i ∧ Mx.upd C L.length c i = C i := fun i hi => by
    refine ⟨by rw [List.getElem?_append_left hi], by unfold updA; rw [if_neg (by omega)], by unfold Mx.upd; rw [if_neg (by omega)]⟩
  have new : (L ++ [l])[L.length]?.getD [] = l ∧ updA A L.length ad L.length = ad ∧ Mx.upd C L.length c L.length = c := ⟨by simp, by simp [updA], by simp [Mx.upd]⟩
  have tr : ∀ {x : Option Addr} {y : List Nat}, RowAt w0.heap.size w0 x y → (∀ p, x = some p → v.ownBlock ≠ some p.block) → RowAt w'.heap.size w' x y := fun hx ho => (hx.heap (fun p e hp => hgb _ hp (ho p e))).mono (by omega)
  have hlen : (L ++ [l]).length = L.length + 1 := by simp
  have split : ∀ i, i < (L ++ [l]).length → i < L.length ∨ i = L.length := fun i hi => by rw [hlen] at hi; omega
  refine ⟨?_, fun i hi => ?_, fun i hi p e => ?_⟩
  · rw [hlen, List.range_succ, List.map_append]
    have e1 : (List.range L.length).map (fun i => Value.slice (updA A L.length ad i) ((L ++ [l])[i]?.getD []).length (Mx.upd C L.length c i)) = (List.range L.length).map (fun i => Value.slice (A i) (L[i]?.getD []).length (C i)) := by
      refine List.map_congr_left fun i hi => ?_
      obtain ⟨a1, a2, a3⟩ := old i (List.mem_range.1 hi)
      rw [a1, a2, a3]
    rw [e1]
    have e2 : [L.length].map (fun i => Value.slice (updA A L.length ad i) ((L ++ [l])[i]?.getD []).length (Mx.upd C L.length c i)) = [Value.slice ad l.length c] := by
      rw [List.map_cons, List.map_nil, new.1, new.2.1, new.2.2]
    rw [e2]; exact hown
  · rcases split i hi with hi | rfl
    · obtain ⟨a1, a2, a3⟩ := old i hi
      rw [a1, a2, a3]
      obtain ⟨b1, b2, b3, b4⟩ := h.row i hi
      exact ⟨b1, b2, tr b3 (h.off i hi), b4⟩
    · rw [new.1, new.2.1, new.2.2]
      exact ⟨hlc, hc, tr hr hoff, h0⟩
  · have hx : p.block < w0.heap.size ∧ v.ownBlock ≠ some p.block := by
      rcases split i hi with hi | rfl
      · obtain ⟨a1, a2, a3⟩ := old i hi
        rw [a2] at e
        exact ⟨hltA i hi p e, h.off i hi p e⟩
      · rw [new.2.1] at e
        exact ⟨hlt p e, hoff p e⟩
    rcases hat with e1 | e1
    · rw [e1]; exact hx.2
    · rw [e1]; intro e2
      have := Option.some.inj e2
      omega
theorem OwnR.rows {B : Nat} {w : World} {v : Value} {L : List (List Nat)} {A : Nat → Option Addr} {C : Nat → Nat} (h : OwnR B w v L A C) : ∃ a cap, v = .slice a L.length cap ∧ L.length ≤ cap ∧ cap ≤ maxLen ∧ RowsAt w.heap.size w a L := by
  rcases h.own.shape with ⟨e1, e⟩ | ⟨g, cap, e, hg, hlt, hc, hm, hf, hcell⟩
  · have := congrArg List.length e
    simp at this
    subst this
    exact ⟨none, 0, e1, Nat.le_refl _, by simp [maxLen], .inl rfl⟩
  · have hl : ((List.range L.length).map fun i => Value.slice (A i) (L[i]?.getD []).length (C i)).length = L.length := by simp
    rw [hl] at e hc hcell
    refine ⟨_, cap, e, hc, hm, .inr ⟨g, 0, A, C, rfl, hlt, fun i hi => ⟨?_, h.row i hi⟩⟩⟩
    rw [Nat.zero_add, hcell i hi]; simp [hi]
theorem OwnB.row2 {B : Nat} {w : World} {v : Value} {l : List Nat} (h : OwnB B w v l) : ∃ a cap, v = .slice a l.length cap ∧ l.length ≤ cap ∧ cap ≤ maxLen ∧ RowAt w.heap.size w a l ∧ (a = none → cap = 0) ∧ ∀ p, a = some p → v.ownBlock = some p.block ∧ p.block < w.heap.size := by
  rcases Own1.shape h with ⟨e1, hl⟩ | ⟨g, cap, e1, _, hg, hc, hm, _, hcell⟩
  · have : l = [] := by simpa using hl
    subst this
    exact ⟨none, 0, e1, by simp, by simp [maxLen], .inl rfl, fun _ => rfl, fun p hp => by cases hp⟩
  · have hl2 : (l.map fun n : Nat => Value.int .u8 (n : Int)).length = l.length := by simp
    rw [hl2] at e1 hc hcell
    refine ⟨some ⟨g, 0, none⟩, cap, e1, hc, hm, .inr ⟨g, 0, rfl, hg, fun j hj => ?_⟩, fun h => by (cases h), fun p hp => ?_⟩
    · rw [Nat.zero_add, hcell j hj]
      simp [hj]
    · obtain rfl := Option.some.inj hp
      rw [e1]
      exact ⟨rfl, hg⟩
end Go.Proofs.YtolbdcmoblcakaaGreatDoor
/- Walks: the document's IsMatrix; the law's wideMatrix and ownMatrix. -/
namespace Go.Proofs.YtolbdcmoblcakaaGreatDoor
open Go.RowKit

/-- too wide for a statement. -/
def WideM (L : List (List Nat)) : Prop := 40 < L.length ∨ ∃ i, i < L.length ∧ 40 < (L[i]?.getD []).length
end Go.Proofs.YtolbdcmoblcakaaGreatDoor
