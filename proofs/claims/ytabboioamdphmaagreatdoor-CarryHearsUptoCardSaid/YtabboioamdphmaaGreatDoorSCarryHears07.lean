/- Matrices of the call's own, row by row: what an append leaves of them, and how they read. -/
import Derived.Test.YtabboioamdphmaaGreatDoorSCarryHears06
import Derived.Test.YtabboioamdphmaaGreatDoorSCarryHears01
import Derived.Lib.AppendZeros
import Derived.Laws.AppendOwnNone
namespace Go.Proofs.YtabboioamdphmaaGreatDoor
open Go.RowKit

structure OwnM (B : Nat) (w : World) (v : Value) (n C : Nat) (bs caps : Nat → Nat) (M : Nat → Nat → Nat) : Prop where
  own : Own1 112 B w v ((List.range n).map fun i => Value.slice (some ⟨bs i, 0, none⟩) C (caps i))
  row : ∀ i, i < n → RowV w (bs i) C (M i)
  inj : ∀ i j, i < n → j < n → bs i = bs j → i = j
  low : ∀ i, i < n → B ≤ bs i
  lt : ∀ i, i < n → bs i < w.heap.size
  off : ∀ i, i < n → v.ownBlock ≠ some (bs i)
  cap : ∀ i, i < n → C ≤ caps i ∧ caps i ≤ maxLen
theorem OwnM.nil (B : Nat) (w : World) (C : Nat) (bs caps : Nat → Nat) (M : Nat → Nat → Nat) : OwnM B w (.slice none 0 0) 0 C bs caps M :=
  ⟨Own1.nil _ _ _, fun _ h => by omega, fun _ _ h => by omega, fun _ h => by omega, fun _ h => by omega, fun _ h => by omega, fun _ h => by omega⟩
theorem RowV.heap {w w' : World} {b C : Nat} {f : Nat → Nat} (h : RowV w b C f) (e : w'.heap[b]? = w.heap[b]?) : RowV w' b C f :=
  ⟨fun j hj => by have := h.cell j hj; unfold World.cell? at this ⊢; rw [e]; exact this, fun j hj => by have := h.free j hj; unfold World.frozen? at this ⊢; rw [e]; exact this⟩
theorem OwnM.kept {B : Nat} {w w' : World} {v : Value} {n C : Nat} {bs caps : Nat → Nat} {M : Nat → Nat → Nat} (h : OwnM B w v n C bs caps M) {r : Option Nat} (hg : w.grownBy w' r) (h1 : ∀ i, i < n → r ≠ some (bs i)) (h2 : ∀ k, v.ownBlock = some k → r ≠ some k) : OwnM B w' v n C bs caps M :=
  ⟨h.own.kept hg (by
      cases e : v.ownBlock with
      | none => exact .inl rfl
      | some k => exact .inr (fun e2 => h2 k e e2.symm)),
    fun i hi => (h.row i hi).heap (hg.block _ (h.lt i hi) (fun e => h1 i hi e.symm)), h.inj, h.low, fun i hi => Nat.lt_of_lt_of_le (h.lt i hi) hg.size, h.off, h.cap⟩
theorem OwnM.below {B n₀ : Nat} {w w' : World} {v : Value} {n C : Nat} {bs caps : Nat → Nat} {M : Nat → Nat → Nat} (h : OwnM B w v n C bs caps M) (hb : Below n₀ w w') (hn : w.heap.size ≤ n₀) : OwnM B w' v n C bs caps M :=
  h.kept (r := none) ⟨hb.os, hb.tape, hb.output, hb.size, fun k hk _ => hb.block k (by omega)⟩ (fun _ _ e => by cases e) (fun _ _ e => by cases e)
theorem OwnM.congr {B : Nat} {w : World} {v : Value} {n C : Nat} {bs caps : Nat → Nat} {M M' : Nat → Nat → Nat} (h : OwnM B w v n C bs caps M) (e : ∀ i, i < n → ∀ j, j < C → M i j = M' i j) : OwnM B w v n C bs caps M' :=
  { h with row := fun i hi => (h.row i hi).congr (e i hi) }
theorem OwnM.snoc {B : Nat} {w0 w' : World} {v v' : Value} {n C : Nat} {bs caps : Nat → Nat} {M : Nat → Nat → Nat} (h : OwnM B w0 v n C bs caps M) {nb nc : Nat} {f : Nat → Nat} {o : Obj}
    (hr : RowV w0 nb C f) (hB : B ≤ nb) (hlt : nb < w0.heap.size) (hne : ∀ i, i < n → bs i ≠ nb) (hoff : v.ownBlock ≠ some nb) (hcap : C ≤ nc ∧ nc ≤ maxLen)
    (hown : Own1 112 B w' v' ((List.range n).map (fun i => Value.slice (some ⟨bs i, 0, none⟩) C (caps i)) ++ [Value.slice (some ⟨nb, 0, none⟩) C nc])) (hg : (w0.alloc o).grownBy w' v.ownBlock)
    (hat : v'.ownBlock = v.ownBlock ∨ v'.ownBlock = some (w0.heap.size + 1)) : OwnM B w' v' (n + 1) C (Mx.upd bs n nb) (Mx.upd caps n nc) (Mx.putR M n f) := by
  have hgb : ∀ b, b < w0.heap.size → v.ownBlock ≠ some b → w'.heap[b]? = w0.heap[b]? := fun b hb hne => (hg.block b (by simp; omega) (fun e => hne e.symm)).trans (heap_alloc_lt _ hb)
  have hsz : w0.heap.size + 1 ≤ w'.heap.size := by have := hg.size; simpa using this
  refine ⟨?_, fun i hi => ?_, fun i j hi hj e => ?_, fun i hi => ?_, fun i hi => ?_, fun i hi => ?_, fun i hi => ?_⟩
  · rw [List.range_succ, List.map_append]
    have e1 : (List.range n).map (fun i => Value.slice (some ⟨Mx.upd bs n nb i, 0, none⟩) C (Mx.upd caps n nc i)) = (List.range n).map (fun i => Value.slice (some ⟨bs i, 0, none⟩) C (caps i)) := by
      refine List.map_congr_left fun i hi => ?_
      have := List.mem_range.1 hi
      unfold Mx.upd; rw [if_neg (by omega), if_neg (by omega)]
    rw [e1]
    have e2 : [n].map (fun i => Value.slice (some ⟨Mx.upd bs n nb i, 0, none⟩) C (Mx.upd caps n nc i)) = [Value.slice (some ⟨nb, 0, none⟩) C nc] := by simp [Mx.upd]
    rw [e2]; exact hown
  · unfold Mx.upd Mx.putR
    by_cases e : i = n
    · rw [if_pos e, if_pos e]; exact hr.heap (hgb _ hlt hoff)
    · rw [if_neg e, if_neg e]; exact (h.row i (by omega)).heap (hgb _ (h.lt i (by omega)) (h.off i (by omega)))
  · unfold Mx.upd at e
    by_cases e1 : i = n <;> by_cases e2 : j = n
    · omega
    · rw [if_pos e1, if_neg e2] at e; exact absurd e.symm (hne j (by omega))
    · rw [if_neg e1, if_pos e2] at e; exact absurd e (hne i (by omega))
    · rw [if_neg e1, if_neg e2] at e; exact h.inj i j (by omega) (by omega) e
  · unfold Mx.upd
    by_cases e : i = n
    · rw [if_pos e]; exact hB
    · rw [if_neg e]; exact h.low i (by omega)
  · unfold Mx.upd
    by_cases e : i = n
    · rw [if_pos e]; omega
    · rw [if_neg e]; have := h.lt i (by omega); omega
  · have hx : Mx.upd bs n nb i < w0.heap.size ∧ v.ownBlock ≠ some (Mx.upd bs n nb i) := by
      unfold Mx.upd
      by_cases e : i = n
      · rw [if_pos e]; exact ⟨hlt, hoff⟩
      · rw [if_neg e]; exact ⟨h.lt i (by omega), h.off i (by omega)⟩
    rcases hat with e | e
    · rw [e]; exact hx.2
    · rw [e]; intro e2
      have := Option.some.inj e2
      omega
  · unfold Mx.upd
    by_cases e : i = n
    · rw [if_pos e]; exact hcap
    · rw [if_neg e]; exact h.cap i (by omega)
theorem OwnM.mat {B : Nat} {w : World} {v : Value} {n C : Nat} {bs caps : Nat → Nat} {M : Nat → Nat → Nat} (h : OwnM B w v n C bs caps M) (hn : 0 < n) : ∃ g cap, v = .slice (some ⟨g, 0, none⟩) n cap ∧ n ≤ cap ∧ cap ≤ maxLen ∧ MatV B w g n C bs caps M := by
  rcases h.own.shape with ⟨_, e⟩ | ⟨g, cap, e, hg, hlt, hc, hm, hf, hcell⟩
  · have := congrArg List.length e
    simp at this; omega
  · have hl : ((List.range n).map fun i => Value.slice (some ⟨bs i, 0, none⟩) C (caps i)).length = n := by simp
    rw [hl] at e hc hcell
    refine ⟨g, cap, e, hc, hm, ⟨fun i hi => ?_, fun i _ => hf i, h.row, h.inj, fun i hi e2 => ?_, h.low, hg, h.cap⟩⟩
    · rw [hcell i hi]; simp [hi]
    · have := h.off i hi
      rw [e, e2] at this
      exact this rfl
theorem MatV.rows {B : Nat} {w : World} {g n C : Nat} {bs caps : Nat → Nat} {M : Nat → Nat → Nat} (h : MatV B w g n C bs caps M) (hn : 0 < n) (hC : 0 < C) : RowsAt w.heap.size w (some ⟨g, 0, none⟩) (rowsOf M n C) := by
  have hl := h.lt hn hC
  refine .inr ⟨g, 0, fun i => some ⟨bs i, 0, none⟩, caps, rfl, hl g (.inl rfl), fun i hi => ?_⟩
  rw [rowsOf_length] at hi
  rw [rowsOf_at M hi, Nat.zero_add]
  refine ⟨by simpa using h.head i hi, by simpa using (h.cap i hi).1, (h.cap i hi).2, .inr ⟨bs i, 0, rfl, hl _ (.inr ⟨i, hi, rfl⟩), fun j hj => ?_⟩, fun e => by cases e⟩
  simp at hj
  rw [Nat.zero_add, (h.row i hi).cell j hj]
  simp [hj]
theorem OwnB.rowV {B : Nat} {w : World} {v : Value} {l : List Nat} (h : OwnB B w v l) (hl : 0 < l.length) : ∃ g cap, v = .slice (some ⟨g, 0, none⟩) l.length cap ∧ B ≤ g ∧ g < w.heap.size ∧ l.length ≤ cap ∧ cap ≤ maxLen ∧ RowV w g l.length (fun j => l[j]?.getD 0) := by
  rcases Own1.shape h with ⟨_, e⟩ | ⟨g, cap, e, hg, hlt, hc, hm, hf, hcell⟩
  · have : l = [] := by simpa using e
    subst this; simp at hl
  · have hl2 : (l.map fun n : Nat => Value.int .u8 (n : Int)).length = l.length := by simp
    rw [hl2] at e hc hcell
    refine ⟨g, cap, e, hg, hlt, hc, hm, ⟨fun j hj => ?_, fun j _ => hf j⟩⟩
    rw [hcell j hj]; simp [hj]
end Go.Proofs.YtabboioamdphmaaGreatDoor
/- Laws on append over any program: append(s, make([]T, n)...) on a slice of the call's own of cells of one value; append of a read row of bytes. -/
namespace Go.Proofs.YtabboioamdphmaaGreatDoor
open Go.RowKit

theorem run_append_own_zeros {P : Program} (w : World) (base : Nat) (t tn ty e : TypeId) (k kn : IntKind) (i : TypeInfo) (z : Value) (bytes : Nat) (ht : P.underlying t = some (.slice e)) (htn : P.underlying tn = some (.int kn)) (hi : P.info? e = some i) (hz : i.zero = some z)
    (hsize : i.size = 1) (hby : i.bytes = bytes) (hzs : ∀ m, Builtin.zeroCells z.cells m = (List.replicate m z).toArray) (hz1 : z.oneCell' = true) (v : Value) (xs : List Value) (hown : w.ownsRow base e 1 v xs.length xs) (h0 : 0 < xs.length) (m : Nat) (hm : 0 < m)
    (hbytes : (xs.length + m) * bytes ≤ 140737488355328) (h63 : xs.length + m ≤ maxLen) (hbase : base ≤ w.heap.size) (hb1 : m * bytes ≤ 140737488355328) :
    ∃ v' w', (Builtin.append_ #[t, tn] ty #[v, .int k m]).run P w = .ok v' w' ∧ w'.ownsRow base e 1 v' (xs.length + m) (xs ++ List.replicate m z) ∧ w.grownBy w' v.ownBlock ∧ (v'.ownBlock = v.ownBlock ∨ v'.ownBlock = some w.heap.size) := by
  subst hby
  have hsmall : xs.length + m ≤ 9223372036854775807 := by simp only [maxLen] at h63; omega
  have hw : IntKind.i64.wrap (m : Int) = m := by rw [IntKind.wrap_i64]; omega
  have hneg : ¬ ((m : Int) < 0) := by omega
  have hm0 : m ≠ 0 := by omega
  have h48i : ¬ (281474976710656 < (m : Int) * (i.bytes : Int)) := by rw [← Int.natCast_mul]; omega
  have hns : ¬ (m = 0 ∨ i.size = 0) := by omega
  rcases hown.2 with ⟨rfl, hx⟩ | ⟨g, cap, cur, rfl, hbg, hg, hnc, hcm, hcs, htake⟩
  · omega
  · by_cases hroom : xs.length + m ≤ cap
    · have hst := run_storeCells_at P g (xs.length * 1) e (List.replicate m z) 0 cur w hg (by simp; omega) (fun u hu => by rw [(List.mem_replicate.1 hu).2]; exact hz1)
      simp only [Nat.add_zero, Nat.mul_one] at hst
      have hr : (Builtin.append_ #[t, tn] ty #[.slice (some ⟨g, 0, none⟩) xs.length cap, .int k m]).run P w = .ok (.slice (some ⟨g, 0, none⟩) (xs.length + m) cap) (w.setRow g (cur.toList.take xs.length ++ List.replicate m z ++ cur.toList.drop (xs.length + (List.replicate m z).length)).toArray) := by
        simp [Builtin.append_, run_underlying ht, run_underlying htn, sizeOf, typeInfo, zeroValue, hi, hz, asInt, asIntOf, hw, hneg, h48i, hm0, hsize, hroom, hzs, Addr.add_lit, hst]
      refine ⟨_, _, hr, ⟨by simp, .inr ⟨g, cap, _, rfl, hbg, setRow_heap w g cur _ e _ hg, hroom, hcm, ?_, ?_⟩⟩, ⟨rfl, rfl, rfl, by simp, fun k' _ hk => setRow_other w g k' _ (fun e => hk (by simp [Value.ownBlock, e]))⟩, by simp [Value.ownBlock]⟩
      · simp only [List.size_toArray, List.length_append, List.length_take, List.length_drop, Array.length_toList, List.length_replicate]
        omega
      · rw [show xs.length * 1 = xs.length by omega] at htake
        rw [htake, show (xs.length + m) * 1 = (xs ++ List.replicate m z).length by simp]
        exact List.take_left
    · have holds : ∀ j u, xs[j]? = some u → w.cell? ((⟨g, 0, none⟩ : Addr).add j) = some u := hown.cells (g := g) rfl
      have hfo := run_firstCells_some (P := P) w.drew i.size xs.length ⟨g, 0, none⟩ xs.length cap xs (by rw [hsize]; omega) (by simpa using holds)
      have hfit := growslice_fits (show cap < xs.length + m by omega) hbytes
      have h63' : ¬ (9223372036854775807 < ((xs.length : Int) + (m : Int))) := by omega
      have h48' : ¬ (281474976710656 < Builtin.nextslicecap (xs.length + m) cap * i.bytes) := by omega
      have hr : (Builtin.append_ #[t, tn] ty #[.slice (some ⟨g, 0, none⟩) xs.length cap, .int k m]).run P w = .ok (.slice (some ⟨w.heap.size, 0, none⟩) (xs.length + m) (grownCap w (xs.length + m) cap e))
          (w.drew.alloc (.cells (xs.toArray ++ (List.replicate m z).toArray ++ Builtin.zeroCells z.cells (grownCap w (xs.length + m) cap e - (xs.length + m))) e)) := by
        rw [hsize] at hfo
        simp [Builtin.append_, run_underlying ht, run_underlying htn, sizeOf, typeInfo, zeroValue, hi, hz, asInt, asIntOf, hw, hneg, h48i, hm0, hsize, hroom, h63', h48', Question.forced, hfo, newRow, grownCap, hzs]
      have hge := grownCap_ge w (xs.length + m) cap e
      have hcm2 : grownCap w (xs.length + m) cap e ≤ maxLen := grownCap_le_maxLen w (xs.length + m) cap e h63
      refine ⟨_, _, hr, ⟨by simp, .inr ⟨w.heap.size, _, _, rfl, hbase, heap_alloc_new w.drew _, hge, hcm2, ?_, ?_⟩⟩, ⟨rfl, rfl, rfl, by simp, fun k' hk _ => heap_alloc_old w.drew _ hk⟩, .inr rfl⟩
      · rw [hzs]; simp; omega
      · rw [hzs]
        simp only [Array.toList_append, Nat.mul_one]
        exact List.take_left' (by simp)
theorem zeros_u8 (m : Nat) : Builtin.zeroCells (Value.int .u8 0).cells m = (List.replicate m (Value.int .u8 0)).toArray := by
  apply Array.ext
  · simp [Builtin.zeroCells, Value.cells]
  · intro i h1 h2
    simp [Builtin.zeroCells, Value.cells, Nat.mod_one]
theorem append_zeros {ops : Array Oper} {rest : List Oper} {o : Oper} {a : Act} {Q : Exit → Act → World → Prop} {w : World} (s x : Nat) (hgd : o.guard = none)
    (ho : o.op = .call { callee := .builtin .append, args := #[.tmp s, .tmp x], argTypes := #[112, 3] }) (B : Nat) (v : Value) (l : List Nat) (m : Nat) (hm : 0 < m) (h0 : 0 < l.length)
    (hs : a.eval (.tmp s) = v) (hx : a.eval (.tmp x) = .int .i64 m) (hown : OwnB B w v l) (hl : l.length + m ≤ 140737488355328) (hB : B ≤ w.heap.size)
    (h : ∀ v' w', OwnB B w' v' (l ++ List.replicate m 0) → w.grownBy w' v.ownBlock → (v'.ownBlock = v.ownBlock ∨ v'.ownBlock = some w.heap.size) → wpList Tryz.prog ops Q rest (a.put o.dst v') w') :
    wpList Tryz.prog ops Q (o :: rest) a w := by
  obtain ⟨i, hi, hz0, hz1, hz2⟩ := info_parts info_uint8
  have hown' : w.ownsRow B 5 1 v (l.map fun n : Nat => Value.int .u8 (n : Int)).length (l.map fun n : Nat => Value.int .u8 (n : Int)) := hown
  obtain ⟨v', w', hr, h1, h2, h3⟩ := run_append_own_zeros (P := Tryz.prog) w B 112 3 o.type 5 .i64 .i64 i (.int .u8 0) 1 Tryz.underlying112 Tryz.underlying3 hi hz0 hz1 hz2 zeros_u8 rfl v _ hown' (by simpa using h0) m hm (by simpa using hl) (by simp [maxLen]; omega) hB (by omega)
  refine Lib.wpList_append_run _ hgd _ _ _ _ ho _ _ hs hx v' w' hr (h v' w' ?_ h2 h3)
  unfold OwnB Own1
  rw [List.map_append, List.map_replicate, List.length_append, List.length_replicate]
  exact h1
theorem append_row {ops : Array Oper} {rest : List Oper} {o : Oper} {a : Act} {Q : Exit → Act → World → Prop} {w : World} (s x : Nat) (hgd : o.guard = none)
    (ho : o.op = .call { callee := .builtin .append, args := #[.tmp s, .tmp x], argTypes := #[112, 112] }) (B n₀ : Nat) (v : Value) (l0 l : List Nat) (ad : Option Addr) (c : Nat)
    (hs : a.eval (.tmp s) = v) (hx : a.eval (.tmp x) = .slice ad l.length c) (hown : OwnB B w v l0) (hr : RowAt n₀ w ad l) (hc : ad = none → c = 0) (hl : l0.length + l.length ≤ 140737488355328) (hB : B ≤ w.heap.size)
    (h : ∀ v' w', OwnB B w' v' (l0 ++ l) → w.grownBy w' v.ownBlock → (v'.ownBlock = v.ownBlock ∨ v'.ownBlock = some w.heap.size) → wpList Tryz.prog ops Q rest (a.put o.dst v') w') :
    wpList Tryz.prog ops Q (o :: rest) a w := by
  obtain ⟨i, hi, hz0, hz1, hz2⟩ := info_parts info_uint8
  have fin : ∀ (ad : Addr), ad = ad → (∀ j u, (l.map fun n : Nat => Value.int .u8 (n : Int))[j]? = some u → w.cell? (ad.add j) = some u) → a.eval (.tmp x) = .slice (some ad) l.length c → wpList Tryz.prog ops Q (o :: rest) a w := fun ad _ hn hx => by
    refine wpList_append_own_at _ hgd (.tmp s) (.tmp x) 112 ho B 5 i (.int .u8 0) 1 1 Tryz.underlying112 hi hz0 hz1 hz2 rfl (by decide) v _ _ hs hown ad l.length c (l.map fun n : Nat => Value.int .u8 (n : Int)) hx (by simp) hn
      (fun u hu => by obtain ⟨y, _, rfl⟩ := List.mem_map.1 hu; rfl) (by simp [maxLen]; omega) (by simpa using hl) hB ?_
    intro v' w' h1 h2 _ h4
    refine h v' w' ?_ h2 h4
    unfold OwnB Own1
    rw [List.map_append, List.length_append, List.length_map, List.length_map]
    simpa using h1
  rcases hr with rfl | ⟨b, off, rfl, _, hcell⟩
  · cases ad with
    | none =>
      obtain rfl := hc rfl
      refine wpList_append_own_none hgd (.tmp s) (.tmp x) 112 ho B 5 i 1 Tryz.underlying112 hi v _ _ hs hown hx ?_
      exact h v w (by rw [List.append_nil]; exact hown) ⟨rfl, rfl, rfl, Nat.le_refl _, fun _ _ _ => rfl⟩ (.inl rfl)
    | some ad => exact fin ad rfl (fun j u hj => by simp at hj) hx
  · refine fin _ rfl (fun j u hj => ?_) hx
    have hjl : j < l.length := by have := (List.getElem?_eq_some_iff.1 hj).1; simpa using this
    rw [Addr.add_lit, hcell j hjl, ← hj]
    simp [hjl]
end Go.Proofs.YtabboioamdphmaaGreatDoor
