/- Laws on append over any program: append(s, make([]T, n)...) on a slice of the call's own of cells of one value; append of a read row of bytes. -/
import Derived.Test.YtmaalkjimppnkaaDoorBytes
import Derived.Lib.AppendZeros
import Derived.Laws.AppendOwnNone
namespace Go.Proofs.YtmaalkjimppnkaaDoor
open Go.RowKit

/-- append(s, make([]T, m)...), s a slice of the call's own that holds something, T of one cell. -/
theorem run_append_own_zeros {P : Program} (w : World) (base : Nat) (t tn ty e : TypeId) (k kn : IntKind) (i : TypeInfo) (z : Value) (bytes : Nat) (ht : P.underlying t = some (.slice e)) (htn : P.underlying tn = some (.int kn)) (hi : P.info? e = some i) (hz : i.zero = some z)
    (hsize : i.size = 1) (hby : i.bytes = bytes) (hzs : ∀ m, Builtin.zeroCells z.cells m = (List.replicate m z).toArray) (hz1 : z.oneCell' = true) (v : Value) (xs : List Value) (hown : w.ownsRow base e 1 v xs.length xs) (h0 : 0 < xs.length) (m : Nat) (hm : 0 < m)
    (hbytes : (xs.length + m) * bytes ≤ 140737488355328) (h63 : xs.length + m ≤ maxLen) (hbase : base ≤ w.heap.size) (hb1 : m * bytes ≤ 140737488355328) :
    ∃ v' w', (Builtin.append_ #[t, tn] ty #[v, .int k m]).run P w = .ok v' w' ∧ w'.ownsRow base e 1 v' (xs.length + m) (xs ++ List.replicate m z) ∧ w.grownBy w' v.ownBlock ∧ (v'.ownBlock = v.ownBlock ∨ v'.ownBlock = some w.heap.size) := by
  subst hby
  have hsmall : xs.length + m ≤ 9223372036854775807 := by simp only [maxLen] at h63; omega
  have hw : IntKind.i64.wrap (m : Int) = m := by rw [IntKind.wrap_i64]; omega
  have hneg : ¬ ((m : Int) < 0) := by omega
  have hm0 : m ≠ 0 := by omega
  have h48i : ¬ (281474976710656 < (m : Int) * (i.bytes : Int)) := by rw [← Int.natCast_mul]; omega
  have hns : ¬ (m = 0 ∨ i.size = 0) := by omega
  rcases hown.2 with ⟨rfl, hx⟩ | ⟨g, cap, cur, rfl, hbg, hg, hnc, hcm, hcs, htake⟩
  · omega
  · by_cases hroom : xs.length + m ≤ cap
    · have hst := run_storeCells_at P g (xs.length * 1) e (List.replicate m z) 0 cur w hg (by simp; omega) (fun u hu => by rw [(List.mem_replicate.1 hu).2]; exact hz1)
      simp only [Nat.add_zero, Nat.mul_one] at hst
      have hr : (Builtin.append_ #[t, tn] ty #[.slice (some ⟨g, 0, none⟩) xs.length cap, .int k m]).run P w = .ok (.slice (some ⟨g, 0, none⟩) (xs.length + m) cap) (w.setRow g (cur.toList.take xs.length ++ List.replicate m z ++ cur.toList.drop (xs.length + (List.replicate m z).length)).toArray) := by
        simp [Builtin.append_, run_underlying ht, run_underlying htn, sizeOf, typeInfo, zeroValue, hi, hz, asInt, asIntOf, hw, hneg, h48i, hm0, hsize, hroom, hzs, Addr.add_lit, hst]
      refine ⟨_, _, hr, ⟨by simp, .inr ⟨g, cap, _, rfl, hbg, setRow_heap w g cur _ e _ hg, hroom, hcm, ?_, ?_⟩⟩, ⟨rfl, rfl, rfl, by simp, fun k' _ hk => setRow_other w g k' _ (fun e => hk (by simp [Value.ownBlock, e]))⟩, by simp [Value.ownBlock]⟩
      · simp only [List.size_toArray, List.length_append, List.length_take, List.length_drop, Array.length_toList, List.length_replicate]
        omega
      · rw [show xs.length * 1 = xs.length by omega] at htake
        rw [htake, show (xs.length + m) * 1 = (xs ++ List.replicate m z).length by simp]
        exact List.take_left
    · have holds : ∀ j u, xs[j]? = some u → w.cell? ((⟨g, 0, none⟩ : Addr).add j) = some u := hown.cells (g := g) rfl
      have hfo := run_firstCells_some (P := P) w.drew i.size xs.length ⟨g, 0, none⟩ xs.length cap xs (by rw [hsize]; omega) (by simpa using holds)
      have hfit := growslice_fits (show cap < xs.length + m by omega) hbytes
      have h63' : ¬ (9223372036854775807 < ((xs.length : Int) + (m : Int))) := by omega
      have h48' : ¬ (281474976710656 < Builtin.nextslicecap (xs.length + m) cap * i.bytes) := by omega
      have hr : (Builtin.append_ #[t, tn] ty #[.slice (some ⟨g, 0, none⟩) xs.length cap, .int k m]).run P w = .ok (.slice (some ⟨w.heap.size, 0, none⟩) (xs.length + m) (grownCap w (xs.length + m) cap e))
          (w.drew.alloc (.cells (xs.toArray ++ (List.replicate m z).toArray ++ Builtin.zeroCells z.cells (grownCap w (xs.length + m) cap e - (xs.length + m))) e)) := by
        rw [hsize] at hfo
        simp [Builtin.append_, run_underlying ht, run_underlying htn, sizeOf, typeInfo, zeroValue, hi, hz, asInt, asIntOf, hw, hneg, h48i, hm0, hsize, hroom, h63', h48', Question.forced, hfo, newRow, grownCap, hzs]
      have hge := grownCap_ge w (xs.length + m) cap e
      have hcm2 : grownCap w (xs.length + m) cap e ≤ maxLen := grownCap_le_maxLen w (xs.length + m) cap e h63
      refine ⟨_, _, hr, ⟨by simp, .inr ⟨w.heap.size, _, _, rfl, hbase, heap_alloc_new w.drew _, hge, hcm2, ?_, ?_⟩⟩, ⟨rfl, rfl, rfl, by simp, fun k' hk _ => heap_alloc_old w.drew _ hk⟩, .inr rfl⟩
      · rw [hzs]; simp; omega
      · rw [hzs]
        simp only [Array.toList_append, Nat.mul_one]
        exact List.take_left' (by simp)
theorem zeros_u8 (m : Nat) : Builtin.zeroCells (Value.int .u8 0).cells m = (List.replicate m (Value.int .u8 0)).toArray := by
  apply Array.ext
  · simp [Builtin.zeroCells, Value.cells]
  · intro i h1 h2
    simp [Builtin.zeroCells, Value.cells, Nat.mod_one]
/-- append(v, make([]byte, m)...). -/
theorem append_zeros {ops : Array Oper} {rest : List Oper} {o : Oper} {a : Act} {Q : Exit → Act → World → Prop} {w : World} (s x : Nat) (hgd : o.guard = none)
    (ho : o.op = .call { callee := .builtin .append, args := #[.tmp s, .tmp x], argTypes := #[122, 3] }) (B : Nat) (v : Value) (l : List Nat) (m : Nat) (hm : 0 < m) (h0 : 0 < l.length)
    (hs : a.eval (.tmp s) = v) (hx : a.eval (.tmp x) = .int .i64 m) (hown : OwnB B w v l) (hl : l.length + m ≤ 140737488355328) (hB : B ≤ w.heap.size)
    (h : ∀ v' w', OwnB B w' v' (l ++ List.replicate m 0) → w.grownBy w' v.ownBlock → (v'.ownBlock = v.ownBlock ∨ v'.ownBlock = some w.heap.size) → wpList Tryd.prog ops Q rest (a.put o.dst v') w') :
    wpList Tryd.prog ops Q (o :: rest) a w := by
  obtain ⟨i, hi, hz0, hz1, hz2⟩ := info_parts info_uint8
  have hown' : w.ownsRow B 5 1 v (l.map fun n : Nat => Value.int .u8 (n : Int)).length (l.map fun n : Nat => Value.int .u8 (n : Int)) := hown
  obtain ⟨v', w', hr, h1, h2, h3⟩ := run_append_own_zeros (P := Tryd.prog) w B 122 3 o.type 5 .i64 .i64 i (.int .u8 0) 1 Tryd.underlying122 Tryd.underlying3 hi hz0 hz1 hz2 zeros_u8 rfl v _ hown' (by simpa using h0) m hm (by simpa using hl) (by simp [maxLen]; omega) hB (by omega)
  refine Lib.wpList_append_run _ hgd _ _ _ _ ho _ _ hs hx v' w' hr (h v' w' ?_ h2 h3)
  unfold OwnB Own1
  rw [List.map_append, List.map_replicate, List.length_append, List.length_replicate]
  exact h1
/-- append(v, r...), r a row that is read. -/
theorem append_row {ops : Array Oper} {rest : List Oper} {o : Oper} {a : Act} {Q : Exit → Act → World → Prop} {w : World} (s x : Nat) (hgd : o.guard = none)
    (ho : o.op = .call { callee := .builtin .append, args := #[.tmp s, .tmp x], argTypes := #[122, 122] }) (B n₀ : Nat) (v : Value) (l0 l : List Nat) (ad : Option Addr) (c : Nat)
    (hs : a.eval (.tmp s) = v) (hx : a.eval (.tmp x) = .slice ad l.length c) (hown : OwnB B w v l0) (hr : RowAt n₀ w ad l) (hc : ad = none → c = 0) (hl : l0.length + l.length ≤ 140737488355328) (hB : B ≤ w.heap.size)
    (h : ∀ v' w', OwnB B w' v' (l0 ++ l) → w.grownBy w' v.ownBlock → (v'.ownBlock = v.ownBlock ∨ v'.ownBlock = some w.heap.size) → wpList Tryd.prog ops Q rest (a.put o.dst v') w') :
    wpList Tryd.prog ops Q (o :: rest) a w := by
  obtain ⟨i, hi, hz0, hz1, hz2⟩ := info_parts info_uint8
  have fin : ∀ (ad : Addr), ad = ad → (∀ j u, (l.map fun n : Nat => Value.int .u8 (n : Int))[j]? = some u → w.cell? (ad.add j) = some u) → a.eval (.tmp x) = .slice (some ad) l.length c → wpList Tryd.prog ops Q (o :: rest) a w := fun ad _ hn hx => by
    refine wpList_append_own_at _ hgd (.tmp s) (.tmp x) 122 ho B 5 i (.int .u8 0) 1 1 Tryd.underlying122 hi hz0 hz1 hz2 rfl (by decide) v _ _ hs hown ad l.length c (l.map fun n : Nat => Value.int .u8 (n : Int)) hx (by simp) hn
      (fun u hu => by obtain ⟨y, _, rfl⟩ := List.mem_map.1 hu; rfl) (by simp [maxLen]; omega) (by simpa using hl) hB ?_
    intro v' w' h1 h2 _ h4
    refine h v' w' ?_ h2 h4
    unfold OwnB Own1
    rw [List.map_append, List.length_append, List.length_map, List.length_map]
    simpa using h1
  rcases hr with rfl | ⟨b, off, rfl, _, hcell⟩
  · cases ad with
    | none =>
      obtain rfl := hc rfl
      refine wpList_append_own_none hgd (.tmp s) (.tmp x) 122 ho B 5 i 1 Tryd.underlying122 hi v _ _ hs hown hx ?_
      exact h v w (by rw [List.append_nil]; exact hown) ⟨rfl, rfl, rfl, Nat.le_refl _, fun _ _ _ => rfl⟩ (.inl rfl)
    | some ad => exact fin ad rfl (fun j u hj => by simp at hj) hx
  · refine fin _ rfl (fun j u hj => ?_) hx
    have hjl : j < l.length := by have := (List.getElem?_eq_some_iff.1 hj).1; simpa using this
    rw [Addr.add_lit, hcell j hjl, ← hj]
    simp [hjl]
end Go.Proofs.YtmaalkjimppnkaaDoor
