/- The pen's texts. -/
import Derived.Test.YtgcnohejmofhkaaDoorWrA
namespace Go.Proofs.YtgcnohejmofhkaaDoor
section
open Go.RowKit

theorem strCells_nats (s : ByteArray) : Go.Lib.strCells s = (Sm.nats s).map fun n : Nat => Value.int .u8 (n : Int) := by
  unfold Go.Lib.strCells Sm.nats
  simp [List.map_map, Function.comp_def]
theorem info_u8' : ∃ i, Tryd.prog.info? 5 = some i ∧ i.zero = some (.int .u8 0) ∧ i.size = 1 ∧ i.bytes = 1 := info_parts info_uint8
/-- append(s, t...) of a text's bytes. -/
theorem append_text {ops : Array Oper} {rest : List Oper} {o : Oper} {a : Act} {Q : Exit → Act → World → Prop} {w : World} (s x : Nat) (hgd : o.guard = none)
    (ho : o.op = .call { callee := .builtin .append, args := #[.tmp s, .tmp x], argTypes := #[52, 9] }) (B : Nat) (v : Value) (l : List Nat) (t : ByteArray)
    (hs : a.eval (.tmp s) = v) (hx : a.eval (.tmp x) = .string t) (hown : OwnB B w v l) (hl : l.length + t.size ≤ 140737488355328) (hB : B ≤ w.heap.size)
    (h : ∀ v' w', OwnB B w' v' (l ++ Sm.nats t) → w.grownBy w' v.ownBlock → wpList Tryd.prog ops Q rest (a.put o.dst v') w') : wpList Tryd.prog ops Q (o :: rest) a w := by
  obtain ⟨i, hi, hz0, hz1, hz2⟩ := info_parts info_uint8
  refine Go.Lib.wpList_append_own_string (P := Tryd.prog) w hgd (.tmp s) (.tmp x) 52 9 ho B 5 i Tryd.underlying52 Tryd.underlying9 hi hz0 hz1 hz2 v (l.map fun n : Nat => Value.int .u8 (n : Int)).length _ hs hown t hx (by simp [maxLen]; omega) (by simpa using hl) hB ?_
  intro v' w' h1 h2 _
  refine h v' w' ?_ h2
  unfold OwnB Own1
  rw [List.map_append, ← strCells_nats, List.length_append, Go.Lib.strCells_length]
  exact h1
def tbytes (t : ByteArray) : List Nat := nbytes (t.size : Int) ++ Sm.nats t
def strsV (ts : List ByteArray) : Array Value := (ts.map Value.string).toArray
theorem tbytes_length (t : ByteArray) : (tbytes t).length = 8 + t.size := by
  unfold tbytes
  rw [List.length_append, Sm.nats_length]
  rfl
def sizes (ts : List ByteArray) : Nat := (ts.map ByteArray.size).sum
theorem texts_length (ts : List ByteArray) : (ts.flatMap tbytes).length = ts.length * 8 + sizes ts := by
  induction ts with
  | nil => rfl
  | cons t r ih =>
    rw [List.flatMap_cons, List.length_append, ih, tbytes_length, List.length_cons]
    unfold sizes
    rw [List.map_cons, List.sum_cons]
    omega
theorem sizes_take (ts : List ByteArray) (i : Nat) : sizes (ts.take i) ≤ sizes ts := by
  induction ts generalizing i with
  | nil => simp
  | cons t r ih =>
    cases i with
    | zero => simp [sizes]
    | succ i =>
      have := ih i
      unfold sizes at *
      rw [List.take_succ_cons, List.map_cons, List.sum_cons, List.map_cons, List.sum_cons]
      omega
set_option maxRecDepth 100000 in
set_option maxHeartbeats 8000000 in
theorem texts_walk (B : Nat) (w : World) (pb : Nat) (l : List Nat) (bd : Bool) (eb : Addr) (sb len cap : Nat) (ts : List ByteArray) (h : PenAt B w pb l (badV (errV eb) bd)) (hB : B ≤ w.heap.size) (he : w.cell? ⟨2, 0, none⟩ = some (errV eb)) (hgb : 2 < B)
    (hz : ts.length = len) (hlen : len ≤ 1000000) (hll : l.length + len * 8 + sizes ts ≤ 10000000000) (hI : w.heap[sb]? = some (.cells (strsV ts) 9 (0, 0))) (hzp : sb ≠ pb) :
    Calls Tryd.prog 16 #[.pointer (some ⟨pb, 0, none⟩), .slice (some ⟨sb, 0, none⟩) len cap] w fun e w' => e = .returned (.tuple #[]) ∧ PenAt B w' pb (l ++ ts.flatMap tbytes) (badV (errV eb) bd) ∧ PenK B pb w w' := by
  have hlen9 : (len : Int) ≤ 9223372036854775807 := by omega
  have H := Lib.hid (And.intro h (And.intro hB (And.intro he (And.intro hgb (And.intro hz (And.intro hll (And.intro hI hzp)))))))
  clear h hB he hgb hz hll hI hzp
  go_enter Tryd.func16, Tryd.ntmps16
  go_wp2
  go_loopw [8] (fun vi wr => ∃ (i : Nat), i ≤ len ∧ vi = .int .i64 i ∧ Hid (PenAt B wr pb (l ++ (ts.take i).flatMap tbytes) (badV (errV eb) bd) ∧ PenK B pb w wr)) (fun vi _ => len - (intOf vi).toNat)
  case atStart => exact ⟨0, by omega, rfl, Lib.hid ⟨by simpa using H.out.1, PenK.refl _ _ _⟩⟩
  case round =>
    obtain ⟨i, hi, rfl, Hr⟩ := hrel
    have hi2 : i < len ∨ i = len := by omega
    rcases hi2 with hilt | rfl
    · have hilt2 : (i : Int) < len := by omega
      have hil : i < ts.length := by rw [H.out.2.2.2.2.1]; exact hilt
      have hc : wr.cell? ⟨sb, i, none⟩ = some (.string (ts[i]?.getD ⟨#[]⟩)) := by
        rw [cell_of_heap (Hr.out.2.heap H.out.2.2.2.2.2.2.1 H.out.2.2.2.2.2.2.2 (by decide)) i]
        simp [strsV, hil]
      obtain ⟨t, ht⟩ : ∃ t, ts[i]?.getD ⟨#[]⟩ = t := ⟨_, rfl⟩
      rw [ht] at hc
      have hBr : B ≤ wr.heap.size := Nat.le_trans H.out.2.1 Hr.out.2.below.size
      have hstep : (ts.take (i + 1)).flatMap tbytes = (ts.take i).flatMap tbytes ++ tbytes t := by
        have e : ts.take (i + 1) = ts.take i ++ [t] := by rw [List.take_succ_eq_append_getElem hil, ← ht, List.getElem?_eq_getElem hil]; rfl
        rw [e]
        simp
      obtain ⟨D, hD⟩ : ∃ D, l ++ (ts.take i).flatMap tbytes = D := ⟨_, rfl⟩
      have hDl : D.length + 8 + t.size ≤ 10000000000 := by
        have h1 := H.out.2.2.2.2.2.1
        have h2 : sizes (ts.take (i + 1)) ≤ sizes ts := sizes_take ts (i + 1)
        have h3 := texts_length (ts.take (i + 1))
        rw [hstep, List.length_append, tbytes_length] at h3
        have h4 : (ts.take (i + 1)).length = i + 1 := by simp; omega
        rw [h4] at h3
        rw [← hD, List.length_append]
        omega
      have hP := Hr.out.1
      rw [hD] at hP
      have hPn := hP.below (n := wr.heap.size) ((Below.refl _ _).alloc (Nat.le_refl _) (.cells #[.int .i64 (t.size : Nat)] 3)) (Nat.le_refl _)
      have hp9 := hP.lt
      have hB1 : B ≤ (wr.alloc (.cells #[.int .i64 (t.size : Nat)] 3)).heap.size := Nat.le_trans hBr (by simp)
      have Hnum := Lib.hid (numbers_walk B (wr.alloc (.cells #[.int .i64 (t.size : Nat)] 3)) pb D bd eb wr.heap.size 1 1 [(t.size : Int)] hPn hB1 (((Below.refl wr.heap.size wr).alloc (Nat.le_refl _) _ |>.cell (Nat.lt_of_lt_of_le H.out.2.2.2.1 hBr)).trans ((Hr.out.2.below.cell H.out.2.2.2.1).trans H.out.2.2.1)) H.out.2.2.2.1 rfl (by decide) (by omega) (Go.heap_alloc_new wr _) (by omega))
      have HD := Lib.hid (And.intro hD (And.intro hstep (And.intro hDl (And.intro hB1 (And.intro hBr Hr.out.2)))))
      clear hD hstep hDl hB1 hP hPn hp9 ht hBr hil Hr
      go_wp2_with fail
      refine Hnum.out.mono ?_
      rintro e w2 ⟨rfl, hP2, hk2⟩
      have hn0 : neg [(t.size : Int)] = false := by
        unfold neg
        simp
      rw [hn0, Bool.or_false] at hP2
      have hB2 : B ≤ w2.heap.size := Nat.le_trans HD.out.2.2.2.1 hk2.below.size
      obtain ⟨v, p0, p1, z0, z1, pg, po⟩ := hP2.parts
      have hl2 : (D ++ [(t.size : Int)].flatMap nbytes).length + t.size ≤ 140737488355328 := by
        have := HD.out.2.2.1
        rw [List.length_append, nbytes_flat]
        simp
        omega
      have H2 := Lib.hid (And.intro pg (And.intro po (And.intro hP2.1 (And.intro hB2 (And.intro hk2 hl2)))))
      clear pg po hP2 hB2 hk2 hn0 hl2 Hnum
      go_wp2_with (at_builtin; refine append_text 21 22 rfl rfl B v _ t rfl rfl H2.out.2.1 H2.out.2.2.2.2.2 H2.out.2.2.2.1 ?_)
      intro v' w' k1 k2
      obtain ⟨q1, q2⟩ := PenAt.grow H2.out.2.2.1 H2.out.1 H2.out.2.1 k2 H2.out.2.2.2.1 k1
      have hgr := PenK.grown (pb := pb) H2.out.2.1 k2 H2.out.2.2.2.1
      have kg : w'.heap[pb]? = some (.cells #[v, badV (errV eb) bd] 54 (0, 0)) := (k2.block pb (Array.getElem?_eq_some_iff.1 H2.out.1).1 (fun e => PenAt.ne H2.out.1 H2.out.2.1 e.symm)).trans H2.out.1
      have kc := cell_of_heap kg 0
      have kz := frozen_of_heap kg 0
      obtain ⟨m9, hm9⟩ : ∃ m, (D ++ (nbytes (t.size : Int) ++ Sm.nats t)).length = m := ⟨_, rfl⟩
      obtain ⟨a9, c9, hv9, _⟩ := k1.row
      rw [hm9] at hv9
      subst hv9
      have HR : Hid (PenAt B (w'.setCell ⟨pb, 0, none⟩ (.slice a9 m9 c9)) pb (l ++ (ts.take (i + 1)).flatMap tbytes) (badV (errV eb) bd) ∧ PenK B pb w (w'.setCell ⟨pb, 0, none⟩ (.slice a9 m9 c9))) := Lib.hid ⟨by
        rw [HD.out.2.1, ← List.append_assoc, HD.out.1]
        exact q1, HD.out.2.2.2.2.2.trans ((((PenK.alloc HD.out.2.2.2.2.1 _).trans H2.out.2.2.2.2.1).trans hgr).trans (PenK.set H2.out.2.2.1 0 _))⟩
      clear q1 q2 hgr kg k1 k2 hm9 p0 p1 z0 z1
      go_wp2
      go_roundw
      case rel => exact ⟨i + 1, by omega, by go_num, HR⟩
      case measure => simp [intOf]; omega
    · go_wp2
      go_end0
      have h1 := Hr.out.1
      rw [← H.out.2.2.2.2.1, List.take_length] at h1
      exact ⟨rfl, h1, Hr.out.2⟩
end
end Go.Proofs.YtgcnohejmofhkaaDoor
