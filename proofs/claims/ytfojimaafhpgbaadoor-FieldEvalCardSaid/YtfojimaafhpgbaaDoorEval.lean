/- The walk of field.Eval: slices.Backward at bytes by its contract, then the range over it by its law. -/
import Derived.Test.YtfojimaafhpgbaaDoorFieldA
import Derived.Test.YtfojimaafhpgbaaDoorBytes
import Derived.RangeFuncNested
import Derived.RangeFuncBound
import Derived.RangeFuncCalls
import Derived.RangeFuncLeaves
import Derived.RangeFuncBox
import Derived.Shelf.Abstract
import Derived.OwnWalkIn
import Derived.TacticsInMore
import Derived.LoopNIn
import Derived.LoopIn
namespace Go.Proofs.YtfojimaafhpgbaaDoor
open Go.RowKit Go.Shelf
attribute [local go_sem] Oper.semAt_some

namespace Eval
/-- an index and a byte. -/
abbrev B8 := { p : Nat × Nat // p.2 < 256 }
/-- what has come when k rounds are over. -/
def upto {α : Type} (f : Nat → α) (k : Nat) : List α := (List.range k).map f
theorem upto_succ {α : Type} (f : Nat → α) (k : Nat) : upto f (k + 1) = upto f k ++ [f k] := by simp [upto, List.range_succ]
theorem upto_length {α : Type} (f : Nat → α) (k : Nat) : (upto f k).length = k := by simp [upto]
/-- the j-th that comes of l: from the last on. -/
def back (l : List Nat) (hl : Bytes l) (j : Nat) : B8 := ⟨(l.length - 1 - j, l[l.length - 1 - j]?.getD 0), hl.at _⟩

/-- below n₀ all blocks but one are as they were. -/
def But (Bo n₀ : Nat) (w w' : World) : Prop := ∀ k, k < n₀ → k ≠ Bo → w'.heap[k]? = w.heap[k]?
theorem But.refl (Bo n₀ : Nat) (w : World) : But Bo n₀ w w := fun _ _ _ => rfl
theorem But.trans {Bo n₀ : Nat} {a b c : World} (h : But Bo n₀ a b) (k : But Bo n₀ b c) : But Bo n₀ a c := fun i hi hn => (k i hi hn).trans (h i hi hn)
theorem But.cell {Bo n₀ : Nat} {w w' : World} (h : But Bo n₀ w w') {p : Addr} (hp : p.block < n₀) (hn : p.block ≠ Bo) : w'.cell? p = w.cell? p := World.cell?_of_block (w := w) (h p.block hp hn)
theorem But.of_below {Bo n₀ : Nat} {w w' : World} (h : Below n₀ w w') : But Bo n₀ w w' := fun k hk _ => h.block k hk

set_option maxRecDepth 100000 in
set_option maxHeartbeats 2000000 in
theorem back1_in (Bo l Bs n₀ b off cap : Nat) (zs : List Nat) (hz : Bytes zs) (hreach : zs.length ≤ 140737488351232) (hb : b < n₀) (J Jx : List B8 → World → Prop)
    (hY : ∀ pre x W, J pre W → pre.length < zs.length → YieldAt Fence.wide 1 Tryd.prog l #[.int .i64 (x.1.1 : Int), .int .u8 (x.1.2 : Int)] W fun e W' =>
      (e = .returned (.bool true) ∧ J (pre ++ [x]) W' ∧ But Bo n₀ W W') ∨ (e = .returned (.bool false) ∧ Jx (pre ++ [x]) W'))
    (W : World) (hBs : W.cell? ⟨Bs, 0, none⟩ = some (.slice (some ⟨b, off, none⟩) zs.length cap)) (hBn : Bs < n₀) (hBo : Bs ≠ Bo) (hbo : b ≠ Bo) (hc : ∀ j, j < zs.length → W.cell? ⟨b, off + j, none⟩ = some (.int .u8 ((zs[j]?.getD 0 : Nat) : Int))) (h0 : J [] W) :
    CallsIn Fence.wide 2 Tryd.prog 94 #[.func (.yield l) #[] #[], .pointer (some ⟨Bs, 0, none⟩)] W fun e W' => (∃ v, e = .returned v) ∧
      ((∃ ys, ys = upto (back zs hz) zs.length ∧ J ys W') ∨ (∃ pre, (∃ k, k ≤ zs.length ∧ pre = upto (back zs hz) k) ∧ Jx pre W')) := by
  refine callsIn_of_wp Tryd.func94 rfl trivial ?_ rfl
  simp only [Tryd.ntmps94, List.size_toArray, List.length_cons, List.length_nil, Nat.reduceAdd, Nat.reduceSub, Array.replicate_succ, Array.replicate_zero, List.push_toArray, List.append_toArray, List.nil_append, List.cons_append]
  gi_wp2
  gi_loopw [3] (fun i wr => ∃ k : Nat, k ≤ zs.length ∧ i = .int .i64 ((zs.length : Int) - 1 - (k : Int)) ∧ J (upto (back zs hz) k) wr ∧ But Bo n₀ W wr)
    (fun i _ => ((intOf i) + 1).toNat)
  case atStart => exact ⟨0, Nat.zero_le _, by simp, h0, But.refl _ _ _⟩
  case round =>
    obtain ⟨k, hk, rfl, hJs, hnx⟩ := hrel
    have hBs' := (hnx.cell (p := ⟨Bs, 0, none⟩) hBn hBo).trans hBs
    by_cases hlt : k < zs.length
    · obtain ⟨m, hm⟩ : ∃ m : Nat, zs.length = m + 1 + k := ⟨zs.length - 1 - k, by omega⟩
      have em : (zs.length : Int) - 1 - (k : Int) = (m : Int) := by omega
      have hml : m < zs.length := by omega
      have hcm := (hnx.cell (p := ⟨b, off + m, none⟩) hb hbo).trans (hc m hml)
      have hbk : back zs hz k = ⟨(m, zs[m]?.getD 0), hz.at _⟩ := by
        have : zs.length - 1 - k = m := by omega
        unfold back; simp only [this]
      obtain ⟨fn, tmps, assign, body, hy, hR⟩ := hY _ (back zs hz k) wr hJs (by rw [upto_length]; exact hlt)
      have HR := Lib.hid hR; clear hR
      rw [hbk] at hy
      dsimp only at hy
      generalize zs[m]?.getD 0 = c at hy hcm
      rw [em]
      have Hm := Lib.hid hm; clear hm
      have Hb := Lib.hid hbk; clear hbk
      have Em := Lib.hid em; clear em
      clear hY
      have h0m : (0 : Int) ≤ (m : Int) := by omega
      gi_wp2
      refine HR.out.mono ?_
      rintro e W3 (⟨rfl, hJ3, hk3⟩ | ⟨rfl, hJx3⟩)
      · gi_wp2
        go_roundw
        case rel => exact ⟨k + 1, by omega, by rw [show (zs.length : Int) - 1 - ((k + 1 : Nat) : Int) = (m : Int) - 1 from by have := Em.out; omega], by rw [upto_succ]; exact hJ3, hnx.trans hk3⟩
        case measure => simp [intOf]
      · gi_wp2
        refine bodyPost_ret (results_none rfl _ _ _) rfl ?_
        exact ⟨⟨_, rfl⟩, .inr ⟨_, ⟨k + 1, by omega, (upto_succ _ _).symm⟩, hJx3⟩⟩
    · have ek : (zs.length : Int) - 1 - (k : Int) = -1 := by omega
      obtain rfl : k = zs.length := by omega
      rw [ek]
      have Ek := Lib.hid ek; clear ek
      clear hY
      gi_wp2
      go_end0
      exact ⟨⟨_, rfl⟩, .inl ⟨_, rfl, hJs⟩⟩

set_option maxRecDepth 100000 in
set_option maxHeartbeats 1000000 in
/-- of an empty slice: no round. -/
theorem back1_nil_in (l Bs cap : Nat) (a : Option Addr) (J : List B8 → World → Prop) (W : World) (hBs : W.cell? ⟨Bs, 0, none⟩ = some (.slice a 0 cap)) (h0 : J [] W) :
    CallsIn Fence.wide 2 Tryd.prog 94 #[.func (.yield l) #[] #[], .pointer (some ⟨Bs, 0, none⟩)] W fun e W' => (∃ v, e = .returned v) ∧ J [] W' := by
  refine callsIn_of_wp Tryd.func94 rfl trivial ?_ rfl
  simp only [Tryd.ntmps94, List.size_toArray, List.length_cons, List.length_nil, Nat.reduceAdd, Nat.reduceSub, Array.replicate_succ, Array.replicate_zero, List.push_toArray, List.append_toArray, List.nil_append, List.cons_append]
  gi_wp2
  gi_loopw [3] (fun i wr => i = .int .i64 (-1) ∧ J [] wr) (fun _ _ => 0)
  case atStart => exact ⟨rfl, h0⟩
  case round =>
    obtain ⟨rfl, hJs⟩ := hrel
    gi_wp2
    go_end0
    exact ⟨⟨_, rfl⟩, hJs⟩

set_option maxHeartbeats 1000000 in
/-- slices.Backward(s): the slice is boxed; the function value captures the box. -/
theorem backward_in (a : Option Addr) (len cap : Nat) (w : World) :
    CallsIn Fence.wide 2 Tryd.prog 72 #[.slice a len cap] w fun e w' => e = .returned (.func (.func 94) #[] #[.pointer (some ⟨w.heap.size, 0, none⟩)]) ∧ w' = w.alloc (.cells #[.slice a len cap] 28) := by
  refine callsIn_of_wp Tryd.func72 rfl trivial ?_ rfl
  simp only [Tryd.ntmps72, List.size_toArray, List.length_cons, List.length_nil, Nat.reduceAdd, Nat.reduceSub, Array.replicate_succ, Array.replicate_zero, List.push_toArray, List.append_toArray, List.nil_append, List.cons_append]
  gi_wp2
  go_ret
  exact ⟨rfl, rfl⟩

theorem back_stops (Bo Bs n₀ : Nat) (a : Option Addr) (cap : Nat) (zs : List Nat) (hz : Bytes zs) (hreach : zs.length ≤ 140737488351232) (w : World) (hBs : Bs < w.heap.size) (hBn : Bs < n₀) (hn₀ : n₀ ≤ w.heap.size) (hBo : Bs ≠ Bo)
    (hc : w.cell? ⟨Bs, 0, none⟩ = some (.slice a zs.length cap)) (hI : RowAt Bo w a zs) (hB0 : Bo ≤ n₀) :
    SeqStopsK Fence.wide 2 Tryd.prog 94 #[.pointer (some ⟨Bs, 0, none⟩)] (fun x : B8 => #[Value.int .i64 (x.1.1 : Int), Value.int .u8 (x.1.2 : Int)]) (But Bo n₀) (fun ys => ys = upto (back zs hz) zs.length)
      (fun pre => ∃ k, k ≤ zs.length ∧ pre = upto (back zs hz) k) zs.length w := fun l J Jx W hW _ _ hY h0 => by
  have hc' := (hW.cell (p := ⟨Bs, 0, none⟩) hBs).trans hc
  rcases hI.below (hW.mono (by omega)) with rfl | ⟨b, off, rfl, hb, hcs⟩
  · exact (back1_nil_in l Bs cap a J W hc' h0).mono fun e W' ⟨he, hj⟩ => ⟨he, .inl ⟨_, rfl, hj⟩⟩
  · exact back1_in Bo l Bs n₀ b off cap zs hz hreach (by omega) J Jx hY W hc' hBn hBo (by omega) hcs h0

/-- what the loop has come to. -/
def fold (x : Nat) (pre : List B8) : Nat := pre.foldl (fun acc p => Gf.mul acc x ^^^ p.1.2) 0
theorem fold_snoc (x : Nat) (pre : List B8) (p : B8) : fold x (pre ++ [p]) = Gf.mul (fold x pre) x ^^^ p.1.2 := by simp [fold]
theorem fold_lt (x : Nat) (pre : List B8) : fold x pre < 256 := by
  suffices h : ∀ acc, acc < 256 → pre.foldl (fun acc p => Gf.mul acc x ^^^ p.1.2) acc < 256 from h 0 (by decide)
  induction pre with
  | nil => intro acc h; exact h
  | cons p r ih => intro acc h; exact ih _ (Gf.xor_lt (Gf.mul_lt x h) p.2)

set_option maxRecDepth 100000 in
set_option maxHeartbeats 2000000 in
theorem eval_in (a : Option Addr) (cap : Nat) (zs : List Nat) (hz : Bytes zs) (hreach : zs.length ≤ 140737488351232) (x : Nat) (hx : x < 256) (w : World) (hI : RowAt w.heap.size w a zs) :
    CallsIn Fence.wide 3 Tryd.prog 23 #[.slice a zs.length cap, .int .u8 x] w fun e W' => e = .returned (.int .u8 (fold x (upto (back zs hz) zs.length) : Nat)) ∧ Below w.heap.size w W' := by
  refine callsIn_of_wp_marks Tryd.func23 rfl trivial ?_ rfl
  simp only [Tryd.ntmps23, List.size_toArray, List.length_cons, List.length_nil, Nat.reduceAdd, Nat.reduceSub, Array.replicate_succ, Array.replicate_zero, List.push_toArray, List.append_toArray, List.nil_append, List.cons_append]
  gi_wp2_with fail
  refine ⟨trivial, ?_⟩
  refine (backward_in _ _ _ _).mono ?_
  rintro e w' ⟨rfl, rfl⟩
  gi_wp2_with fail
  have bX := Boxed.new w 5 (.int .u8 x)
  have bO := Boxed.new (w.alloc (.cells #[.int .u8 x] 5)) 5 (.int .u8 ((0 : Nat) : Int))
  have bN := Boxed.new ((w.alloc (.cells #[.int .u8 x] 5)).alloc (.cells #[.int .u8 ((0 : Nat) : Int)] 5)) 28 (.slice a zs.length cap)
  simp only [World.size_alloc] at bO bN
  have hB0 : Below w.heap.size w (((w.alloc (.cells #[.int .u8 x] 5)).alloc (.cells #[.int .u8 ((0 : Nat) : Int)] 5)).alloc (.cells #[.slice a zs.length cap] 28)) := (((Below.refl _ w).alloc (Nat.le_refl _) _).alloc (by simp) _).alloc (by simp; omega) _
  refine wpIn_rangeFunc_ownG (n := 3) rfl (by decide) (gf := 94) (lb := #[.pointer (some ⟨w.heap.size + 1 + 1, 0, none⟩)]) rfl trivial (enters_of Tryd.func94 (by kernel_rfl) rfl)
    (back_stops (w.heap.size + 1) (w.heap.size + 1 + 1) (w.heap.size + 1 + 1 + 1) a cap zs hz hreach _ (by simp) (by omega) (by simp) (by omega) bN.cell ((hI.below hB0).mono (by omega)) (by omega))
    (fun h k => But.trans h k) (fun W l o o' h1 h2 h3 h4 => But.of_below (belowK_b (w := ((w.alloc (.cells #[.int .u8 x] 5)).alloc (.cells #[.int .u8 ((0 : Nat) : Int)] 5)).alloc (.cells #[.slice a zs.length cap] 28)) (by simp) W l o o' h1 h2 h3 h4)) (Below.refl _ _) (fun _ => rfl)
    (fun pre W => ((W.cell? ⟨w.heap.size + 1, 0, none⟩ = some (.int .u8 (fold x pre : Nat)) ∧ W.frozen? ⟨w.heap.size + 1, 0, none⟩ = false) ∧ W.cell? ⟨w.heap.size, 0, none⟩ = some (.int .u8 x)) ∧ Below w.heap.size w W)
    (fun _ _ _ => False)
    (OwnFrom.and (Own.from (fun s A B row hs hg hr => ⟨⟨cell_kept hs.1.1 hg hr, (frozen_kept hs.1.1 hg hr).trans hs.1.2⟩, cell_kept hs.2 hg hr⟩) _) (ownFrom_below (Nat.le_refl _) (by simp; omega)))
    (fun _ _ _ _ _ hs _ _ => hs)
    ⟨⟨⟨(bO.alloc _).cell, (bO.alloc _).frozen⟩, ((bX.alloc _).alloc _).cell⟩, hB0⟩
    (fun p => { tmps := #[.slice a zs.length cap, .int .u8 x, undef, .pointer (some ⟨w.heap.size, 0, none⟩), .int .u8 0, .pointer (some ⟨w.heap.size + 1, 0, none⟩), undef, .int .u8 (p.1.2 : Int), .slice a zs.length cap, .func (.func 94) #[] #[.pointer (some ⟨w.heap.size + 1 + 1, 0, none⟩)], .int .i64 (p.1.1 : Int), .int .u8 (p.1.2 : Int), undef, undef, undef, undef, undef, undef], defers := [] }) ?assign ?body ?done ?stop
  case assign =>
    intro l x W K hK
    gi_wp2
    exact hK
  case body =>
    rintro l pre p W ⟨⟨⟨hc, hf⟩, hX⟩, hB⟩ _
    have hfl := fold_lt x pre
    have hp := p.2
    have hml := Gf.mul_lt x hfl
    gi_wp2_with fail
    refine ⟨trivial, ?_⟩
    refine (CallsIn.inRound l (callsIn_wide.2 (mul_walk _ x _ hfl hx))).mono ?_
    rintro e w' ⟨rfl, rfl⟩
    gi_wp2
    rw [u8_xor_nat _ _ hml hp, ← fold_snoc]
    have hb : ∀ v, But (w.heap.size + 1) (w.heap.size + 1 + 1 + 1) W (W.setCell ⟨w.heap.size + 1, 0, none⟩ v) := fun v k _ hk => Below.heap_setCell _ _ _ _ hk
    exact ⟨(KeepsOthers.setCell _ _ _).from _, hb _, ⟨⟨World.cell?_setCell_same' _ _ _ (by rw [hc]; rfl), by rw [World.frozen?_setCell]; exact hf⟩, ((hb _).cell (p := ⟨w.heap.size, 0, none⟩) (by simp; omega) (by simp)).trans hX⟩, hB.setCell (p := ⟨w.heap.size + 1, 0, none⟩) (by simp) _⟩
  case done =>
    rintro D ys W hD rfl ⟨⟨⟨hc, _⟩, _⟩, hB⟩ hK
    gi_wp2
    refine ⟨by simp, .inl ⟨_, _, rfl, run_takeDeferred hK, ?_⟩⟩
    exact ⟨_, results_tmp rfl _ _ _, rfl, hB.trans (belowK_b (w := w) (Nat.le_refl _) W D _ _ (by simp at hD; omega) hK rfl rfl)⟩
  case stop =>
    rintro D c pre W _ _ h _
    exact h.elim

open Gf (horner)
theorem horner_foldr (x : Nat) (l : List Nat) : horner x l = l.foldr (fun c acc => Gf.mul acc x ^^^ c) 0 := by
  induction l with
  | nil => rfl
  | cons c r ih => simp only [horner, List.foldr_cons, ih]
theorem fold_vals (x : Nat) (pre : List B8) : fold x pre = (pre.map (·.1.2)).foldl (fun acc c => Gf.mul acc x ^^^ c) 0 := by
  unfold fold
  rw [List.foldl_map]
theorem back_vals (zs : List Nat) (hz : Bytes zs) : (upto (back zs hz) zs.length).map (·.1.2) = zs.reverse := by
  apply List.ext_getElem
  · simp [upto]
  · intro i h1 h2
    have hi : i < zs.length := by simpa using h2
    have hi' : zs.length - 1 - i < zs.length := by omega
    simp [upto, back, hi']
theorem fold_all (x : Nat) (zs : List Nat) (hz : Bytes zs) : fold x (upto (back zs hz) zs.length) = horner x zs := by
  rw [fold_vals, back_vals, List.foldl_reverse, horner_foldr]
end Eval

/-- field.Eval of a slice that reads as zs. -/
theorem eval_walk (a : Option Addr) (cap : Nat) (zs : List Nat) (hz : Bytes zs) (hreach : zs.length ≤ 140737488351232) (x : Nat) (hx : x < 256) (w : World) (hI : RowAt w.heap.size w a zs) :
    Calls Tryd.prog 23 #[.slice a zs.length cap, .int .u8 x] w fun e W' => e = .returned (.int .u8 (Gf.horner x zs : Nat)) ∧ Below w.heap.size w W' := by
  have h := callsIn_wide.1 (Eval.eval_in a cap zs hz hreach x hx w hI)
  rw [Eval.fold_all] at h
  exact h
end Go.Proofs.YtfojimaafhpgbaaDoor
