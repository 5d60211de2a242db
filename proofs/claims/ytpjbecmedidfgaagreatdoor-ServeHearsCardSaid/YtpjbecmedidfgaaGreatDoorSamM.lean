/- BackWire, SameMessage; BackWires, SameMessages. -/
import Derived.Test.YtpjbecmedidfgaaGreatDoorSvW
import Derived.Test.YtpjbecmedidfgaaGreatDoorSmV
import Derived.Test.YtpjbecmedidfgaaGreatDoorRec
import Derived.Lib.QuietBelow
import Derived.BigQuiet
namespace Go.Proofs.YtpjbecmedidfgaaGreatDoor
section
open Go.RowKit Go.BigFrame

set_option maxRecDepth 100000 in
set_option maxHeartbeats 4000000 in
theorem backwire_walk (w : World) (fr dst kind key : ByteArray) (op cf : Int) (sl : Bool) (a : Option Addr) (len cap : Nat) :
    Calls Tryz.prog 32 #[.agg #[.string fr, .string dst, .string kind, .string key, .int .i64 op, .int .i64 cf, .bool sl, .slice a len cap]] w fun e w' => Below w.heap.size w w' ∧ e = .returned (.agg #[.string fr, .string dst, .string kind, .string key, .int .i64 op, .int .i64 cf, .bool sl, .slice a len cap]) := by
  go_enter Tryz.func32, Tryz.ntmps32
  go_wp2
  have hb : Below w.heap.size w ((w.alloc (.cells #[.string fr, .string dst, .string kind, .string key, .int .i64 op, .int .i64 cf, .bool sl, .slice a len cap] 42)).alloc (.cells #[.string fr, .string dst, .string kind, .string key, .int .i64 op, .int .i64 cf, .bool sl, .slice a len cap] 44)) := ((Below.refl _ _).alloc (Nat.le_refl _) _).alloc (by simp) _
  have hm : ((w.alloc (.cells #[.string fr, .string dst, .string kind, .string key, .int .i64 op, .int .i64 cf, .bool sl, .slice a len cap] 42)).alloc (.cells #[.string fr, .string dst, .string kind, .string key, .int .i64 op, .int .i64 cf, .bool sl, .slice a len cap] 44)).heap[w.heap.size + 1]? = some (.cells #[.string fr, .string dst, .string kind, .string key, .int .i64 op, .int .i64 cf, .bool sl, .slice a len cap] 44 (0, 0)) := by
    rw [show w.heap.size + 1 = (w.alloc (.cells #[.string fr, .string dst, .string kind, .string key, .int .i64 op, .int .i64 cf, .bool sl, .slice a len cap] 42)).heap.size by simp]
    exact heap_alloc_new _ _
  obtain ⟨WF, hWF⟩ : ∃ WF, ((w.alloc (.cells #[.string fr, .string dst, .string kind, .string key, .int .i64 op, .int .i64 cf, .bool sl, .slice a len cap] 42)).alloc (.cells #[.string fr, .string dst, .string kind, .string key, .int .i64 op, .int .i64 cf, .bool sl, .slice a len cap] 44)) = WF := ⟨_, rfl⟩
  rw [hWF] at hb hm ⊢
  have y0 := cell_of_heap hm 0
  have y1 := cell_of_heap hm 1
  have y2 := cell_of_heap hm 2
  have y3 := cell_of_heap hm 3
  have y4 := cell_of_heap hm 4
  have y5 := cell_of_heap hm 5
  have y6 := cell_of_heap hm 6
  have y7 := cell_of_heap hm 7
  exact bodyPost_ret (v := .agg #[.string fr, .string dst, .string kind, .string key, .int .i64 op, .int .i64 cf, .bool sl, .slice a len cap]) (by simp [results, Tryz.results32, go_sem, y0, y1, y2, y3, y4, y5, y6, y7]) rfl ⟨hb, rfl⟩
set_option maxRecDepth 100000 in
set_option maxHeartbeats 4000000 in
theorem samem_same (w : World) (n₀ : Nat) (fr dst kind key : ByteArray) (op cf : Int) (sl : Bool) (a b : Option Addr) (len ca cb : Nat) (L : List Ver) (hlen : L.length = len) (hm : len ≤ maxLen) (hA : VrR n₀ w a L) (hB : VrR n₀ w b L) (hn : n₀ ≤ w.heap.size) :
    Calls Tryz.prog 31 #[.agg #[.string fr, .string dst, .string kind, .string key, .int .i64 op, .int .i64 cf, .bool sl, .slice a len ca], .agg #[.string fr, .string dst, .string kind, .string key, .int .i64 op, .int .i64 cf, .bool sl, .slice b len cb]] w fun e w' => e = .returned (.bool true) ∧ Below w.heap.size w w' := by
  have hbl : Below n₀ w ((w.alloc (.cells #[.string fr, .string dst, .string kind, .string key, .int .i64 op, .int .i64 cf, .bool sl, .slice a len ca] 44)).alloc (.cells #[.string fr, .string dst, .string kind, .string key, .int .i64 op, .int .i64 cf, .bool sl, .slice b len cb] 44)) := ((Below.refl _ _).alloc hn _).alloc (by simp; omega) _
  have hb2 : Below w.heap.size w ((w.alloc (.cells #[.string fr, .string dst, .string kind, .string key, .int .i64 op, .int .i64 cf, .bool sl, .slice a len ca] 44)).alloc (.cells #[.string fr, .string dst, .string kind, .string key, .int .i64 op, .int .i64 cf, .bool sl, .slice b len cb] 44)) := ((Below.refl _ _).alloc (Nat.le_refl _) _).alloc (by simp) _
  have Hy := Lib.hid (samev_walk n₀ a len ca L b len cb L true ((w.alloc (.cells #[.string fr, .string dst, .string kind, .string key, .int .i64 op, .int .i64 cf, .bool sl, .slice a len ca] 44)).alloc (.cells #[.string fr, .string dst, .string kind, .string key, .int .i64 op, .int .i64 cf, .bool sl, .slice b len cb] 44)) hlen hlen hm (hA.below hbl) (hB.below hbl) (by simp))
  have H := Lib.hid hb2
  clear hbl hb2 hA hB hlen hm hn
  go_enter Tryz.func31, Tryz.ntmps31
  go_wp2_with fail
  refine Hy.out.mono ?_
  rintro e W ⟨rfl, hb⟩
  have HB := Lib.hid (H.out.trans (hb.mono H.out.size))
  clear hb
  go_wp2
  go_ret
  exact ⟨rfl, HB.out⟩
set_option maxRecDepth 100000 in
set_option maxHeartbeats 4000000 in
theorem samems_same (w : World) (n₀ : Nat) (a b : Option Addr) (len ca cb : Nat) (l : List Msg) (hlen : l.length = len) (hm : len ≤ maxLen) (hA : MsgsR n₀ w a l) (hB : MsgsR n₀ w b l) (hn : n₀ ≤ w.heap.size) :
    Calls Tryz.prog 10 #[.slice a len ca, .slice b len cb] w fun e w' => e = .returned (.bool true) ∧ Below w.heap.size w w' := by
  have H := Lib.hid (And.intro hA (And.intro hB (And.intro hlen hn)))
  have hm9 : len ≤ 9223372036854775807 := by unfold maxLen at hm; omega
  clear hA hB hlen hn hm
  go_enter Tryz.func10, Tryz.ntmps10
  go_wp2
  go_loopw [5] (fun vi wr => ∃ i : Nat, i ≤ len ∧ vi = .int .i64 i ∧ Hid (Below w.heap.size w wr)) (fun vi _ => len - (intOf vi).toNat)
  case atStart => exact ⟨0, by omega, rfl, Lib.hid (Below.refl _ _)⟩
  case round =>
    obtain ⟨i, hi, rfl, Hr⟩ := hrel
    have hi2 : i < len ∨ len = i := by omega
    rcases hi2 with hilt | rfl
    · have hilt2 : (i : Int) < len := by omega
      have hil : i < l.length := by rw [H.out.2.2.1]; exact hilt
      rcases H.out.1.below (Hr.out.mono H.out.2.2.2) with he | ⟨b1, o1, rfl, hb1, hc1⟩
      · exfalso
        rw [he] at hil; simp at hil
      rcases H.out.2.1.below (Hr.out.mono H.out.2.2.2) with he | ⟨b2, o2, rfl, hb2, hc2⟩
      · exfalso
        rw [he] at hil; simp at hil
      obtain ⟨k0, k1, k2, k3, k4, k5, k6, ad1, cp1, k7, q1, q2, q3, q4⟩ := hc1 i hil
      obtain ⟨l0, l1, l2, l3, l4, l5, l6, ad2, cp2, l7, p1, p2, p3, p4⟩ := hc2 i hil
      obtain ⟨⟨fr, dst, kind, key, op, cf, sl, L⟩, hx⟩ : ∃ x, l[i]?.getD msg0 = x := ⟨_, rfl⟩
      rw [hx] at k0 k1 k2 k3 k4 k5 k6 k7 q1 q4 l0 l1 l2 l3 l4 l5 l6 l7 p1 p4
      dsimp only at k0 k1 k2 k3 k4 k5 k6 k7 q1 q4 l0 l1 l2 l3 l4 l5 l6 l7 p1 p4
      have hsz : n₀ ≤ wr.heap.size := Nat.le_trans H.out.2.2.2 Hr.out.size
      have Cc := fun d os => Calls.regrown_of (samem_same (Go.Sort.grow (redrawn wr d) os) wr.heap.size fr dst kind key op cf sl ad1 ad2 L.length cp1 cp2 L rfl (Nat.le_trans q1 q2) ((q4.mono hsz).below (below_regrown wr d os)) ((p4.mono hsz).below (below_regrown wr d os)) (below_regrown wr d os).size)
      have k0 := cell_regrown k0
      have k1 := cell_regrown k1
      have k2 := cell_regrown k2
      have k3 := cell_regrown k3
      have k4 := cell_regrown k4
      have k5 := cell_regrown k5
      have k6 := cell_regrown k6
      have k7 := cell_regrown k7
      have l0 := cell_regrown l0
      have l1 := cell_regrown l1
      have l2 := cell_regrown l2
      have l3 := cell_regrown l3
      have l4 := cell_regrown l4
      have l5 := cell_regrown l5
      have l6 := cell_regrown l6
      have l7 := cell_regrown l7
      obtain ⟨n, hnn⟩ : ∃ n, L.length = n := ⟨_, rfl⟩
      rw [hnn] at Cc k7 l7
      clear hc1 hc2 hx q1 q2 q3 q4 p1 p2 p3 p4 hil hb1 hb2 hsz hnn
      go_wp2_with fail
      refine wp_region_quiet_below (by kernel_rfl) (by kernel_rfl) ?_
      repeat (go_big_quiet_step (first | (with_reducible exact Cc _ _)))
      refine wpQuiet_nil ?_
      intro w3 hw'
      obtain ⟨⟨dq, osq⟩, hw3⟩ := hw'
      have HB := Lib.hid (Hr.out.trans (show Below w.heap.size wr w3 by rw [hw3]; exact (below_regrown wr dq osq).mono Hr.out.size))
      clear hw3 Cc k0 k1 k2 k3 k4 k5 k6 k7 l0 l1 l2 l3 l4 l5 l6 l7
      go_wp2
      go_roundw
      case rel => exact ⟨i + 1, by omega, by go_num, HB⟩
      case measure => simp [intOf]; omega
    · go_wp2
      go_ret
      exact ⟨rfl, Hr.out⟩
end
end Go.Proofs.YtpjbecmedidfgaaGreatDoor
