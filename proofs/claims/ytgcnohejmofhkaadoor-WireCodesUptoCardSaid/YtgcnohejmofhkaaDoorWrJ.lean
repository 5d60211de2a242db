/- BackWire, SameMessage. -/
import Derived.Test.YtgcnohejmofhkaaDoorWrI
import Derived.Test.YtgcnohejmofhkaaDoorSmV
namespace Go.Proofs.YtgcnohejmofhkaaDoor
section
open Go.RowKit

set_option maxRecDepth 100000 in
set_option maxHeartbeats 4000000 in
theorem backwire_walk (w : World) (fr dst kind key : ByteArray) (op cf : Int) (sl : Bool) (a : Option Addr) (len cap : Nat) :
    Calls Tryd.prog 13 #[.agg #[.string fr, .string dst, .string kind, .string key, .int .i64 op, .int .i64 cf, .bool sl, .slice a len cap]] w fun e w' => Below w.heap.size w w' ∧ e = .returned (.agg #[.string fr, .string dst, .string kind, .string key, .int .i64 op, .int .i64 cf, .bool sl, .slice a len cap]) := by
  go_enter Tryd.func13, Tryd.ntmps13
  go_wp2
  have hb : Below w.heap.size w ((w.alloc (.cells #[.string fr, .string dst, .string kind, .string key, .int .i64 op, .int .i64 cf, .bool sl, .slice a len cap] 31)).alloc (.cells #[.string fr, .string dst, .string kind, .string key, .int .i64 op, .int .i64 cf, .bool sl, .slice a len cap] 24)) := ((Below.refl _ _).alloc (Nat.le_refl _) _).alloc (by simp) _
  have hm : ((w.alloc (.cells #[.string fr, .string dst, .string kind, .string key, .int .i64 op, .int .i64 cf, .bool sl, .slice a len cap] 31)).alloc (.cells #[.string fr, .string dst, .string kind, .string key, .int .i64 op, .int .i64 cf, .bool sl, .slice a len cap] 24)).heap[w.heap.size + 1]? = some (.cells #[.string fr, .string dst, .string kind, .string key, .int .i64 op, .int .i64 cf, .bool sl, .slice a len cap] 24 (0, 0)) := by
    rw [show w.heap.size + 1 = (w.alloc (.cells #[.string fr, .string dst, .string kind, .string key, .int .i64 op, .int .i64 cf, .bool sl, .slice a len cap] 31)).heap.size by simp]
    exact heap_alloc_new _ _
  obtain ⟨WF, hWF⟩ : ∃ WF, ((w.alloc (.cells #[.string fr, .string dst, .string kind, .string key, .int .i64 op, .int .i64 cf, .bool sl, .slice a len cap] 31)).alloc (.cells #[.string fr, .string dst, .string kind, .string key, .int .i64 op, .int .i64 cf, .bool sl, .slice a len cap] 24)) = WF := ⟨_, rfl⟩
  rw [hWF] at hb hm ⊢
  have y0 := cell_of_heap hm 0
  have y1 := cell_of_heap hm 1
  have y2 := cell_of_heap hm 2
  have y3 := cell_of_heap hm 3
  have y4 := cell_of_heap hm 4
  have y5 := cell_of_heap hm 5
  have y6 := cell_of_heap hm 6
  have y7 := cell_of_heap hm 7
  exact bodyPost_ret (v := .agg #[.string fr, .string dst, .string kind, .string key, .int .i64 op, .int .i64 cf, .bool sl, .slice a len cap]) (by simp [results, Tryd.results13, go_sem, y0, y1, y2, y3, y4, y5, y6, y7]) rfl ⟨hb, rfl⟩
set_option maxRecDepth 100000 in
set_option maxHeartbeats 4000000 in
theorem samem_same (w : World) (n₀ : Nat) (fr dst kind key : ByteArray) (op cf : Int) (sl : Bool) (a b : Option Addr) (len ca cb : Nat) (L : List Ver) (hlen : L.length = len) (hm : len ≤ maxLen) (hA : VrR n₀ w a L) (hB : VrR n₀ w b L) (hn : n₀ ≤ w.heap.size) :
    Calls Tryd.prog 12 #[.agg #[.string fr, .string dst, .string kind, .string key, .int .i64 op, .int .i64 cf, .bool sl, .slice a len ca], .agg #[.string fr, .string dst, .string kind, .string key, .int .i64 op, .int .i64 cf, .bool sl, .slice b len cb]] w fun e w' => e = .returned (.bool true) ∧ Below w.heap.size w w' := by
  have hbl : Below n₀ w ((w.alloc (.cells #[.string fr, .string dst, .string kind, .string key, .int .i64 op, .int .i64 cf, .bool sl, .slice a len ca] 24)).alloc (.cells #[.string fr, .string dst, .string kind, .string key, .int .i64 op, .int .i64 cf, .bool sl, .slice b len cb] 24)) := ((Below.refl _ _).alloc hn _).alloc (by simp; omega) _
  have hb2 : Below w.heap.size w ((w.alloc (.cells #[.string fr, .string dst, .string kind, .string key, .int .i64 op, .int .i64 cf, .bool sl, .slice a len ca] 24)).alloc (.cells #[.string fr, .string dst, .string kind, .string key, .int .i64 op, .int .i64 cf, .bool sl, .slice b len cb] 24)) := ((Below.refl _ _).alloc (Nat.le_refl _) _).alloc (by simp) _
  have Hy := Lib.hid (samev_walk n₀ a len ca L b len cb L true ((w.alloc (.cells #[.string fr, .string dst, .string kind, .string key, .int .i64 op, .int .i64 cf, .bool sl, .slice a len ca] 24)).alloc (.cells #[.string fr, .string dst, .string kind, .string key, .int .i64 op, .int .i64 cf, .bool sl, .slice b len cb] 24)) hlen hlen hm (hA.below hbl) (hB.below hbl) (by simp))
  have H := Lib.hid hb2
  clear hbl hb2 hA hB hlen hm hn
  go_enter Tryd.func12, Tryd.ntmps12
  go_wp2_with fail
  refine Hy.out.mono ?_
  rintro e W ⟨rfl, hb⟩
  have HB := Lib.hid (H.out.trans (hb.mono H.out.size))
  clear hb
  go_wp2
  go_ret
  exact ⟨rfl, HB.out⟩
end
end Go.Proofs.YtgcnohejmofhkaaDoor
