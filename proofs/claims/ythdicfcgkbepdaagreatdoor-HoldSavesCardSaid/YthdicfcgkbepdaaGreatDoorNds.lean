/- The walks of the checks of nodes: slices.Contains of texts, ring.Check, the document's Index, NodesFault. -/
import Derived.Test.YthdicfcgkbepdaaGreatDoorFlt
import Derived.Test.YthdicfcgkbepdaaGreatDoorTxs
import Derived.Test.YthdicfcgkbepdaaGreatDoorNam
namespace Go.Proofs.YthdicfcgkbepdaaGreatDoor
open Go.RowKit

theorem ret_i {a b : Int} (h : a = b) : Ending.returned (.int .i64 a) = .returned (.int .i64 b) := by rw [h]
theorem txt_inj {a b : ByteArray} (h : a.toList = b.toList) : a = b := by
  rw [ByteArray.toList_eq, ByteArray.toList_eq] at h
  obtain ⟨a⟩ := a
  obtain ⟨b⟩ := b
  exact congrArg ByteArray.mk (Array.toList_inj.1 h)
theorem txt_ne {a b : ByteArray} (h : a ≠ b) : (a.toList == b.toList) = false := by
  rw [beq_eq_false_iff_ne]; exact fun e => h (txt_inj e)
theorem at_take {L : List ByteArray} {k : Nat} (hk : k ≤ L.length) : (L.take k).length = k := by simp; omega

/-! ### the document's -/
/-- two cells of a block of the call's own. -/
structure Pair (w : World) (b : Nat) (x y : Value) : Prop where
  c0 : w.cell? ⟨b, 0, none⟩ = some x
  c1 : w.cell? ⟨b, 1, none⟩ = some y
  f0 : w.frozen? ⟨b, 0, none⟩ = false
  f1 : w.frozen? ⟨b, 1, none⟩ = false
theorem Pair.new (w : World) (x y : Value) (T : TypeId) : Pair (w.alloc (.cells #[x, y] T)) w.heap.size x y := ⟨by simp, by simp, by simp, by simp⟩
theorem Pair.drewN {w : World} {b : Nat} {x y : Value} (h : Pair w b x y) (n : Nat) : Pair (w.drewN n) b x y := ⟨h.c0, h.c1, h.f0, h.f1⟩
theorem Pair.below {n : Nat} {w w' : World} {b : Nat} {x y : Value} (h : Pair w b x y) (hb : Below n w w') (hn : b < n) : Pair w' b x y :=
  ⟨(hb.cell (p := ⟨b, 0, none⟩) hn).trans h.c0, (hb.cell (p := ⟨b, 1, none⟩) hn).trans h.c1, (hb.frozen (p := ⟨b, 0, none⟩) hn).trans h.f0, (hb.frozen (p := ⟨b, 1, none⟩) hn).trans h.f1⟩
end Go.Proofs.YthdicfcgkbepdaaGreatDoor
