/- The closed facts of the form that speak of the program alone: asked once for all rows of this seat. -/
import Derived.Test.YthdicfcgkbepdaaGreatDoorRows
import Derived.JoinedOf
import Derived.KernelRfl
import Derived.JoinedCond
namespace Go.Proofs.YthdicfcgkbepdaaGreatDoor
namespace Closed
theorem and_mk {a b : Bool} (ha : a = true) (hb : b = true) : (a && b) = true := by rw [ha, hb]; rfl
theorem laidOut : laidOutB Tryz.prog = true := by kernel_rfl
theorem mapsRowed : Go.mapsRowed Tryz.prog = true := by kernel_rfl
theorem stops : (Tryz.prog.stops == []) = true := by kernel_rfl
theorem stopKnobs : (Tryz.prog.stopKnobs == []) = true := by kernel_rfl
theorem plainKeys : (Rows.holdLoadsRow.plainKeys == Tryz.prog.plainKeys) = true := by kernel_rfl
theorem stopsHeard : Tryz.prog.stopsHeard = true := by kernel_rfl
theorem mayEnter : Tryz.prog.mayEnter = true := by kernel_rfl
theorem lifted : (Rows.holdLoadsRow.lifted == Tryz.prog.liftsFinal) = true := by kernel_rfl
theorem make : (Tryz.prog.make == some Rows.holdLoadsRow.make) = true := by kernel_rfl
theorem pinned : (Rows.holdLoadsRow.pinned == Rows.holdLoadsRow.pinnedBy) = true := by kernel_rfl
end Closed
end Go.Proofs.YthdicfcgkbepdaaGreatDoor
