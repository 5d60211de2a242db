/- The closed facts of the form that speak of the program alone: asked once for all rows of this seat. -/
import Derived.Test.YtgcnohejmofhkaaDoorRows
import Derived.JoinedOf
import Derived.KernelRfl
import Derived.JoinedCond
namespace Go.Proofs.YtgcnohejmofhkaaDoor
namespace Closed
theorem and_mk {a b : Bool} (ha : a = true) (hb : b = true) : (a && b) = true := by rw [ha, hb]; rfl
theorem laidOut : laidOutB Tryd.prog = true := by kernel_rfl
theorem mapsRowed : Go.mapsRowed Tryd.prog = true := by kernel_rfl
theorem stops : (Tryd.prog.stops == []) = true := by kernel_rfl
theorem stopKnobs : (Tryd.prog.stopKnobs == []) = true := by kernel_rfl
theorem plainKeys : (Rows.wireCodesRow.plainKeys == Tryd.prog.plainKeys) = true := by kernel_rfl
theorem stopsHeard : Tryd.prog.stopsHeard = true := by kernel_rfl
theorem mayEnter : Tryd.prog.mayEnter = true := by kernel_rfl
theorem lifted : (Rows.wireCodesRow.lifted == Tryd.prog.liftsFinal) = true := by kernel_rfl
theorem make : (Tryd.prog.make == some Rows.wireCodesRow.make) = true := by kernel_rfl
theorem pinned : (Rows.wireCodesRow.pinned == Rows.wireCodesRow.pinnedBy) = true := by kernel_rfl
end Closed
end Go.Proofs.YtgcnohejmofhkaaDoor
