/-
  DERIVED. GIVEN WITH THE SEED: THE PROGRAM's TIES (one call each: nine closed facts by the kernel) AND EACH ROW's TIE, after the 31st guide's Derived/Test/Toyas{Tie, Card}.lean. No idea stands in it: it is a product of the set-up. Laid BY PROGRAM, IN A SANDBOX (cutbox-door.mjs). By AI agents, Wed Nov 11 2026. No macro, syntax, notation, axiom, sorry.
-/
import Derived.Test.YtolbdcmoblcakaaGreatDoorRows
import Derived.LaidByTextLater
import Derived.SevenTiedAt
import Derived.LaidSub
import Derived.LaidOnce
namespace Go.Proofs.YtolbdcmoblcakaaGreatDoor
open Go
set_option maxRecDepth 100000
theorem seatTie1 : Tryz.prog.laidByTextLater [("errors.errorType", Rows.laid_errors_errorType), ("shardkeep/api.ErrText", Rows.laid_shardkeep_api_ErrText), ("shardkeep/api.ErrBound", Rows.laid_shardkeep_api_ErrBound), ("shardkeep/api.ErrShape", Rows.laid_shardkeep_api_ErrShape), ("shardkeep/api.ErrName", Rows.laid_shardkeep_api_ErrName), ("shardkeep/api.ErrNone", Rows.laid_shardkeep_api_ErrNone), ("shardkeep/api.ErrExist", Rows.laid_shardkeep_api_ErrExist), ("shardkeep/api.ErrFull", Rows.laid_shardkeep_api_ErrFull), ("shardkeep/api.ErrFew", Rows.laid_shardkeep_api_ErrFew), ("shardkeep/api.ErrSum", Rows.laid_shardkeep_api_ErrSum), ("shardkeep/api.ErrOld", Rows.laid_shardkeep_api_ErrOld), ("shardkeep/api.ErrHeld", Rows.laid_shardkeep_api_ErrHeld), ("shardkeep/api.ErrZero", Rows.laid_shardkeep_api_ErrZero)] [.handle, .sentinel, .sentinel, .sentinel, .sentinel, .sentinel, .sentinel, .sentinel, .sentinel, .sentinel, .sentinel, .sentinel, .sentinel] true :=
  Program.laidByTextLater_by_one 244 8 2 (by kernel_rfl) (by kernel_rfl) (by kernel_rfl) (by kernel_rfl) (by kernel_rfl) (by kernel_rfl) (fun _ _ => by kernel_rfl)
theorem noOwnUnsafe : Tryz.pinned.checked.prog.headLifts.contains "ownunsafe" = false := by kernel_rfl
theorem tie : Tryz.prog.laidByTextLater [("errors.errorType", Rows.laid_errors_errorType), ("shardkeep/api.ErrText", Rows.laid_shardkeep_api_ErrText), ("shardkeep/api.ErrBound", Rows.laid_shardkeep_api_ErrBound), ("shardkeep/api.ErrShape", Rows.laid_shardkeep_api_ErrShape), ("shardkeep/api.ErrName", Rows.laid_shardkeep_api_ErrName), ("shardkeep/api.ErrNone", Rows.laid_shardkeep_api_ErrNone), ("shardkeep/api.ErrExist", Rows.laid_shardkeep_api_ErrExist), ("shardkeep/api.ErrFull", Rows.laid_shardkeep_api_ErrFull), ("shardkeep/api.ErrFew", Rows.laid_shardkeep_api_ErrFew), ("shardkeep/api.ErrSum", Rows.laid_shardkeep_api_ErrSum), ("shardkeep/api.ErrOld", Rows.laid_shardkeep_api_ErrOld), ("shardkeep/api.ErrHeld", Rows.laid_shardkeep_api_ErrHeld), ("shardkeep/api.ErrZero", Rows.laid_shardkeep_api_ErrZero)] [.handle, .sentinel, .sentinel, .sentinel, .sentinel, .sentinel, .sentinel, .sentinel, .sentinel, .sentinel, .sentinel, .sentinel, .sentinel] true :=
  Program.laidByTextLater.sub seatTie1 ["errors.errorType", "shardkeep/api.ErrText", "shardkeep/api.ErrBound", "shardkeep/api.ErrShape", "shardkeep/api.ErrName", "shardkeep/api.ErrNone", "shardkeep/api.ErrExist", "shardkeep/api.ErrFull", "shardkeep/api.ErrFew", "shardkeep/api.ErrSum", "shardkeep/api.ErrOld", "shardkeep/api.ErrHeld", "shardkeep/api.ErrZero"] (by kernel_rfl) (by kernel_rfl)
theorem repairMends_row_tie : Rows.repairMendsRow.laidByTextAt .later Tryz.pinned [.handle, .sentinel, .sentinel, .sentinel, .sentinel, .sentinel, .sentinel, .sentinel, .sentinel, .sentinel, .sentinel, .sentinel, .sentinel] true :=
  OpenClaim.laidByTextAt_later rfl rfl tie noOwnUnsafe
theorem repairAll_row_tie : Rows.repairAllRow.laidByTextAt .later Tryz.pinned [.handle, .sentinel, .sentinel, .sentinel, .sentinel, .sentinel, .sentinel, .sentinel, .sentinel, .sentinel, .sentinel, .sentinel, .sentinel] true :=
  OpenClaim.laidByTextAt_later rfl rfl tie noOwnUnsafe
theorem repairMendsUpto_row_tie : Rows.repairMendsUptoRow.laidByTextAt .later Tryz.pinned [.handle, .sentinel, .sentinel, .sentinel, .sentinel, .sentinel, .sentinel, .sentinel, .sentinel, .sentinel, .sentinel, .sentinel, .sentinel] true :=
  OpenClaim.laidByTextAt_later rfl rfl tie noOwnUnsafe
theorem repairAllUpto_row_tie : Rows.repairAllUptoRow.laidByTextAt .later Tryz.pinned [.handle, .sentinel, .sentinel, .sentinel, .sentinel, .sentinel, .sentinel, .sentinel, .sentinel, .sentinel, .sentinel, .sentinel, .sentinel] true :=
  OpenClaim.laidByTextAt_later rfl rfl tie noOwnUnsafe
end Go.Proofs.YtolbdcmoblcakaaGreatDoor
