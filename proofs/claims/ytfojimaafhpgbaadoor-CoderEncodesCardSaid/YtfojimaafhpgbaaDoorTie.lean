/-
  DERIVED. GIVEN WITH THE SEED: THE PROGRAM's TIES (one call each: nine closed facts by the kernel) AND EACH ROW's TIE, after the 31st guide's Derived/Test/Toyas{Tie, Card}.lean. No idea stands in it: it is a product of the set-up. Laid BY PROGRAM, IN A SANDBOX (cutbox-door.mjs). By AI agents, Wed Nov 11 2026. No macro, syntax, notation, axiom, sorry.
-/
import Derived.Test.YtfojimaafhpgbaaDoorRows
import Derived.LaidByTextLater
import Derived.SevenTiedAt
import Derived.LaidSub
import Derived.LaidOnce
namespace Go.Proofs.YtfojimaafhpgbaaDoor
open Go
set_option maxRecDepth 100000
theorem seatTie1 : Tryd.prog.laidByTextLater [("errors.errorType", Rows.laid_errors_errorType), ("shardkeep/api.ErrText", Rows.laid_shardkeep_api_ErrText), ("shardkeep/api.ErrBound", Rows.laid_shardkeep_api_ErrBound), ("shardkeep/api.ErrShape", Rows.laid_shardkeep_api_ErrShape), ("shardkeep/api.ErrName", Rows.laid_shardkeep_api_ErrName), ("shardkeep/api.ErrNone", Rows.laid_shardkeep_api_ErrNone), ("shardkeep/api.ErrExist", Rows.laid_shardkeep_api_ErrExist), ("shardkeep/api.ErrFull", Rows.laid_shardkeep_api_ErrFull), ("shardkeep/api.ErrFew", Rows.laid_shardkeep_api_ErrFew), ("shardkeep/api.ErrSum", Rows.laid_shardkeep_api_ErrSum), ("shardkeep/api.ErrOld", Rows.laid_shardkeep_api_ErrOld), ("shardkeep/api.ErrHeld", Rows.laid_shardkeep_api_ErrHeld), ("shardkeep/api.ErrZero", Rows.laid_shardkeep_api_ErrZero)] [.handle, .sentinel, .sentinel, .sentinel, .sentinel, .sentinel, .sentinel, .sentinel, .sentinel, .sentinel, .sentinel, .sentinel, .sentinel] true :=
  Program.laidByTextLater_by_one 244 8 2 (by kernel_rfl) (by kernel_rfl) (by kernel_rfl) (by kernel_rfl) (by kernel_rfl) (by kernel_rfl) (fun _ _ => by kernel_rfl)
theorem noOwnUnsafe : Tryd.pinned.checked.prog.headLifts.contains "ownunsafe" = false := by kernel_rfl
theorem tie : Tryd.prog.laidByTextLater [("shardkeep/api.ErrZero", Rows.laid_shardkeep_api_ErrZero)] [.sentinel] true :=
  Program.laidByTextLater.sub seatTie1 ["shardkeep/api.ErrZero"] (by kernel_rfl) (by kernel_rfl)
theorem fieldTwo_row_tie : Rows.fieldTwoRow.laidByTextAt .later Tryd.pinned [.sentinel] true :=
  OpenClaim.laidByTextAt_later rfl rfl tie noOwnUnsafe
theorem tie2 : Tryd.prog.laidByTextLater [("shardkeep/api.ErrShape", Rows.laid_shardkeep_api_ErrShape), ("shardkeep/api.ErrExist", Rows.laid_shardkeep_api_ErrExist), ("shardkeep/api.ErrZero", Rows.laid_shardkeep_api_ErrZero)] [.sentinel, .sentinel, .sentinel] true :=
  Program.laidByTextLater.sub seatTie1 ["shardkeep/api.ErrShape", "shardkeep/api.ErrExist", "shardkeep/api.ErrZero"] (by kernel_rfl) (by kernel_rfl)
theorem fieldThrough_row_tie : Rows.fieldThroughRow.laidByTextAt .later Tryd.pinned [.sentinel, .sentinel, .sentinel] true :=
  OpenClaim.laidByTextAt_later rfl rfl tie2 noOwnUnsafe
theorem tie3 : Tryd.prog.laidByTextLater [("shardkeep/api.ErrBound", Rows.laid_shardkeep_api_ErrBound), ("shardkeep/api.ErrShape", Rows.laid_shardkeep_api_ErrShape), ("shardkeep/api.ErrZero", Rows.laid_shardkeep_api_ErrZero)] [.sentinel, .sentinel, .sentinel] true :=
  Program.laidByTextLater.sub seatTie1 ["shardkeep/api.ErrBound", "shardkeep/api.ErrShape", "shardkeep/api.ErrZero"] (by kernel_rfl) (by kernel_rfl)
theorem matrixAny_row_tie : Rows.matrixAnyRow.laidByTextAt .later Tryd.pinned [.sentinel, .sentinel, .sentinel] true :=
  OpenClaim.laidByTextAt_later rfl rfl tie3 noOwnUnsafe
theorem coderSums_row_tie : Rows.coderSumsRow.laidByTextAt .later Tryd.pinned [.sentinel, .sentinel, .sentinel] true :=
  OpenClaim.laidByTextAt_later rfl rfl tie3 noOwnUnsafe
theorem tie4 : Tryd.prog.laidByTextLater [("errors.errorType", Rows.laid_errors_errorType), ("shardkeep/api.ErrText", Rows.laid_shardkeep_api_ErrText), ("shardkeep/api.ErrBound", Rows.laid_shardkeep_api_ErrBound), ("shardkeep/api.ErrShape", Rows.laid_shardkeep_api_ErrShape), ("shardkeep/api.ErrName", Rows.laid_shardkeep_api_ErrName), ("shardkeep/api.ErrNone", Rows.laid_shardkeep_api_ErrNone), ("shardkeep/api.ErrExist", Rows.laid_shardkeep_api_ErrExist), ("shardkeep/api.ErrFull", Rows.laid_shardkeep_api_ErrFull), ("shardkeep/api.ErrFew", Rows.laid_shardkeep_api_ErrFew), ("shardkeep/api.ErrSum", Rows.laid_shardkeep_api_ErrSum), ("shardkeep/api.ErrOld", Rows.laid_shardkeep_api_ErrOld), ("shardkeep/api.ErrHeld", Rows.laid_shardkeep_api_ErrHeld), ("shardkeep/api.ErrZero", Rows.laid_shardkeep_api_ErrZero)] [.handle, .sentinel, .sentinel, .sentinel, .sentinel, .sentinel, .sentinel, .sentinel, .sentinel, .sentinel, .sentinel, .sentinel, .sentinel] true :=
  Program.laidByTextLater.sub seatTie1 ["errors.errorType", "shardkeep/api.ErrText", "shardkeep/api.ErrBound", "shardkeep/api.ErrShape", "shardkeep/api.ErrName", "shardkeep/api.ErrNone", "shardkeep/api.ErrExist", "shardkeep/api.ErrFull", "shardkeep/api.ErrFew", "shardkeep/api.ErrSum", "shardkeep/api.ErrOld", "shardkeep/api.ErrHeld", "shardkeep/api.ErrZero"] (by kernel_rfl) (by kernel_rfl)
theorem names_row_tie : Rows.namesRow.laidByTextAt .later Tryd.pinned [.handle, .sentinel, .sentinel, .sentinel, .sentinel, .sentinel, .sentinel, .sentinel, .sentinel, .sentinel, .sentinel, .sentinel, .sentinel] true :=
  OpenClaim.laidByTextAt_later rfl rfl tie4 noOwnUnsafe
theorem sumsCRC_row_tie : Rows.sumsCRCRow.laidByTextAt .later Tryd.pinned [.handle, .sentinel, .sentinel, .sentinel, .sentinel, .sentinel, .sentinel, .sentinel, .sentinel, .sentinel, .sentinel, .sentinel, .sentinel] true :=
  OpenClaim.laidByTextAt_later rfl rfl tie4 noOwnUnsafe
theorem sumsBurst_row_tie : Rows.sumsBurstRow.laidByTextAt .later Tryd.pinned [.handle, .sentinel, .sentinel, .sentinel, .sentinel, .sentinel, .sentinel, .sentinel, .sentinel, .sentinel, .sentinel, .sentinel, .sentinel] true :=
  OpenClaim.laidByTextAt_later rfl rfl tie4 noOwnUnsafe
theorem fieldPow_row_tie : Rows.fieldPowRow.laidByTextAt .later Tryd.pinned [.handle, .sentinel, .sentinel, .sentinel, .sentinel, .sentinel, .sentinel, .sentinel, .sentinel, .sentinel, .sentinel, .sentinel, .sentinel] true :=
  OpenClaim.laidByTextAt_later rfl rfl tie4 noOwnUnsafe
theorem fieldMul_row_tie : Rows.fieldMulRow.laidByTextAt .later Tryd.pinned [.handle, .sentinel, .sentinel, .sentinel, .sentinel, .sentinel, .sentinel, .sentinel, .sentinel, .sentinel, .sentinel, .sentinel, .sentinel] true :=
  OpenClaim.laidByTextAt_later rfl rfl tie4 noOwnUnsafe
theorem fieldLaws_row_tie : Rows.fieldLawsRow.laidByTextAt .later Tryd.pinned [.handle, .sentinel, .sentinel, .sentinel, .sentinel, .sentinel, .sentinel, .sentinel, .sentinel, .sentinel, .sentinel, .sentinel, .sentinel] true :=
  OpenClaim.laidByTextAt_later rfl rfl tie4 noOwnUnsafe
theorem fieldEval_row_tie : Rows.fieldEvalRow.laidByTextAt .later Tryd.pinned [.handle, .sentinel, .sentinel, .sentinel, .sentinel, .sentinel, .sentinel, .sentinel, .sentinel, .sentinel, .sentinel, .sentinel, .sentinel] true :=
  OpenClaim.laidByTextAt_later rfl rfl tie4 noOwnUnsafe
theorem matrixInverts_row_tie : Rows.matrixInvertsRow.laidByTextAt .later Tryd.pinned [.handle, .sentinel, .sentinel, .sentinel, .sentinel, .sentinel, .sentinel, .sentinel, .sentinel, .sentinel, .sentinel, .sentinel, .sentinel] true :=
  OpenClaim.laidByTextAt_later rfl rfl tie4 noOwnUnsafe
theorem matrixTimes_row_tie : Rows.matrixTimesRow.laidByTextAt .later Tryd.pinned [.handle, .sentinel, .sentinel, .sentinel, .sentinel, .sentinel, .sentinel, .sentinel, .sentinel, .sentinel, .sentinel, .sentinel, .sentinel] true :=
  OpenClaim.laidByTextAt_later rfl rfl tie4 noOwnUnsafe
theorem matrixSpread_row_tie : Rows.matrixSpreadRow.laidByTextAt .later Tryd.pinned [.handle, .sentinel, .sentinel, .sentinel, .sentinel, .sentinel, .sentinel, .sentinel, .sentinel, .sentinel, .sentinel, .sentinel, .sentinel] true :=
  OpenClaim.laidByTextAt_later rfl rfl tie4 noOwnUnsafe
theorem coderEncodes_row_tie : Rows.coderEncodesRow.laidByTextAt .later Tryd.pinned [.handle, .sentinel, .sentinel, .sentinel, .sentinel, .sentinel, .sentinel, .sentinel, .sentinel, .sentinel, .sentinel, .sentinel, .sentinel] true :=
  OpenClaim.laidByTextAt_later rfl rfl tie4 noOwnUnsafe
theorem coderDecodes_row_tie : Rows.coderDecodesRow.laidByTextAt .later Tryd.pinned [.handle, .sentinel, .sentinel, .sentinel, .sentinel, .sentinel, .sentinel, .sentinel, .sentinel, .sentinel, .sentinel, .sentinel, .sentinel] true :=
  OpenClaim.laidByTextAt_later rfl rfl tie4 noOwnUnsafe
theorem tie5 : Tryd.prog.laidByTextLater [("shardkeep/api.ErrBound", Rows.laid_shardkeep_api_ErrBound), ("shardkeep/api.ErrShape", Rows.laid_shardkeep_api_ErrShape), ("shardkeep/api.ErrFew", Rows.laid_shardkeep_api_ErrFew), ("shardkeep/api.ErrZero", Rows.laid_shardkeep_api_ErrZero)] [.sentinel, .sentinel, .sentinel, .sentinel] true :=
  Program.laidByTextLater.sub seatTie1 ["shardkeep/api.ErrBound", "shardkeep/api.ErrShape", "shardkeep/api.ErrFew", "shardkeep/api.ErrZero"] (by kernel_rfl) (by kernel_rfl)
theorem coderWrong_row_tie : Rows.coderWrongRow.laidByTextAt .later Tryd.pinned [.sentinel, .sentinel, .sentinel, .sentinel] true :=
  OpenClaim.laidByTextAt_later rfl rfl tie5 noOwnUnsafe
theorem coderAny_row_tie : Rows.coderAnyRow.laidByTextAt .later Tryd.pinned [.sentinel, .sentinel, .sentinel, .sentinel] true :=
  OpenClaim.laidByTextAt_later rfl rfl tie5 noOwnUnsafe
theorem fieldTwoUpto_row_tie : Rows.fieldTwoUptoRow.laidByTextAt .later Tryd.pinned [.sentinel] true :=
  OpenClaim.laidByTextAt_later rfl rfl tie noOwnUnsafe
theorem fieldThroughUpto_row_tie : Rows.fieldThroughUptoRow.laidByTextAt .later Tryd.pinned [.sentinel, .sentinel, .sentinel] true :=
  OpenClaim.laidByTextAt_later rfl rfl tie2 noOwnUnsafe
theorem matrixAnyUpto_row_tie : Rows.matrixAnyUptoRow.laidByTextAt .later Tryd.pinned [.sentinel, .sentinel, .sentinel] true :=
  OpenClaim.laidByTextAt_later rfl rfl tie3 noOwnUnsafe
theorem namesUpto_row_tie : Rows.namesUptoRow.laidByTextAt .later Tryd.pinned [.handle, .sentinel, .sentinel, .sentinel, .sentinel, .sentinel, .sentinel, .sentinel, .sentinel, .sentinel, .sentinel, .sentinel, .sentinel] true :=
  OpenClaim.laidByTextAt_later rfl rfl tie4 noOwnUnsafe
theorem sumsCRCUpto_row_tie : Rows.sumsCRCUptoRow.laidByTextAt .later Tryd.pinned [.handle, .sentinel, .sentinel, .sentinel, .sentinel, .sentinel, .sentinel, .sentinel, .sentinel, .sentinel, .sentinel, .sentinel, .sentinel] true :=
  OpenClaim.laidByTextAt_later rfl rfl tie4 noOwnUnsafe
theorem sumsBurstUpto_row_tie : Rows.sumsBurstUptoRow.laidByTextAt .later Tryd.pinned [.handle, .sentinel, .sentinel, .sentinel, .sentinel, .sentinel, .sentinel, .sentinel, .sentinel, .sentinel, .sentinel, .sentinel, .sentinel] true :=
  OpenClaim.laidByTextAt_later rfl rfl tie4 noOwnUnsafe
theorem fieldPowUpto_row_tie : Rows.fieldPowUptoRow.laidByTextAt .later Tryd.pinned [.handle, .sentinel, .sentinel, .sentinel, .sentinel, .sentinel, .sentinel, .sentinel, .sentinel, .sentinel, .sentinel, .sentinel, .sentinel] true :=
  OpenClaim.laidByTextAt_later rfl rfl tie4 noOwnUnsafe
theorem fieldMulUpto_row_tie : Rows.fieldMulUptoRow.laidByTextAt .later Tryd.pinned [.handle, .sentinel, .sentinel, .sentinel, .sentinel, .sentinel, .sentinel, .sentinel, .sentinel, .sentinel, .sentinel, .sentinel, .sentinel] true :=
  OpenClaim.laidByTextAt_later rfl rfl tie4 noOwnUnsafe
theorem fieldLawsUpto_row_tie : Rows.fieldLawsUptoRow.laidByTextAt .later Tryd.pinned [.handle, .sentinel, .sentinel, .sentinel, .sentinel, .sentinel, .sentinel, .sentinel, .sentinel, .sentinel, .sentinel, .sentinel, .sentinel] true :=
  OpenClaim.laidByTextAt_later rfl rfl tie4 noOwnUnsafe
theorem fieldEvalUpto_row_tie : Rows.fieldEvalUptoRow.laidByTextAt .later Tryd.pinned [.handle, .sentinel, .sentinel, .sentinel, .sentinel, .sentinel, .sentinel, .sentinel, .sentinel, .sentinel, .sentinel, .sentinel, .sentinel] true :=
  OpenClaim.laidByTextAt_later rfl rfl tie4 noOwnUnsafe
theorem matrixInvertsUpto_row_tie : Rows.matrixInvertsUptoRow.laidByTextAt .later Tryd.pinned [.handle, .sentinel, .sentinel, .sentinel, .sentinel, .sentinel, .sentinel, .sentinel, .sentinel, .sentinel, .sentinel, .sentinel, .sentinel] true :=
  OpenClaim.laidByTextAt_later rfl rfl tie4 noOwnUnsafe
theorem matrixTimesUpto_row_tie : Rows.matrixTimesUptoRow.laidByTextAt .later Tryd.pinned [.handle, .sentinel, .sentinel, .sentinel, .sentinel, .sentinel, .sentinel, .sentinel, .sentinel, .sentinel, .sentinel, .sentinel, .sentinel] true :=
  OpenClaim.laidByTextAt_later rfl rfl tie4 noOwnUnsafe
theorem coderSumsUpto_row_tie : Rows.coderSumsUptoRow.laidByTextAt .later Tryd.pinned [.sentinel, .sentinel, .sentinel] true :=
  OpenClaim.laidByTextAt_later rfl rfl tie3 noOwnUnsafe
theorem matrixSpreadUpto_row_tie : Rows.matrixSpreadUptoRow.laidByTextAt .later Tryd.pinned [.handle, .sentinel, .sentinel, .sentinel, .sentinel, .sentinel, .sentinel, .sentinel, .sentinel, .sentinel, .sentinel, .sentinel, .sentinel] true :=
  OpenClaim.laidByTextAt_later rfl rfl tie4 noOwnUnsafe
theorem coderWrongUpto_row_tie : Rows.coderWrongUptoRow.laidByTextAt .later Tryd.pinned [.sentinel, .sentinel, .sentinel, .sentinel] true :=
  OpenClaim.laidByTextAt_later rfl rfl tie5 noOwnUnsafe
theorem coderAnyUpto_row_tie : Rows.coderAnyUptoRow.laidByTextAt .later Tryd.pinned [.sentinel, .sentinel, .sentinel, .sentinel] true :=
  OpenClaim.laidByTextAt_later rfl rfl tie5 noOwnUnsafe
theorem coderEncodesUpto_row_tie : Rows.coderEncodesUptoRow.laidByTextAt .later Tryd.pinned [.handle, .sentinel, .sentinel, .sentinel, .sentinel, .sentinel, .sentinel, .sentinel, .sentinel, .sentinel, .sentinel, .sentinel, .sentinel] true :=
  OpenClaim.laidByTextAt_later rfl rfl tie4 noOwnUnsafe
theorem coderDecodesUpto_row_tie : Rows.coderDecodesUptoRow.laidByTextAt .later Tryd.pinned [.handle, .sentinel, .sentinel, .sentinel, .sentinel, .sentinel, .sentinel, .sentinel, .sentinel, .sentinel, .sentinel, .sentinel, .sentinel] true :=
  OpenClaim.laidByTextAt_later rfl rfl tie4 noOwnUnsafe
end Go.Proofs.YtfojimaafhpgbaaDoor
