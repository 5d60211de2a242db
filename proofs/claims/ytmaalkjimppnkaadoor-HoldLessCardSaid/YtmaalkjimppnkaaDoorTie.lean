/-
  DERIVED. GIVEN WITH THE SEED: THE PROGRAM's TIES (one call each: nine closed facts by the kernel) AND EACH ROW's TIE, after the 31st guide's Derived/Test/Toyas{Tie, Card}.lean. No idea stands in it: it is a product of the set-up. Laid BY PROGRAM, IN A SANDBOX (cutbox-door.mjs). By AI agents, Wed Nov 11 2026. No macro, syntax, notation, axiom, sorry.
-/
import Derived.Test.YtmaalkjimppnkaaDoorRows
import Derived.LaidByTextLater
import Derived.SevenTiedAt
import Derived.LaidSub
import Derived.LaidOnce
namespace Go.Proofs.YtmaalkjimppnkaaDoor
open Go
set_option maxRecDepth 100000
theorem seatTie1 : Tryd.prog.laidByTextLater [("math/bits.deBruijn32tab", Rows.laid_math_bits_deBruijn32tab), ("math/bits.deBruijn64tab", Rows.laid_math_bits_deBruijn64tab), ("internal/strconv.uint64pow10", Rows.laid_internal_strconv_uint64pow10), ("errors.errorType", Rows.laid_errors_errorType), ("shardkeep/api.ErrText", Rows.laid_shardkeep_api_ErrText), ("shardkeep/api.ErrBound", Rows.laid_shardkeep_api_ErrBound), ("shardkeep/api.ErrShape", Rows.laid_shardkeep_api_ErrShape), ("shardkeep/api.ErrName", Rows.laid_shardkeep_api_ErrName), ("shardkeep/api.ErrNone", Rows.laid_shardkeep_api_ErrNone), ("shardkeep/api.ErrExist", Rows.laid_shardkeep_api_ErrExist), ("shardkeep/api.ErrFull", Rows.laid_shardkeep_api_ErrFull), ("shardkeep/api.ErrFew", Rows.laid_shardkeep_api_ErrFew), ("shardkeep/api.ErrSum", Rows.laid_shardkeep_api_ErrSum), ("shardkeep/api.ErrOld", Rows.laid_shardkeep_api_ErrOld), ("shardkeep/api.ErrHeld", Rows.laid_shardkeep_api_ErrHeld), ("shardkeep/api.ErrZero", Rows.laid_shardkeep_api_ErrZero)] [.data, .data, .data, .handle, .sentinel, .sentinel, .sentinel, .sentinel, .sentinel, .sentinel, .sentinel, .sentinel, .sentinel, .sentinel, .sentinel, .sentinel] true :=
  Program.laidByTextLater_by_one 259 8 65 (by kernel_rfl) (by kernel_rfl) (by kernel_rfl) (by kernel_rfl) (by kernel_rfl) (by kernel_rfl) (fun _ _ => by kernel_rfl)
theorem noOwnUnsafe : Tryd.pinned.checked.prog.headLifts.contains "ownunsafe" = false := by kernel_rfl
theorem tie : Tryd.prog.laidByTextLater [("shardkeep/api.ErrBound", Rows.laid_shardkeep_api_ErrBound), ("shardkeep/api.ErrShape", Rows.laid_shardkeep_api_ErrShape), ("shardkeep/api.ErrName", Rows.laid_shardkeep_api_ErrName), ("shardkeep/api.ErrNone", Rows.laid_shardkeep_api_ErrNone), ("shardkeep/api.ErrExist", Rows.laid_shardkeep_api_ErrExist), ("shardkeep/api.ErrZero", Rows.laid_shardkeep_api_ErrZero)] [.sentinel, .sentinel, .sentinel, .sentinel, .sentinel, .sentinel] true :=
  Program.laidByTextLater.sub seatTie1 ["shardkeep/api.ErrBound", "shardkeep/api.ErrShape", "shardkeep/api.ErrName", "shardkeep/api.ErrNone", "shardkeep/api.ErrExist", "shardkeep/api.ErrZero"] (by kernel_rfl) (by kernel_rfl)
theorem quorumTwo_row_tie : Rows.quorumTwoRow.laidByTextAt .later Tryd.pinned [.sentinel, .sentinel, .sentinel, .sentinel, .sentinel, .sentinel] true :=
  OpenClaim.laidByTextAt_later rfl rfl tie noOwnUnsafe
theorem tie2 : Tryd.prog.laidByTextLater [("shardkeep/api.ErrBound", Rows.laid_shardkeep_api_ErrBound), ("shardkeep/api.ErrName", Rows.laid_shardkeep_api_ErrName), ("shardkeep/api.ErrExist", Rows.laid_shardkeep_api_ErrExist), ("shardkeep/api.ErrFull", Rows.laid_shardkeep_api_ErrFull), ("shardkeep/api.ErrOld", Rows.laid_shardkeep_api_ErrOld)] [.sentinel, .sentinel, .sentinel, .sentinel, .sentinel] true :=
  Program.laidByTextLater.sub seatTie1 ["shardkeep/api.ErrBound", "shardkeep/api.ErrName", "shardkeep/api.ErrExist", "shardkeep/api.ErrFull", "shardkeep/api.ErrOld"] (by kernel_rfl) (by kernel_rfl)
theorem holdLess_row_tie : Rows.holdLessRow.laidByTextAt .later Tryd.pinned [.sentinel, .sentinel, .sentinel, .sentinel, .sentinel] true :=
  OpenClaim.laidByTextAt_later rfl rfl tie2 noOwnUnsafe
theorem serveSeals_row_tie : Rows.serveSealsRow.laidByTextAt .later Tryd.pinned [.sentinel, .sentinel, .sentinel, .sentinel, .sentinel] true :=
  OpenClaim.laidByTextAt_later rfl rfl tie2 noOwnUnsafe
theorem tie3 : Tryd.prog.laidByTextLater [("errors.errorType", Rows.laid_errors_errorType), ("shardkeep/api.ErrText", Rows.laid_shardkeep_api_ErrText), ("shardkeep/api.ErrBound", Rows.laid_shardkeep_api_ErrBound), ("shardkeep/api.ErrShape", Rows.laid_shardkeep_api_ErrShape), ("shardkeep/api.ErrName", Rows.laid_shardkeep_api_ErrName), ("shardkeep/api.ErrNone", Rows.laid_shardkeep_api_ErrNone), ("shardkeep/api.ErrExist", Rows.laid_shardkeep_api_ErrExist), ("shardkeep/api.ErrFull", Rows.laid_shardkeep_api_ErrFull), ("shardkeep/api.ErrFew", Rows.laid_shardkeep_api_ErrFew), ("shardkeep/api.ErrSum", Rows.laid_shardkeep_api_ErrSum), ("shardkeep/api.ErrOld", Rows.laid_shardkeep_api_ErrOld), ("shardkeep/api.ErrHeld", Rows.laid_shardkeep_api_ErrHeld), ("shardkeep/api.ErrZero", Rows.laid_shardkeep_api_ErrZero)] [.handle, .sentinel, .sentinel, .sentinel, .sentinel, .sentinel, .sentinel, .sentinel, .sentinel, .sentinel, .sentinel, .sentinel, .sentinel] true :=
  Program.laidByTextLater.sub seatTie1 ["errors.errorType", "shardkeep/api.ErrText", "shardkeep/api.ErrBound", "shardkeep/api.ErrShape", "shardkeep/api.ErrName", "shardkeep/api.ErrNone", "shardkeep/api.ErrExist", "shardkeep/api.ErrFull", "shardkeep/api.ErrFew", "shardkeep/api.ErrSum", "shardkeep/api.ErrOld", "shardkeep/api.ErrHeld", "shardkeep/api.ErrZero"] (by kernel_rfl) (by kernel_rfl)
theorem wireCodes_row_tie : Rows.wireCodesRow.laidByTextAt .later Tryd.pinned [.handle, .sentinel, .sentinel, .sentinel, .sentinel, .sentinel, .sentinel, .sentinel, .sentinel, .sentinel, .sentinel, .sentinel, .sentinel] true :=
  OpenClaim.laidByTextAt_later rfl rfl tie3 noOwnUnsafe
theorem wireReads_row_tie : Rows.wireReadsRow.laidByTextAt .later Tryd.pinned [.handle, .sentinel, .sentinel, .sentinel, .sentinel, .sentinel, .sentinel, .sentinel, .sentinel, .sentinel, .sentinel, .sentinel, .sentinel] true :=
  OpenClaim.laidByTextAt_later rfl rfl tie3 noOwnUnsafe
theorem quorumMeets_row_tie : Rows.quorumMeetsRow.laidByTextAt .later Tryd.pinned [.handle, .sentinel, .sentinel, .sentinel, .sentinel, .sentinel, .sentinel, .sentinel, .sentinel, .sentinel, .sentinel, .sentinel, .sentinel] true :=
  OpenClaim.laidByTextAt_later rfl rfl tie3 noOwnUnsafe
theorem coderDecodes_row_tie : Rows.coderDecodesRow.laidByTextAt .later Tryd.pinned [.handle, .sentinel, .sentinel, .sentinel, .sentinel, .sentinel, .sentinel, .sentinel, .sentinel, .sentinel, .sentinel, .sentinel, .sentinel] true :=
  OpenClaim.laidByTextAt_later rfl rfl tie3 noOwnUnsafe
theorem holdActs_row_tie : Rows.holdActsRow.laidByTextAt .later Tryd.pinned [.handle, .sentinel, .sentinel, .sentinel, .sentinel, .sentinel, .sentinel, .sentinel, .sentinel, .sentinel, .sentinel, .sentinel, .sentinel] true :=
  OpenClaim.laidByTextAt_later rfl rfl tie3 noOwnUnsafe
theorem tie4 : Tryd.prog.laidByTextLater [("math/bits.deBruijn32tab", Rows.laid_math_bits_deBruijn32tab), ("math/bits.deBruijn64tab", Rows.laid_math_bits_deBruijn64tab), ("internal/strconv.uint64pow10", Rows.laid_internal_strconv_uint64pow10), ("shardkeep/api.ErrBound", Rows.laid_shardkeep_api_ErrBound), ("shardkeep/api.ErrName", Rows.laid_shardkeep_api_ErrName), ("shardkeep/api.ErrExist", Rows.laid_shardkeep_api_ErrExist), ("shardkeep/api.ErrFew", Rows.laid_shardkeep_api_ErrFew)] [.data, .data, .data, .sentinel, .sentinel, .sentinel, .sentinel] true :=
  Program.laidByTextLater.sub seatTie1 ["math/bits.deBruijn32tab", "math/bits.deBruijn64tab", "internal/strconv.uint64pow10", "shardkeep/api.ErrBound", "shardkeep/api.ErrName", "shardkeep/api.ErrExist", "shardkeep/api.ErrFew"] (by kernel_rfl) (by kernel_rfl)
theorem ringComes_row_tie : Rows.ringComesRow.laidByTextAt .later Tryd.pinned [.data, .data, .data, .sentinel, .sentinel, .sentinel, .sentinel] true :=
  OpenClaim.laidByTextAt_later rfl rfl tie4 noOwnUnsafe
theorem ringTurned_row_tie : Rows.ringTurnedRow.laidByTextAt .later Tryd.pinned [.data, .data, .data, .sentinel, .sentinel, .sentinel, .sentinel] true :=
  OpenClaim.laidByTextAt_later rfl rfl tie4 noOwnUnsafe
theorem quorumTwoUpto_row_tie : Rows.quorumTwoUptoRow.laidByTextAt .later Tryd.pinned [.sentinel, .sentinel, .sentinel, .sentinel, .sentinel, .sentinel] true :=
  OpenClaim.laidByTextAt_later rfl rfl tie noOwnUnsafe
theorem holdLessUpto_row_tie : Rows.holdLessUptoRow.laidByTextAt .later Tryd.pinned [.sentinel, .sentinel, .sentinel, .sentinel, .sentinel] true :=
  OpenClaim.laidByTextAt_later rfl rfl tie2 noOwnUnsafe
theorem wireCodesUpto_row_tie : Rows.wireCodesUptoRow.laidByTextAt .later Tryd.pinned [.handle, .sentinel, .sentinel, .sentinel, .sentinel, .sentinel, .sentinel, .sentinel, .sentinel, .sentinel, .sentinel, .sentinel, .sentinel] true :=
  OpenClaim.laidByTextAt_later rfl rfl tie3 noOwnUnsafe
theorem wireReadsUpto_row_tie : Rows.wireReadsUptoRow.laidByTextAt .later Tryd.pinned [.handle, .sentinel, .sentinel, .sentinel, .sentinel, .sentinel, .sentinel, .sentinel, .sentinel, .sentinel, .sentinel, .sentinel, .sentinel] true :=
  OpenClaim.laidByTextAt_later rfl rfl tie3 noOwnUnsafe
theorem serveSealsUpto_row_tie : Rows.serveSealsUptoRow.laidByTextAt .later Tryd.pinned [.sentinel, .sentinel, .sentinel, .sentinel, .sentinel] true :=
  OpenClaim.laidByTextAt_later rfl rfl tie2 noOwnUnsafe
theorem quorumMeetsUpto_row_tie : Rows.quorumMeetsUptoRow.laidByTextAt .later Tryd.pinned [.handle, .sentinel, .sentinel, .sentinel, .sentinel, .sentinel, .sentinel, .sentinel, .sentinel, .sentinel, .sentinel, .sentinel, .sentinel] true :=
  OpenClaim.laidByTextAt_later rfl rfl tie3 noOwnUnsafe
theorem coderDecodesUpto_row_tie : Rows.coderDecodesUptoRow.laidByTextAt .later Tryd.pinned [.handle, .sentinel, .sentinel, .sentinel, .sentinel, .sentinel, .sentinel, .sentinel, .sentinel, .sentinel, .sentinel, .sentinel, .sentinel] true :=
  OpenClaim.laidByTextAt_later rfl rfl tie3 noOwnUnsafe
theorem ringComesUpto_row_tie : Rows.ringComesUptoRow.laidByTextAt .later Tryd.pinned [.data, .data, .data, .sentinel, .sentinel, .sentinel, .sentinel] true :=
  OpenClaim.laidByTextAt_later rfl rfl tie4 noOwnUnsafe
theorem ringTurnedUpto_row_tie : Rows.ringTurnedUptoRow.laidByTextAt .later Tryd.pinned [.data, .data, .data, .sentinel, .sentinel, .sentinel, .sentinel] true :=
  OpenClaim.laidByTextAt_later rfl rfl tie4 noOwnUnsafe
theorem holdActsUpto_row_tie : Rows.holdActsUptoRow.laidByTextAt .later Tryd.pinned [.handle, .sentinel, .sentinel, .sentinel, .sentinel, .sentinel, .sentinel, .sentinel, .sentinel, .sentinel, .sentinel, .sentinel, .sentinel] true :=
  OpenClaim.laidByTextAt_later rfl rfl tie3 noOwnUnsafe
end Go.Proofs.YtmaalkjimppnkaaDoor
