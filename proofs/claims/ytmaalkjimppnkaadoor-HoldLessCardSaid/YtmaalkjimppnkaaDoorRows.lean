/-
  NARROWER THAN 'FOR EVERY INPUT', by the rows' own cells (each row's printed sentence says how): QuorumTwo: laid · HoldLess: laid · WireCodes: laid · WireReads: laid · ServeSeals: laid · QuorumMeets: laid · CoderDecodes: laid · RingComes: laid · RingTurned: laid · HoldActs: laid.
  DERIVED. THE GIVEN ROWS OF THIS SEAT. 10 by the template 'for every input the law returns true; each argument reads behind the call as it read before'; 0 by the template 'total and deterministic' (their statements: YtmaalkjimppnkaaDoorTotals.lean).
  GIVEN WITH THE SEED: the statements are not yours to turn. If you find one false, say at which input.
  Laid BY PROGRAM, IN A SANDBOX (cutbox-rows.mjs): the forced cells as the released guide's own fill.sh prints them over the translation 70e91f9079d27e4b… (all of the seat's roots in one cut). By AI agents, Wed Nov 11 2026. No macro, syntax, notation, axiom, sorry.
-/
import Derived.Test.YtmaalkjimppnkaaDoorChecked
import GoSem.Claim
import GoSem.ClaimJoined
import GoSem.ClaimMapViews
import Derived.JoinedTies
import Derived.KernelRfl
namespace Go.Proofs.YtmaalkjimppnkaaDoor
/- THE CELL 'sum', in the pinned program and in every row, IS THE sha256 OF THE DUMP (.gsa) THAT YtmaalkjimppnkaaDoorProg.lean LOADS. Nothing in Lean hashes anything: it is a label: what it is worth is what the hold of that sum in a sandbox is worth. -/
noncomputable def Tryd.pinned : Pinned := { name := "ytmaalkjimppnkaadoor", sum := "70e91f9079d27e4bc9a7b44a8fc84fd3c38af1e005ed3bf7fd4471cc7a603a34", checked := Tryd.checked }
namespace Rows
def none {H : Type} : Left H := { results := [], args := [] }

/- WHAT THE LISTED PACKAGE-LEVEL VARIABLES READ AS WHEN THE CALL BEGINS. Each datum BY PROGRAM (the guide's laid-datum.mjs) off the statement by which the dump's own 'gosem.cut.vars' lays the variable. In a bare row this is a premise. The card (YtmaalkjimppnkaaDoorCards.lean) ties it to the program's text. -/
def laid_shardkeep_api_ErrBound {H : Type} : DataW H := .iface "*errors.errorString" (.ptr (.agg [.lit (.string [115, 104, 97, 114, 100, 107, 101, 101, 112, 58, 32, 98, 111, 117, 110, 100])]))
def laid_shardkeep_api_ErrShape {H : Type} : DataW H := .iface "*errors.errorString" (.ptr (.agg [.lit (.string [115, 104, 97, 114, 100, 107, 101, 101, 112, 58, 32, 115, 104, 97, 112, 101])]))
def laid_shardkeep_api_ErrName {H : Type} : DataW H := .iface "*errors.errorString" (.ptr (.agg [.lit (.string [115, 104, 97, 114, 100, 107, 101, 101, 112, 58, 32, 110, 97, 109, 101])]))
def laid_shardkeep_api_ErrNone {H : Type} : DataW H := .iface "*errors.errorString" (.ptr (.agg [.lit (.string [115, 104, 97, 114, 100, 107, 101, 101, 112, 58, 32, 110, 111, 110, 101])]))
def laid_shardkeep_api_ErrExist {H : Type} : DataW H := .iface "*errors.errorString" (.ptr (.agg [.lit (.string [115, 104, 97, 114, 100, 107, 101, 101, 112, 58, 32, 101, 120, 105, 115, 116])]))
def laid_shardkeep_api_ErrZero {H : Type} : DataW H := .iface "*errors.errorString" (.ptr (.agg [.lit (.string [115, 104, 97, 114, 100, 107, 101, 101, 112, 58, 32, 122, 101, 114, 111])]))
def laid_shardkeep_api_ErrFull {H : Type} : DataW H := .iface "*errors.errorString" (.ptr (.agg [.lit (.string [115, 104, 97, 114, 100, 107, 101, 101, 112, 58, 32, 102, 117, 108, 108])]))
def laid_shardkeep_api_ErrOld {H : Type} : DataW H := .iface "*errors.errorString" (.ptr (.agg [.lit (.string [115, 104, 97, 114, 100, 107, 101, 101, 112, 58, 32, 111, 108, 100])]))
def laid_errors_errorType {H : Type} : DataW H := .iface "internal/reflectlite.rtype" (.agg [.ptr (.lit (.string [101, 114, 114, 111, 114]))])
def laid_shardkeep_api_ErrText {H : Type} : DataW H := .iface "*errors.errorString" (.ptr (.agg [.lit (.string [115, 104, 97, 114, 100, 107, 101, 101, 112, 58, 32, 116, 101, 120, 116])]))
def laid_shardkeep_api_ErrFew {H : Type} : DataW H := .iface "*errors.errorString" (.ptr (.agg [.lit (.string [115, 104, 97, 114, 100, 107, 101, 101, 112, 58, 32, 102, 101, 119])]))
def laid_shardkeep_api_ErrSum {H : Type} : DataW H := .iface "*errors.errorString" (.ptr (.agg [.lit (.string [115, 104, 97, 114, 100, 107, 101, 101, 112, 58, 32, 115, 117, 109])]))
def laid_shardkeep_api_ErrHeld {H : Type} : DataW H := .iface "*errors.errorString" (.ptr (.agg [.lit (.string [115, 104, 97, 114, 100, 107, 101, 101, 112, 58, 32, 104, 101, 108, 100])]))
def laid_math_bits_deBruijn32tab {H : Type} : DataW H := .agg [.lit (.int .u8 0), .lit (.int .u8 1), .lit (.int .u8 28), .lit (.int .u8 2), .lit (.int .u8 29), .lit (.int .u8 14), .lit (.int .u8 24), .lit (.int .u8 3), .lit (.int .u8 30), .lit (.int .u8 22), .lit (.int .u8 20), .lit (.int .u8 15), .lit (.int .u8 25), .lit (.int .u8 17), .lit (.int .u8 4), .lit (.int .u8 8), .lit (.int .u8 31), .lit (.int .u8 27), .lit (.int .u8 13), .lit (.int .u8 23), .lit (.int .u8 21), .lit (.int .u8 19), .lit (.int .u8 16), .lit (.int .u8 7), .lit (.int .u8 26), .lit (.int .u8 12), .lit (.int .u8 18), .lit (.int .u8 6), .lit (.int .u8 11), .lit (.int .u8 5), .lit (.int .u8 10), .lit (.int .u8 9)]
def laid_math_bits_deBruijn64tab {H : Type} : DataW H := .agg [.lit (.int .u8 0), .lit (.int .u8 1), .lit (.int .u8 56), .lit (.int .u8 2), .lit (.int .u8 57), .lit (.int .u8 49), .lit (.int .u8 28), .lit (.int .u8 3), .lit (.int .u8 61), .lit (.int .u8 58), .lit (.int .u8 42), .lit (.int .u8 50), .lit (.int .u8 38), .lit (.int .u8 29), .lit (.int .u8 17), .lit (.int .u8 4), .lit (.int .u8 62), .lit (.int .u8 47), .lit (.int .u8 59), .lit (.int .u8 36), .lit (.int .u8 45), .lit (.int .u8 43), .lit (.int .u8 51), .lit (.int .u8 22), .lit (.int .u8 53), .lit (.int .u8 39), .lit (.int .u8 33), .lit (.int .u8 30), .lit (.int .u8 24), .lit (.int .u8 18), .lit (.int .u8 12), .lit (.int .u8 5), .lit (.int .u8 63), .lit (.int .u8 55), .lit (.int .u8 48), .lit (.int .u8 27), .lit (.int .u8 60), .lit (.int .u8 41), .lit (.int .u8 37), .lit (.int .u8 16), .lit (.int .u8 46), .lit (.int .u8 35), .lit (.int .u8 44), .lit (.int .u8 21), .lit (.int .u8 52), .lit (.int .u8 32), .lit (.int .u8 23), .lit (.int .u8 11), .lit (.int .u8 54), .lit (.int .u8 26), .lit (.int .u8 40), .lit (.int .u8 15), .lit (.int .u8 34), .lit (.int .u8 20), .lit (.int .u8 31), .lit (.int .u8 10), .lit (.int .u8 25), .lit (.int .u8 14), .lit (.int .u8 19), .lit (.int .u8 9), .lit (.int .u8 13), .lit (.int .u8 8), .lit (.int .u8 7), .lit (.int .u8 6)]
def laid_internal_strconv_uint64pow10 {H : Type} : DataW H := .agg [.lit (.int .u64 1), .lit (.int .u64 10), .lit (.int .u64 100), .lit (.int .u64 1000), .lit (.int .u64 10000), .lit (.int .u64 100000), .lit (.int .u64 1000000), .lit (.int .u64 10000000), .lit (.int .u64 100000000), .lit (.int .u64 1000000000), .lit (.int .u64 10000000000), .lit (.int .u64 100000000000), .lit (.int .u64 1000000000000), .lit (.int .u64 10000000000000), .lit (.int .u64 100000000000000), .lit (.int .u64 1000000000000000), .lit (.int .u64 10000000000000000), .lit (.int .u64 100000000000000000), .lit (.int .u64 1000000000000000000), .lit (.int .u64 10000000000000000000)]

/-- 'shardkeeplaw2.QuorumTwo': WHATEVER THE INPUT: true; the input reads as it did. -/
def quorumTwoSpec : ChangeSpec := { name := "quorumTwo", fn := fun _ => fun
  | [d1, d2, d3] => { results := [.lit (.bool true)], args := [d1, d2, d3] }
  | _ => none }
def quorumTwoRow : OpenClaim := { program := "ytmaalkjimppnkaadoor", sum := "70e91f9079d27e4bc9a7b44a8fc84fd3c38af1e005ed3bf7fd4471cc7a603a34", func := "shardkeep/shardkeeplaw2.QuorumTwo", spec := "quorumTwo", unfollowed := true, recurses := true, named := ["shardkeep/api.ErrShape", "shardkeep/api.ErrBound", "shardkeep/api.ErrZero", "shardkeep/api.ErrName", "shardkeep/api.ErrExist", "shardkeep/api.ErrNone"], apart := false, laid := [("shardkeep/api.ErrBound", laid_shardkeep_api_ErrBound), ("shardkeep/api.ErrShape", laid_shardkeep_api_ErrShape), ("shardkeep/api.ErrName", laid_shardkeep_api_ErrName), ("shardkeep/api.ErrNone", laid_shardkeep_api_ErrNone), ("shardkeep/api.ErrExist", laid_shardkeep_api_ErrExist), ("shardkeep/api.ErrZero", laid_shardkeep_api_ErrZero)] }
def QuorumTwoSaid : Prop := quorumTwoRow.holds Tryd.pinned (OpenSpec.ofChange quorumTwoSpec)

/-- ITS FALSE NEIGHBOUR: 'it returns false'. Refute it at one input. -/
def quorumTwoWrong : ChangeSpec := { name := "quorumTwo", fn := fun _ => fun
  | [d1, d2, d3] => { results := [.lit (.bool false)], args := [d1, d2, d3] }
  | _ => none }
def QuorumTwoWrongFalsely : Prop := quorumTwoRow.holds Tryd.pinned (OpenSpec.ofChange quorumTwoWrong)

/-- 'shardkeeplaw2.HoldLess': WHATEVER THE INPUT: true; the input reads as it did. -/
def holdLessSpec : ChangeSpec := { name := "holdLess", fn := fun _ => fun
  | [d1, d2] => { results := [.lit (.bool true)], args := [d1, d2] }
  | _ => none }
def holdLessRow : OpenClaim := { program := "ytmaalkjimppnkaadoor", sum := "70e91f9079d27e4bc9a7b44a8fc84fd3c38af1e005ed3bf7fd4471cc7a603a34", func := "shardkeep/shardkeeplaw2.HoldLess", spec := "holdLess", inPlace := ["slices.overlaps[shardkeep/api.Version]"], unfollowed := true, recurses := true, named := ["shardkeep/api.ErrOld", "shardkeep/api.ErrName", "shardkeep/api.ErrBound", "shardkeep/api.ErrExist", "shardkeep/api.ErrFull"], apart := false, laid := [("shardkeep/api.ErrBound", laid_shardkeep_api_ErrBound), ("shardkeep/api.ErrName", laid_shardkeep_api_ErrName), ("shardkeep/api.ErrExist", laid_shardkeep_api_ErrExist), ("shardkeep/api.ErrFull", laid_shardkeep_api_ErrFull), ("shardkeep/api.ErrOld", laid_shardkeep_api_ErrOld)] }
def HoldLessSaid : Prop := holdLessRow.holds Tryd.pinned (OpenSpec.ofChange holdLessSpec)

/-- ITS FALSE NEIGHBOUR: 'it returns false'. Refute it at one input. -/
def holdLessWrong : ChangeSpec := { name := "holdLess", fn := fun _ => fun
  | [d1, d2] => { results := [.lit (.bool false)], args := [d1, d2] }
  | _ => none }
def HoldLessWrongFalsely : Prop := holdLessRow.holds Tryd.pinned (OpenSpec.ofChange holdLessWrong)

/-- 'shardkeeplaw2.WireCodes': WHATEVER THE INPUT: true; the input reads as it did. -/
def wireCodesSpec : ChangeSpec := { name := "wireCodes", fn := fun _ => fun
  | [d] => { results := [.lit (.bool true)], args := [d] }
  | _ => none }
def wireCodesRow : OpenClaim := { program := "ytmaalkjimppnkaadoor", sum := "70e91f9079d27e4bc9a7b44a8fc84fd3c38af1e005ed3bf7fd4471cc7a603a34", func := "shardkeep/shardkeeplaw2.WireCodes", spec := "wireCodes", inPlace := ["internal/reflectlite.ValueOf", "(internal/reflectlite.Value).Type", "(internal/reflectlite.Value).IsNil", "internal/reflectlite.TypeOf", "(internal/reflectlite.Value).Elem", "(internal/reflectlite.Value).Set"], unfollowed := true, recurses := true, named := ["shardkeep/api.ErrFull", "shardkeep/api.ErrBound", "shardkeep/api.ErrText", "shardkeep/api.ErrSum", "shardkeep/api.ErrShape", "shardkeep/api.ErrName", "shardkeep/api.ErrNone", "shardkeep/api.ErrExist", "shardkeep/api.ErrFew", "shardkeep/api.ErrOld", "shardkeep/api.ErrHeld", "shardkeep/api.ErrZero", "errors.errorType"], apart := false, laid := [("errors.errorType", laid_errors_errorType), ("shardkeep/api.ErrText", laid_shardkeep_api_ErrText), ("shardkeep/api.ErrBound", laid_shardkeep_api_ErrBound), ("shardkeep/api.ErrShape", laid_shardkeep_api_ErrShape), ("shardkeep/api.ErrName", laid_shardkeep_api_ErrName), ("shardkeep/api.ErrNone", laid_shardkeep_api_ErrNone), ("shardkeep/api.ErrExist", laid_shardkeep_api_ErrExist), ("shardkeep/api.ErrFull", laid_shardkeep_api_ErrFull), ("shardkeep/api.ErrFew", laid_shardkeep_api_ErrFew), ("shardkeep/api.ErrSum", laid_shardkeep_api_ErrSum), ("shardkeep/api.ErrOld", laid_shardkeep_api_ErrOld), ("shardkeep/api.ErrHeld", laid_shardkeep_api_ErrHeld), ("shardkeep/api.ErrZero", laid_shardkeep_api_ErrZero)] }
def WireCodesSaid : Prop := wireCodesRow.holds Tryd.pinned (OpenSpec.ofChange wireCodesSpec)

/-- ITS FALSE NEIGHBOUR: 'it returns false'. Refute it at one input. -/
def wireCodesWrong : ChangeSpec := { name := "wireCodes", fn := fun _ => fun
  | [d] => { results := [.lit (.bool false)], args := [d] }
  | _ => none }
def WireCodesWrongFalsely : Prop := wireCodesRow.holds Tryd.pinned (OpenSpec.ofChange wireCodesWrong)

/-- 'shardkeeplaw2.WireReads': WHATEVER THE INPUT: true; the input reads as it did. -/
def wireReadsSpec : ChangeSpec := { name := "wireReads", fn := fun _ => fun
  | [d1, d2] => { results := [.lit (.bool true)], args := [d1, d2] }
  | _ => none }
def wireReadsRow : OpenClaim := { program := "ytmaalkjimppnkaadoor", sum := "70e91f9079d27e4bc9a7b44a8fc84fd3c38af1e005ed3bf7fd4471cc7a603a34", func := "shardkeep/shardkeeplaw2.WireReads", spec := "wireReads", inPlace := ["internal/reflectlite.ValueOf", "(internal/reflectlite.Value).Type", "(internal/reflectlite.Value).IsNil", "internal/reflectlite.TypeOf", "(internal/reflectlite.Value).Elem", "(internal/reflectlite.Value).Set"], unfollowed := true, recurses := true, named := ["shardkeep/api.ErrFull", "shardkeep/api.ErrBound", "shardkeep/api.ErrText", "shardkeep/api.ErrSum", "shardkeep/api.ErrShape", "shardkeep/api.ErrName", "shardkeep/api.ErrNone", "shardkeep/api.ErrExist", "shardkeep/api.ErrFew", "shardkeep/api.ErrOld", "shardkeep/api.ErrHeld", "shardkeep/api.ErrZero", "errors.errorType"], apart := false, laid := [("errors.errorType", laid_errors_errorType), ("shardkeep/api.ErrText", laid_shardkeep_api_ErrText), ("shardkeep/api.ErrBound", laid_shardkeep_api_ErrBound), ("shardkeep/api.ErrShape", laid_shardkeep_api_ErrShape), ("shardkeep/api.ErrName", laid_shardkeep_api_ErrName), ("shardkeep/api.ErrNone", laid_shardkeep_api_ErrNone), ("shardkeep/api.ErrExist", laid_shardkeep_api_ErrExist), ("shardkeep/api.ErrFull", laid_shardkeep_api_ErrFull), ("shardkeep/api.ErrFew", laid_shardkeep_api_ErrFew), ("shardkeep/api.ErrSum", laid_shardkeep_api_ErrSum), ("shardkeep/api.ErrOld", laid_shardkeep_api_ErrOld), ("shardkeep/api.ErrHeld", laid_shardkeep_api_ErrHeld), ("shardkeep/api.ErrZero", laid_shardkeep_api_ErrZero)] }
def WireReadsSaid : Prop := wireReadsRow.holds Tryd.pinned (OpenSpec.ofChange wireReadsSpec)

/-- ITS FALSE NEIGHBOUR: 'it returns false'. Refute it at one input. -/
def wireReadsWrong : ChangeSpec := { name := "wireReads", fn := fun _ => fun
  | [d1, d2] => { results := [.lit (.bool false)], args := [d1, d2] }
  | _ => none }
def WireReadsWrongFalsely : Prop := wireReadsRow.holds Tryd.pinned (OpenSpec.ofChange wireReadsWrong)

/-- 'shardkeeplaw2.ServeSeals': WHATEVER THE INPUT: true; the input reads as it did. -/
def serveSealsSpec : ChangeSpec := { name := "serveSeals", fn := fun _ => fun
  | [d1, d2] => { results := [.lit (.bool true)], args := [d1, d2] }
  | _ => none }
def serveSealsRow : OpenClaim := { program := "ytmaalkjimppnkaadoor", sum := "70e91f9079d27e4bc9a7b44a8fc84fd3c38af1e005ed3bf7fd4471cc7a603a34", func := "shardkeep/shardkeeplaw2.ServeSeals", spec := "serveSeals", inPlace := ["slices.overlaps[shardkeep/api.Version]", "internal/reflectlite.TypeOf"], unfollowed := true, recurses := true, named := ["shardkeep/api.ErrName", "shardkeep/api.ErrOld", "shardkeep/api.ErrBound", "shardkeep/api.ErrExist", "shardkeep/api.ErrFull"], apart := false, laid := [("shardkeep/api.ErrBound", laid_shardkeep_api_ErrBound), ("shardkeep/api.ErrName", laid_shardkeep_api_ErrName), ("shardkeep/api.ErrExist", laid_shardkeep_api_ErrExist), ("shardkeep/api.ErrFull", laid_shardkeep_api_ErrFull), ("shardkeep/api.ErrOld", laid_shardkeep_api_ErrOld)] }
def ServeSealsSaid : Prop := serveSealsRow.holds Tryd.pinned (OpenSpec.ofChange serveSealsSpec)

/-- ITS FALSE NEIGHBOUR: 'it returns false'. Refute it at one input. -/
def serveSealsWrong : ChangeSpec := { name := "serveSeals", fn := fun _ => fun
  | [d1, d2] => { results := [.lit (.bool false)], args := [d1, d2] }
  | _ => none }
def ServeSealsWrongFalsely : Prop := serveSealsRow.holds Tryd.pinned (OpenSpec.ofChange serveSealsWrong)

/-- 'shardkeeplaw2.QuorumMeets': WHATEVER THE INPUT: true; the input reads as it did. -/
def quorumMeetsSpec : ChangeSpec := { name := "quorumMeets", fn := fun _ => fun
  | [d1, d2, d3] => { results := [.lit (.bool true)], args := [d1, d2, d3] }
  | _ => none }
def quorumMeetsRow : OpenClaim := { program := "ytmaalkjimppnkaadoor", sum := "70e91f9079d27e4bc9a7b44a8fc84fd3c38af1e005ed3bf7fd4471cc7a603a34", func := "shardkeep/shardkeeplaw2.QuorumMeets", spec := "quorumMeets", inPlace := ["internal/reflectlite.ValueOf", "(internal/reflectlite.Value).Type", "(internal/reflectlite.Value).IsNil", "internal/reflectlite.TypeOf", "(internal/reflectlite.Value).Elem", "(internal/reflectlite.Value).Set"], unfollowed := true, recurses := true, named := ["shardkeep/api.ErrShape", "shardkeep/api.ErrBound", "shardkeep/api.ErrZero", "shardkeep/api.ErrName", "shardkeep/api.ErrExist", "shardkeep/api.ErrText", "shardkeep/api.ErrNone", "shardkeep/api.ErrFull", "shardkeep/api.ErrFew", "shardkeep/api.ErrSum", "shardkeep/api.ErrOld", "shardkeep/api.ErrHeld", "errors.errorType"], apart := false, laid := [("errors.errorType", laid_errors_errorType), ("shardkeep/api.ErrText", laid_shardkeep_api_ErrText), ("shardkeep/api.ErrBound", laid_shardkeep_api_ErrBound), ("shardkeep/api.ErrShape", laid_shardkeep_api_ErrShape), ("shardkeep/api.ErrName", laid_shardkeep_api_ErrName), ("shardkeep/api.ErrNone", laid_shardkeep_api_ErrNone), ("shardkeep/api.ErrExist", laid_shardkeep_api_ErrExist), ("shardkeep/api.ErrFull", laid_shardkeep_api_ErrFull), ("shardkeep/api.ErrFew", laid_shardkeep_api_ErrFew), ("shardkeep/api.ErrSum", laid_shardkeep_api_ErrSum), ("shardkeep/api.ErrOld", laid_shardkeep_api_ErrOld), ("shardkeep/api.ErrHeld", laid_shardkeep_api_ErrHeld), ("shardkeep/api.ErrZero", laid_shardkeep_api_ErrZero)] }
def QuorumMeetsSaid : Prop := quorumMeetsRow.holds Tryd.pinned (OpenSpec.ofChange quorumMeetsSpec)

/-- ITS FALSE NEIGHBOUR: 'it returns false'. Refute it at one input. -/
def quorumMeetsWrong : ChangeSpec := { name := "quorumMeets", fn := fun _ => fun
  | [d1, d2, d3] => { results := [.lit (.bool false)], args := [d1, d2, d3] }
  | _ => none }
def QuorumMeetsWrongFalsely : Prop := quorumMeetsRow.holds Tryd.pinned (OpenSpec.ofChange quorumMeetsWrong)

/-- 'shardkeeplaw1.CoderDecodes': WHATEVER THE INPUT: true; the input reads as it did. -/
def coderDecodesSpec : ChangeSpec := { name := "coderDecodes", fn := fun _ => fun
  | [d1, d2, d3, d4, d5] => { results := [.lit (.bool true)], args := [d1, d2, d3, d4, d5] }
  | _ => none }
def coderDecodesRow : OpenClaim := { program := "ytmaalkjimppnkaadoor", sum := "70e91f9079d27e4bc9a7b44a8fc84fd3c38af1e005ed3bf7fd4471cc7a603a34", func := "shardkeep/shardkeeplaw1.CoderDecodes", spec := "coderDecodes", inPlace := ["internal/abi.NoEscape", "internal/bytealg.MakeNoZero", "internal/reflectlite.ValueOf", "(internal/reflectlite.Value).Type", "(internal/reflectlite.Value).IsNil", "internal/reflectlite.TypeOf", "(internal/reflectlite.Value).Elem", "(internal/reflectlite.Value).Set"], unfollowed := true, recurses := true, named := ["shardkeep/api.ErrBound", "shardkeep/api.ErrZero", "shardkeep/api.ErrShape", "shardkeep/api.ErrFew", "shardkeep/api.ErrText", "shardkeep/api.ErrName", "shardkeep/api.ErrNone", "shardkeep/api.ErrExist", "shardkeep/api.ErrFull", "shardkeep/api.ErrSum", "shardkeep/api.ErrOld", "shardkeep/api.ErrHeld", "errors.errorType"], apart := false, laid := [("errors.errorType", laid_errors_errorType), ("shardkeep/api.ErrText", laid_shardkeep_api_ErrText), ("shardkeep/api.ErrBound", laid_shardkeep_api_ErrBound), ("shardkeep/api.ErrShape", laid_shardkeep_api_ErrShape), ("shardkeep/api.ErrName", laid_shardkeep_api_ErrName), ("shardkeep/api.ErrNone", laid_shardkeep_api_ErrNone), ("shardkeep/api.ErrExist", laid_shardkeep_api_ErrExist), ("shardkeep/api.ErrFull", laid_shardkeep_api_ErrFull), ("shardkeep/api.ErrFew", laid_shardkeep_api_ErrFew), ("shardkeep/api.ErrSum", laid_shardkeep_api_ErrSum), ("shardkeep/api.ErrOld", laid_shardkeep_api_ErrOld), ("shardkeep/api.ErrHeld", laid_shardkeep_api_ErrHeld), ("shardkeep/api.ErrZero", laid_shardkeep_api_ErrZero)] }
def CoderDecodesSaid : Prop := coderDecodesRow.holds Tryd.pinned (OpenSpec.ofChange coderDecodesSpec)

/-- ITS FALSE NEIGHBOUR: 'it returns false'. Refute it at one input. -/
def coderDecodesWrong : ChangeSpec := { name := "coderDecodes", fn := fun _ => fun
  | [d1, d2, d3, d4, d5] => { results := [.lit (.bool false)], args := [d1, d2, d3, d4, d5] }
  | _ => none }
def CoderDecodesWrongFalsely : Prop := coderDecodesRow.holds Tryd.pinned (OpenSpec.ofChange coderDecodesWrong)

/-- 'shardkeeplaw1.RingComes': WHATEVER THE INPUT: true; the input reads as it did. -/
def ringComesSpec : ChangeSpec := { name := "ringComes", fn := fun _ => fun
  | [d1, d2, d3, d4] => { results := [.lit (.bool true)], args := [d1, d2, d3, d4] }
  | _ => none }
def ringComesRow : OpenClaim := { program := "ytmaalkjimppnkaadoor", sum := "70e91f9079d27e4bc9a7b44a8fc84fd3c38af1e005ed3bf7fd4471cc7a603a34", func := "shardkeep/shardkeeplaw1.RingComes", spec := "ringComes", unfollowed := true, recurses := true, named := ["shardkeep/api.ErrFew", "shardkeep/api.ErrBound", "shardkeep/api.ErrName", "shardkeep/api.ErrExist", "internal/strconv.uint64pow10", "math/bits.deBruijn32tab", "math/bits.deBruijn64tab"], apart := false, laid := [("math/bits.deBruijn32tab", laid_math_bits_deBruijn32tab), ("math/bits.deBruijn64tab", laid_math_bits_deBruijn64tab), ("internal/strconv.uint64pow10", laid_internal_strconv_uint64pow10), ("shardkeep/api.ErrBound", laid_shardkeep_api_ErrBound), ("shardkeep/api.ErrName", laid_shardkeep_api_ErrName), ("shardkeep/api.ErrExist", laid_shardkeep_api_ErrExist), ("shardkeep/api.ErrFew", laid_shardkeep_api_ErrFew)] }
def RingComesSaid : Prop := ringComesRow.holds Tryd.pinned (OpenSpec.ofChange ringComesSpec)

/-- ITS FALSE NEIGHBOUR: 'it returns false'. Refute it at one input. -/
def ringComesWrong : ChangeSpec := { name := "ringComes", fn := fun _ => fun
  | [d1, d2, d3, d4] => { results := [.lit (.bool false)], args := [d1, d2, d3, d4] }
  | _ => none }
def RingComesWrongFalsely : Prop := ringComesRow.holds Tryd.pinned (OpenSpec.ofChange ringComesWrong)

/-- 'shardkeeplaw1.RingTurned': WHATEVER THE INPUT: true; the input reads as it did. -/
def ringTurnedSpec : ChangeSpec := { name := "ringTurned", fn := fun _ => fun
  | [d1, d2, d3, d4, d5] => { results := [.lit (.bool true)], args := [d1, d2, d3, d4, d5] }
  | _ => none }
def ringTurnedRow : OpenClaim := { program := "ytmaalkjimppnkaadoor", sum := "70e91f9079d27e4bc9a7b44a8fc84fd3c38af1e005ed3bf7fd4471cc7a603a34", func := "shardkeep/shardkeeplaw1.RingTurned", spec := "ringTurned", unfollowed := true, recurses := true, named := ["shardkeep/api.ErrFew", "shardkeep/api.ErrBound", "shardkeep/api.ErrName", "shardkeep/api.ErrExist", "internal/strconv.uint64pow10", "math/bits.deBruijn32tab", "math/bits.deBruijn64tab"], apart := false, laid := [("math/bits.deBruijn32tab", laid_math_bits_deBruijn32tab), ("math/bits.deBruijn64tab", laid_math_bits_deBruijn64tab), ("internal/strconv.uint64pow10", laid_internal_strconv_uint64pow10), ("shardkeep/api.ErrBound", laid_shardkeep_api_ErrBound), ("shardkeep/api.ErrName", laid_shardkeep_api_ErrName), ("shardkeep/api.ErrExist", laid_shardkeep_api_ErrExist), ("shardkeep/api.ErrFew", laid_shardkeep_api_ErrFew)] }
def RingTurnedSaid : Prop := ringTurnedRow.holds Tryd.pinned (OpenSpec.ofChange ringTurnedSpec)

/-- ITS FALSE NEIGHBOUR: 'it returns false'. Refute it at one input. -/
def ringTurnedWrong : ChangeSpec := { name := "ringTurned", fn := fun _ => fun
  | [d1, d2, d3, d4, d5] => { results := [.lit (.bool false)], args := [d1, d2, d3, d4, d5] }
  | _ => none }
def RingTurnedWrongFalsely : Prop := ringTurnedRow.holds Tryd.pinned (OpenSpec.ofChange ringTurnedWrong)

/-- 'shardkeeplaw2.HoldActs': WHATEVER THE INPUT: true; the input reads as it did. -/
def holdActsSpec : ChangeSpec := { name := "holdActs", fn := fun _ => fun
  | [d] => { results := [.lit (.bool true)], args := [d] }
  | _ => none }
def holdActsRow : OpenClaim := { program := "ytmaalkjimppnkaadoor", sum := "70e91f9079d27e4bc9a7b44a8fc84fd3c38af1e005ed3bf7fd4471cc7a603a34", func := "shardkeep/shardkeeplaw2.HoldActs", spec := "holdActs", inPlace := ["slices.overlaps[shardkeep/api.Version]", "internal/reflectlite.ValueOf", "(internal/reflectlite.Value).Type", "(internal/reflectlite.Value).IsNil", "internal/reflectlite.TypeOf", "(internal/reflectlite.Value).Elem", "(internal/reflectlite.Value).Set"], unfollowed := true, recurses := true, named := ["shardkeep/api.ErrOld", "shardkeep/api.ErrName", "shardkeep/api.ErrBound", "shardkeep/api.ErrExist", "shardkeep/api.ErrFull", "shardkeep/api.ErrText", "shardkeep/api.ErrShape", "shardkeep/api.ErrNone", "shardkeep/api.ErrFew", "shardkeep/api.ErrSum", "shardkeep/api.ErrHeld", "shardkeep/api.ErrZero", "errors.errorType"], apart := false, laid := [("errors.errorType", laid_errors_errorType), ("shardkeep/api.ErrText", laid_shardkeep_api_ErrText), ("shardkeep/api.ErrBound", laid_shardkeep_api_ErrBound), ("shardkeep/api.ErrShape", laid_shardkeep_api_ErrShape), ("shardkeep/api.ErrName", laid_shardkeep_api_ErrName), ("shardkeep/api.ErrNone", laid_shardkeep_api_ErrNone), ("shardkeep/api.ErrExist", laid_shardkeep_api_ErrExist), ("shardkeep/api.ErrFull", laid_shardkeep_api_ErrFull), ("shardkeep/api.ErrFew", laid_shardkeep_api_ErrFew), ("shardkeep/api.ErrSum", laid_shardkeep_api_ErrSum), ("shardkeep/api.ErrOld", laid_shardkeep_api_ErrOld), ("shardkeep/api.ErrHeld", laid_shardkeep_api_ErrHeld), ("shardkeep/api.ErrZero", laid_shardkeep_api_ErrZero)] }
def HoldActsSaid : Prop := holdActsRow.holds Tryd.pinned (OpenSpec.ofChange holdActsSpec)

/-- ITS FALSE NEIGHBOUR: 'it returns false'. Refute it at one input. -/
def holdActsWrong : ChangeSpec := { name := "holdActs", fn := fun _ => fun
  | [d] => { results := [.lit (.bool false)], args := [d] }
  | _ => none }
def HoldActsWrongFalsely : Prop := holdActsRow.holds Tryd.pinned (OpenSpec.ofChange holdActsWrong)

/- THE SECOND FORM. 'bulk': how many values and letters a reading holds, each counted each time it is reached (what is shared counts as often as it is met; a slice's spare places count too). A statement '..UptoSaid' is the law's where the arguments, and the package variables that the reading takes, are together of bulk at most 1048576: NARROWER than '..Said'. Prove '..Said' where nothing that the law and all that it calls make is longer than what came in: it says more and counts as full. Else prove '..UptoSaid'. A law counts once. -/
mutual
def uptoBulk {H : Type} : DataW H → Nat
  | .lit (.string bytes) => bytes.length + 1
  | .lit _ => 1
  | .nil => 1
  | .ptr d => uptoBulk d + 1
  | .slice elems spare => uptoBulkAll elems + uptoBulkAll spare + 1
  | .agg parts => uptoBulkAll parts + 1
  | .iface _ d => uptoBulk d + 1
  | .map entries => uptoBulkEntries entries + 1
  | .held _ => 1
def uptoBulkAll {H : Type} : List (DataW H) → Nat
  | [] => 0
  | d :: r => uptoBulk d + uptoBulkAll r
def uptoBulkEntries {H : Type} : List (Lit × DataW H) → Nat
  | [] => 0
  | x :: r => uptoBulkEntry x + uptoBulkEntries r
def uptoBulkEntry {H : Type} : Lit × DataW H → Nat
  | (.string bytes, d) => bytes.length + uptoBulk d + 1
  | (_, d) => uptoBulk d + 1
 end
def uptoSmall : (H : Type) → List (DataW H) → Bool := fun _ ds => decide (uptoBulkAll ds ≤ 1048576)
def OpenSpec.upto (s : _root_.Go.ChangeSpec) : _root_.Go.OpenSpec := { _root_.Go.OpenSpec.ofChange s with cond := some uptoSmall }

/-- 'shardkeeplaw2.QuorumTwo', WHERE WHAT IT READS IS OF BULK AT MOST 1048576: true; the input reads as it did. -/
def quorumTwoUptoRow : OpenClaim := { program := "ytmaalkjimppnkaadoor", sum := "70e91f9079d27e4bc9a7b44a8fc84fd3c38af1e005ed3bf7fd4471cc7a603a34", func := "shardkeep/shardkeeplaw2.QuorumTwo", spec := "quorumTwo", unfollowed := true, recurses := true, named := ["shardkeep/api.ErrShape", "shardkeep/api.ErrBound", "shardkeep/api.ErrZero", "shardkeep/api.ErrName", "shardkeep/api.ErrExist", "shardkeep/api.ErrNone"], apart := false, laid := [("shardkeep/api.ErrBound", laid_shardkeep_api_ErrBound), ("shardkeep/api.ErrShape", laid_shardkeep_api_ErrShape), ("shardkeep/api.ErrName", laid_shardkeep_api_ErrName), ("shardkeep/api.ErrNone", laid_shardkeep_api_ErrNone), ("shardkeep/api.ErrExist", laid_shardkeep_api_ErrExist), ("shardkeep/api.ErrZero", laid_shardkeep_api_ErrZero)], narrowed := true }
def QuorumTwoUptoSaid : Prop := quorumTwoUptoRow.holds Tryd.pinned (OpenSpec.upto quorumTwoSpec)

/-- 'shardkeeplaw2.HoldLess', WHERE WHAT IT READS IS OF BULK AT MOST 1048576: true; the input reads as it did. -/
def holdLessUptoRow : OpenClaim := { program := "ytmaalkjimppnkaadoor", sum := "70e91f9079d27e4bc9a7b44a8fc84fd3c38af1e005ed3bf7fd4471cc7a603a34", func := "shardkeep/shardkeeplaw2.HoldLess", spec := "holdLess", inPlace := ["slices.overlaps[shardkeep/api.Version]"], unfollowed := true, recurses := true, named := ["shardkeep/api.ErrOld", "shardkeep/api.ErrName", "shardkeep/api.ErrBound", "shardkeep/api.ErrExist", "shardkeep/api.ErrFull"], apart := false, laid := [("shardkeep/api.ErrBound", laid_shardkeep_api_ErrBound), ("shardkeep/api.ErrName", laid_shardkeep_api_ErrName), ("shardkeep/api.ErrExist", laid_shardkeep_api_ErrExist), ("shardkeep/api.ErrFull", laid_shardkeep_api_ErrFull), ("shardkeep/api.ErrOld", laid_shardkeep_api_ErrOld)], narrowed := true }
def HoldLessUptoSaid : Prop := holdLessUptoRow.holds Tryd.pinned (OpenSpec.upto holdLessSpec)

/-- 'shardkeeplaw2.WireCodes', WHERE WHAT IT READS IS OF BULK AT MOST 1048576: true; the input reads as it did. -/
def wireCodesUptoRow : OpenClaim := { program := "ytmaalkjimppnkaadoor", sum := "70e91f9079d27e4bc9a7b44a8fc84fd3c38af1e005ed3bf7fd4471cc7a603a34", func := "shardkeep/shardkeeplaw2.WireCodes", spec := "wireCodes", inPlace := ["internal/reflectlite.ValueOf", "(internal/reflectlite.Value).Type", "(internal/reflectlite.Value).IsNil", "internal/reflectlite.TypeOf", "(internal/reflectlite.Value).Elem", "(internal/reflectlite.Value).Set"], unfollowed := true, recurses := true, named := ["shardkeep/api.ErrFull", "shardkeep/api.ErrBound", "shardkeep/api.ErrText", "shardkeep/api.ErrSum", "shardkeep/api.ErrShape", "shardkeep/api.ErrName", "shardkeep/api.ErrNone", "shardkeep/api.ErrExist", "shardkeep/api.ErrFew", "shardkeep/api.ErrOld", "shardkeep/api.ErrHeld", "shardkeep/api.ErrZero", "errors.errorType"], apart := false, laid := [("errors.errorType", laid_errors_errorType), ("shardkeep/api.ErrText", laid_shardkeep_api_ErrText), ("shardkeep/api.ErrBound", laid_shardkeep_api_ErrBound), ("shardkeep/api.ErrShape", laid_shardkeep_api_ErrShape), ("shardkeep/api.ErrName", laid_shardkeep_api_ErrName), ("shardkeep/api.ErrNone", laid_shardkeep_api_ErrNone), ("shardkeep/api.ErrExist", laid_shardkeep_api_ErrExist), ("shardkeep/api.ErrFull", laid_shardkeep_api_ErrFull), ("shardkeep/api.ErrFew", laid_shardkeep_api_ErrFew), ("shardkeep/api.ErrSum", laid_shardkeep_api_ErrSum), ("shardkeep/api.ErrOld", laid_shardkeep_api_ErrOld), ("shardkeep/api.ErrHeld", laid_shardkeep_api_ErrHeld), ("shardkeep/api.ErrZero", laid_shardkeep_api_ErrZero)], narrowed := true }
def WireCodesUptoSaid : Prop := wireCodesUptoRow.holds Tryd.pinned (OpenSpec.upto wireCodesSpec)

/-- 'shardkeeplaw2.WireReads', WHERE WHAT IT READS IS OF BULK AT MOST 1048576: true; the input reads as it did. -/
def wireReadsUptoRow : OpenClaim := { program := "ytmaalkjimppnkaadoor", sum := "70e91f9079d27e4bc9a7b44a8fc84fd3c38af1e005ed3bf7fd4471cc7a603a34", func := "shardkeep/shardkeeplaw2.WireReads", spec := "wireReads", inPlace := ["internal/reflectlite.ValueOf", "(internal/reflectlite.Value).Type", "(internal/reflectlite.Value).IsNil", "internal/reflectlite.TypeOf", "(internal/reflectlite.Value).Elem", "(internal/reflectlite.Value).Set"], unfollowed := true, recurses := true, named := ["shardkeep/api.ErrFull", "shardkeep/api.ErrBound", "shardkeep/api.ErrText", "shardkeep/api.ErrSum", "shardkeep/api.ErrShape", "shardkeep/api.ErrName", "shardkeep/api.ErrNone", "shardkeep/api.ErrExist", "shardkeep/api.ErrFew", "shardkeep/api.ErrOld", "shardkeep/api.ErrHeld", "shardkeep/api.ErrZero", "errors.errorType"], apart := false, laid := [("errors.errorType", laid_errors_errorType), ("shardkeep/api.ErrText", laid_shardkeep_api_ErrText), ("shardkeep/api.ErrBound", laid_shardkeep_api_ErrBound), ("shardkeep/api.ErrShape", laid_shardkeep_api_ErrShape), ("shardkeep/api.ErrName", laid_shardkeep_api_ErrName), ("shardkeep/api.ErrNone", laid_shardkeep_api_ErrNone), ("shardkeep/api.ErrExist", laid_shardkeep_api_ErrExist), ("shardkeep/api.ErrFull", laid_shardkeep_api_ErrFull), ("shardkeep/api.ErrFew", laid_shardkeep_api_ErrFew), ("shardkeep/api.ErrSum", laid_shardkeep_api_ErrSum), ("shardkeep/api.ErrOld", laid_shardkeep_api_ErrOld), ("shardkeep/api.ErrHeld", laid_shardkeep_api_ErrHeld), ("shardkeep/api.ErrZero", laid_shardkeep_api_ErrZero)], narrowed := true }
def WireReadsUptoSaid : Prop := wireReadsUptoRow.holds Tryd.pinned (OpenSpec.upto wireReadsSpec)

/-- 'shardkeeplaw2.ServeSeals', WHERE WHAT IT READS IS OF BULK AT MOST 1048576: true; the input reads as it did. -/
def serveSealsUptoRow : OpenClaim := { program := "ytmaalkjimppnkaadoor", sum := "70e91f9079d27e4bc9a7b44a8fc84fd3c38af1e005ed3bf7fd4471cc7a603a34", func := "shardkeep/shardkeeplaw2.ServeSeals", spec := "serveSeals", inPlace := ["slices.overlaps[shardkeep/api.Version]", "internal/reflectlite.TypeOf"], unfollowed := true, recurses := true, named := ["shardkeep/api.ErrName", "shardkeep/api.ErrOld", "shardkeep/api.ErrBound", "shardkeep/api.ErrExist", "shardkeep/api.ErrFull"], apart := false, laid := [("shardkeep/api.ErrBound", laid_shardkeep_api_ErrBound), ("shardkeep/api.ErrName", laid_shardkeep_api_ErrName), ("shardkeep/api.ErrExist", laid_shardkeep_api_ErrExist), ("shardkeep/api.ErrFull", laid_shardkeep_api_ErrFull), ("shardkeep/api.ErrOld", laid_shardkeep_api_ErrOld)], narrowed := true }
def ServeSealsUptoSaid : Prop := serveSealsUptoRow.holds Tryd.pinned (OpenSpec.upto serveSealsSpec)

/-- 'shardkeeplaw2.QuorumMeets', WHERE WHAT IT READS IS OF BULK AT MOST 1048576: true; the input reads as it did. -/
def quorumMeetsUptoRow : OpenClaim := { program := "ytmaalkjimppnkaadoor", sum := "70e91f9079d27e4bc9a7b44a8fc84fd3c38af1e005ed3bf7fd4471cc7a603a34", func := "shardkeep/shardkeeplaw2.QuorumMeets", spec := "quorumMeets", inPlace := ["internal/reflectlite.ValueOf", "(internal/reflectlite.Value).Type", "(internal/reflectlite.Value).IsNil", "internal/reflectlite.TypeOf", "(internal/reflectlite.Value).Elem", "(internal/reflectlite.Value).Set"], unfollowed := true, recurses := true, named := ["shardkeep/api.ErrShape", "shardkeep/api.ErrBound", "shardkeep/api.ErrZero", "shardkeep/api.ErrName", "shardkeep/api.ErrExist", "shardkeep/api.ErrText", "shardkeep/api.ErrNone", "shardkeep/api.ErrFull", "shardkeep/api.ErrFew", "shardkeep/api.ErrSum", "shardkeep/api.ErrOld", "shardkeep/api.ErrHeld", "errors.errorType"], apart := false, laid := [("errors.errorType", laid_errors_errorType), ("shardkeep/api.ErrText", laid_shardkeep_api_ErrText), ("shardkeep/api.ErrBound", laid_shardkeep_api_ErrBound), ("shardkeep/api.ErrShape", laid_shardkeep_api_ErrShape), ("shardkeep/api.ErrName", laid_shardkeep_api_ErrName), ("shardkeep/api.ErrNone", laid_shardkeep_api_ErrNone), ("shardkeep/api.ErrExist", laid_shardkeep_api_ErrExist), ("shardkeep/api.ErrFull", laid_shardkeep_api_ErrFull), ("shardkeep/api.ErrFew", laid_shardkeep_api_ErrFew), ("shardkeep/api.ErrSum", laid_shardkeep_api_ErrSum), ("shardkeep/api.ErrOld", laid_shardkeep_api_ErrOld), ("shardkeep/api.ErrHeld", laid_shardkeep_api_ErrHeld), ("shardkeep/api.ErrZero", laid_shardkeep_api_ErrZero)], narrowed := true }
def QuorumMeetsUptoSaid : Prop := quorumMeetsUptoRow.holds Tryd.pinned (OpenSpec.upto quorumMeetsSpec)

/-- 'shardkeeplaw1.CoderDecodes', WHERE WHAT IT READS IS OF BULK AT MOST 1048576: true; the input reads as it did. -/
def coderDecodesUptoRow : OpenClaim := { program := "ytmaalkjimppnkaadoor", sum := "70e91f9079d27e4bc9a7b44a8fc84fd3c38af1e005ed3bf7fd4471cc7a603a34", func := "shardkeep/shardkeeplaw1.CoderDecodes", spec := "coderDecodes", inPlace := ["internal/abi.NoEscape", "internal/bytealg.MakeNoZero", "internal/reflectlite.ValueOf", "(internal/reflectlite.Value).Type", "(internal/reflectlite.Value).IsNil", "internal/reflectlite.TypeOf", "(internal/reflectlite.Value).Elem", "(internal/reflectlite.Value).Set"], unfollowed := true, recurses := true, named := ["shardkeep/api.ErrBound", "shardkeep/api.ErrZero", "shardkeep/api.ErrShape", "shardkeep/api.ErrFew", "shardkeep/api.ErrText", "shardkeep/api.ErrName", "shardkeep/api.ErrNone", "shardkeep/api.ErrExist", "shardkeep/api.ErrFull", "shardkeep/api.ErrSum", "shardkeep/api.ErrOld", "shardkeep/api.ErrHeld", "errors.errorType"], apart := false, laid := [("errors.errorType", laid_errors_errorType), ("shardkeep/api.ErrText", laid_shardkeep_api_ErrText), ("shardkeep/api.ErrBound", laid_shardkeep_api_ErrBound), ("shardkeep/api.ErrShape", laid_shardkeep_api_ErrShape), ("shardkeep/api.ErrName", laid_shardkeep_api_ErrName), ("shardkeep/api.ErrNone", laid_shardkeep_api_ErrNone), ("shardkeep/api.ErrExist", laid_shardkeep_api_ErrExist), ("shardkeep/api.ErrFull", laid_shardkeep_api_ErrFull), ("shardkeep/api.ErrFew", laid_shardkeep_api_ErrFew), ("shardkeep/api.ErrSum", laid_shardkeep_api_ErrSum), ("shardkeep/api.ErrOld", laid_shardkeep_api_ErrOld), ("shardkeep/api.ErrHeld", laid_shardkeep_api_ErrHeld), ("shardkeep/api.ErrZero", laid_shardkeep_api_ErrZero)], narrowed := true }
def CoderDecodesUptoSaid : Prop := coderDecodesUptoRow.holds Tryd.pinned (OpenSpec.upto coderDecodesSpec)

/-- 'shardkeeplaw1.RingComes', WHERE WHAT IT READS IS OF BULK AT MOST 1048576: true; the input reads as it did. -/
def ringComesUptoRow : OpenClaim := { program := "ytmaalkjimppnkaadoor", sum := "70e91f9079d27e4bc9a7b44a8fc84fd3c38af1e005ed3bf7fd4471cc7a603a34", func := "shardkeep/shardkeeplaw1.RingComes", spec := "ringComes", unfollowed := true, recurses := true, named := ["shardkeep/api.ErrFew", "shardkeep/api.ErrBound", "shardkeep/api.ErrName", "shardkeep/api.ErrExist", "internal/strconv.uint64pow10", "math/bits.deBruijn32tab", "math/bits.deBruijn64tab"], apart := false, laid := [("math/bits.deBruijn32tab", laid_math_bits_deBruijn32tab), ("math/bits.deBruijn64tab", laid_math_bits_deBruijn64tab), ("internal/strconv.uint64pow10", laid_internal_strconv_uint64pow10), ("shardkeep/api.ErrBound", laid_shardkeep_api_ErrBound), ("shardkeep/api.ErrName", laid_shardkeep_api_ErrName), ("shardkeep/api.ErrExist", laid_shardkeep_api_ErrExist), ("shardkeep/api.ErrFew", laid_shardkeep_api_ErrFew)], narrowed := true }
def RingComesUptoSaid : Prop := ringComesUptoRow.holds Tryd.pinned (OpenSpec.upto ringComesSpec)

/-- 'shardkeeplaw1.RingTurned', WHERE WHAT IT READS IS OF BULK AT MOST 1048576: true; the input reads as it did. -/
def ringTurnedUptoRow : OpenClaim := { program := "ytmaalkjimppnkaadoor", sum := "70e91f9079d27e4bc9a7b44a8fc84fd3c38af1e005ed3bf7fd4471cc7a603a34", func := "shardkeep/shardkeeplaw1.RingTurned", spec := "ringTurned", unfollowed := true, recurses := true, named := ["shardkeep/api.ErrFew", "shardkeep/api.ErrBound", "shardkeep/api.ErrName", "shardkeep/api.ErrExist", "internal/strconv.uint64pow10", "math/bits.deBruijn32tab", "math/bits.deBruijn64tab"], apart := false, laid := [("math/bits.deBruijn32tab", laid_math_bits_deBruijn32tab), ("math/bits.deBruijn64tab", laid_math_bits_deBruijn64tab), ("internal/strconv.uint64pow10", laid_internal_strconv_uint64pow10), ("shardkeep/api.ErrBound", laid_shardkeep_api_ErrBound), ("shardkeep/api.ErrName", laid_shardkeep_api_ErrName), ("shardkeep/api.ErrExist", laid_shardkeep_api_ErrExist), ("shardkeep/api.ErrFew", laid_shardkeep_api_ErrFew)], narrowed := true }
def RingTurnedUptoSaid : Prop := ringTurnedUptoRow.holds Tryd.pinned (OpenSpec.upto ringTurnedSpec)

/-- 'shardkeeplaw2.HoldActs', WHERE WHAT IT READS IS OF BULK AT MOST 1048576: true; the input reads as it did. -/
def holdActsUptoRow : OpenClaim := { program := "ytmaalkjimppnkaadoor", sum := "70e91f9079d27e4bc9a7b44a8fc84fd3c38af1e005ed3bf7fd4471cc7a603a34", func := "shardkeep/shardkeeplaw2.HoldActs", spec := "holdActs", inPlace := ["slices.overlaps[shardkeep/api.Version]", "internal/reflectlite.ValueOf", "(internal/reflectlite.Value).Type", "(internal/reflectlite.Value).IsNil", "internal/reflectlite.TypeOf", "(internal/reflectlite.Value).Elem", "(internal/reflectlite.Value).Set"], unfollowed := true, recurses := true, named := ["shardkeep/api.ErrOld", "shardkeep/api.ErrName", "shardkeep/api.ErrBound", "shardkeep/api.ErrExist", "shardkeep/api.ErrFull", "shardkeep/api.ErrText", "shardkeep/api.ErrShape", "shardkeep/api.ErrNone", "shardkeep/api.ErrFew", "shardkeep/api.ErrSum", "shardkeep/api.ErrHeld", "shardkeep/api.ErrZero", "errors.errorType"], apart := false, laid := [("errors.errorType", laid_errors_errorType), ("shardkeep/api.ErrText", laid_shardkeep_api_ErrText), ("shardkeep/api.ErrBound", laid_shardkeep_api_ErrBound), ("shardkeep/api.ErrShape", laid_shardkeep_api_ErrShape), ("shardkeep/api.ErrName", laid_shardkeep_api_ErrName), ("shardkeep/api.ErrNone", laid_shardkeep_api_ErrNone), ("shardkeep/api.ErrExist", laid_shardkeep_api_ErrExist), ("shardkeep/api.ErrFull", laid_shardkeep_api_ErrFull), ("shardkeep/api.ErrFew", laid_shardkeep_api_ErrFew), ("shardkeep/api.ErrSum", laid_shardkeep_api_ErrSum), ("shardkeep/api.ErrOld", laid_shardkeep_api_ErrOld), ("shardkeep/api.ErrHeld", laid_shardkeep_api_ErrHeld), ("shardkeep/api.ErrZero", laid_shardkeep_api_ErrZero)], narrowed := true }
def HoldActsUptoSaid : Prop := holdActsUptoRow.holds Tryd.pinned (OpenSpec.upto holdActsSpec)

end Rows
end Go.Proofs.YtmaalkjimppnkaaDoor
