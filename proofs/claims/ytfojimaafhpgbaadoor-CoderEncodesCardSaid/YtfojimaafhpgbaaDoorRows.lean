/-
  NARROWER THAN 'FOR EVERY INPUT', by the rows' own cells (each row's printed sentence says how): FieldTwo: laid · FieldThrough: laid · MatrixAny: laid · Names: laid · SumsCRC: laid · SumsBurst: laid · FieldPow: laid · FieldMul: laid · FieldLaws: laid · FieldEval: laid · MatrixInverts: laid · MatrixTimes: laid · CoderSums: laid · MatrixSpread: laid · CoderWrong: laid · CoderAny: laid · CoderEncodes: laid · CoderDecodes: laid.
  DERIVED. THE GIVEN ROWS OF THIS SEAT. 18 by the template 'for every input the law returns true; each argument reads behind the call as it read before'; 0 by the template 'total and deterministic' (their statements: YtfojimaafhpgbaaDoorTotals.lean).
  GIVEN WITH THE SEED: the statements are not yours to turn. If you find one false, say at which input.
  Laid BY PROGRAM, IN A SANDBOX (cutbox-rows.mjs): the forced cells as the released guide's own fill.sh prints them over the translation 933a043f61b8711e… (all of the seat's roots in one cut). By AI agents, Wed Nov 11 2026. No macro, syntax, notation, axiom, sorry.
-/
import Derived.Test.YtfojimaafhpgbaaDoorChecked
import GoSem.Claim
import GoSem.ClaimJoined
import GoSem.ClaimMapViews
import Derived.JoinedTies
import Derived.KernelRfl
namespace Go.Proofs.YtfojimaafhpgbaaDoor
/- THE CELL 'sum', in the pinned program and in every row, IS THE sha256 OF THE DUMP (.gsa) THAT YtfojimaafhpgbaaDoorProg.lean LOADS. Nothing in Lean hashes anything: it is a label: what it is worth is what the hold of that sum in a sandbox is worth. -/
noncomputable def Tryd.pinned : Pinned := { name := "ytfojimaafhpgbaadoor", sum := "933a043f61b8711efabdaaa4abd944d89e81a515d12e668596117e78c3d28742", checked := Tryd.checked }
namespace Rows
def none {H : Type} : Left H := { results := [], args := [] }

/- WHAT THE LISTED PACKAGE-LEVEL VARIABLES READ AS WHEN THE CALL BEGINS. Each datum BY PROGRAM (the guide's laid-datum.mjs) off the statement by which the dump's own 'gosem.cut.vars' lays the variable. In a bare row this is a premise. The card (YtfojimaafhpgbaaDoorCards.lean) ties it to the program's text. -/
def laid_shardkeep_api_ErrZero {H : Type} : DataW H := .iface "*errors.errorString" (.ptr (.agg [.lit (.string [115, 104, 97, 114, 100, 107, 101, 101, 112, 58, 32, 122, 101, 114, 111])]))
def laid_shardkeep_api_ErrShape {H : Type} : DataW H := .iface "*errors.errorString" (.ptr (.agg [.lit (.string [115, 104, 97, 114, 100, 107, 101, 101, 112, 58, 32, 115, 104, 97, 112, 101])]))
def laid_shardkeep_api_ErrExist {H : Type} : DataW H := .iface "*errors.errorString" (.ptr (.agg [.lit (.string [115, 104, 97, 114, 100, 107, 101, 101, 112, 58, 32, 101, 120, 105, 115, 116])]))
def laid_shardkeep_api_ErrBound {H : Type} : DataW H := .iface "*errors.errorString" (.ptr (.agg [.lit (.string [115, 104, 97, 114, 100, 107, 101, 101, 112, 58, 32, 98, 111, 117, 110, 100])]))
def laid_errors_errorType {H : Type} : DataW H := .iface "internal/reflectlite.rtype" (.agg [.ptr (.lit (.string [101, 114, 114, 111, 114]))])
def laid_shardkeep_api_ErrText {H : Type} : DataW H := .iface "*errors.errorString" (.ptr (.agg [.lit (.string [115, 104, 97, 114, 100, 107, 101, 101, 112, 58, 32, 116, 101, 120, 116])]))
def laid_shardkeep_api_ErrName {H : Type} : DataW H := .iface "*errors.errorString" (.ptr (.agg [.lit (.string [115, 104, 97, 114, 100, 107, 101, 101, 112, 58, 32, 110, 97, 109, 101])]))
def laid_shardkeep_api_ErrNone {H : Type} : DataW H := .iface "*errors.errorString" (.ptr (.agg [.lit (.string [115, 104, 97, 114, 100, 107, 101, 101, 112, 58, 32, 110, 111, 110, 101])]))
def laid_shardkeep_api_ErrFull {H : Type} : DataW H := .iface "*errors.errorString" (.ptr (.agg [.lit (.string [115, 104, 97, 114, 100, 107, 101, 101, 112, 58, 32, 102, 117, 108, 108])]))
def laid_shardkeep_api_ErrFew {H : Type} : DataW H := .iface "*errors.errorString" (.ptr (.agg [.lit (.string [115, 104, 97, 114, 100, 107, 101, 101, 112, 58, 32, 102, 101, 119])]))
def laid_shardkeep_api_ErrSum {H : Type} : DataW H := .iface "*errors.errorString" (.ptr (.agg [.lit (.string [115, 104, 97, 114, 100, 107, 101, 101, 112, 58, 32, 115, 117, 109])]))
def laid_shardkeep_api_ErrOld {H : Type} : DataW H := .iface "*errors.errorString" (.ptr (.agg [.lit (.string [115, 104, 97, 114, 100, 107, 101, 101, 112, 58, 32, 111, 108, 100])]))
def laid_shardkeep_api_ErrHeld {H : Type} : DataW H := .iface "*errors.errorString" (.ptr (.agg [.lit (.string [115, 104, 97, 114, 100, 107, 101, 101, 112, 58, 32, 104, 101, 108, 100])]))

/-- 'shardkeeplaw1.FieldTwo': WHATEVER THE INPUT: true; the input reads as it did. -/
def fieldTwoSpec : ChangeSpec := { name := "fieldTwo", fn := fun _ => fun
  | [d1, d2] => { results := [.lit (.bool true)], args := [d1, d2] }
  | _ => none }
def fieldTwoRow : OpenClaim := { program := "ytfojimaafhpgbaadoor", sum := "933a043f61b8711efabdaaa4abd944d89e81a515d12e668596117e78c3d28742", func := "shardkeep/shardkeeplaw1.FieldTwo", spec := "fieldTwo", named := ["shardkeep/api.ErrZero"], apart := false, laid := [("shardkeep/api.ErrZero", laid_shardkeep_api_ErrZero)] }
def FieldTwoSaid : Prop := fieldTwoRow.holds Tryd.pinned (OpenSpec.ofChange fieldTwoSpec)

/-- ITS FALSE NEIGHBOUR: 'it returns false'. Refute it at one input. -/
def fieldTwoWrong : ChangeSpec := { name := "fieldTwo", fn := fun _ => fun
  | [d1, d2] => { results := [.lit (.bool false)], args := [d1, d2] }
  | _ => none }
def FieldTwoWrongFalsely : Prop := fieldTwoRow.holds Tryd.pinned (OpenSpec.ofChange fieldTwoWrong)

/-- 'shardkeeplaw1.FieldThrough': WHATEVER THE INPUT: true; the input reads as it did. -/
def fieldThroughSpec : ChangeSpec := { name := "fieldThrough", fn := fun _ => fun
  | [d1, d2, d3] => { results := [.lit (.bool true)], args := [d1, d2, d3] }
  | _ => none }
def fieldThroughRow : OpenClaim := { program := "ytfojimaafhpgbaadoor", sum := "933a043f61b8711efabdaaa4abd944d89e81a515d12e668596117e78c3d28742", func := "shardkeep/shardkeeplaw1.FieldThrough", spec := "fieldThrough", unfollowed := true, recurses := true, named := ["shardkeep/api.ErrShape", "shardkeep/api.ErrExist", "shardkeep/api.ErrZero"], apart := false, laid := [("shardkeep/api.ErrShape", laid_shardkeep_api_ErrShape), ("shardkeep/api.ErrExist", laid_shardkeep_api_ErrExist), ("shardkeep/api.ErrZero", laid_shardkeep_api_ErrZero)] }
def FieldThroughSaid : Prop := fieldThroughRow.holds Tryd.pinned (OpenSpec.ofChange fieldThroughSpec)

/-- ITS FALSE NEIGHBOUR: 'it returns false'. Refute it at one input. -/
def fieldThroughWrong : ChangeSpec := { name := "fieldThrough", fn := fun _ => fun
  | [d1, d2, d3] => { results := [.lit (.bool false)], args := [d1, d2, d3] }
  | _ => none }
def FieldThroughWrongFalsely : Prop := fieldThroughRow.holds Tryd.pinned (OpenSpec.ofChange fieldThroughWrong)

/-- 'shardkeeplaw1.MatrixAny': WHATEVER THE INPUT: true; the input reads as it did. -/
def matrixAnySpec : ChangeSpec := { name := "matrixAny", fn := fun _ => fun
  | [d1, d2, d3] => { results := [.lit (.bool true)], args := [d1, d2, d3] }
  | _ => none }
def matrixAnyRow : OpenClaim := { program := "ytfojimaafhpgbaadoor", sum := "933a043f61b8711efabdaaa4abd944d89e81a515d12e668596117e78c3d28742", func := "shardkeep/shardkeeplaw1.MatrixAny", spec := "matrixAny", unfollowed := true, recurses := true, named := ["shardkeep/api.ErrShape", "shardkeep/api.ErrZero", "shardkeep/api.ErrBound"], apart := false, laid := [("shardkeep/api.ErrBound", laid_shardkeep_api_ErrBound), ("shardkeep/api.ErrShape", laid_shardkeep_api_ErrShape), ("shardkeep/api.ErrZero", laid_shardkeep_api_ErrZero)] }
def MatrixAnySaid : Prop := matrixAnyRow.holds Tryd.pinned (OpenSpec.ofChange matrixAnySpec)

/-- ITS FALSE NEIGHBOUR: 'it returns false'. Refute it at one input. -/
def matrixAnyWrong : ChangeSpec := { name := "matrixAny", fn := fun _ => fun
  | [d1, d2, d3] => { results := [.lit (.bool false)], args := [d1, d2, d3] }
  | _ => none }
def MatrixAnyWrongFalsely : Prop := matrixAnyRow.holds Tryd.pinned (OpenSpec.ofChange matrixAnyWrong)

/-- 'shardkeeplaw1.Names': WHATEVER THE INPUT: true; the input reads as it did. -/
def namesSpec : ChangeSpec := { name := "names", fn := fun _ => fun
  | [] => { results := [.lit (.bool true)], args := [] }
  | _ => none }
def namesRow : OpenClaim := { program := "ytfojimaafhpgbaadoor", sum := "933a043f61b8711efabdaaa4abd944d89e81a515d12e668596117e78c3d28742", func := "shardkeep/shardkeeplaw1.Names", spec := "names", inPlace := ["internal/reflectlite.ValueOf", "(internal/reflectlite.Value).Type", "(internal/reflectlite.Value).IsNil", "internal/reflectlite.TypeOf", "(internal/reflectlite.Value).Elem", "(internal/reflectlite.Value).Set"], unfollowed := true, recurses := true, named := ["shardkeep/api.ErrText", "shardkeep/api.ErrBound", "shardkeep/api.ErrShape", "shardkeep/api.ErrName", "shardkeep/api.ErrNone", "shardkeep/api.ErrExist", "shardkeep/api.ErrFull", "shardkeep/api.ErrFew", "shardkeep/api.ErrSum", "shardkeep/api.ErrOld", "shardkeep/api.ErrHeld", "shardkeep/api.ErrZero", "errors.errorType"], apart := false, laid := [("errors.errorType", laid_errors_errorType), ("shardkeep/api.ErrText", laid_shardkeep_api_ErrText), ("shardkeep/api.ErrBound", laid_shardkeep_api_ErrBound), ("shardkeep/api.ErrShape", laid_shardkeep_api_ErrShape), ("shardkeep/api.ErrName", laid_shardkeep_api_ErrName), ("shardkeep/api.ErrNone", laid_shardkeep_api_ErrNone), ("shardkeep/api.ErrExist", laid_shardkeep_api_ErrExist), ("shardkeep/api.ErrFull", laid_shardkeep_api_ErrFull), ("shardkeep/api.ErrFew", laid_shardkeep_api_ErrFew), ("shardkeep/api.ErrSum", laid_shardkeep_api_ErrSum), ("shardkeep/api.ErrOld", laid_shardkeep_api_ErrOld), ("shardkeep/api.ErrHeld", laid_shardkeep_api_ErrHeld), ("shardkeep/api.ErrZero", laid_shardkeep_api_ErrZero)] }
def NamesSaid : Prop := namesRow.holds Tryd.pinned (OpenSpec.ofChange namesSpec)

/-- ITS FALSE NEIGHBOUR: 'it returns false'. Refute it at one input. -/
def namesWrong : ChangeSpec := { name := "names", fn := fun _ => fun
  | [] => { results := [.lit (.bool false)], args := [] }
  | _ => none }
def NamesWrongFalsely : Prop := namesRow.holds Tryd.pinned (OpenSpec.ofChange namesWrong)

/-- 'shardkeeplaw1.SumsCRC': WHATEVER THE INPUT: true; the input reads as it did. -/
def sumsCRCSpec : ChangeSpec := { name := "sumsCRC", fn := fun _ => fun
  | [d] => { results := [.lit (.bool true)], args := [d] }
  | _ => none }
def sumsCRCRow : OpenClaim := { program := "ytfojimaafhpgbaadoor", sum := "933a043f61b8711efabdaaa4abd944d89e81a515d12e668596117e78c3d28742", func := "shardkeep/shardkeeplaw1.SumsCRC", spec := "sumsCRC", inPlace := ["internal/reflectlite.ValueOf", "(internal/reflectlite.Value).Type", "(internal/reflectlite.Value).IsNil", "internal/reflectlite.TypeOf", "(internal/reflectlite.Value).Elem", "(internal/reflectlite.Value).Set"], unfollowed := true, recurses := true, named := ["shardkeep/api.ErrText", "shardkeep/api.ErrSum", "shardkeep/api.ErrBound", "shardkeep/api.ErrShape", "shardkeep/api.ErrName", "shardkeep/api.ErrNone", "shardkeep/api.ErrExist", "shardkeep/api.ErrFull", "shardkeep/api.ErrFew", "shardkeep/api.ErrOld", "shardkeep/api.ErrHeld", "shardkeep/api.ErrZero", "errors.errorType"], apart := false, laid := [("errors.errorType", laid_errors_errorType), ("shardkeep/api.ErrText", laid_shardkeep_api_ErrText), ("shardkeep/api.ErrBound", laid_shardkeep_api_ErrBound), ("shardkeep/api.ErrShape", laid_shardkeep_api_ErrShape), ("shardkeep/api.ErrName", laid_shardkeep_api_ErrName), ("shardkeep/api.ErrNone", laid_shardkeep_api_ErrNone), ("shardkeep/api.ErrExist", laid_shardkeep_api_ErrExist), ("shardkeep/api.ErrFull", laid_shardkeep_api_ErrFull), ("shardkeep/api.ErrFew", laid_shardkeep_api_ErrFew), ("shardkeep/api.ErrSum", laid_shardkeep_api_ErrSum), ("shardkeep/api.ErrOld", laid_shardkeep_api_ErrOld), ("shardkeep/api.ErrHeld", laid_shardkeep_api_ErrHeld), ("shardkeep/api.ErrZero", laid_shardkeep_api_ErrZero)] }
def SumsCRCSaid : Prop := sumsCRCRow.holds Tryd.pinned (OpenSpec.ofChange sumsCRCSpec)

/-- ITS FALSE NEIGHBOUR: 'it returns false'. Refute it at one input. -/
def sumsCRCWrong : ChangeSpec := { name := "sumsCRC", fn := fun _ => fun
  | [d] => { results := [.lit (.bool false)], args := [d] }
  | _ => none }
def SumsCRCWrongFalsely : Prop := sumsCRCRow.holds Tryd.pinned (OpenSpec.ofChange sumsCRCWrong)

/-- 'shardkeeplaw1.SumsBurst': WHATEVER THE INPUT: true; the input reads as it did. -/
def sumsBurstSpec : ChangeSpec := { name := "sumsBurst", fn := fun _ => fun
  | [d1, d2, d3] => { results := [.lit (.bool true)], args := [d1, d2, d3] }
  | _ => none }
def sumsBurstRow : OpenClaim := { program := "ytfojimaafhpgbaadoor", sum := "933a043f61b8711efabdaaa4abd944d89e81a515d12e668596117e78c3d28742", func := "shardkeep/shardkeeplaw1.SumsBurst", spec := "sumsBurst", inPlace := ["internal/reflectlite.ValueOf", "(internal/reflectlite.Value).Type", "(internal/reflectlite.Value).IsNil", "internal/reflectlite.TypeOf", "(internal/reflectlite.Value).Elem", "(internal/reflectlite.Value).Set"], unfollowed := true, recurses := true, named := ["shardkeep/api.ErrText", "shardkeep/api.ErrSum", "shardkeep/api.ErrBound", "shardkeep/api.ErrShape", "shardkeep/api.ErrName", "shardkeep/api.ErrNone", "shardkeep/api.ErrExist", "shardkeep/api.ErrFull", "shardkeep/api.ErrFew", "shardkeep/api.ErrOld", "shardkeep/api.ErrHeld", "shardkeep/api.ErrZero", "errors.errorType"], apart := false, laid := [("errors.errorType", laid_errors_errorType), ("shardkeep/api.ErrText", laid_shardkeep_api_ErrText), ("shardkeep/api.ErrBound", laid_shardkeep_api_ErrBound), ("shardkeep/api.ErrShape", laid_shardkeep_api_ErrShape), ("shardkeep/api.ErrName", laid_shardkeep_api_ErrName), ("shardkeep/api.ErrNone", laid_shardkeep_api_ErrNone), ("shardkeep/api.ErrExist", laid_shardkeep_api_ErrExist), ("shardkeep/api.ErrFull", laid_shardkeep_api_ErrFull), ("shardkeep/api.ErrFew", laid_shardkeep_api_ErrFew), ("shardkeep/api.ErrSum", laid_shardkeep_api_ErrSum), ("shardkeep/api.ErrOld", laid_shardkeep_api_ErrOld), ("shardkeep/api.ErrHeld", laid_shardkeep_api_ErrHeld), ("shardkeep/api.ErrZero", laid_shardkeep_api_ErrZero)] }
def SumsBurstSaid : Prop := sumsBurstRow.holds Tryd.pinned (OpenSpec.ofChange sumsBurstSpec)

/-- ITS FALSE NEIGHBOUR: 'it returns false'. Refute it at one input. -/
def sumsBurstWrong : ChangeSpec := { name := "sumsBurst", fn := fun _ => fun
  | [d1, d2, d3] => { results := [.lit (.bool false)], args := [d1, d2, d3] }
  | _ => none }
def SumsBurstWrongFalsely : Prop := sumsBurstRow.holds Tryd.pinned (OpenSpec.ofChange sumsBurstWrong)

/-- 'shardkeeplaw1.FieldPow': WHATEVER THE INPUT: true; the input reads as it did. -/
def fieldPowSpec : ChangeSpec := { name := "fieldPow", fn := fun _ => fun
  | [d1, d2] => { results := [.lit (.bool true)], args := [d1, d2] }
  | _ => none }
def fieldPowRow : OpenClaim := { program := "ytfojimaafhpgbaadoor", sum := "933a043f61b8711efabdaaa4abd944d89e81a515d12e668596117e78c3d28742", func := "shardkeep/shardkeeplaw1.FieldPow", spec := "fieldPow", inPlace := ["internal/reflectlite.ValueOf", "(internal/reflectlite.Value).Type", "(internal/reflectlite.Value).IsNil", "internal/reflectlite.TypeOf", "(internal/reflectlite.Value).Elem", "(internal/reflectlite.Value).Set"], unfollowed := true, recurses := true, named := ["shardkeep/api.ErrZero", "shardkeep/api.ErrText", "shardkeep/api.ErrBound", "shardkeep/api.ErrShape", "shardkeep/api.ErrName", "shardkeep/api.ErrNone", "shardkeep/api.ErrExist", "shardkeep/api.ErrFull", "shardkeep/api.ErrFew", "shardkeep/api.ErrSum", "shardkeep/api.ErrOld", "shardkeep/api.ErrHeld", "errors.errorType"], apart := false, laid := [("errors.errorType", laid_errors_errorType), ("shardkeep/api.ErrText", laid_shardkeep_api_ErrText), ("shardkeep/api.ErrBound", laid_shardkeep_api_ErrBound), ("shardkeep/api.ErrShape", laid_shardkeep_api_ErrShape), ("shardkeep/api.ErrName", laid_shardkeep_api_ErrName), ("shardkeep/api.ErrNone", laid_shardkeep_api_ErrNone), ("shardkeep/api.ErrExist", laid_shardkeep_api_ErrExist), ("shardkeep/api.ErrFull", laid_shardkeep_api_ErrFull), ("shardkeep/api.ErrFew", laid_shardkeep_api_ErrFew), ("shardkeep/api.ErrSum", laid_shardkeep_api_ErrSum), ("shardkeep/api.ErrOld", laid_shardkeep_api_ErrOld), ("shardkeep/api.ErrHeld", laid_shardkeep_api_ErrHeld), ("shardkeep/api.ErrZero", laid_shardkeep_api_ErrZero)] }
def FieldPowSaid : Prop := fieldPowRow.holds Tryd.pinned (OpenSpec.ofChange fieldPowSpec)

/-- ITS FALSE NEIGHBOUR: 'it returns false'. Refute it at one input. -/
def fieldPowWrong : ChangeSpec := { name := "fieldPow", fn := fun _ => fun
  | [d1, d2] => { results := [.lit (.bool false)], args := [d1, d2] }
  | _ => none }
def FieldPowWrongFalsely : Prop := fieldPowRow.holds Tryd.pinned (OpenSpec.ofChange fieldPowWrong)

/-- 'shardkeeplaw1.FieldMul': WHATEVER THE INPUT: true; the input reads as it did. -/
def fieldMulSpec : ChangeSpec := { name := "fieldMul", fn := fun _ => fun
  | [d1, d2] => { results := [.lit (.bool true)], args := [d1, d2] }
  | _ => none }
def fieldMulRow : OpenClaim := { program := "ytfojimaafhpgbaadoor", sum := "933a043f61b8711efabdaaa4abd944d89e81a515d12e668596117e78c3d28742", func := "shardkeep/shardkeeplaw1.FieldMul", spec := "fieldMul", inPlace := ["internal/reflectlite.ValueOf", "(internal/reflectlite.Value).Type", "(internal/reflectlite.Value).IsNil", "internal/reflectlite.TypeOf", "(internal/reflectlite.Value).Elem", "(internal/reflectlite.Value).Set"], unfollowed := true, recurses := true, named := ["shardkeep/api.ErrZero", "shardkeep/api.ErrText", "shardkeep/api.ErrBound", "shardkeep/api.ErrShape", "shardkeep/api.ErrName", "shardkeep/api.ErrNone", "shardkeep/api.ErrExist", "shardkeep/api.ErrFull", "shardkeep/api.ErrFew", "shardkeep/api.ErrSum", "shardkeep/api.ErrOld", "shardkeep/api.ErrHeld", "errors.errorType"], apart := false, laid := [("errors.errorType", laid_errors_errorType), ("shardkeep/api.ErrText", laid_shardkeep_api_ErrText), ("shardkeep/api.ErrBound", laid_shardkeep_api_ErrBound), ("shardkeep/api.ErrShape", laid_shardkeep_api_ErrShape), ("shardkeep/api.ErrName", laid_shardkeep_api_ErrName), ("shardkeep/api.ErrNone", laid_shardkeep_api_ErrNone), ("shardkeep/api.ErrExist", laid_shardkeep_api_ErrExist), ("shardkeep/api.ErrFull", laid_shardkeep_api_ErrFull), ("shardkeep/api.ErrFew", laid_shardkeep_api_ErrFew), ("shardkeep/api.ErrSum", laid_shardkeep_api_ErrSum), ("shardkeep/api.ErrOld", laid_shardkeep_api_ErrOld), ("shardkeep/api.ErrHeld", laid_shardkeep_api_ErrHeld), ("shardkeep/api.ErrZero", laid_shardkeep_api_ErrZero)] }
def FieldMulSaid : Prop := fieldMulRow.holds Tryd.pinned (OpenSpec.ofChange fieldMulSpec)

/-- ITS FALSE NEIGHBOUR: 'it returns false'. Refute it at one input. -/
def fieldMulWrong : ChangeSpec := { name := "fieldMul", fn := fun _ => fun
  | [d1, d2] => { results := [.lit (.bool false)], args := [d1, d2] }
  | _ => none }
def FieldMulWrongFalsely : Prop := fieldMulRow.holds Tryd.pinned (OpenSpec.ofChange fieldMulWrong)

/-- 'shardkeeplaw1.FieldLaws': WHATEVER THE INPUT: true; the input reads as it did. -/
def fieldLawsSpec : ChangeSpec := { name := "fieldLaws", fn := fun _ => fun
  | [d1, d2, d3] => { results := [.lit (.bool true)], args := [d1, d2, d3] }
  | _ => none }
def fieldLawsRow : OpenClaim := { program := "ytfojimaafhpgbaadoor", sum := "933a043f61b8711efabdaaa4abd944d89e81a515d12e668596117e78c3d28742", func := "shardkeep/shardkeeplaw1.FieldLaws", spec := "fieldLaws", inPlace := ["internal/reflectlite.ValueOf", "(internal/reflectlite.Value).Type", "(internal/reflectlite.Value).IsNil", "internal/reflectlite.TypeOf", "(internal/reflectlite.Value).Elem", "(internal/reflectlite.Value).Set"], unfollowed := true, recurses := true, named := ["shardkeep/api.ErrZero", "shardkeep/api.ErrText", "shardkeep/api.ErrBound", "shardkeep/api.ErrShape", "shardkeep/api.ErrName", "shardkeep/api.ErrNone", "shardkeep/api.ErrExist", "shardkeep/api.ErrFull", "shardkeep/api.ErrFew", "shardkeep/api.ErrSum", "shardkeep/api.ErrOld", "shardkeep/api.ErrHeld", "errors.errorType"], apart := false, laid := [("errors.errorType", laid_errors_errorType), ("shardkeep/api.ErrText", laid_shardkeep_api_ErrText), ("shardkeep/api.ErrBound", laid_shardkeep_api_ErrBound), ("shardkeep/api.ErrShape", laid_shardkeep_api_ErrShape), ("shardkeep/api.ErrName", laid_shardkeep_api_ErrName), ("shardkeep/api.ErrNone", laid_shardkeep_api_ErrNone), ("shardkeep/api.ErrExist", laid_shardkeep_api_ErrExist), ("shardkeep/api.ErrFull", laid_shardkeep_api_ErrFull), ("shardkeep/api.ErrFew", laid_shardkeep_api_ErrFew), ("shardkeep/api.ErrSum", laid_shardkeep_api_ErrSum), ("shardkeep/api.ErrOld", laid_shardkeep_api_ErrOld), ("shardkeep/api.ErrHeld", laid_shardkeep_api_ErrHeld), ("shardkeep/api.ErrZero", laid_shardkeep_api_ErrZero)] }
def FieldLawsSaid : Prop := fieldLawsRow.holds Tryd.pinned (OpenSpec.ofChange fieldLawsSpec)

/-- ITS FALSE NEIGHBOUR: 'it returns false'. Refute it at one input. -/
def fieldLawsWrong : ChangeSpec := { name := "fieldLaws", fn := fun _ => fun
  | [d1, d2, d3] => { results := [.lit (.bool false)], args := [d1, d2, d3] }
  | _ => none }
def FieldLawsWrongFalsely : Prop := fieldLawsRow.holds Tryd.pinned (OpenSpec.ofChange fieldLawsWrong)

/-- 'shardkeeplaw1.FieldEval': WHATEVER THE INPUT: true; the input reads as it did. -/
def fieldEvalSpec : ChangeSpec := { name := "fieldEval", fn := fun _ => fun
  | [d1, d2, d3, d4] => { results := [.lit (.bool true)], args := [d1, d2, d3, d4] }
  | _ => none }
def fieldEvalRow : OpenClaim := { program := "ytfojimaafhpgbaadoor", sum := "933a043f61b8711efabdaaa4abd944d89e81a515d12e668596117e78c3d28742", func := "shardkeep/shardkeeplaw1.FieldEval", spec := "fieldEval", inPlace := ["internal/reflectlite.ValueOf", "(internal/reflectlite.Value).Type", "(internal/reflectlite.Value).IsNil", "internal/reflectlite.TypeOf", "(internal/reflectlite.Value).Elem", "(internal/reflectlite.Value).Set"], unfollowed := true, recurses := true, named := ["shardkeep/api.ErrShape", "shardkeep/api.ErrExist", "shardkeep/api.ErrZero", "shardkeep/api.ErrText", "shardkeep/api.ErrBound", "shardkeep/api.ErrName", "shardkeep/api.ErrNone", "shardkeep/api.ErrFull", "shardkeep/api.ErrFew", "shardkeep/api.ErrSum", "shardkeep/api.ErrOld", "shardkeep/api.ErrHeld", "errors.errorType"], apart := false, laid := [("errors.errorType", laid_errors_errorType), ("shardkeep/api.ErrText", laid_shardkeep_api_ErrText), ("shardkeep/api.ErrBound", laid_shardkeep_api_ErrBound), ("shardkeep/api.ErrShape", laid_shardkeep_api_ErrShape), ("shardkeep/api.ErrName", laid_shardkeep_api_ErrName), ("shardkeep/api.ErrNone", laid_shardkeep_api_ErrNone), ("shardkeep/api.ErrExist", laid_shardkeep_api_ErrExist), ("shardkeep/api.ErrFull", laid_shardkeep_api_ErrFull), ("shardkeep/api.ErrFew", laid_shardkeep_api_ErrFew), ("shardkeep/api.ErrSum", laid_shardkeep_api_ErrSum), ("shardkeep/api.ErrOld", laid_shardkeep_api_ErrOld), ("shardkeep/api.ErrHeld", laid_shardkeep_api_ErrHeld), ("shardkeep/api.ErrZero", laid_shardkeep_api_ErrZero)] }
def FieldEvalSaid : Prop := fieldEvalRow.holds Tryd.pinned (OpenSpec.ofChange fieldEvalSpec)

/-- ITS FALSE NEIGHBOUR: 'it returns false'. Refute it at one input. -/
def fieldEvalWrong : ChangeSpec := { name := "fieldEval", fn := fun _ => fun
  | [d1, d2, d3, d4] => { results := [.lit (.bool false)], args := [d1, d2, d3, d4] }
  | _ => none }
def FieldEvalWrongFalsely : Prop := fieldEvalRow.holds Tryd.pinned (OpenSpec.ofChange fieldEvalWrong)

/-- 'shardkeeplaw1.MatrixInverts': WHATEVER THE INPUT: true; the input reads as it did. -/
def matrixInvertsSpec : ChangeSpec := { name := "matrixInverts", fn := fun _ => fun
  | [d] => { results := [.lit (.bool true)], args := [d] }
  | _ => none }
def matrixInvertsRow : OpenClaim := { program := "ytfojimaafhpgbaadoor", sum := "933a043f61b8711efabdaaa4abd944d89e81a515d12e668596117e78c3d28742", func := "shardkeep/shardkeeplaw1.MatrixInverts", spec := "matrixInverts", inPlace := ["internal/reflectlite.ValueOf", "(internal/reflectlite.Value).Type", "(internal/reflectlite.Value).IsNil", "internal/reflectlite.TypeOf", "(internal/reflectlite.Value).Elem", "(internal/reflectlite.Value).Set"], unfollowed := true, recurses := true, named := ["shardkeep/api.ErrShape", "shardkeep/api.ErrZero", "shardkeep/api.ErrText", "shardkeep/api.ErrBound", "shardkeep/api.ErrName", "shardkeep/api.ErrNone", "shardkeep/api.ErrExist", "shardkeep/api.ErrFull", "shardkeep/api.ErrFew", "shardkeep/api.ErrSum", "shardkeep/api.ErrOld", "shardkeep/api.ErrHeld", "errors.errorType"], apart := false, laid := [("errors.errorType", laid_errors_errorType), ("shardkeep/api.ErrText", laid_shardkeep_api_ErrText), ("shardkeep/api.ErrBound", laid_shardkeep_api_ErrBound), ("shardkeep/api.ErrShape", laid_shardkeep_api_ErrShape), ("shardkeep/api.ErrName", laid_shardkeep_api_ErrName), ("shardkeep/api.ErrNone", laid_shardkeep_api_ErrNone), ("shardkeep/api.ErrExist", laid_shardkeep_api_ErrExist), ("shardkeep/api.ErrFull", laid_shardkeep_api_ErrFull), ("shardkeep/api.ErrFew", laid_shardkeep_api_ErrFew), ("shardkeep/api.ErrSum", laid_shardkeep_api_ErrSum), ("shardkeep/api.ErrOld", laid_shardkeep_api_ErrOld), ("shardkeep/api.ErrHeld", laid_shardkeep_api_ErrHeld), ("shardkeep/api.ErrZero", laid_shardkeep_api_ErrZero)] }
def MatrixInvertsSaid : Prop := matrixInvertsRow.holds Tryd.pinned (OpenSpec.ofChange matrixInvertsSpec)

/-- ITS FALSE NEIGHBOUR: 'it returns false'. Refute it at one input. -/
def matrixInvertsWrong : ChangeSpec := { name := "matrixInverts", fn := fun _ => fun
  | [d] => { results := [.lit (.bool false)], args := [d] }
  | _ => none }
def MatrixInvertsWrongFalsely : Prop := matrixInvertsRow.holds Tryd.pinned (OpenSpec.ofChange matrixInvertsWrong)

/-- 'shardkeeplaw1.MatrixTimes': WHATEVER THE INPUT: true; the input reads as it did. -/
def matrixTimesSpec : ChangeSpec := { name := "matrixTimes", fn := fun _ => fun
  | [d1, d2] => { results := [.lit (.bool true)], args := [d1, d2] }
  | _ => none }
def matrixTimesRow : OpenClaim := { program := "ytfojimaafhpgbaadoor", sum := "933a043f61b8711efabdaaa4abd944d89e81a515d12e668596117e78c3d28742", func := "shardkeep/shardkeeplaw1.MatrixTimes", spec := "matrixTimes", inPlace := ["internal/reflectlite.ValueOf", "(internal/reflectlite.Value).Type", "(internal/reflectlite.Value).IsNil", "internal/reflectlite.TypeOf", "(internal/reflectlite.Value).Elem", "(internal/reflectlite.Value).Set"], unfollowed := true, recurses := true, named := ["shardkeep/api.ErrShape", "shardkeep/api.ErrZero", "shardkeep/api.ErrText", "shardkeep/api.ErrBound", "shardkeep/api.ErrName", "shardkeep/api.ErrNone", "shardkeep/api.ErrExist", "shardkeep/api.ErrFull", "shardkeep/api.ErrFew", "shardkeep/api.ErrSum", "shardkeep/api.ErrOld", "shardkeep/api.ErrHeld", "errors.errorType"], apart := false, laid := [("errors.errorType", laid_errors_errorType), ("shardkeep/api.ErrText", laid_shardkeep_api_ErrText), ("shardkeep/api.ErrBound", laid_shardkeep_api_ErrBound), ("shardkeep/api.ErrShape", laid_shardkeep_api_ErrShape), ("shardkeep/api.ErrName", laid_shardkeep_api_ErrName), ("shardkeep/api.ErrNone", laid_shardkeep_api_ErrNone), ("shardkeep/api.ErrExist", laid_shardkeep_api_ErrExist), ("shardkeep/api.ErrFull", laid_shardkeep_api_ErrFull), ("shardkeep/api.ErrFew", laid_shardkeep_api_ErrFew), ("shardkeep/api.ErrSum", laid_shardkeep_api_ErrSum), ("shardkeep/api.ErrOld", laid_shardkeep_api_ErrOld), ("shardkeep/api.ErrHeld", laid_shardkeep_api_ErrHeld), ("shardkeep/api.ErrZero", laid_shardkeep_api_ErrZero)] }
def MatrixTimesSaid : Prop := matrixTimesRow.holds Tryd.pinned (OpenSpec.ofChange matrixTimesSpec)

/-- ITS FALSE NEIGHBOUR: 'it returns false'. Refute it at one input. -/
def matrixTimesWrong : ChangeSpec := { name := "matrixTimes", fn := fun _ => fun
  | [d1, d2] => { results := [.lit (.bool false)], args := [d1, d2] }
  | _ => none }
def MatrixTimesWrongFalsely : Prop := matrixTimesRow.holds Tryd.pinned (OpenSpec.ofChange matrixTimesWrong)

/-- 'shardkeeplaw1.CoderSums': WHATEVER THE INPUT: true; the input reads as it did. -/
def coderSumsSpec : ChangeSpec := { name := "coderSums", fn := fun _ => fun
  | [d1, d2, d3, d4] => { results := [.lit (.bool true)], args := [d1, d2, d3, d4] }
  | _ => none }
def coderSumsRow : OpenClaim := { program := "ytfojimaafhpgbaadoor", sum := "933a043f61b8711efabdaaa4abd944d89e81a515d12e668596117e78c3d28742", func := "shardkeep/shardkeeplaw1.CoderSums", spec := "coderSums", inPlace := ["internal/abi.NoEscape", "internal/bytealg.MakeNoZero"], unfollowed := true, recurses := true, named := ["shardkeep/api.ErrBound", "shardkeep/api.ErrZero", "shardkeep/api.ErrShape"], apart := false, laid := [("shardkeep/api.ErrBound", laid_shardkeep_api_ErrBound), ("shardkeep/api.ErrShape", laid_shardkeep_api_ErrShape), ("shardkeep/api.ErrZero", laid_shardkeep_api_ErrZero)] }
def CoderSumsSaid : Prop := coderSumsRow.holds Tryd.pinned (OpenSpec.ofChange coderSumsSpec)

/-- ITS FALSE NEIGHBOUR: 'it returns false'. Refute it at one input. -/
def coderSumsWrong : ChangeSpec := { name := "coderSums", fn := fun _ => fun
  | [d1, d2, d3, d4] => { results := [.lit (.bool false)], args := [d1, d2, d3, d4] }
  | _ => none }
def CoderSumsWrongFalsely : Prop := coderSumsRow.holds Tryd.pinned (OpenSpec.ofChange coderSumsWrong)

/-- 'shardkeeplaw1.MatrixSpread': WHATEVER THE INPUT: true; the input reads as it did. -/
def matrixSpreadSpec : ChangeSpec := { name := "matrixSpread", fn := fun _ => fun
  | [d1, d2] => { results := [.lit (.bool true)], args := [d1, d2] }
  | _ => none }
def matrixSpreadRow : OpenClaim := { program := "ytfojimaafhpgbaadoor", sum := "933a043f61b8711efabdaaa4abd944d89e81a515d12e668596117e78c3d28742", func := "shardkeep/shardkeeplaw1.MatrixSpread", spec := "matrixSpread", inPlace := ["internal/reflectlite.ValueOf", "(internal/reflectlite.Value).Type", "(internal/reflectlite.Value).IsNil", "internal/reflectlite.TypeOf", "(internal/reflectlite.Value).Elem", "(internal/reflectlite.Value).Set"], unfollowed := true, recurses := true, named := ["shardkeep/api.ErrShape", "shardkeep/api.ErrZero", "shardkeep/api.ErrBound", "shardkeep/api.ErrText", "shardkeep/api.ErrName", "shardkeep/api.ErrNone", "shardkeep/api.ErrExist", "shardkeep/api.ErrFull", "shardkeep/api.ErrFew", "shardkeep/api.ErrSum", "shardkeep/api.ErrOld", "shardkeep/api.ErrHeld", "errors.errorType"], apart := false, laid := [("errors.errorType", laid_errors_errorType), ("shardkeep/api.ErrText", laid_shardkeep_api_ErrText), ("shardkeep/api.ErrBound", laid_shardkeep_api_ErrBound), ("shardkeep/api.ErrShape", laid_shardkeep_api_ErrShape), ("shardkeep/api.ErrName", laid_shardkeep_api_ErrName), ("shardkeep/api.ErrNone", laid_shardkeep_api_ErrNone), ("shardkeep/api.ErrExist", laid_shardkeep_api_ErrExist), ("shardkeep/api.ErrFull", laid_shardkeep_api_ErrFull), ("shardkeep/api.ErrFew", laid_shardkeep_api_ErrFew), ("shardkeep/api.ErrSum", laid_shardkeep_api_ErrSum), ("shardkeep/api.ErrOld", laid_shardkeep_api_ErrOld), ("shardkeep/api.ErrHeld", laid_shardkeep_api_ErrHeld), ("shardkeep/api.ErrZero", laid_shardkeep_api_ErrZero)] }
def MatrixSpreadSaid : Prop := matrixSpreadRow.holds Tryd.pinned (OpenSpec.ofChange matrixSpreadSpec)

/-- ITS FALSE NEIGHBOUR: 'it returns false'. Refute it at one input. -/
def matrixSpreadWrong : ChangeSpec := { name := "matrixSpread", fn := fun _ => fun
  | [d1, d2] => { results := [.lit (.bool false)], args := [d1, d2] }
  | _ => none }
def MatrixSpreadWrongFalsely : Prop := matrixSpreadRow.holds Tryd.pinned (OpenSpec.ofChange matrixSpreadWrong)

/-- 'shardkeeplaw1.CoderWrong': WHATEVER THE INPUT: true; the input reads as it did. -/
def coderWrongSpec : ChangeSpec := { name := "coderWrong", fn := fun _ => fun
  | [d1, d2, d3, d4, d5, d6] => { results := [.lit (.bool true)], args := [d1, d2, d3, d4, d5, d6] }
  | _ => none }
def coderWrongRow : OpenClaim := { program := "ytfojimaafhpgbaadoor", sum := "933a043f61b8711efabdaaa4abd944d89e81a515d12e668596117e78c3d28742", func := "shardkeep/shardkeeplaw1.CoderWrong", spec := "coderWrong", inPlace := ["internal/abi.NoEscape", "internal/bytealg.MakeNoZero"], unfollowed := true, recurses := true, named := ["shardkeep/api.ErrBound", "shardkeep/api.ErrZero", "shardkeep/api.ErrShape", "shardkeep/api.ErrFew"], apart := false, laid := [("shardkeep/api.ErrBound", laid_shardkeep_api_ErrBound), ("shardkeep/api.ErrShape", laid_shardkeep_api_ErrShape), ("shardkeep/api.ErrFew", laid_shardkeep_api_ErrFew), ("shardkeep/api.ErrZero", laid_shardkeep_api_ErrZero)] }
def CoderWrongSaid : Prop := coderWrongRow.holds Tryd.pinned (OpenSpec.ofChange coderWrongSpec)

/-- ITS FALSE NEIGHBOUR: 'it returns false'. Refute it at one input. -/
def coderWrongWrong : ChangeSpec := { name := "coderWrong", fn := fun _ => fun
  | [d1, d2, d3, d4, d5, d6] => { results := [.lit (.bool false)], args := [d1, d2, d3, d4, d5, d6] }
  | _ => none }
def CoderWrongWrongFalsely : Prop := coderWrongRow.holds Tryd.pinned (OpenSpec.ofChange coderWrongWrong)

/-- 'shardkeeplaw1.CoderAny': WHATEVER THE INPUT: true; the input reads as it did. -/
def coderAnySpec : ChangeSpec := { name := "coderAny", fn := fun _ => fun
  | [d1, d2, d3, d4, d5] => { results := [.lit (.bool true)], args := [d1, d2, d3, d4, d5] }
  | _ => none }
def coderAnyRow : OpenClaim := { program := "ytfojimaafhpgbaadoor", sum := "933a043f61b8711efabdaaa4abd944d89e81a515d12e668596117e78c3d28742", func := "shardkeep/shardkeeplaw1.CoderAny", spec := "coderAny", inPlace := ["internal/abi.NoEscape", "internal/bytealg.MakeNoZero"], unfollowed := true, recurses := true, named := ["shardkeep/api.ErrBound", "shardkeep/api.ErrZero", "shardkeep/api.ErrShape", "shardkeep/api.ErrFew"], apart := false, laid := [("shardkeep/api.ErrBound", laid_shardkeep_api_ErrBound), ("shardkeep/api.ErrShape", laid_shardkeep_api_ErrShape), ("shardkeep/api.ErrFew", laid_shardkeep_api_ErrFew), ("shardkeep/api.ErrZero", laid_shardkeep_api_ErrZero)] }
def CoderAnySaid : Prop := coderAnyRow.holds Tryd.pinned (OpenSpec.ofChange coderAnySpec)

/-- ITS FALSE NEIGHBOUR: 'it returns false'. Refute it at one input. -/
def coderAnyWrong : ChangeSpec := { name := "coderAny", fn := fun _ => fun
  | [d1, d2, d3, d4, d5] => { results := [.lit (.bool false)], args := [d1, d2, d3, d4, d5] }
  | _ => none }
def CoderAnyWrongFalsely : Prop := coderAnyRow.holds Tryd.pinned (OpenSpec.ofChange coderAnyWrong)

/-- 'shardkeeplaw1.CoderEncodes': WHATEVER THE INPUT: true; the input reads as it did. -/
def coderEncodesSpec : ChangeSpec := { name := "coderEncodes", fn := fun _ => fun
  | [d1, d2, d3] => { results := [.lit (.bool true)], args := [d1, d2, d3] }
  | _ => none }
def coderEncodesRow : OpenClaim := { program := "ytfojimaafhpgbaadoor", sum := "933a043f61b8711efabdaaa4abd944d89e81a515d12e668596117e78c3d28742", func := "shardkeep/shardkeeplaw1.CoderEncodes", spec := "coderEncodes", inPlace := ["internal/abi.NoEscape", "internal/bytealg.MakeNoZero", "internal/reflectlite.ValueOf", "(internal/reflectlite.Value).Type", "(internal/reflectlite.Value).IsNil", "internal/reflectlite.TypeOf", "(internal/reflectlite.Value).Elem", "(internal/reflectlite.Value).Set"], unfollowed := true, recurses := true, named := ["shardkeep/api.ErrBound", "shardkeep/api.ErrZero", "shardkeep/api.ErrShape", "shardkeep/api.ErrText", "shardkeep/api.ErrName", "shardkeep/api.ErrNone", "shardkeep/api.ErrExist", "shardkeep/api.ErrFull", "shardkeep/api.ErrFew", "shardkeep/api.ErrSum", "shardkeep/api.ErrOld", "shardkeep/api.ErrHeld", "errors.errorType"], apart := false, laid := [("errors.errorType", laid_errors_errorType), ("shardkeep/api.ErrText", laid_shardkeep_api_ErrText), ("shardkeep/api.ErrBound", laid_shardkeep_api_ErrBound), ("shardkeep/api.ErrShape", laid_shardkeep_api_ErrShape), ("shardkeep/api.ErrName", laid_shardkeep_api_ErrName), ("shardkeep/api.ErrNone", laid_shardkeep_api_ErrNone), ("shardkeep/api.ErrExist", laid_shardkeep_api_ErrExist), ("shardkeep/api.ErrFull", laid_shardkeep_api_ErrFull), ("shardkeep/api.ErrFew", laid_shardkeep_api_ErrFew), ("shardkeep/api.ErrSum", laid_shardkeep_api_ErrSum), ("shardkeep/api.ErrOld", laid_shardkeep_api_ErrOld), ("shardkeep/api.ErrHeld", laid_shardkeep_api_ErrHeld), ("shardkeep/api.ErrZero", laid_shardkeep_api_ErrZero)] }
def CoderEncodesSaid : Prop := coderEncodesRow.holds Tryd.pinned (OpenSpec.ofChange coderEncodesSpec)

/-- ITS FALSE NEIGHBOUR: 'it returns false'. Refute it at one input. -/
def coderEncodesWrong : ChangeSpec := { name := "coderEncodes", fn := fun _ => fun
  | [d1, d2, d3] => { results := [.lit (.bool false)], args := [d1, d2, d3] }
  | _ => none }
def CoderEncodesWrongFalsely : Prop := coderEncodesRow.holds Tryd.pinned (OpenSpec.ofChange coderEncodesWrong)

/-- 'shardkeeplaw1.CoderDecodes': WHATEVER THE INPUT: true; the input reads as it did. -/
def coderDecodesSpec : ChangeSpec := { name := "coderDecodes", fn := fun _ => fun
  | [d1, d2, d3, d4, d5] => { results := [.lit (.bool true)], args := [d1, d2, d3, d4, d5] }
  | _ => none }
def coderDecodesRow : OpenClaim := { program := "ytfojimaafhpgbaadoor", sum := "933a043f61b8711efabdaaa4abd944d89e81a515d12e668596117e78c3d28742", func := "shardkeep/shardkeeplaw1.CoderDecodes", spec := "coderDecodes", inPlace := ["internal/abi.NoEscape", "internal/bytealg.MakeNoZero", "internal/reflectlite.ValueOf", "(internal/reflectlite.Value).Type", "(internal/reflectlite.Value).IsNil", "internal/reflectlite.TypeOf", "(internal/reflectlite.Value).Elem", "(internal/reflectlite.Value).Set"], unfollowed := true, recurses := true, named := ["shardkeep/api.ErrBound", "shardkeep/api.ErrZero", "shardkeep/api.ErrShape", "shardkeep/api.ErrFew", "shardkeep/api.ErrText", "shardkeep/api.ErrName", "shardkeep/api.ErrNone", "shardkeep/api.ErrExist", "shardkeep/api.ErrFull", "shardkeep/api.ErrSum", "shardkeep/api.ErrOld", "shardkeep/api.ErrHeld", "errors.errorType"], apart := false, laid := [("errors.errorType", laid_errors_errorType), ("shardkeep/api.ErrText", laid_shardkeep_api_ErrText), ("shardkeep/api.ErrBound", laid_shardkeep_api_ErrBound), ("shardkeep/api.ErrShape", laid_shardkeep_api_ErrShape), ("shardkeep/api.ErrName", laid_shardkeep_api_ErrName), ("shardkeep/api.ErrNone", laid_shardkeep_api_ErrNone), ("shardkeep/api.ErrExist", laid_shardkeep_api_ErrExist), ("shardkeep/api.ErrFull", laid_shardkeep_api_ErrFull), ("shardkeep/api.ErrFew", laid_shardkeep_api_ErrFew), ("shardkeep/api.ErrSum", laid_shardkeep_api_ErrSum), ("shardkeep/api.ErrOld", laid_shardkeep_api_ErrOld), ("shardkeep/api.ErrHeld", laid_shardkeep_api_ErrHeld), ("shardkeep/api.ErrZero", laid_shardkeep_api_ErrZero)] }
def CoderDecodesSaid : Prop := coderDecodesRow.holds Tryd.pinned (OpenSpec.ofChange coderDecodesSpec)

/-- ITS FALSE NEIGHBOUR: 'it returns false'. Refute it at one input. -/
def coderDecodesWrong : ChangeSpec := { name := "coderDecodes", fn := fun _ => fun
  | [d1, d2, d3, d4, d5] => { results := [.lit (.bool false)], args := [d1, d2, d3, d4, d5] }
  | _ => none }
def CoderDecodesWrongFalsely : Prop := coderDecodesRow.holds Tryd.pinned (OpenSpec.ofChange coderDecodesWrong)

/- THE SECOND FORM. 'bulk': how many values and letters a reading holds, each counted each time it is reached (what is shared counts as often as it is met; a slice's spare places count too). A statement '..UptoSaid' is the law's where the arguments, and the package variables that the reading takes, are together of bulk at most 1048576: NARROWER than '..Said'. Prove '..Said' where nothing that the law and all that it calls make is longer than what came in: it says more and counts as full. Else prove '..UptoSaid'. A law counts once. -/
mutual
def uptoBulk {H : Type} : DataW H → Nat
  | .lit (.string bytes) => bytes.length + 1
  | .lit _ => 1
  | .nil => 1
  | .ptr d => uptoBulk d + 1
  | .slice elems spare => uptoBulkAll elems + uptoBulkAll spare + 1
  | .agg parts => uptoBulkAll parts + 1
  | .iface _ d => uptoBulk d + 1
  | .map entries => uptoBulkEntries entries + 1
  | .held _ => 1
def uptoBulkAll {H : Type} : List (DataW H) → Nat
  | [] => 0
  | d :: r => uptoBulk d + uptoBulkAll r
def uptoBulkEntries {H : Type} : List (Lit × DataW H) → Nat
  | [] => 0
  | x :: r => uptoBulkEntry x + uptoBulkEntries r
def uptoBulkEntry {H : Type} : Lit × DataW H → Nat
  | (.string bytes, d) => bytes.length + uptoBulk d + 1
  | (_, d) => uptoBulk d + 1
 end
def uptoSmall : (H : Type) → List (DataW H) → Bool := fun _ ds => decide (uptoBulkAll ds ≤ 1048576)
def OpenSpec.upto (s : _root_.Go.ChangeSpec) : _root_.Go.OpenSpec := { _root_.Go.OpenSpec.ofChange s with cond := some uptoSmall }

/-- 'shardkeeplaw1.FieldTwo', WHERE WHAT IT READS IS OF BULK AT MOST 1048576: true; the input reads as it did. -/
def fieldTwoUptoRow : OpenClaim := { program := "ytfojimaafhpgbaadoor", sum := "933a043f61b8711efabdaaa4abd944d89e81a515d12e668596117e78c3d28742", func := "shardkeep/shardkeeplaw1.FieldTwo", spec := "fieldTwo", named := ["shardkeep/api.ErrZero"], apart := false, laid := [("shardkeep/api.ErrZero", laid_shardkeep_api_ErrZero)], narrowed := true }
def FieldTwoUptoSaid : Prop := fieldTwoUptoRow.holds Tryd.pinned (OpenSpec.upto fieldTwoSpec)

/-- 'shardkeeplaw1.FieldThrough', WHERE WHAT IT READS IS OF BULK AT MOST 1048576: true; the input reads as it did. -/
def fieldThroughUptoRow : OpenClaim := { program := "ytfojimaafhpgbaadoor", sum := "933a043f61b8711efabdaaa4abd944d89e81a515d12e668596117e78c3d28742", func := "shardkeep/shardkeeplaw1.FieldThrough", spec := "fieldThrough", unfollowed := true, recurses := true, named := ["shardkeep/api.ErrShape", "shardkeep/api.ErrExist", "shardkeep/api.ErrZero"], apart := false, laid := [("shardkeep/api.ErrShape", laid_shardkeep_api_ErrShape), ("shardkeep/api.ErrExist", laid_shardkeep_api_ErrExist), ("shardkeep/api.ErrZero", laid_shardkeep_api_ErrZero)], narrowed := true }
def FieldThroughUptoSaid : Prop := fieldThroughUptoRow.holds Tryd.pinned (OpenSpec.upto fieldThroughSpec)

/-- 'shardkeeplaw1.MatrixAny', WHERE WHAT IT READS IS OF BULK AT MOST 1048576: true; the input reads as it did. -/
def matrixAnyUptoRow : OpenClaim := { program := "ytfojimaafhpgbaadoor", sum := "933a043f61b8711efabdaaa4abd944d89e81a515d12e668596117e78c3d28742", func := "shardkeep/shardkeeplaw1.MatrixAny", spec := "matrixAny", unfollowed := true, recurses := true, named := ["shardkeep/api.ErrShape", "shardkeep/api.ErrZero", "shardkeep/api.ErrBound"], apart := false, laid := [("shardkeep/api.ErrBound", laid_shardkeep_api_ErrBound), ("shardkeep/api.ErrShape", laid_shardkeep_api_ErrShape), ("shardkeep/api.ErrZero", laid_shardkeep_api_ErrZero)], narrowed := true }
def MatrixAnyUptoSaid : Prop := matrixAnyUptoRow.holds Tryd.pinned (OpenSpec.upto matrixAnySpec)

/-- 'shardkeeplaw1.Names', WHERE WHAT IT READS IS OF BULK AT MOST 1048576: true; the input reads as it did. -/
def namesUptoRow : OpenClaim := { program := "ytfojimaafhpgbaadoor", sum := "933a043f61b8711efabdaaa4abd944d89e81a515d12e668596117e78c3d28742", func := "shardkeep/shardkeeplaw1.Names", spec := "names", inPlace := ["internal/reflectlite.ValueOf", "(internal/reflectlite.Value).Type", "(internal/reflectlite.Value).IsNil", "internal/reflectlite.TypeOf", "(internal/reflectlite.Value).Elem", "(internal/reflectlite.Value).Set"], unfollowed := true, recurses := true, named := ["shardkeep/api.ErrText", "shardkeep/api.ErrBound", "shardkeep/api.ErrShape", "shardkeep/api.ErrName", "shardkeep/api.ErrNone", "shardkeep/api.ErrExist", "shardkeep/api.ErrFull", "shardkeep/api.ErrFew", "shardkeep/api.ErrSum", "shardkeep/api.ErrOld", "shardkeep/api.ErrHeld", "shardkeep/api.ErrZero", "errors.errorType"], apart := false, laid := [("errors.errorType", laid_errors_errorType), ("shardkeep/api.ErrText", laid_shardkeep_api_ErrText), ("shardkeep/api.ErrBound", laid_shardkeep_api_ErrBound), ("shardkeep/api.ErrShape", laid_shardkeep_api_ErrShape), ("shardkeep/api.ErrName", laid_shardkeep_api_ErrName), ("shardkeep/api.ErrNone", laid_shardkeep_api_ErrNone), ("shardkeep/api.ErrExist", laid_shardkeep_api_ErrExist), ("shardkeep/api.ErrFull", laid_shardkeep_api_ErrFull), ("shardkeep/api.ErrFew", laid_shardkeep_api_ErrFew), ("shardkeep/api.ErrSum", laid_shardkeep_api_ErrSum), ("shardkeep/api.ErrOld", laid_shardkeep_api_ErrOld), ("shardkeep/api.ErrHeld", laid_shardkeep_api_ErrHeld), ("shardkeep/api.ErrZero", laid_shardkeep_api_ErrZero)], narrowed := true }
def NamesUptoSaid : Prop := namesUptoRow.holds Tryd.pinned (OpenSpec.upto namesSpec)

/-- 'shardkeeplaw1.SumsCRC', WHERE WHAT IT READS IS OF BULK AT MOST 1048576: true; the input reads as it did. -/
def sumsCRCUptoRow : OpenClaim := { program := "ytfojimaafhpgbaadoor", sum := "933a043f61b8711efabdaaa4abd944d89e81a515d12e668596117e78c3d28742", func := "shardkeep/shardkeeplaw1.SumsCRC", spec := "sumsCRC", inPlace := ["internal/reflectlite.ValueOf", "(internal/reflectlite.Value).Type", "(internal/reflectlite.Value).IsNil", "internal/reflectlite.TypeOf", "(internal/reflectlite.Value).Elem", "(internal/reflectlite.Value).Set"], unfollowed := true, recurses := true, named := ["shardkeep/api.ErrText", "shardkeep/api.ErrSum", "shardkeep/api.ErrBound", "shardkeep/api.ErrShape", "shardkeep/api.ErrName", "shardkeep/api.ErrNone", "shardkeep/api.ErrExist", "shardkeep/api.ErrFull", "shardkeep/api.ErrFew", "shardkeep/api.ErrOld", "shardkeep/api.ErrHeld", "shardkeep/api.ErrZero", "errors.errorType"], apart := false, laid := [("errors.errorType", laid_errors_errorType), ("shardkeep/api.ErrText", laid_shardkeep_api_ErrText), ("shardkeep/api.ErrBound", laid_shardkeep_api_ErrBound), ("shardkeep/api.ErrShape", laid_shardkeep_api_ErrShape), ("shardkeep/api.ErrName", laid_shardkeep_api_ErrName), ("shardkeep/api.ErrNone", laid_shardkeep_api_ErrNone), ("shardkeep/api.ErrExist", laid_shardkeep_api_ErrExist), ("shardkeep/api.ErrFull", laid_shardkeep_api_ErrFull), ("shardkeep/api.ErrFew", laid_shardkeep_api_ErrFew), ("shardkeep/api.ErrSum", laid_shardkeep_api_ErrSum), ("shardkeep/api.ErrOld", laid_shardkeep_api_ErrOld), ("shardkeep/api.ErrHeld", laid_shardkeep_api_ErrHeld), ("shardkeep/api.ErrZero", laid_shardkeep_api_ErrZero)], narrowed := true }
def SumsCRCUptoSaid : Prop := sumsCRCUptoRow.holds Tryd.pinned (OpenSpec.upto sumsCRCSpec)

/-- 'shardkeeplaw1.SumsBurst', WHERE WHAT IT READS IS OF BULK AT MOST 1048576: true; the input reads as it did. -/
def sumsBurstUptoRow : OpenClaim := { program := "ytfojimaafhpgbaadoor", sum := "933a043f61b8711efabdaaa4abd944d89e81a515d12e668596117e78c3d28742", func := "shardkeep/shardkeeplaw1.SumsBurst", spec := "sumsBurst", inPlace := ["internal/reflectlite.ValueOf", "(internal/reflectlite.Value).Type", "(internal/reflectlite.Value).IsNil", "internal/reflectlite.TypeOf", "(internal/reflectlite.Value).Elem", "(internal/reflectlite.Value).Set"], unfollowed := true, recurses := true, named := ["shardkeep/api.ErrText", "shardkeep/api.ErrSum", "shardkeep/api.ErrBound", "shardkeep/api.ErrShape", "shardkeep/api.ErrName", "shardkeep/api.ErrNone", "shardkeep/api.ErrExist", "shardkeep/api.ErrFull", "shardkeep/api.ErrFew", "shardkeep/api.ErrOld", "shardkeep/api.ErrHeld", "shardkeep/api.ErrZero", "errors.errorType"], apart := false, laid := [("errors.errorType", laid_errors_errorType), ("shardkeep/api.ErrText", laid_shardkeep_api_ErrText), ("shardkeep/api.ErrBound", laid_shardkeep_api_ErrBound), ("shardkeep/api.ErrShape", laid_shardkeep_api_ErrShape), ("shardkeep/api.ErrName", laid_shardkeep_api_ErrName), ("shardkeep/api.ErrNone", laid_shardkeep_api_ErrNone), ("shardkeep/api.ErrExist", laid_shardkeep_api_ErrExist), ("shardkeep/api.ErrFull", laid_shardkeep_api_ErrFull), ("shardkeep/api.ErrFew", laid_shardkeep_api_ErrFew), ("shardkeep/api.ErrSum", laid_shardkeep_api_ErrSum), ("shardkeep/api.ErrOld", laid_shardkeep_api_ErrOld), ("shardkeep/api.ErrHeld", laid_shardkeep_api_ErrHeld), ("shardkeep/api.ErrZero", laid_shardkeep_api_ErrZero)], narrowed := true }
def SumsBurstUptoSaid : Prop := sumsBurstUptoRow.holds Tryd.pinned (OpenSpec.upto sumsBurstSpec)

/-- 'shardkeeplaw1.FieldPow', WHERE WHAT IT READS IS OF BULK AT MOST 1048576: true; the input reads as it did. -/
def fieldPowUptoRow : OpenClaim := { program := "ytfojimaafhpgbaadoor", sum := "933a043f61b8711efabdaaa4abd944d89e81a515d12e668596117e78c3d28742", func := "shardkeep/shardkeeplaw1.FieldPow", spec := "fieldPow", inPlace := ["internal/reflectlite.ValueOf", "(internal/reflectlite.Value).Type", "(internal/reflectlite.Value).IsNil", "internal/reflectlite.TypeOf", "(internal/reflectlite.Value).Elem", "(internal/reflectlite.Value).Set"], unfollowed := true, recurses := true, named := ["shardkeep/api.ErrZero", "shardkeep/api.ErrText", "shardkeep/api.ErrBound", "shardkeep/api.ErrShape", "shardkeep/api.ErrName", "shardkeep/api.ErrNone", "shardkeep/api.ErrExist", "shardkeep/api.ErrFull", "shardkeep/api.ErrFew", "shardkeep/api.ErrSum", "shardkeep/api.ErrOld", "shardkeep/api.ErrHeld", "errors.errorType"], apart := false, laid := [("errors.errorType", laid_errors_errorType), ("shardkeep/api.ErrText", laid_shardkeep_api_ErrText), ("shardkeep/api.ErrBound", laid_shardkeep_api_ErrBound), ("shardkeep/api.ErrShape", laid_shardkeep_api_ErrShape), ("shardkeep/api.ErrName", laid_shardkeep_api_ErrName), ("shardkeep/api.ErrNone", laid_shardkeep_api_ErrNone), ("shardkeep/api.ErrExist", laid_shardkeep_api_ErrExist), ("shardkeep/api.ErrFull", laid_shardkeep_api_ErrFull), ("shardkeep/api.ErrFew", laid_shardkeep_api_ErrFew), ("shardkeep/api.ErrSum", laid_shardkeep_api_ErrSum), ("shardkeep/api.ErrOld", laid_shardkeep_api_ErrOld), ("shardkeep/api.ErrHeld", laid_shardkeep_api_ErrHeld), ("shardkeep/api.ErrZero", laid_shardkeep_api_ErrZero)], narrowed := true }
def FieldPowUptoSaid : Prop := fieldPowUptoRow.holds Tryd.pinned (OpenSpec.upto fieldPowSpec)

/-- 'shardkeeplaw1.FieldMul', WHERE WHAT IT READS IS OF BULK AT MOST 1048576: true; the input reads as it did. -/
def fieldMulUptoRow : OpenClaim := { program := "ytfojimaafhpgbaadoor", sum := "933a043f61b8711efabdaaa4abd944d89e81a515d12e668596117e78c3d28742", func := "shardkeep/shardkeeplaw1.FieldMul", spec := "fieldMul", inPlace := ["internal/reflectlite.ValueOf", "(internal/reflectlite.Value).Type", "(internal/reflectlite.Value).IsNil", "internal/reflectlite.TypeOf", "(internal/reflectlite.Value).Elem", "(internal/reflectlite.Value).Set"], unfollowed := true, recurses := true, named := ["shardkeep/api.ErrZero", "shardkeep/api.ErrText", "shardkeep/api.ErrBound", "shardkeep/api.ErrShape", "shardkeep/api.ErrName", "shardkeep/api.ErrNone", "shardkeep/api.ErrExist", "shardkeep/api.ErrFull", "shardkeep/api.ErrFew", "shardkeep/api.ErrSum", "shardkeep/api.ErrOld", "shardkeep/api.ErrHeld", "errors.errorType"], apart := false, laid := [("errors.errorType", laid_errors_errorType), ("shardkeep/api.ErrText", laid_shardkeep_api_ErrText), ("shardkeep/api.ErrBound", laid_shardkeep_api_ErrBound), ("shardkeep/api.ErrShape", laid_shardkeep_api_ErrShape), ("shardkeep/api.ErrName", laid_shardkeep_api_ErrName), ("shardkeep/api.ErrNone", laid_shardkeep_api_ErrNone), ("shardkeep/api.ErrExist", laid_shardkeep_api_ErrExist), ("shardkeep/api.ErrFull", laid_shardkeep_api_ErrFull), ("shardkeep/api.ErrFew", laid_shardkeep_api_ErrFew), ("shardkeep/api.ErrSum", laid_shardkeep_api_ErrSum), ("shardkeep/api.ErrOld", laid_shardkeep_api_ErrOld), ("shardkeep/api.ErrHeld", laid_shardkeep_api_ErrHeld), ("shardkeep/api.ErrZero", laid_shardkeep_api_ErrZero)], narrowed := true }
def FieldMulUptoSaid : Prop := fieldMulUptoRow.holds Tryd.pinned (OpenSpec.upto fieldMulSpec)

/-- 'shardkeeplaw1.FieldLaws', WHERE WHAT IT READS IS OF BULK AT MOST 1048576: true; the input reads as it did. -/
def fieldLawsUptoRow : OpenClaim := { program := "ytfojimaafhpgbaadoor", sum := "933a043f61b8711efabdaaa4abd944d89e81a515d12e668596117e78c3d28742", func := "shardkeep/shardkeeplaw1.FieldLaws", spec := "fieldLaws", inPlace := ["internal/reflectlite.ValueOf", "(internal/reflectlite.Value).Type", "(internal/reflectlite.Value).IsNil", "internal/reflectlite.TypeOf", "(internal/reflectlite.Value).Elem", "(internal/reflectlite.Value).Set"], unfollowed := true, recurses := true, named := ["shardkeep/api.ErrZero", "shardkeep/api.ErrText", "shardkeep/api.ErrBound", "shardkeep/api.ErrShape", "shardkeep/api.ErrName", "shardkeep/api.ErrNone", "shardkeep/api.ErrExist", "shardkeep/api.ErrFull", "shardkeep/api.ErrFew", "shardkeep/api.ErrSum", "shardkeep/api.ErrOld", "shardkeep/api.ErrHeld", "errors.errorType"], apart := false, laid := [("errors.errorType", laid_errors_errorType), ("shardkeep/api.ErrText", laid_shardkeep_api_ErrText), ("shardkeep/api.ErrBound", laid_shardkeep_api_ErrBound), ("shardkeep/api.ErrShape", laid_shardkeep_api_ErrShape), ("shardkeep/api.ErrName", laid_shardkeep_api_ErrName), ("shardkeep/api.ErrNone", laid_shardkeep_api_ErrNone), ("shardkeep/api.ErrExist", laid_shardkeep_api_ErrExist), ("shardkeep/api.ErrFull", laid_shardkeep_api_ErrFull), ("shardkeep/api.ErrFew", laid_shardkeep_api_ErrFew), ("shardkeep/api.ErrSum", laid_shardkeep_api_ErrSum), ("shardkeep/api.ErrOld", laid_shardkeep_api_ErrOld), ("shardkeep/api.ErrHeld", laid_shardkeep_api_ErrHeld), ("shardkeep/api.ErrZero", laid_shardkeep_api_ErrZero)], narrowed := true }
def FieldLawsUptoSaid : Prop := fieldLawsUptoRow.holds Tryd.pinned (OpenSpec.upto fieldLawsSpec)

/-- 'shardkeeplaw1.FieldEval', WHERE WHAT IT READS IS OF BULK AT MOST 1048576: true; the input reads as it did. -/
def fieldEvalUptoRow : OpenClaim := { program := "ytfojimaafhpgbaadoor", sum := "933a043f61b8711efabdaaa4abd944d89e81a515d12e668596117e78c3d28742", func := "shardkeep/shardkeeplaw1.FieldEval", spec := "fieldEval", inPlace := ["internal/reflectlite.ValueOf", "(internal/reflectlite.Value).Type", "(internal/reflectlite.Value).IsNil", "internal/reflectlite.TypeOf", "(internal/reflectlite.Value).Elem", "(internal/reflectlite.Value).Set"], unfollowed := true, recurses := true, named := ["shardkeep/api.ErrShape", "shardkeep/api.ErrExist", "shardkeep/api.ErrZero", "shardkeep/api.ErrText", "shardkeep/api.ErrBound", "shardkeep/api.ErrName", "shardkeep/api.ErrNone", "shardkeep/api.ErrFull", "shardkeep/api.ErrFew", "shardkeep/api.ErrSum", "shardkeep/api.ErrOld", "shardkeep/api.ErrHeld", "errors.errorType"], apart := false, laid := [("errors.errorType", laid_errors_errorType), ("shardkeep/api.ErrText", laid_shardkeep_api_ErrText), ("shardkeep/api.ErrBound", laid_shardkeep_api_ErrBound), ("shardkeep/api.ErrShape", laid_shardkeep_api_ErrShape), ("shardkeep/api.ErrName", laid_shardkeep_api_ErrName), ("shardkeep/api.ErrNone", laid_shardkeep_api_ErrNone), ("shardkeep/api.ErrExist", laid_shardkeep_api_ErrExist), ("shardkeep/api.ErrFull", laid_shardkeep_api_ErrFull), ("shardkeep/api.ErrFew", laid_shardkeep_api_ErrFew), ("shardkeep/api.ErrSum", laid_shardkeep_api_ErrSum), ("shardkeep/api.ErrOld", laid_shardkeep_api_ErrOld), ("shardkeep/api.ErrHeld", laid_shardkeep_api_ErrHeld), ("shardkeep/api.ErrZero", laid_shardkeep_api_ErrZero)], narrowed := true }
def FieldEvalUptoSaid : Prop := fieldEvalUptoRow.holds Tryd.pinned (OpenSpec.upto fieldEvalSpec)

/-- 'shardkeeplaw1.MatrixInverts', WHERE WHAT IT READS IS OF BULK AT MOST 1048576: true; the input reads as it did. -/
def matrixInvertsUptoRow : OpenClaim := { program := "ytfojimaafhpgbaadoor", sum := "933a043f61b8711efabdaaa4abd944d89e81a515d12e668596117e78c3d28742", func := "shardkeep/shardkeeplaw1.MatrixInverts", spec := "matrixInverts", inPlace := ["internal/reflectlite.ValueOf", "(internal/reflectlite.Value).Type", "(internal/reflectlite.Value).IsNil", "internal/reflectlite.TypeOf", "(internal/reflectlite.Value).Elem", "(internal/reflectlite.Value).Set"], unfollowed := true, recurses := true, named := ["shardkeep/api.ErrShape", "shardkeep/api.ErrZero", "shardkeep/api.ErrText", "shardkeep/api.ErrBound", "shardkeep/api.ErrName", "shardkeep/api.ErrNone", "shardkeep/api.ErrExist", "shardkeep/api.ErrFull", "shardkeep/api.ErrFew", "shardkeep/api.ErrSum", "shardkeep/api.ErrOld", "shardkeep/api.ErrHeld", "errors.errorType"], apart := false, laid := [("errors.errorType", laid_errors_errorType), ("shardkeep/api.ErrText", laid_shardkeep_api_ErrText), ("shardkeep/api.ErrBound", laid_shardkeep_api_ErrBound), ("shardkeep/api.ErrShape", laid_shardkeep_api_ErrShape), ("shardkeep/api.ErrName", laid_shardkeep_api_ErrName), ("shardkeep/api.ErrNone", laid_shardkeep_api_ErrNone), ("shardkeep/api.ErrExist", laid_shardkeep_api_ErrExist), ("shardkeep/api.ErrFull", laid_shardkeep_api_ErrFull), ("shardkeep/api.ErrFew", laid_shardkeep_api_ErrFew), ("shardkeep/api.ErrSum", laid_shardkeep_api_ErrSum), ("shardkeep/api.ErrOld", laid_shardkeep_api_ErrOld), ("shardkeep/api.ErrHeld", laid_shardkeep_api_ErrHeld), ("shardkeep/api.ErrZero", laid_shardkeep_api_ErrZero)], narrowed := true }
def MatrixInvertsUptoSaid : Prop := matrixInvertsUptoRow.holds Tryd.pinned (OpenSpec.upto matrixInvertsSpec)

/-- 'shardkeeplaw1.MatrixTimes', WHERE WHAT IT READS IS OF BULK AT MOST 1048576: true; the input reads as it did. -/
def matrixTimesUptoRow : OpenClaim := { program := "ytfojimaafhpgbaadoor", sum := "933a043f61b8711efabdaaa4abd944d89e81a515d12e668596117e78c3d28742", func := "shardkeep/shardkeeplaw1.MatrixTimes", spec := "matrixTimes", inPlace := ["internal/reflectlite.ValueOf", "(internal/reflectlite.Value).Type", "(internal/reflectlite.Value).IsNil", "internal/reflectlite.TypeOf", "(internal/reflectlite.Value).Elem", "(internal/reflectlite.Value).Set"], unfollowed := true, recurses := true, named := ["shardkeep/api.ErrShape", "shardkeep/api.ErrZero", "shardkeep/api.ErrText", "shardkeep/api.ErrBound", "shardkeep/api.ErrName", "shardkeep/api.ErrNone", "shardkeep/api.ErrExist", "shardkeep/api.ErrFull", "shardkeep/api.ErrFew", "shardkeep/api.ErrSum", "shardkeep/api.ErrOld", "shardkeep/api.ErrHeld", "errors.errorType"], apart := false, laid := [("errors.errorType", laid_errors_errorType), ("shardkeep/api.ErrText", laid_shardkeep_api_ErrText), ("shardkeep/api.ErrBound", laid_shardkeep_api_ErrBound), ("shardkeep/api.ErrShape", laid_shardkeep_api_ErrShape), ("shardkeep/api.ErrName", laid_shardkeep_api_ErrName), ("shardkeep/api.ErrNone", laid_shardkeep_api_ErrNone), ("shardkeep/api.ErrExist", laid_shardkeep_api_ErrExist), ("shardkeep/api.ErrFull", laid_shardkeep_api_ErrFull), ("shardkeep/api.ErrFew", laid_shardkeep_api_ErrFew), ("shardkeep/api.ErrSum", laid_shardkeep_api_ErrSum), ("shardkeep/api.ErrOld", laid_shardkeep_api_ErrOld), ("shardkeep/api.ErrHeld", laid_shardkeep_api_ErrHeld), ("shardkeep/api.ErrZero", laid_shardkeep_api_ErrZero)], narrowed := true }
def MatrixTimesUptoSaid : Prop := matrixTimesUptoRow.holds Tryd.pinned (OpenSpec.upto matrixTimesSpec)

/-- 'shardkeeplaw1.CoderSums', WHERE WHAT IT READS IS OF BULK AT MOST 1048576: true; the input reads as it did. -/
def coderSumsUptoRow : OpenClaim := { program := "ytfojimaafhpgbaadoor", sum := "933a043f61b8711efabdaaa4abd944d89e81a515d12e668596117e78c3d28742", func := "shardkeep/shardkeeplaw1.CoderSums", spec := "coderSums", inPlace := ["internal/abi.NoEscape", "internal/bytealg.MakeNoZero"], unfollowed := true, recurses := true, named := ["shardkeep/api.ErrBound", "shardkeep/api.ErrZero", "shardkeep/api.ErrShape"], apart := false, laid := [("shardkeep/api.ErrBound", laid_shardkeep_api_ErrBound), ("shardkeep/api.ErrShape", laid_shardkeep_api_ErrShape), ("shardkeep/api.ErrZero", laid_shardkeep_api_ErrZero)], narrowed := true }
def CoderSumsUptoSaid : Prop := coderSumsUptoRow.holds Tryd.pinned (OpenSpec.upto coderSumsSpec)

/-- 'shardkeeplaw1.MatrixSpread', WHERE WHAT IT READS IS OF BULK AT MOST 1048576: true; the input reads as it did. -/
def matrixSpreadUptoRow : OpenClaim := { program := "ytfojimaafhpgbaadoor", sum := "933a043f61b8711efabdaaa4abd944d89e81a515d12e668596117e78c3d28742", func := "shardkeep/shardkeeplaw1.MatrixSpread", spec := "matrixSpread", inPlace := ["internal/reflectlite.ValueOf", "(internal/reflectlite.Value).Type", "(internal/reflectlite.Value).IsNil", "internal/reflectlite.TypeOf", "(internal/reflectlite.Value).Elem", "(internal/reflectlite.Value).Set"], unfollowed := true, recurses := true, named := ["shardkeep/api.ErrShape", "shardkeep/api.ErrZero", "shardkeep/api.ErrBound", "shardkeep/api.ErrText", "shardkeep/api.ErrName", "shardkeep/api.ErrNone", "shardkeep/api.ErrExist", "shardkeep/api.ErrFull", "shardkeep/api.ErrFew", "shardkeep/api.ErrSum", "shardkeep/api.ErrOld", "shardkeep/api.ErrHeld", "errors.errorType"], apart := false, laid := [("errors.errorType", laid_errors_errorType), ("shardkeep/api.ErrText", laid_shardkeep_api_ErrText), ("shardkeep/api.ErrBound", laid_shardkeep_api_ErrBound), ("shardkeep/api.ErrShape", laid_shardkeep_api_ErrShape), ("shardkeep/api.ErrName", laid_shardkeep_api_ErrName), ("shardkeep/api.ErrNone", laid_shardkeep_api_ErrNone), ("shardkeep/api.ErrExist", laid_shardkeep_api_ErrExist), ("shardkeep/api.ErrFull", laid_shardkeep_api_ErrFull), ("shardkeep/api.ErrFew", laid_shardkeep_api_ErrFew), ("shardkeep/api.ErrSum", laid_shardkeep_api_ErrSum), ("shardkeep/api.ErrOld", laid_shardkeep_api_ErrOld), ("shardkeep/api.ErrHeld", laid_shardkeep_api_ErrHeld), ("shardkeep/api.ErrZero", laid_shardkeep_api_ErrZero)], narrowed := true }
def MatrixSpreadUptoSaid : Prop := matrixSpreadUptoRow.holds Tryd.pinned (OpenSpec.upto matrixSpreadSpec)

/-- 'shardkeeplaw1.CoderWrong', WHERE WHAT IT READS IS OF BULK AT MOST 1048576: true; the input reads as it did. -/
def coderWrongUptoRow : OpenClaim := { program := "ytfojimaafhpgbaadoor", sum := "933a043f61b8711efabdaaa4abd944d89e81a515d12e668596117e78c3d28742", func := "shardkeep/shardkeeplaw1.CoderWrong", spec := "coderWrong", inPlace := ["internal/abi.NoEscape", "internal/bytealg.MakeNoZero"], unfollowed := true, recurses := true, named := ["shardkeep/api.ErrBound", "shardkeep/api.ErrZero", "shardkeep/api.ErrShape", "shardkeep/api.ErrFew"], apart := false, laid := [("shardkeep/api.ErrBound", laid_shardkeep_api_ErrBound), ("shardkeep/api.ErrShape", laid_shardkeep_api_ErrShape), ("shardkeep/api.ErrFew", laid_shardkeep_api_ErrFew), ("shardkeep/api.ErrZero", laid_shardkeep_api_ErrZero)], narrowed := true }
def CoderWrongUptoSaid : Prop := coderWrongUptoRow.holds Tryd.pinned (OpenSpec.upto coderWrongSpec)

/-- 'shardkeeplaw1.CoderAny', WHERE WHAT IT READS IS OF BULK AT MOST 1048576: true; the input reads as it did. -/
def coderAnyUptoRow : OpenClaim := { program := "ytfojimaafhpgbaadoor", sum := "933a043f61b8711efabdaaa4abd944d89e81a515d12e668596117e78c3d28742", func := "shardkeep/shardkeeplaw1.CoderAny", spec := "coderAny", inPlace := ["internal/abi.NoEscape", "internal/bytealg.MakeNoZero"], unfollowed := true, recurses := true, named := ["shardkeep/api.ErrBound", "shardkeep/api.ErrZero", "shardkeep/api.ErrShape", "shardkeep/api.ErrFew"], apart := false, laid := [("shardkeep/api.ErrBound", laid_shardkeep_api_ErrBound), ("shardkeep/api.ErrShape", laid_shardkeep_api_ErrShape), ("shardkeep/api.ErrFew", laid_shardkeep_api_ErrFew), ("shardkeep/api.ErrZero", laid_shardkeep_api_ErrZero)], narrowed := true }
def CoderAnyUptoSaid : Prop := coderAnyUptoRow.holds Tryd.pinned (OpenSpec.upto coderAnySpec)

/-- 'shardkeeplaw1.CoderEncodes', WHERE WHAT IT READS IS OF BULK AT MOST 1048576: true; the input reads as it did. -/
def coderEncodesUptoRow : OpenClaim := { program := "ytfojimaafhpgbaadoor", sum := "933a043f61b8711efabdaaa4abd944d89e81a515d12e668596117e78c3d28742", func := "shardkeep/shardkeeplaw1.CoderEncodes", spec := "coderEncodes", inPlace := ["internal/abi.NoEscape", "internal/bytealg.MakeNoZero", "internal/reflectlite.ValueOf", "(internal/reflectlite.Value).Type", "(internal/reflectlite.Value).IsNil", "internal/reflectlite.TypeOf", "(internal/reflectlite.Value).Elem", "(internal/reflectlite.Value).Set"], unfollowed := true, recurses := true, named := ["shardkeep/api.ErrBound", "shardkeep/api.ErrZero", "shardkeep/api.ErrShape", "shardkeep/api.ErrText", "shardkeep/api.ErrName", "shardkeep/api.ErrNone", "shardkeep/api.ErrExist", "shardkeep/api.ErrFull", "shardkeep/api.ErrFew", "shardkeep/api.ErrSum", "shardkeep/api.ErrOld", "shardkeep/api.ErrHeld", "errors.errorType"], apart := false, laid := [("errors.errorType", laid_errors_errorType), ("shardkeep/api.ErrText", laid_shardkeep_api_ErrText), ("shardkeep/api.ErrBound", laid_shardkeep_api_ErrBound), ("shardkeep/api.ErrShape", laid_shardkeep_api_ErrShape), ("shardkeep/api.ErrName", laid_shardkeep_api_ErrName), ("shardkeep/api.ErrNone", laid_shardkeep_api_ErrNone), ("shardkeep/api.ErrExist", laid_shardkeep_api_ErrExist), ("shardkeep/api.ErrFull", laid_shardkeep_api_ErrFull), ("shardkeep/api.ErrFew", laid_shardkeep_api_ErrFew), ("shardkeep/api.ErrSum", laid_shardkeep_api_ErrSum), ("shardkeep/api.ErrOld", laid_shardkeep_api_ErrOld), ("shardkeep/api.ErrHeld", laid_shardkeep_api_ErrHeld), ("shardkeep/api.ErrZero", laid_shardkeep_api_ErrZero)], narrowed := true }
def CoderEncodesUptoSaid : Prop := coderEncodesUptoRow.holds Tryd.pinned (OpenSpec.upto coderEncodesSpec)

/-- 'shardkeeplaw1.CoderDecodes', WHERE WHAT IT READS IS OF BULK AT MOST 1048576: true; the input reads as it did. -/
def coderDecodesUptoRow : OpenClaim := { program := "ytfojimaafhpgbaadoor", sum := "933a043f61b8711efabdaaa4abd944d89e81a515d12e668596117e78c3d28742", func := "shardkeep/shardkeeplaw1.CoderDecodes", spec := "coderDecodes", inPlace := ["internal/abi.NoEscape", "internal/bytealg.MakeNoZero", "internal/reflectlite.ValueOf", "(internal/reflectlite.Value).Type", "(internal/reflectlite.Value).IsNil", "internal/reflectlite.TypeOf", "(internal/reflectlite.Value).Elem", "(internal/reflectlite.Value).Set"], unfollowed := true, recurses := true, named := ["shardkeep/api.ErrBound", "shardkeep/api.ErrZero", "shardkeep/api.ErrShape", "shardkeep/api.ErrFew", "shardkeep/api.ErrText", "shardkeep/api.ErrName", "shardkeep/api.ErrNone", "shardkeep/api.ErrExist", "shardkeep/api.ErrFull", "shardkeep/api.ErrSum", "shardkeep/api.ErrOld", "shardkeep/api.ErrHeld", "errors.errorType"], apart := false, laid := [("errors.errorType", laid_errors_errorType), ("shardkeep/api.ErrText", laid_shardkeep_api_ErrText), ("shardkeep/api.ErrBound", laid_shardkeep_api_ErrBound), ("shardkeep/api.ErrShape", laid_shardkeep_api_ErrShape), ("shardkeep/api.ErrName", laid_shardkeep_api_ErrName), ("shardkeep/api.ErrNone", laid_shardkeep_api_ErrNone), ("shardkeep/api.ErrExist", laid_shardkeep_api_ErrExist), ("shardkeep/api.ErrFull", laid_shardkeep_api_ErrFull), ("shardkeep/api.ErrFew", laid_shardkeep_api_ErrFew), ("shardkeep/api.ErrSum", laid_shardkeep_api_ErrSum), ("shardkeep/api.ErrOld", laid_shardkeep_api_ErrOld), ("shardkeep/api.ErrHeld", laid_shardkeep_api_ErrHeld), ("shardkeep/api.ErrZero", laid_shardkeep_api_ErrZero)], narrowed := true }
def CoderDecodesUptoSaid : Prop := coderDecodesUptoRow.holds Tryd.pinned (OpenSpec.upto coderDecodesSpec)

end Rows
end Go.Proofs.YtfojimaafhpgbaaDoor
