/-
  NARROWER THAN 'FOR EVERY INPUT', by the rows' own cells (each row's printed sentence says how): RepairMends: laid · RepairAll: laid.
  DERIVED. THE GIVEN ROWS OF THIS SEAT. 2 by the template 'for every input the law returns true; each argument reads behind the call as it read before'; 0 by the template 'total and deterministic' (their statements: YtolbdcmoblcakaaGreatDoorTotals.lean).
  GIVEN WITH THE SEED: the statements are not yours to turn. If you find one false, say at which input.
  Laid BY PROGRAM, IN A SANDBOX (cutbox-rows.mjs): the forced cells as the released guide's own fill.sh prints them over the translation b237c1d9e7b5b38f… (all of the seat's roots in one cut). By AI agents, Wed Nov 11 2026. No macro, syntax, notation, axiom, sorry.
-/
import Derived.Test.YtolbdcmoblcakaaGreatDoorChecked
import GoSem.Claim
import GoSem.ClaimJoined
import GoSem.ClaimMapViews
import Derived.JoinedTies
import Derived.KernelRfl
namespace Go.Proofs.YtolbdcmoblcakaaGreatDoor
/- THE CELL 'sum', in the pinned program and in every row, IS THE sha256 OF THE DUMP (.gsa) THAT YtolbdcmoblcakaaGreatDoorProg.lean LOADS. Nothing in Lean hashes anything: it is a label: what it is worth is what the hold of that sum in a sandbox is worth. -/
noncomputable def Tryz.pinned : Pinned := { name := "ytolbdcmoblcakaagreatdoor", sum := "b237c1d9e7b5b38f6a8ee3ef68fd47073f52b6ad7dbe0260ba4de2cce4e217f0", checked := Tryz.checked }
namespace Rows
def none {H : Type} : Left H := { results := [], args := [] }

/- WHAT THE LISTED PACKAGE-LEVEL VARIABLES READ AS WHEN THE CALL BEGINS. Each datum BY PROGRAM (the guide's laid-datum.mjs) off the statement by which the dump's own 'gosem.cut.vars' lays the variable. In a bare row this is a premise. The card (YtolbdcmoblcakaaGreatDoorCards.lean) ties it to the program's text. -/
def laid_errors_errorType {H : Type} : DataW H := .iface "internal/reflectlite.rtype" (.agg [.ptr (.lit (.string [101, 114, 114, 111, 114]))])
def laid_shardkeep_api_ErrText {H : Type} : DataW H := .iface "*errors.errorString" (.ptr (.agg [.lit (.string [115, 104, 97, 114, 100, 107, 101, 101, 112, 58, 32, 116, 101, 120, 116])]))
def laid_shardkeep_api_ErrBound {H : Type} : DataW H := .iface "*errors.errorString" (.ptr (.agg [.lit (.string [115, 104, 97, 114, 100, 107, 101, 101, 112, 58, 32, 98, 111, 117, 110, 100])]))
def laid_shardkeep_api_ErrShape {H : Type} : DataW H := .iface "*errors.errorString" (.ptr (.agg [.lit (.string [115, 104, 97, 114, 100, 107, 101, 101, 112, 58, 32, 115, 104, 97, 112, 101])]))
def laid_shardkeep_api_ErrName {H : Type} : DataW H := .iface "*errors.errorString" (.ptr (.agg [.lit (.string [115, 104, 97, 114, 100, 107, 101, 101, 112, 58, 32, 110, 97, 109, 101])]))
def laid_shardkeep_api_ErrNone {H : Type} : DataW H := .iface "*errors.errorString" (.ptr (.agg [.lit (.string [115, 104, 97, 114, 100, 107, 101, 101, 112, 58, 32, 110, 111, 110, 101])]))
def laid_shardkeep_api_ErrExist {H : Type} : DataW H := .iface "*errors.errorString" (.ptr (.agg [.lit (.string [115, 104, 97, 114, 100, 107, 101, 101, 112, 58, 32, 101, 120, 105, 115, 116])]))
def laid_shardkeep_api_ErrFull {H : Type} : DataW H := .iface "*errors.errorString" (.ptr (.agg [.lit (.string [115, 104, 97, 114, 100, 107, 101, 101, 112, 58, 32, 102, 117, 108, 108])]))
def laid_shardkeep_api_ErrFew {H : Type} : DataW H := .iface "*errors.errorString" (.ptr (.agg [.lit (.string [115, 104, 97, 114, 100, 107, 101, 101, 112, 58, 32, 102, 101, 119])]))
def laid_shardkeep_api_ErrSum {H : Type} : DataW H := .iface "*errors.errorString" (.ptr (.agg [.lit (.string [115, 104, 97, 114, 100, 107, 101, 101, 112, 58, 32, 115, 117, 109])]))
def laid_shardkeep_api_ErrOld {H : Type} : DataW H := .iface "*errors.errorString" (.ptr (.agg [.lit (.string [115, 104, 97, 114, 100, 107, 101, 101, 112, 58, 32, 111, 108, 100])]))
def laid_shardkeep_api_ErrHeld {H : Type} : DataW H := .iface "*errors.errorString" (.ptr (.agg [.lit (.string [115, 104, 97, 114, 100, 107, 101, 101, 112, 58, 32, 104, 101, 108, 100])]))
def laid_shardkeep_api_ErrZero {H : Type} : DataW H := .iface "*errors.errorString" (.ptr (.agg [.lit (.string [115, 104, 97, 114, 100, 107, 101, 101, 112, 58, 32, 122, 101, 114, 111])]))

/-- 'shardkeeplaw3.RepairMends': WHATEVER THE INPUT: true; the input reads as it did. -/
def repairMendsSpec : ChangeSpec := { name := "repairMends", fn := fun _ => fun
  | [d1, d2, d3] => { results := [.lit (.bool true)], args := [d1, d2, d3] }
  | _ => none }
def repairMendsRow : OpenClaim := { program := "ytolbdcmoblcakaagreatdoor", sum := "b237c1d9e7b5b38f6a8ee3ef68fd47073f52b6ad7dbe0260ba4de2cce4e217f0", func := "shardkeep/shardkeeplaw3.RepairMends", spec := "repairMends", inPlace := ["internal/abi.NoEscape", "internal/bytealg.MakeNoZero", "slices.overlaps[shardkeep/api.Version]", "internal/reflectlite.ValueOf", "(internal/reflectlite.Value).Type", "(internal/reflectlite.Value).IsNil", "internal/reflectlite.TypeOf", "(internal/reflectlite.Value).Elem", "(internal/reflectlite.Value).Set"], unfollowed := true, recurses := true, named := ["shardkeep/api.ErrShape", "shardkeep/api.ErrBound", "shardkeep/api.ErrZero", "shardkeep/api.ErrName", "shardkeep/api.ErrExist", "shardkeep/api.ErrFew", "shardkeep/api.ErrOld", "shardkeep/api.ErrFull", "shardkeep/api.ErrNone", "shardkeep/api.ErrText", "shardkeep/api.ErrSum", "shardkeep/api.ErrHeld", "errors.errorType"], apart := false, laid := [("errors.errorType", laid_errors_errorType), ("shardkeep/api.ErrText", laid_shardkeep_api_ErrText), ("shardkeep/api.ErrBound", laid_shardkeep_api_ErrBound), ("shardkeep/api.ErrShape", laid_shardkeep_api_ErrShape), ("shardkeep/api.ErrName", laid_shardkeep_api_ErrName), ("shardkeep/api.ErrNone", laid_shardkeep_api_ErrNone), ("shardkeep/api.ErrExist", laid_shardkeep_api_ErrExist), ("shardkeep/api.ErrFull", laid_shardkeep_api_ErrFull), ("shardkeep/api.ErrFew", laid_shardkeep_api_ErrFew), ("shardkeep/api.ErrSum", laid_shardkeep_api_ErrSum), ("shardkeep/api.ErrOld", laid_shardkeep_api_ErrOld), ("shardkeep/api.ErrHeld", laid_shardkeep_api_ErrHeld), ("shardkeep/api.ErrZero", laid_shardkeep_api_ErrZero)] }
def RepairMendsSaid : Prop := repairMendsRow.holds Tryz.pinned (OpenSpec.ofChange repairMendsSpec)

/-- ITS FALSE NEIGHBOUR: 'it returns false'. Refute it at one input. -/
def repairMendsWrong : ChangeSpec := { name := "repairMends", fn := fun _ => fun
  | [d1, d2, d3] => { results := [.lit (.bool false)], args := [d1, d2, d3] }
  | _ => none }
def RepairMendsWrongFalsely : Prop := repairMendsRow.holds Tryz.pinned (OpenSpec.ofChange repairMendsWrong)

/-- 'shardkeeplaw3.RepairAll': WHATEVER THE INPUT: true; the input reads as it did. -/
def repairAllSpec : ChangeSpec := { name := "repairAll", fn := fun _ => fun
  | [d1, d2, d3, d4] => { results := [.lit (.bool true)], args := [d1, d2, d3, d4] }
  | _ => none }
def repairAllRow : OpenClaim := { program := "ytolbdcmoblcakaagreatdoor", sum := "b237c1d9e7b5b38f6a8ee3ef68fd47073f52b6ad7dbe0260ba4de2cce4e217f0", func := "shardkeep/shardkeeplaw3.RepairAll", spec := "repairAll", inPlace := ["internal/abi.NoEscape", "internal/bytealg.MakeNoZero", "slices.overlaps[shardkeep/api.Version]", "internal/reflectlite.ValueOf", "(internal/reflectlite.Value).Type", "(internal/reflectlite.Value).IsNil", "internal/reflectlite.TypeOf", "(internal/reflectlite.Value).Elem", "(internal/reflectlite.Value).Set"], unfollowed := true, recurses := true, named := ["shardkeep/api.ErrShape", "shardkeep/api.ErrBound", "shardkeep/api.ErrZero", "shardkeep/api.ErrName", "shardkeep/api.ErrExist", "shardkeep/api.ErrFew", "shardkeep/api.ErrOld", "shardkeep/api.ErrFull", "shardkeep/api.ErrNone", "shardkeep/api.ErrText", "shardkeep/api.ErrSum", "shardkeep/api.ErrHeld", "errors.errorType"], apart := false, laid := [("errors.errorType", laid_errors_errorType), ("shardkeep/api.ErrText", laid_shardkeep_api_ErrText), ("shardkeep/api.ErrBound", laid_shardkeep_api_ErrBound), ("shardkeep/api.ErrShape", laid_shardkeep_api_ErrShape), ("shardkeep/api.ErrName", laid_shardkeep_api_ErrName), ("shardkeep/api.ErrNone", laid_shardkeep_api_ErrNone), ("shardkeep/api.ErrExist", laid_shardkeep_api_ErrExist), ("shardkeep/api.ErrFull", laid_shardkeep_api_ErrFull), ("shardkeep/api.ErrFew", laid_shardkeep_api_ErrFew), ("shardkeep/api.ErrSum", laid_shardkeep_api_ErrSum), ("shardkeep/api.ErrOld", laid_shardkeep_api_ErrOld), ("shardkeep/api.ErrHeld", laid_shardkeep_api_ErrHeld), ("shardkeep/api.ErrZero", laid_shardkeep_api_ErrZero)] }
def RepairAllSaid : Prop := repairAllRow.holds Tryz.pinned (OpenSpec.ofChange repairAllSpec)

/-- ITS FALSE NEIGHBOUR: 'it returns false'. Refute it at one input. -/
def repairAllWrong : ChangeSpec := { name := "repairAll", fn := fun _ => fun
  | [d1, d2, d3, d4] => { results := [.lit (.bool false)], args := [d1, d2, d3, d4] }
  | _ => none }
def RepairAllWrongFalsely : Prop := repairAllRow.holds Tryz.pinned (OpenSpec.ofChange repairAllWrong)

/- THE SECOND FORM. 'bulk': how many values and letters a reading holds, each counted each time it is reached (what is shared counts as often as it is met; a slice's spare places count too). A statement '..UptoSaid' is the law's where the arguments, and the package variables that the reading takes, are together of bulk at most 1048576: NARROWER than '..Said'. Prove '..Said' where nothing that the law and all that it calls make is longer than what came in: it says more and counts as full. Else prove '..UptoSaid'. A law counts once. -/
mutual
def uptoBulk {H : Type} : DataW H → Nat
  | .lit (.string bytes) => bytes.length + 1
  | .lit _ => 1
  | .nil => 1
  | .ptr d => uptoBulk d + 1
  | .slice elems spare => uptoBulkAll elems + uptoBulkAll spare + 1
  | .agg parts => uptoBulkAll parts + 1
  | .iface _ d => uptoBulk d + 1
  | .map entries => uptoBulkEntries entries + 1
  | .held _ => 1
def uptoBulkAll {H : Type} : List (DataW H) → Nat
  | [] => 0
  | d :: r => uptoBulk d + uptoBulkAll r
def uptoBulkEntries {H : Type} : List (Lit × DataW H) → Nat
  | [] => 0
  | x :: r => uptoBulkEntry x + uptoBulkEntries r
def uptoBulkEntry {H : Type} : Lit × DataW H → Nat
  | (.string bytes, d) => bytes.length + uptoBulk d + 1
  | (_, d) => uptoBulk d + 1
 end
def uptoSmall : (H : Type) → List (DataW H) → Bool := fun _ ds => decide (uptoBulkAll ds ≤ 1048576)
def OpenSpec.upto (s : _root_.Go.ChangeSpec) : _root_.Go.OpenSpec := { _root_.Go.OpenSpec.ofChange s with cond := some uptoSmall }

/-- 'shardkeeplaw3.RepairMends', WHERE WHAT IT READS IS OF BULK AT MOST 1048576: true; the input reads as it did. -/
def repairMendsUptoRow : OpenClaim := { program := "ytolbdcmoblcakaagreatdoor", sum := "b237c1d9e7b5b38f6a8ee3ef68fd47073f52b6ad7dbe0260ba4de2cce4e217f0", func := "shardkeep/shardkeeplaw3.RepairMends", spec := "repairMends", inPlace := ["internal/abi.NoEscape", "internal/bytealg.MakeNoZero", "slices.overlaps[shardkeep/api.Version]", "internal/reflectlite.ValueOf", "(internal/reflectlite.Value).Type", "(internal/reflectlite.Value).IsNil", "internal/reflectlite.TypeOf", "(internal/reflectlite.Value).Elem", "(internal/reflectlite.Value).Set"], unfollowed := true, recurses := true, named := ["shardkeep/api.ErrShape", "shardkeep/api.ErrBound", "shardkeep/api.ErrZero", "shardkeep/api.ErrName", "shardkeep/api.ErrExist", "shardkeep/api.ErrFew", "shardkeep/api.ErrOld", "shardkeep/api.ErrFull", "shardkeep/api.ErrNone", "shardkeep/api.ErrText", "shardkeep/api.ErrSum", "shardkeep/api.ErrHeld", "errors.errorType"], apart := false, laid := [("errors.errorType", laid_errors_errorType), ("shardkeep/api.ErrText", laid_shardkeep_api_ErrText), ("shardkeep/api.ErrBound", laid_shardkeep_api_ErrBound), ("shardkeep/api.ErrShape", laid_shardkeep_api_ErrShape), ("shardkeep/api.ErrName", laid_shardkeep_api_ErrName), ("shardkeep/api.ErrNone", laid_shardkeep_api_ErrNone), ("shardkeep/api.ErrExist", laid_shardkeep_api_ErrExist), ("shardkeep/api.ErrFull", laid_shardkeep_api_ErrFull), ("shardkeep/api.ErrFew", laid_shardkeep_api_ErrFew), ("shardkeep/api.ErrSum", laid_shardkeep_api_ErrSum), ("shardkeep/api.ErrOld", laid_shardkeep_api_ErrOld), ("shardkeep/api.ErrHeld", laid_shardkeep_api_ErrHeld), ("shardkeep/api.ErrZero", laid_shardkeep_api_ErrZero)], narrowed := true }
def RepairMendsUptoSaid : Prop := repairMendsUptoRow.holds Tryz.pinned (OpenSpec.upto repairMendsSpec)

/-- 'shardkeeplaw3.RepairAll', WHERE WHAT IT READS IS OF BULK AT MOST 1048576: true; the input reads as it did. -/
def repairAllUptoRow : OpenClaim := { program := "ytolbdcmoblcakaagreatdoor", sum := "b237c1d9e7b5b38f6a8ee3ef68fd47073f52b6ad7dbe0260ba4de2cce4e217f0", func := "shardkeep/shardkeeplaw3.RepairAll", spec := "repairAll", inPlace := ["internal/abi.NoEscape", "internal/bytealg.MakeNoZero", "slices.overlaps[shardkeep/api.Version]", "internal/reflectlite.ValueOf", "(internal/reflectlite.Value).Type", "(internal/reflectlite.Value).IsNil", "internal/reflectlite.TypeOf", "(internal/reflectlite.Value).Elem", "(internal/reflectlite.Value).Set"], unfollowed := true, recurses := true, named := ["shardkeep/api.ErrShape", "shardkeep/api.ErrBound", "shardkeep/api.ErrZero", "shardkeep/api.ErrName", "shardkeep/api.ErrExist", "shardkeep/api.ErrFew", "shardkeep/api.ErrOld", "shardkeep/api.ErrFull", "shardkeep/api.ErrNone", "shardkeep/api.ErrText", "shardkeep/api.ErrSum", "shardkeep/api.ErrHeld", "errors.errorType"], apart := false, laid := [("errors.errorType", laid_errors_errorType), ("shardkeep/api.ErrText", laid_shardkeep_api_ErrText), ("shardkeep/api.ErrBound", laid_shardkeep_api_ErrBound), ("shardkeep/api.ErrShape", laid_shardkeep_api_ErrShape), ("shardkeep/api.ErrName", laid_shardkeep_api_ErrName), ("shardkeep/api.ErrNone", laid_shardkeep_api_ErrNone), ("shardkeep/api.ErrExist", laid_shardkeep_api_ErrExist), ("shardkeep/api.ErrFull", laid_shardkeep_api_ErrFull), ("shardkeep/api.ErrFew", laid_shardkeep_api_ErrFew), ("shardkeep/api.ErrSum", laid_shardkeep_api_ErrSum), ("shardkeep/api.ErrOld", laid_shardkeep_api_ErrOld), ("shardkeep/api.ErrHeld", laid_shardkeep_api_ErrHeld), ("shardkeep/api.ErrZero", laid_shardkeep_api_ErrZero)], narrowed := true }
def RepairAllUptoSaid : Prop := repairAllUptoRow.holds Tryz.pinned (OpenSpec.upto repairAllSpec)

end Rows
end Go.Proofs.YtolbdcmoblcakaaGreatDoor
