/-
  DERIVED. GIVEN WITH THE SEED: THE CARDS: each row of YtfojimaafhpgbaaDoorRows.lean that lists a variable, with what it lists TIED to the program's text (the seventh form; the later family's looks); each row that meets fmt, with fmt's text TOLD by the authors' own Lean function (tested against real Go, not proved from fmt's source: count such statements apart). THE CARD IS WHAT COUNTS. Prove the row's statement (the work); the ties are given (YtfojimaafhpgbaaDoorTie.lean); close each card by the builder's one call (the guide's Derived/Test/ToyasCard.lean, 'card_holds'). Laid BY PROGRAM, IN A SANDBOX (cutbox-door.mjs). By AI agents, Wed Nov 11 2026. No macro, syntax, notation, axiom, sorry.
-/
import Derived.Test.YtfojimaafhpgbaaDoorRows
import GoSem.ClaimSeven
namespace Go.Proofs.YtfojimaafhpgbaaDoor
namespace Rows

/-- THE TIED CARD OF 'shardkeeplaw1.FieldTwo'. -/
def fieldTwoCard : Claim7 := { stood := { row := fieldTwoRow, standIns := [], harness := (true, "b24e62829fa2fd26ac942c393c60454c82e8744d9d5c0e2d6f6f2fd16213fa80"), looks := true }, kinds := [], alts := [], laidByText := true, laidKinds := [.sentinel], laidTests := true, laidLooks := .later }
def FieldTwoCardSaid : Prop := Claim7.holds Tryd.pinned (.plain (OpenSpec.ofChange fieldTwoSpec)) fieldTwoCard

/-- THE TIED CARD OF 'shardkeeplaw1.FieldThrough'. -/
def fieldThroughCard : Claim7 := { stood := { row := fieldThroughRow, standIns := [], harness := (true, "b24e62829fa2fd26ac942c393c60454c82e8744d9d5c0e2d6f6f2fd16213fa80"), looks := true }, kinds := [], alts := [], laidByText := true, laidKinds := [.sentinel, .sentinel, .sentinel], laidTests := true, laidLooks := .later }
def FieldThroughCardSaid : Prop := Claim7.holds Tryd.pinned (.plain (OpenSpec.ofChange fieldThroughSpec)) fieldThroughCard

/-- THE TIED CARD OF 'shardkeeplaw1.MatrixAny'. -/
def matrixAnyCard : Claim7 := { stood := { row := matrixAnyRow, standIns := [], harness := (true, "b24e62829fa2fd26ac942c393c60454c82e8744d9d5c0e2d6f6f2fd16213fa80"), looks := true }, kinds := [], alts := [], laidByText := true, laidKinds := [.sentinel, .sentinel, .sentinel], laidTests := true, laidLooks := .later }
def MatrixAnyCardSaid : Prop := Claim7.holds Tryd.pinned (.plain (OpenSpec.ofChange matrixAnySpec)) matrixAnyCard

/-- THE TIED CARD OF 'shardkeeplaw1.Names'. -/
def namesCard : Claim7 := { stood := { row := namesRow, standIns := [], harness := (true, "b24e62829fa2fd26ac942c393c60454c82e8744d9d5c0e2d6f6f2fd16213fa80"), looks := true }, kinds := [], alts := [], laidByText := true, laidKinds := [.handle, .sentinel, .sentinel, .sentinel, .sentinel, .sentinel, .sentinel, .sentinel, .sentinel, .sentinel, .sentinel, .sentinel, .sentinel], laidTests := true, laidLooks := .later }
def NamesCardSaid : Prop := Claim7.holds Tryd.pinned (.plain (OpenSpec.ofChange namesSpec)) namesCard

/-- THE TIED CARD OF 'shardkeeplaw1.SumsCRC'. -/
def sumsCRCCard : Claim7 := { stood := { row := sumsCRCRow, standIns := [], harness := (true, "b24e62829fa2fd26ac942c393c60454c82e8744d9d5c0e2d6f6f2fd16213fa80"), looks := true }, kinds := [], alts := [], laidByText := true, laidKinds := [.handle, .sentinel, .sentinel, .sentinel, .sentinel, .sentinel, .sentinel, .sentinel, .sentinel, .sentinel, .sentinel, .sentinel, .sentinel], laidTests := true, laidLooks := .later }
def SumsCRCCardSaid : Prop := Claim7.holds Tryd.pinned (.plain (OpenSpec.ofChange sumsCRCSpec)) sumsCRCCard

/-- THE TIED CARD OF 'shardkeeplaw1.SumsBurst'. -/
def sumsBurstCard : Claim7 := { stood := { row := sumsBurstRow, standIns := [], harness := (true, "b24e62829fa2fd26ac942c393c60454c82e8744d9d5c0e2d6f6f2fd16213fa80"), looks := true }, kinds := [], alts := [], laidByText := true, laidKinds := [.handle, .sentinel, .sentinel, .sentinel, .sentinel, .sentinel, .sentinel, .sentinel, .sentinel, .sentinel, .sentinel, .sentinel, .sentinel], laidTests := true, laidLooks := .later }
def SumsBurstCardSaid : Prop := Claim7.holds Tryd.pinned (.plain (OpenSpec.ofChange sumsBurstSpec)) sumsBurstCard

/-- THE TIED CARD OF 'shardkeeplaw1.FieldPow'. -/
def fieldPowCard : Claim7 := { stood := { row := fieldPowRow, standIns := [], harness := (true, "b24e62829fa2fd26ac942c393c60454c82e8744d9d5c0e2d6f6f2fd16213fa80"), looks := true }, kinds := [], alts := [], laidByText := true, laidKinds := [.handle, .sentinel, .sentinel, .sentinel, .sentinel, .sentinel, .sentinel, .sentinel, .sentinel, .sentinel, .sentinel, .sentinel, .sentinel], laidTests := true, laidLooks := .later }
def FieldPowCardSaid : Prop := Claim7.holds Tryd.pinned (.plain (OpenSpec.ofChange fieldPowSpec)) fieldPowCard

/-- THE TIED CARD OF 'shardkeeplaw1.FieldMul'. -/
def fieldMulCard : Claim7 := { stood := { row := fieldMulRow, standIns := [], harness := (true, "b24e62829fa2fd26ac942c393c60454c82e8744d9d5c0e2d6f6f2fd16213fa80"), looks := true }, kinds := [], alts := [], laidByText := true, laidKinds := [.handle, .sentinel, .sentinel, .sentinel, .sentinel, .sentinel, .sentinel, .sentinel, .sentinel, .sentinel, .sentinel, .sentinel, .sentinel], laidTests := true, laidLooks := .later }
def FieldMulCardSaid : Prop := Claim7.holds Tryd.pinned (.plain (OpenSpec.ofChange fieldMulSpec)) fieldMulCard

/-- THE TIED CARD OF 'shardkeeplaw1.FieldLaws'. -/
def fieldLawsCard : Claim7 := { stood := { row := fieldLawsRow, standIns := [], harness := (true, "b24e62829fa2fd26ac942c393c60454c82e8744d9d5c0e2d6f6f2fd16213fa80"), looks := true }, kinds := [], alts := [], laidByText := true, laidKinds := [.handle, .sentinel, .sentinel, .sentinel, .sentinel, .sentinel, .sentinel, .sentinel, .sentinel, .sentinel, .sentinel, .sentinel, .sentinel], laidTests := true, laidLooks := .later }
def FieldLawsCardSaid : Prop := Claim7.holds Tryd.pinned (.plain (OpenSpec.ofChange fieldLawsSpec)) fieldLawsCard

/-- THE TIED CARD OF 'shardkeeplaw1.FieldEval'. -/
def fieldEvalCard : Claim7 := { stood := { row := fieldEvalRow, standIns := [], harness := (true, "b24e62829fa2fd26ac942c393c60454c82e8744d9d5c0e2d6f6f2fd16213fa80"), looks := true }, kinds := [], alts := [], laidByText := true, laidKinds := [.handle, .sentinel, .sentinel, .sentinel, .sentinel, .sentinel, .sentinel, .sentinel, .sentinel, .sentinel, .sentinel, .sentinel, .sentinel], laidTests := true, laidLooks := .later }
def FieldEvalCardSaid : Prop := Claim7.holds Tryd.pinned (.plain (OpenSpec.ofChange fieldEvalSpec)) fieldEvalCard

/-- THE TIED CARD OF 'shardkeeplaw1.MatrixInverts'. -/
def matrixInvertsCard : Claim7 := { stood := { row := matrixInvertsRow, standIns := [], harness := (true, "b24e62829fa2fd26ac942c393c60454c82e8744d9d5c0e2d6f6f2fd16213fa80"), looks := true }, kinds := [], alts := [], laidByText := true, laidKinds := [.handle, .sentinel, .sentinel, .sentinel, .sentinel, .sentinel, .sentinel, .sentinel, .sentinel, .sentinel, .sentinel, .sentinel, .sentinel], laidTests := true, laidLooks := .later }
def MatrixInvertsCardSaid : Prop := Claim7.holds Tryd.pinned (.plain (OpenSpec.ofChange matrixInvertsSpec)) matrixInvertsCard

/-- THE TIED CARD OF 'shardkeeplaw1.MatrixTimes'. -/
def matrixTimesCard : Claim7 := { stood := { row := matrixTimesRow, standIns := [], harness := (true, "b24e62829fa2fd26ac942c393c60454c82e8744d9d5c0e2d6f6f2fd16213fa80"), looks := true }, kinds := [], alts := [], laidByText := true, laidKinds := [.handle, .sentinel, .sentinel, .sentinel, .sentinel, .sentinel, .sentinel, .sentinel, .sentinel, .sentinel, .sentinel, .sentinel, .sentinel], laidTests := true, laidLooks := .later }
def MatrixTimesCardSaid : Prop := Claim7.holds Tryd.pinned (.plain (OpenSpec.ofChange matrixTimesSpec)) matrixTimesCard

/-- THE TIED CARD OF 'shardkeeplaw1.CoderSums'. -/
def coderSumsCard : Claim7 := { stood := { row := coderSumsRow, standIns := [], harness := (true, "b24e62829fa2fd26ac942c393c60454c82e8744d9d5c0e2d6f6f2fd16213fa80"), looks := true }, kinds := [], alts := [], laidByText := true, laidKinds := [.sentinel, .sentinel, .sentinel], laidTests := true, laidLooks := .later }
def CoderSumsCardSaid : Prop := Claim7.holds Tryd.pinned (.plain (OpenSpec.ofChange coderSumsSpec)) coderSumsCard

/-- THE TIED CARD OF 'shardkeeplaw1.MatrixSpread'. -/
def matrixSpreadCard : Claim7 := { stood := { row := matrixSpreadRow, standIns := [], harness := (true, "b24e62829fa2fd26ac942c393c60454c82e8744d9d5c0e2d6f6f2fd16213fa80"), looks := true }, kinds := [], alts := [], laidByText := true, laidKinds := [.handle, .sentinel, .sentinel, .sentinel, .sentinel, .sentinel, .sentinel, .sentinel, .sentinel, .sentinel, .sentinel, .sentinel, .sentinel], laidTests := true, laidLooks := .later }
def MatrixSpreadCardSaid : Prop := Claim7.holds Tryd.pinned (.plain (OpenSpec.ofChange matrixSpreadSpec)) matrixSpreadCard

/-- THE TIED CARD OF 'shardkeeplaw1.CoderWrong'. -/
def coderWrongCard : Claim7 := { stood := { row := coderWrongRow, standIns := [], harness := (true, "b24e62829fa2fd26ac942c393c60454c82e8744d9d5c0e2d6f6f2fd16213fa80"), looks := true }, kinds := [], alts := [], laidByText := true, laidKinds := [.sentinel, .sentinel, .sentinel, .sentinel], laidTests := true, laidLooks := .later }
def CoderWrongCardSaid : Prop := Claim7.holds Tryd.pinned (.plain (OpenSpec.ofChange coderWrongSpec)) coderWrongCard

/-- THE TIED CARD OF 'shardkeeplaw1.CoderAny'. -/
def coderAnyCard : Claim7 := { stood := { row := coderAnyRow, standIns := [], harness := (true, "b24e62829fa2fd26ac942c393c60454c82e8744d9d5c0e2d6f6f2fd16213fa80"), looks := true }, kinds := [], alts := [], laidByText := true, laidKinds := [.sentinel, .sentinel, .sentinel, .sentinel], laidTests := true, laidLooks := .later }
def CoderAnyCardSaid : Prop := Claim7.holds Tryd.pinned (.plain (OpenSpec.ofChange coderAnySpec)) coderAnyCard

/-- THE TIED CARD OF 'shardkeeplaw1.CoderEncodes'. -/
def coderEncodesCard : Claim7 := { stood := { row := coderEncodesRow, standIns := [], harness := (true, "b24e62829fa2fd26ac942c393c60454c82e8744d9d5c0e2d6f6f2fd16213fa80"), looks := true }, kinds := [], alts := [], laidByText := true, laidKinds := [.handle, .sentinel, .sentinel, .sentinel, .sentinel, .sentinel, .sentinel, .sentinel, .sentinel, .sentinel, .sentinel, .sentinel, .sentinel], laidTests := true, laidLooks := .later }
def CoderEncodesCardSaid : Prop := Claim7.holds Tryd.pinned (.plain (OpenSpec.ofChange coderEncodesSpec)) coderEncodesCard

/-- THE TIED CARD OF 'shardkeeplaw1.CoderDecodes'. -/
def coderDecodesCard : Claim7 := { stood := { row := coderDecodesRow, standIns := [], harness := (true, "b24e62829fa2fd26ac942c393c60454c82e8744d9d5c0e2d6f6f2fd16213fa80"), looks := true }, kinds := [], alts := [], laidByText := true, laidKinds := [.handle, .sentinel, .sentinel, .sentinel, .sentinel, .sentinel, .sentinel, .sentinel, .sentinel, .sentinel, .sentinel, .sentinel, .sentinel], laidTests := true, laidLooks := .later }
def CoderDecodesCardSaid : Prop := Claim7.holds Tryd.pinned (.plain (OpenSpec.ofChange coderDecodesSpec)) coderDecodesCard

/-- THE SECOND FORM's CARD OF 'shardkeeplaw1.FieldTwo'. -/
def fieldTwoUptoCard : Claim7 := { stood := { row := fieldTwoUptoRow, standIns := [], harness := (true, "b24e62829fa2fd26ac942c393c60454c82e8744d9d5c0e2d6f6f2fd16213fa80"), looks := true }, kinds := [], alts := [], laidByText := true, laidKinds := [.sentinel], laidTests := true, laidLooks := .later }
def FieldTwoUptoCardSaid : Prop := Claim7.holds Tryd.pinned (.plain (OpenSpec.upto fieldTwoSpec)) fieldTwoUptoCard

/-- THE SECOND FORM's CARD OF 'shardkeeplaw1.FieldThrough'. -/
def fieldThroughUptoCard : Claim7 := { stood := { row := fieldThroughUptoRow, standIns := [], harness := (true, "b24e62829fa2fd26ac942c393c60454c82e8744d9d5c0e2d6f6f2fd16213fa80"), looks := true }, kinds := [], alts := [], laidByText := true, laidKinds := [.sentinel, .sentinel, .sentinel], laidTests := true, laidLooks := .later }
def FieldThroughUptoCardSaid : Prop := Claim7.holds Tryd.pinned (.plain (OpenSpec.upto fieldThroughSpec)) fieldThroughUptoCard

/-- THE SECOND FORM's CARD OF 'shardkeeplaw1.MatrixAny'. -/
def matrixAnyUptoCard : Claim7 := { stood := { row := matrixAnyUptoRow, standIns := [], harness := (true, "b24e62829fa2fd26ac942c393c60454c82e8744d9d5c0e2d6f6f2fd16213fa80"), looks := true }, kinds := [], alts := [], laidByText := true, laidKinds := [.sentinel, .sentinel, .sentinel], laidTests := true, laidLooks := .later }
def MatrixAnyUptoCardSaid : Prop := Claim7.holds Tryd.pinned (.plain (OpenSpec.upto matrixAnySpec)) matrixAnyUptoCard

/-- THE SECOND FORM's CARD OF 'shardkeeplaw1.Names'. -/
def namesUptoCard : Claim7 := { stood := { row := namesUptoRow, standIns := [], harness := (true, "b24e62829fa2fd26ac942c393c60454c82e8744d9d5c0e2d6f6f2fd16213fa80"), looks := true }, kinds := [], alts := [], laidByText := true, laidKinds := [.handle, .sentinel, .sentinel, .sentinel, .sentinel, .sentinel, .sentinel, .sentinel, .sentinel, .sentinel, .sentinel, .sentinel, .sentinel], laidTests := true, laidLooks := .later }
def NamesUptoCardSaid : Prop := Claim7.holds Tryd.pinned (.plain (OpenSpec.upto namesSpec)) namesUptoCard

/-- THE SECOND FORM's CARD OF 'shardkeeplaw1.SumsCRC'. -/
def sumsCRCUptoCard : Claim7 := { stood := { row := sumsCRCUptoRow, standIns := [], harness := (true, "b24e62829fa2fd26ac942c393c60454c82e8744d9d5c0e2d6f6f2fd16213fa80"), looks := true }, kinds := [], alts := [], laidByText := true, laidKinds := [.handle, .sentinel, .sentinel, .sentinel, .sentinel, .sentinel, .sentinel, .sentinel, .sentinel, .sentinel, .sentinel, .sentinel, .sentinel], laidTests := true, laidLooks := .later }
def SumsCRCUptoCardSaid : Prop := Claim7.holds Tryd.pinned (.plain (OpenSpec.upto sumsCRCSpec)) sumsCRCUptoCard

/-- THE SECOND FORM's CARD OF 'shardkeeplaw1.SumsBurst'. -/
def sumsBurstUptoCard : Claim7 := { stood := { row := sumsBurstUptoRow, standIns := [], harness := (true, "b24e62829fa2fd26ac942c393c60454c82e8744d9d5c0e2d6f6f2fd16213fa80"), looks := true }, kinds := [], alts := [], laidByText := true, laidKinds := [.handle, .sentinel, .sentinel, .sentinel, .sentinel, .sentinel, .sentinel, .sentinel, .sentinel, .sentinel, .sentinel, .sentinel, .sentinel], laidTests := true, laidLooks := .later }
def SumsBurstUptoCardSaid : Prop := Claim7.holds Tryd.pinned (.plain (OpenSpec.upto sumsBurstSpec)) sumsBurstUptoCard

/-- THE SECOND FORM's CARD OF 'shardkeeplaw1.FieldPow'. -/
def fieldPowUptoCard : Claim7 := { stood := { row := fieldPowUptoRow, standIns := [], harness := (true, "b24e62829fa2fd26ac942c393c60454c82e8744d9d5c0e2d6f6f2fd16213fa80"), looks := true }, kinds := [], alts := [], laidByText := true, laidKinds := [.handle, .sentinel, .sentinel, .sentinel, .sentinel, .sentinel, .sentinel, .sentinel, .sentinel, .sentinel, .sentinel, .sentinel, .sentinel], laidTests := true, laidLooks := .later }
def FieldPowUptoCardSaid : Prop := Claim7.holds Tryd.pinned (.plain (OpenSpec.upto fieldPowSpec)) fieldPowUptoCard

/-- THE SECOND FORM's CARD OF 'shardkeeplaw1.FieldMul'. -/
def fieldMulUptoCard : Claim7 := { stood := { row := fieldMulUptoRow, standIns := [], harness := (true, "b24e62829fa2fd26ac942c393c60454c82e8744d9d5c0e2d6f6f2fd16213fa80"), looks := true }, kinds := [], alts := [], laidByText := true, laidKinds := [.handle, .sentinel, .sentinel, .sentinel, .sentinel, .sentinel, .sentinel, .sentinel, .sentinel, .sentinel, .sentinel, .sentinel, .sentinel], laidTests := true, laidLooks := .later }
def FieldMulUptoCardSaid : Prop := Claim7.holds Tryd.pinned (.plain (OpenSpec.upto fieldMulSpec)) fieldMulUptoCard

/-- THE SECOND FORM's CARD OF 'shardkeeplaw1.FieldLaws'. -/
def fieldLawsUptoCard : Claim7 := { stood := { row := fieldLawsUptoRow, standIns := [], harness := (true, "b24e62829fa2fd26ac942c393c60454c82e8744d9d5c0e2d6f6f2fd16213fa80"), looks := true }, kinds := [], alts := [], laidByText := true, laidKinds := [.handle, .sentinel, .sentinel, .sentinel, .sentinel, .sentinel, .sentinel, .sentinel, .sentinel, .sentinel, .sentinel, .sentinel, .sentinel], laidTests := true, laidLooks := .later }
def FieldLawsUptoCardSaid : Prop := Claim7.holds Tryd.pinned (.plain (OpenSpec.upto fieldLawsSpec)) fieldLawsUptoCard

/-- THE SECOND FORM's CARD OF 'shardkeeplaw1.FieldEval'. -/
def fieldEvalUptoCard : Claim7 := { stood := { row := fieldEvalUptoRow, standIns := [], harness := (true, "b24e62829fa2fd26ac942c393c60454c82e8744d9d5c0e2d6f6f2fd16213fa80"), looks := true }, kinds := [], alts := [], laidByText := true, laidKinds := [.handle, .sentinel, .sentinel, .sentinel, .sentinel, .sentinel, .sentinel, .sentinel, .sentinel, .sentinel, .sentinel, .sentinel, .sentinel], laidTests := true, laidLooks := .later }
def FieldEvalUptoCardSaid : Prop := Claim7.holds Tryd.pinned (.plain (OpenSpec.upto fieldEvalSpec)) fieldEvalUptoCard

/-- THE SECOND FORM's CARD OF 'shardkeeplaw1.MatrixInverts'. -/
def matrixInvertsUptoCard : Claim7 := { stood := { row := matrixInvertsUptoRow, standIns := [], harness := (true, "b24e62829fa2fd26ac942c393c60454c82e8744d9d5c0e2d6f6f2fd16213fa80"), looks := true }, kinds := [], alts := [], laidByText := true, laidKinds := [.handle, .sentinel, .sentinel, .sentinel, .sentinel, .sentinel, .sentinel, .sentinel, .sentinel, .sentinel, .sentinel, .sentinel, .sentinel], laidTests := true, laidLooks := .later }
def MatrixInvertsUptoCardSaid : Prop := Claim7.holds Tryd.pinned (.plain (OpenSpec.upto matrixInvertsSpec)) matrixInvertsUptoCard

/-- THE SECOND FORM's CARD OF 'shardkeeplaw1.MatrixTimes'. -/
def matrixTimesUptoCard : Claim7 := { stood := { row := matrixTimesUptoRow, standIns := [], harness := (true, "b24e62829fa2fd26ac942c393c60454c82e8744d9d5c0e2d6f6f2fd16213fa80"), looks := true }, kinds := [], alts := [], laidByText := true, laidKinds := [.handle, .sentinel, .sentinel, .sentinel, .sentinel, .sentinel, .sentinel, .sentinel, .sentinel, .sentinel, .sentinel, .sentinel, .sentinel], laidTests := true, laidLooks := .later }
def MatrixTimesUptoCardSaid : Prop := Claim7.holds Tryd.pinned (.plain (OpenSpec.upto matrixTimesSpec)) matrixTimesUptoCard

/-- THE SECOND FORM's CARD OF 'shardkeeplaw1.CoderSums'. -/
def coderSumsUptoCard : Claim7 := { stood := { row := coderSumsUptoRow, standIns := [], harness := (true, "b24e62829fa2fd26ac942c393c60454c82e8744d9d5c0e2d6f6f2fd16213fa80"), looks := true }, kinds := [], alts := [], laidByText := true, laidKinds := [.sentinel, .sentinel, .sentinel], laidTests := true, laidLooks := .later }
def CoderSumsUptoCardSaid : Prop := Claim7.holds Tryd.pinned (.plain (OpenSpec.upto coderSumsSpec)) coderSumsUptoCard

/-- THE SECOND FORM's CARD OF 'shardkeeplaw1.MatrixSpread'. -/
def matrixSpreadUptoCard : Claim7 := { stood := { row := matrixSpreadUptoRow, standIns := [], harness := (true, "b24e62829fa2fd26ac942c393c60454c82e8744d9d5c0e2d6f6f2fd16213fa80"), looks := true }, kinds := [], alts := [], laidByText := true, laidKinds := [.handle, .sentinel, .sentinel, .sentinel, .sentinel, .sentinel, .sentinel, .sentinel, .sentinel, .sentinel, .sentinel, .sentinel, .sentinel], laidTests := true, laidLooks := .later }
def MatrixSpreadUptoCardSaid : Prop := Claim7.holds Tryd.pinned (.plain (OpenSpec.upto matrixSpreadSpec)) matrixSpreadUptoCard

/-- THE SECOND FORM's CARD OF 'shardkeeplaw1.CoderWrong'. -/
def coderWrongUptoCard : Claim7 := { stood := { row := coderWrongUptoRow, standIns := [], harness := (true, "b24e62829fa2fd26ac942c393c60454c82e8744d9d5c0e2d6f6f2fd16213fa80"), looks := true }, kinds := [], alts := [], laidByText := true, laidKinds := [.sentinel, .sentinel, .sentinel, .sentinel], laidTests := true, laidLooks := .later }
def CoderWrongUptoCardSaid : Prop := Claim7.holds Tryd.pinned (.plain (OpenSpec.upto coderWrongSpec)) coderWrongUptoCard

/-- THE SECOND FORM's CARD OF 'shardkeeplaw1.CoderAny'. -/
def coderAnyUptoCard : Claim7 := { stood := { row := coderAnyUptoRow, standIns := [], harness := (true, "b24e62829fa2fd26ac942c393c60454c82e8744d9d5c0e2d6f6f2fd16213fa80"), looks := true }, kinds := [], alts := [], laidByText := true, laidKinds := [.sentinel, .sentinel, .sentinel, .sentinel], laidTests := true, laidLooks := .later }
def CoderAnyUptoCardSaid : Prop := Claim7.holds Tryd.pinned (.plain (OpenSpec.upto coderAnySpec)) coderAnyUptoCard

/-- THE SECOND FORM's CARD OF 'shardkeeplaw1.CoderEncodes'. -/
def coderEncodesUptoCard : Claim7 := { stood := { row := coderEncodesUptoRow, standIns := [], harness := (true, "b24e62829fa2fd26ac942c393c60454c82e8744d9d5c0e2d6f6f2fd16213fa80"), looks := true }, kinds := [], alts := [], laidByText := true, laidKinds := [.handle, .sentinel, .sentinel, .sentinel, .sentinel, .sentinel, .sentinel, .sentinel, .sentinel, .sentinel, .sentinel, .sentinel, .sentinel], laidTests := true, laidLooks := .later }
def CoderEncodesUptoCardSaid : Prop := Claim7.holds Tryd.pinned (.plain (OpenSpec.upto coderEncodesSpec)) coderEncodesUptoCard

/-- THE SECOND FORM's CARD OF 'shardkeeplaw1.CoderDecodes'. -/
def coderDecodesUptoCard : Claim7 := { stood := { row := coderDecodesUptoRow, standIns := [], harness := (true, "b24e62829fa2fd26ac942c393c60454c82e8744d9d5c0e2d6f6f2fd16213fa80"), looks := true }, kinds := [], alts := [], laidByText := true, laidKinds := [.handle, .sentinel, .sentinel, .sentinel, .sentinel, .sentinel, .sentinel, .sentinel, .sentinel, .sentinel, .sentinel, .sentinel, .sentinel], laidTests := true, laidLooks := .later }
def CoderDecodesUptoCardSaid : Prop := Claim7.holds Tryd.pinned (.plain (OpenSpec.upto coderDecodesSpec)) coderDecodesUptoCard
end Rows
end Go.Proofs.YtfojimaafhpgbaaDoor
