/-
  DERIVED. GIVEN WITH THE SEED: THE CARDS: each row of YtmaalkjimppnkaaDoorRows.lean that lists a variable, with what it lists TIED to the program's text (the seventh form; the later family's looks); each row that meets fmt, with fmt's text TOLD by the authors' own Lean function (tested against real Go, not proved from fmt's source: count such statements apart). THE CARD IS WHAT COUNTS. Prove the row's statement (the work); the ties are given (YtmaalkjimppnkaaDoorTie.lean); close each card by the builder's one call (the guide's Derived/Test/ToyasCard.lean, 'card_holds'). Laid BY PROGRAM, IN A SANDBOX (cutbox-door.mjs). By AI agents, Wed Nov 11 2026. No macro, syntax, notation, axiom, sorry.
-/
import Derived.Test.YtmaalkjimppnkaaDoorRows
import GoSem.ClaimSeven
namespace Go.Proofs.YtmaalkjimppnkaaDoor
namespace Rows

/-- THE TIED CARD OF 'shardkeeplaw2.QuorumTwo'. -/
def quorumTwoCard : Claim7 := { stood := { row := quorumTwoRow, standIns := [], harness := (true, "7cbe89b254fd37c06dae124ef958668ba3d934bd9388ecfdeb7d877d90e9b051"), looks := true }, kinds := [], alts := [], laidByText := true, laidKinds := [.sentinel, .sentinel, .sentinel, .sentinel, .sentinel, .sentinel], laidTests := true, laidLooks := .later }
def QuorumTwoCardSaid : Prop := Claim7.holds Tryd.pinned (.plain (OpenSpec.ofChange quorumTwoSpec)) quorumTwoCard

/-- THE TIED CARD OF 'shardkeeplaw2.HoldLess'. -/
def holdLessCard : Claim7 := { stood := { row := holdLessRow, standIns := [], harness := (true, "7cbe89b254fd37c06dae124ef958668ba3d934bd9388ecfdeb7d877d90e9b051"), looks := true }, kinds := [], alts := [], laidByText := true, laidKinds := [.sentinel, .sentinel, .sentinel, .sentinel, .sentinel], laidTests := true, laidLooks := .later }
def HoldLessCardSaid : Prop := Claim7.holds Tryd.pinned (.plain (OpenSpec.ofChange holdLessSpec)) holdLessCard

/-- THE TIED CARD OF 'shardkeeplaw2.WireCodes'. -/
def wireCodesCard : Claim7 := { stood := { row := wireCodesRow, standIns := [], harness := (true, "7cbe89b254fd37c06dae124ef958668ba3d934bd9388ecfdeb7d877d90e9b051"), looks := true }, kinds := [], alts := [], laidByText := true, laidKinds := [.handle, .sentinel, .sentinel, .sentinel, .sentinel, .sentinel, .sentinel, .sentinel, .sentinel, .sentinel, .sentinel, .sentinel, .sentinel], laidTests := true, laidLooks := .later }
def WireCodesCardSaid : Prop := Claim7.holds Tryd.pinned (.plain (OpenSpec.ofChange wireCodesSpec)) wireCodesCard

/-- THE TIED CARD OF 'shardkeeplaw2.WireReads'. -/
def wireReadsCard : Claim7 := { stood := { row := wireReadsRow, standIns := [], harness := (true, "7cbe89b254fd37c06dae124ef958668ba3d934bd9388ecfdeb7d877d90e9b051"), looks := true }, kinds := [], alts := [], laidByText := true, laidKinds := [.handle, .sentinel, .sentinel, .sentinel, .sentinel, .sentinel, .sentinel, .sentinel, .sentinel, .sentinel, .sentinel, .sentinel, .sentinel], laidTests := true, laidLooks := .later }
def WireReadsCardSaid : Prop := Claim7.holds Tryd.pinned (.plain (OpenSpec.ofChange wireReadsSpec)) wireReadsCard

/-- THE TIED CARD OF 'shardkeeplaw2.ServeSeals'. -/
def serveSealsCard : Claim7 := { stood := { row := serveSealsRow, standIns := [], harness := (true, "7cbe89b254fd37c06dae124ef958668ba3d934bd9388ecfdeb7d877d90e9b051"), looks := true }, kinds := [], alts := [], laidByText := true, laidKinds := [.sentinel, .sentinel, .sentinel, .sentinel, .sentinel], laidTests := true, laidLooks := .later }
def ServeSealsCardSaid : Prop := Claim7.holds Tryd.pinned (.plain (OpenSpec.ofChange serveSealsSpec)) serveSealsCard

/-- THE TIED CARD OF 'shardkeeplaw2.QuorumMeets'. -/
def quorumMeetsCard : Claim7 := { stood := { row := quorumMeetsRow, standIns := [], harness := (true, "7cbe89b254fd37c06dae124ef958668ba3d934bd9388ecfdeb7d877d90e9b051"), looks := true }, kinds := [], alts := [], laidByText := true, laidKinds := [.handle, .sentinel, .sentinel, .sentinel, .sentinel, .sentinel, .sentinel, .sentinel, .sentinel, .sentinel, .sentinel, .sentinel, .sentinel], laidTests := true, laidLooks := .later }
def QuorumMeetsCardSaid : Prop := Claim7.holds Tryd.pinned (.plain (OpenSpec.ofChange quorumMeetsSpec)) quorumMeetsCard

/-- THE TIED CARD OF 'shardkeeplaw1.CoderDecodes'. -/
def coderDecodesCard : Claim7 := { stood := { row := coderDecodesRow, standIns := [], harness := (true, "7cbe89b254fd37c06dae124ef958668ba3d934bd9388ecfdeb7d877d90e9b051"), looks := true }, kinds := [], alts := [], laidByText := true, laidKinds := [.handle, .sentinel, .sentinel, .sentinel, .sentinel, .sentinel, .sentinel, .sentinel, .sentinel, .sentinel, .sentinel, .sentinel, .sentinel], laidTests := true, laidLooks := .later }
def CoderDecodesCardSaid : Prop := Claim7.holds Tryd.pinned (.plain (OpenSpec.ofChange coderDecodesSpec)) coderDecodesCard

/-- THE TIED CARD OF 'shardkeeplaw1.RingComes'. -/
def ringComesCard : Claim7 := { stood := { row := ringComesRow, standIns := [], harness := (true, "7cbe89b254fd37c06dae124ef958668ba3d934bd9388ecfdeb7d877d90e9b051"), looks := true }, kinds := [], alts := [], laidByText := true, laidKinds := [.data, .data, .data, .sentinel, .sentinel, .sentinel, .sentinel], laidTests := true, laidLooks := .later }
def RingComesCardSaid : Prop := Claim7.holds Tryd.pinned (.plain (OpenSpec.ofChange ringComesSpec)) ringComesCard

/-- THE TIED CARD OF 'shardkeeplaw1.RingTurned'. -/
def ringTurnedCard : Claim7 := { stood := { row := ringTurnedRow, standIns := [], harness := (true, "7cbe89b254fd37c06dae124ef958668ba3d934bd9388ecfdeb7d877d90e9b051"), looks := true }, kinds := [], alts := [], laidByText := true, laidKinds := [.data, .data, .data, .sentinel, .sentinel, .sentinel, .sentinel], laidTests := true, laidLooks := .later }
def RingTurnedCardSaid : Prop := Claim7.holds Tryd.pinned (.plain (OpenSpec.ofChange ringTurnedSpec)) ringTurnedCard

/-- THE TIED CARD OF 'shardkeeplaw2.HoldActs'. -/
def holdActsCard : Claim7 := { stood := { row := holdActsRow, standIns := [], harness := (true, "7cbe89b254fd37c06dae124ef958668ba3d934bd9388ecfdeb7d877d90e9b051"), looks := true }, kinds := [], alts := [], laidByText := true, laidKinds := [.handle, .sentinel, .sentinel, .sentinel, .sentinel, .sentinel, .sentinel, .sentinel, .sentinel, .sentinel, .sentinel, .sentinel, .sentinel], laidTests := true, laidLooks := .later }
def HoldActsCardSaid : Prop := Claim7.holds Tryd.pinned (.plain (OpenSpec.ofChange holdActsSpec)) holdActsCard

/-- THE SECOND FORM's CARD OF 'shardkeeplaw2.QuorumTwo'. -/
def quorumTwoUptoCard : Claim7 := { stood := { row := quorumTwoUptoRow, standIns := [], harness := (true, "7cbe89b254fd37c06dae124ef958668ba3d934bd9388ecfdeb7d877d90e9b051"), looks := true }, kinds := [], alts := [], laidByText := true, laidKinds := [.sentinel, .sentinel, .sentinel, .sentinel, .sentinel, .sentinel], laidTests := true, laidLooks := .later }
def QuorumTwoUptoCardSaid : Prop := Claim7.holds Tryd.pinned (.plain (OpenSpec.upto quorumTwoSpec)) quorumTwoUptoCard

/-- THE SECOND FORM's CARD OF 'shardkeeplaw2.HoldLess'. -/
def holdLessUptoCard : Claim7 := { stood := { row := holdLessUptoRow, standIns := [], harness := (true, "7cbe89b254fd37c06dae124ef958668ba3d934bd9388ecfdeb7d877d90e9b051"), looks := true }, kinds := [], alts := [], laidByText := true, laidKinds := [.sentinel, .sentinel, .sentinel, .sentinel, .sentinel], laidTests := true, laidLooks := .later }
def HoldLessUptoCardSaid : Prop := Claim7.holds Tryd.pinned (.plain (OpenSpec.upto holdLessSpec)) holdLessUptoCard

/-- THE SECOND FORM's CARD OF 'shardkeeplaw2.WireCodes'. -/
def wireCodesUptoCard : Claim7 := { stood := { row := wireCodesUptoRow, standIns := [], harness := (true, "7cbe89b254fd37c06dae124ef958668ba3d934bd9388ecfdeb7d877d90e9b051"), looks := true }, kinds := [], alts := [], laidByText := true, laidKinds := [.handle, .sentinel, .sentinel, .sentinel, .sentinel, .sentinel, .sentinel, .sentinel, .sentinel, .sentinel, .sentinel, .sentinel, .sentinel], laidTests := true, laidLooks := .later }
def WireCodesUptoCardSaid : Prop := Claim7.holds Tryd.pinned (.plain (OpenSpec.upto wireCodesSpec)) wireCodesUptoCard

/-- THE SECOND FORM's CARD OF 'shardkeeplaw2.WireReads'. -/
def wireReadsUptoCard : Claim7 := { stood := { row := wireReadsUptoRow, standIns := [], harness := (true, "7cbe89b254fd37c06dae124ef958668ba3d934bd9388ecfdeb7d877d90e9b051"), looks := true }, kinds := [], alts := [], laidByText := true, laidKinds := [.handle, .sentinel, .sentinel, .sentinel, .sentinel, .sentinel, .sentinel, .sentinel, .sentinel, .sentinel, .sentinel, .sentinel, .sentinel], laidTests := true, laidLooks := .later }
def WireReadsUptoCardSaid : Prop := Claim7.holds Tryd.pinned (.plain (OpenSpec.upto wireReadsSpec)) wireReadsUptoCard

/-- THE SECOND FORM's CARD OF 'shardkeeplaw2.ServeSeals'. -/
def serveSealsUptoCard : Claim7 := { stood := { row := serveSealsUptoRow, standIns := [], harness := (true, "7cbe89b254fd37c06dae124ef958668ba3d934bd9388ecfdeb7d877d90e9b051"), looks := true }, kinds := [], alts := [], laidByText := true, laidKinds := [.sentinel, .sentinel, .sentinel, .sentinel, .sentinel], laidTests := true, laidLooks := .later }
def ServeSealsUptoCardSaid : Prop := Claim7.holds Tryd.pinned (.plain (OpenSpec.upto serveSealsSpec)) serveSealsUptoCard

/-- THE SECOND FORM's CARD OF 'shardkeeplaw2.QuorumMeets'. -/
def quorumMeetsUptoCard : Claim7 := { stood := { row := quorumMeetsUptoRow, standIns := [], harness := (true, "7cbe89b254fd37c06dae124ef958668ba3d934bd9388ecfdeb7d877d90e9b051"), looks := true }, kinds := [], alts := [], laidByText := true, laidKinds := [.handle, .sentinel, .sentinel, .sentinel, .sentinel, .sentinel, .sentinel, .sentinel, .sentinel, .sentinel, .sentinel, .sentinel, .sentinel], laidTests := true, laidLooks := .later }
def QuorumMeetsUptoCardSaid : Prop := Claim7.holds Tryd.pinned (.plain (OpenSpec.upto quorumMeetsSpec)) quorumMeetsUptoCard

/-- THE SECOND FORM's CARD OF 'shardkeeplaw1.CoderDecodes'. -/
def coderDecodesUptoCard : Claim7 := { stood := { row := coderDecodesUptoRow, standIns := [], harness := (true, "7cbe89b254fd37c06dae124ef958668ba3d934bd9388ecfdeb7d877d90e9b051"), looks := true }, kinds := [], alts := [], laidByText := true, laidKinds := [.handle, .sentinel, .sentinel, .sentinel, .sentinel, .sentinel, .sentinel, .sentinel, .sentinel, .sentinel, .sentinel, .sentinel, .sentinel], laidTests := true, laidLooks := .later }
def CoderDecodesUptoCardSaid : Prop := Claim7.holds Tryd.pinned (.plain (OpenSpec.upto coderDecodesSpec)) coderDecodesUptoCard

/-- THE SECOND FORM's CARD OF 'shardkeeplaw1.RingComes'. -/
def ringComesUptoCard : Claim7 := { stood := { row := ringComesUptoRow, standIns := [], harness := (true, "7cbe89b254fd37c06dae124ef958668ba3d934bd9388ecfdeb7d877d90e9b051"), looks := true }, kinds := [], alts := [], laidByText := true, laidKinds := [.data, .data, .data, .sentinel, .sentinel, .sentinel, .sentinel], laidTests := true, laidLooks := .later }
def RingComesUptoCardSaid : Prop := Claim7.holds Tryd.pinned (.plain (OpenSpec.upto ringComesSpec)) ringComesUptoCard

/-- THE SECOND FORM's CARD OF 'shardkeeplaw1.RingTurned'. -/
def ringTurnedUptoCard : Claim7 := { stood := { row := ringTurnedUptoRow, standIns := [], harness := (true, "7cbe89b254fd37c06dae124ef958668ba3d934bd9388ecfdeb7d877d90e9b051"), looks := true }, kinds := [], alts := [], laidByText := true, laidKinds := [.data, .data, .data, .sentinel, .sentinel, .sentinel, .sentinel], laidTests := true, laidLooks := .later }
def RingTurnedUptoCardSaid : Prop := Claim7.holds Tryd.pinned (.plain (OpenSpec.upto ringTurnedSpec)) ringTurnedUptoCard

/-- THE SECOND FORM's CARD OF 'shardkeeplaw2.HoldActs'. -/
def holdActsUptoCard : Claim7 := { stood := { row := holdActsUptoRow, standIns := [], harness := (true, "7cbe89b254fd37c06dae124ef958668ba3d934bd9388ecfdeb7d877d90e9b051"), looks := true }, kinds := [], alts := [], laidByText := true, laidKinds := [.handle, .sentinel, .sentinel, .sentinel, .sentinel, .sentinel, .sentinel, .sentinel, .sentinel, .sentinel, .sentinel, .sentinel, .sentinel], laidTests := true, laidLooks := .later }
def HoldActsUptoCardSaid : Prop := Claim7.holds Tryd.pinned (.plain (OpenSpec.upto holdActsSpec)) holdActsUptoCard
end Rows
end Go.Proofs.YtmaalkjimppnkaaDoor
