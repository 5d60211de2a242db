/-
  DERIVED. GIVEN WITH THE SEED: THE CARDS: each row of YthdicfcgkbepdaaGreatDoorRows.lean that lists a variable, with what it lists TIED to the program's text (the seventh form; the later family's looks); each row that meets fmt, with fmt's text TOLD by the authors' own Lean function (tested against real Go, not proved from fmt's source: count such statements apart). THE CARD IS WHAT COUNTS. Prove the row's statement (the work); the ties are given (YthdicfcgkbepdaaGreatDoorTie.lean); close each card by the builder's one call (the guide's Derived/Test/ToyasCard.lean, 'card_holds'). Laid BY PROGRAM, IN A SANDBOX (cutbox-door.mjs). By AI agents, Wed Nov 11 2026. No macro, syntax, notation, axiom, sorry.
-/
import Derived.Test.YthdicfcgkbepdaaGreatDoorRows
import GoSem.ClaimSeven
namespace Go.Proofs.YthdicfcgkbepdaaGreatDoor
namespace Rows

/-- THE TIED CARD OF 'shardkeeplaw2.HoldLoads'. -/
def holdLoadsCard : Claim7 := { stood := { row := holdLoadsRow, standIns := [], harness := (true, "0b785a42936392637b217561361cc016ffaf61894bf97a0ba17b2af678ff8c7d"), looks := true }, kinds := [], alts := [], laidByText := true, laidKinds := [.data, .data, .data, .handle, .sentinel, .sentinel, .sentinel, .sentinel, .sentinel, .sentinel, .sentinel, .sentinel, .sentinel, .sentinel, .sentinel, .sentinel, .sentinel, .sentinel], laidTests := true, laidLooks := .later }
def HoldLoadsCardSaid : Prop := Claim7.holds Tryz.pinned (.plain (OpenSpec.ofChange holdLoadsSpec)) holdLoadsCard

/-- THE TIED CARD OF 'shardkeeplaw2.HoldSaves'. -/
def holdSavesCard : Claim7 := { stood := { row := holdSavesRow, standIns := [], harness := (true, "0b785a42936392637b217561361cc016ffaf61894bf97a0ba17b2af678ff8c7d"), looks := true }, kinds := [], alts := [], laidByText := true, laidKinds := [.data, .data, .data, .handle, .sentinel, .sentinel, .sentinel, .sentinel, .sentinel, .sentinel, .sentinel, .sentinel, .sentinel, .sentinel, .sentinel, .sentinel, .sentinel, .sentinel], laidTests := true, laidLooks := .later }
def HoldSavesCardSaid : Prop := Claim7.holds Tryz.pinned (.plain (OpenSpec.ofChange holdSavesSpec)) holdSavesCard

/-- THE SECOND FORM's CARD OF 'shardkeeplaw2.HoldLoads'. -/
def holdLoadsUptoCard : Claim7 := { stood := { row := holdLoadsUptoRow, standIns := [], harness := (true, "0b785a42936392637b217561361cc016ffaf61894bf97a0ba17b2af678ff8c7d"), looks := true }, kinds := [], alts := [], laidByText := true, laidKinds := [.data, .data, .data, .handle, .sentinel, .sentinel, .sentinel, .sentinel, .sentinel, .sentinel, .sentinel, .sentinel, .sentinel, .sentinel, .sentinel, .sentinel, .sentinel, .sentinel], laidTests := true, laidLooks := .later }
def HoldLoadsUptoCardSaid : Prop := Claim7.holds Tryz.pinned (.plain (OpenSpec.upto holdLoadsSpec)) holdLoadsUptoCard

/-- THE SECOND FORM's CARD OF 'shardkeeplaw2.HoldSaves'. -/
def holdSavesUptoCard : Claim7 := { stood := { row := holdSavesUptoRow, standIns := [], harness := (true, "0b785a42936392637b217561361cc016ffaf61894bf97a0ba17b2af678ff8c7d"), looks := true }, kinds := [], alts := [], laidByText := true, laidKinds := [.data, .data, .data, .handle, .sentinel, .sentinel, .sentinel, .sentinel, .sentinel, .sentinel, .sentinel, .sentinel, .sentinel, .sentinel, .sentinel, .sentinel, .sentinel, .sentinel], laidTests := true, laidLooks := .later }
def HoldSavesUptoCardSaid : Prop := Claim7.holds Tryz.pinned (.plain (OpenSpec.upto holdSavesSpec)) holdSavesUptoCard
end Rows
end Go.Proofs.YthdicfcgkbepdaaGreatDoor
