/-
  DERIVED. GIVEN WITH THE SEED: THE CARDS: each row of YtolbdcmoblcakaaGreatDoorRows.lean that lists a variable, with what it lists TIED to the program's text (the seventh form; the later family's looks); each row that meets fmt, with fmt's text TOLD by the authors' own Lean function (tested against real Go, not proved from fmt's source: count such statements apart). THE CARD IS WHAT COUNTS. Prove the row's statement (the work); the ties are given (YtolbdcmoblcakaaGreatDoorTie.lean); close each card by the builder's one call (the guide's Derived/Test/ToyasCard.lean, 'card_holds'). Laid BY PROGRAM, IN A SANDBOX (cutbox-door.mjs). By AI agents, Wed Nov 11 2026. No macro, syntax, notation, axiom, sorry.
-/
import Derived.Test.YtolbdcmoblcakaaGreatDoorRows
import GoSem.ClaimSeven
namespace Go.Proofs.YtolbdcmoblcakaaGreatDoor
namespace Rows

/-- THE TIED CARD OF 'shardkeeplaw3.RepairMends'. -/
def repairMendsCard : Claim7 := { stood := { row := repairMendsRow, standIns := [], harness := (true, "fe630a00f5cfaf589bf9a6815af3a3429833b45b22fc7b8f9ae434fb3b1b9ff2"), looks := true }, kinds := [], alts := [], laidByText := true, laidKinds := [.handle, .sentinel, .sentinel, .sentinel, .sentinel, .sentinel, .sentinel, .sentinel, .sentinel, .sentinel, .sentinel, .sentinel, .sentinel], laidTests := true, laidLooks := .later }
def RepairMendsCardSaid : Prop := Claim7.holds Tryz.pinned (.plain (OpenSpec.ofChange repairMendsSpec)) repairMendsCard

/-- THE TIED CARD OF 'shardkeeplaw3.RepairAll'. -/
def repairAllCard : Claim7 := { stood := { row := repairAllRow, standIns := [], harness := (true, "fe630a00f5cfaf589bf9a6815af3a3429833b45b22fc7b8f9ae434fb3b1b9ff2"), looks := true }, kinds := [], alts := [], laidByText := true, laidKinds := [.handle, .sentinel, .sentinel, .sentinel, .sentinel, .sentinel, .sentinel, .sentinel, .sentinel, .sentinel, .sentinel, .sentinel, .sentinel], laidTests := true, laidLooks := .later }
def RepairAllCardSaid : Prop := Claim7.holds Tryz.pinned (.plain (OpenSpec.ofChange repairAllSpec)) repairAllCard

/-- THE SECOND FORM's CARD OF 'shardkeeplaw3.RepairMends'. -/
def repairMendsUptoCard : Claim7 := { stood := { row := repairMendsUptoRow, standIns := [], harness := (true, "fe630a00f5cfaf589bf9a6815af3a3429833b45b22fc7b8f9ae434fb3b1b9ff2"), looks := true }, kinds := [], alts := [], laidByText := true, laidKinds := [.handle, .sentinel, .sentinel, .sentinel, .sentinel, .sentinel, .sentinel, .sentinel, .sentinel, .sentinel, .sentinel, .sentinel, .sentinel], laidTests := true, laidLooks := .later }
def RepairMendsUptoCardSaid : Prop := Claim7.holds Tryz.pinned (.plain (OpenSpec.upto repairMendsSpec)) repairMendsUptoCard

/-- THE SECOND FORM's CARD OF 'shardkeeplaw3.RepairAll'. -/
def repairAllUptoCard : Claim7 := { stood := { row := repairAllUptoRow, standIns := [], harness := (true, "fe630a00f5cfaf589bf9a6815af3a3429833b45b22fc7b8f9ae434fb3b1b9ff2"), looks := true }, kinds := [], alts := [], laidByText := true, laidKinds := [.handle, .sentinel, .sentinel, .sentinel, .sentinel, .sentinel, .sentinel, .sentinel, .sentinel, .sentinel, .sentinel, .sentinel, .sentinel], laidTests := true, laidLooks := .later }
def RepairAllUptoCardSaid : Prop := Claim7.holds Tryz.pinned (.plain (OpenSpec.upto repairAllSpec)) repairAllUptoCard
end Rows
end Go.Proofs.YtolbdcmoblcakaaGreatDoor
