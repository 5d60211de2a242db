/-
  DERIVED. GIVEN WITH THE SEED: THE CARDS: each row of YtabboioamdphmaaGreatDoorRows.lean that lists a variable, with what it lists TIED to the program's text (the seventh form; the later family's looks); each row that meets fmt, with fmt's text TOLD by the authors' own Lean function (tested against real Go, not proved from fmt's source: count such statements apart). THE CARD IS WHAT COUNTS. Prove the row's statement (the work); the ties are given (YtabboioamdphmaaGreatDoorTie.lean); close each card by the builder's one call (the guide's Derived/Test/ToyasCard.lean, 'card_holds'). Laid BY PROGRAM, IN A SANDBOX (cutbox-door.mjs). By AI agents, Wed Nov 11 2026. No macro, syntax, notation, axiom, sorry.
-/
import Derived.Test.YtabboioamdphmaaGreatDoorRows
import GoSem.ClaimSeven
namespace Go.Proofs.YtabboioamdphmaaGreatDoor
namespace Rows

/-- THE TIED CARD OF 'shardkeeplaw2.CarryHears'. -/
def carryHearsCard : Claim7 := { stood := { row := carryHearsRow, standIns := [], harness := (true, "be3b3507f127a174d95723263db4b4c554b727aefe9b4b1e02bac63baa37e047"), looks := true }, kinds := [], alts := [], laidByText := true, laidKinds := [.handle, .sentinel, .sentinel, .sentinel, .sentinel, .sentinel, .sentinel, .sentinel, .sentinel, .sentinel, .sentinel, .sentinel, .sentinel], laidTests := true, laidLooks := .later }
def CarryHearsCardSaid : Prop := Claim7.holds Tryz.pinned (.plain (OpenSpec.ofChange carryHearsSpec)) carryHearsCard

/-- THE TIED CARD OF 'shardkeeplaw2.AskHears'. -/
def askHearsCard : Claim7 := { stood := { row := askHearsRow, standIns := [], harness := (true, "be3b3507f127a174d95723263db4b4c554b727aefe9b4b1e02bac63baa37e047"), looks := true }, kinds := [], alts := [], laidByText := true, laidKinds := [.data, .data, .data, .handle, .sentinel, .sentinel, .sentinel, .sentinel, .sentinel, .sentinel, .sentinel, .sentinel, .sentinel, .sentinel, .sentinel, .sentinel], laidTests := true, laidLooks := .later }
def AskHearsCardSaid : Prop := Claim7.holds Tryz.pinned (.plain (OpenSpec.ofChange askHearsSpec)) askHearsCard

/-- THE SECOND FORM's CARD OF 'shardkeeplaw2.CarryHears'. -/
def carryHearsUptoCard : Claim7 := { stood := { row := carryHearsUptoRow, standIns := [], harness := (true, "be3b3507f127a174d95723263db4b4c554b727aefe9b4b1e02bac63baa37e047"), looks := true }, kinds := [], alts := [], laidByText := true, laidKinds := [.handle, .sentinel, .sentinel, .sentinel, .sentinel, .sentinel, .sentinel, .sentinel, .sentinel, .sentinel, .sentinel, .sentinel, .sentinel], laidTests := true, laidLooks := .later }
def CarryHearsUptoCardSaid : Prop := Claim7.holds Tryz.pinned (.plain (OpenSpec.upto carryHearsSpec)) carryHearsUptoCard

/-- THE SECOND FORM's CARD OF 'shardkeeplaw2.AskHears'. -/
def askHearsUptoCard : Claim7 := { stood := { row := askHearsUptoRow, standIns := [], harness := (true, "be3b3507f127a174d95723263db4b4c554b727aefe9b4b1e02bac63baa37e047"), looks := true }, kinds := [], alts := [], laidByText := true, laidKinds := [.data, .data, .data, .handle, .sentinel, .sentinel, .sentinel, .sentinel, .sentinel, .sentinel, .sentinel, .sentinel, .sentinel, .sentinel, .sentinel, .sentinel], laidTests := true, laidLooks := .later }
def AskHearsUptoCardSaid : Prop := Claim7.holds Tryz.pinned (.plain (OpenSpec.upto askHearsSpec)) askHearsUptoCard
end Rows
end Go.Proofs.YtabboioamdphmaaGreatDoor
