/-
  DERIVED. GIVEN WITH THE SEED: THE CARDS: each row of YtjgllhnecoibkaaGreatDoorRows.lean that lists a variable, with what it lists TIED to the program's text (the seventh form; the later family's looks); each row that meets fmt, with fmt's text TOLD by the authors' own Lean function (tested against real Go, not proved from fmt's source: count such statements apart). THE CARD IS WHAT COUNTS. Prove the row's statement (the work); the ties are given (YtjgllhnecoibkaaGreatDoorTie.lean); close each card by the builder's one call (the guide's Derived/Test/ToyasCard.lean, 'card_holds'). Laid BY PROGRAM, IN A SANDBOX (cutbox-door.mjs). By AI agents, Wed Nov 11 2026. No macro, syntax, notation, axiom, sorry.
-/
import Derived.Test.YtjgllhnecoibkaaGreatDoorRows
import GoSem.ClaimSeven
namespace Go.Proofs.YtjgllhnecoibkaaGreatDoor
namespace Rows

/-- THE TIED CARD OF 'shardkeeplaw1.RingPrefers'. -/
def ringPrefersCard : Claim7 := { stood := { row := ringPrefersRow, standIns := [], harness := (true, "4cd08c7ab3868bef3b9e2ec3466be3e3d493d3de6824e79faeab29d98e18aa0c"), looks := true }, kinds := [], alts := [], laidByText := true, laidKinds := [.data, .data, .data, .handle, .sentinel, .sentinel, .sentinel, .sentinel, .sentinel, .sentinel, .sentinel, .sentinel, .sentinel, .sentinel, .sentinel, .sentinel], laidTests := true, laidLooks := .later }
def RingPrefersCardSaid : Prop := Claim7.holds Tryz.pinned (.plain (OpenSpec.ofChange ringPrefersSpec)) ringPrefersCard

/-- THE TIED CARD OF 'shardkeeplaw1.RingMoves'. -/
def ringMovesCard : Claim7 := { stood := { row := ringMovesRow, standIns := [], harness := (true, "4cd08c7ab3868bef3b9e2ec3466be3e3d493d3de6824e79faeab29d98e18aa0c"), looks := true }, kinds := [], alts := [], laidByText := true, laidKinds := [.data, .data, .data, .handle, .sentinel, .sentinel, .sentinel, .sentinel, .sentinel, .sentinel, .sentinel, .sentinel, .sentinel, .sentinel, .sentinel, .sentinel], laidTests := true, laidLooks := .later }
def RingMovesCardSaid : Prop := Claim7.holds Tryz.pinned (.plain (OpenSpec.ofChange ringMovesSpec)) ringMovesCard

/-- THE TIED CARD OF 'shardkeeplaw2.QuorumBest'. -/
def quorumBestCard : Claim7 := { stood := { row := quorumBestRow, standIns := [], harness := (true, "4cd08c7ab3868bef3b9e2ec3466be3e3d493d3de6824e79faeab29d98e18aa0c"), looks := true }, kinds := [], alts := [], laidByText := true, laidKinds := [.handle, .sentinel, .sentinel, .sentinel, .sentinel, .sentinel, .sentinel, .sentinel, .sentinel, .sentinel, .sentinel, .sentinel, .sentinel], laidTests := true, laidLooks := .later }
def QuorumBestCardSaid : Prop := Claim7.holds Tryz.pinned (.plain (OpenSpec.ofChange quorumBestSpec)) quorumBestCard

/-- THE SECOND FORM's CARD OF 'shardkeeplaw1.RingPrefers'. -/
def ringPrefersUptoCard : Claim7 := { stood := { row := ringPrefersUptoRow, standIns := [], harness := (true, "4cd08c7ab3868bef3b9e2ec3466be3e3d493d3de6824e79faeab29d98e18aa0c"), looks := true }, kinds := [], alts := [], laidByText := true, laidKinds := [.data, .data, .data, .handle, .sentinel, .sentinel, .sentinel, .sentinel, .sentinel, .sentinel, .sentinel, .sentinel, .sentinel, .sentinel, .sentinel, .sentinel], laidTests := true, laidLooks := .later }
def RingPrefersUptoCardSaid : Prop := Claim7.holds Tryz.pinned (.plain (OpenSpec.upto ringPrefersSpec)) ringPrefersUptoCard

/-- THE SECOND FORM's CARD OF 'shardkeeplaw1.RingMoves'. -/
def ringMovesUptoCard : Claim7 := { stood := { row := ringMovesUptoRow, standIns := [], harness := (true, "4cd08c7ab3868bef3b9e2ec3466be3e3d493d3de6824e79faeab29d98e18aa0c"), looks := true }, kinds := [], alts := [], laidByText := true, laidKinds := [.data, .data, .data, .handle, .sentinel, .sentinel, .sentinel, .sentinel, .sentinel, .sentinel, .sentinel, .sentinel, .sentinel, .sentinel, .sentinel, .sentinel], laidTests := true, laidLooks := .later }
def RingMovesUptoCardSaid : Prop := Claim7.holds Tryz.pinned (.plain (OpenSpec.upto ringMovesSpec)) ringMovesUptoCard

/-- THE SECOND FORM's CARD OF 'shardkeeplaw2.QuorumBest'. -/
def quorumBestUptoCard : Claim7 := { stood := { row := quorumBestUptoRow, standIns := [], harness := (true, "4cd08c7ab3868bef3b9e2ec3466be3e3d493d3de6824e79faeab29d98e18aa0c"), looks := true }, kinds := [], alts := [], laidByText := true, laidKinds := [.handle, .sentinel, .sentinel, .sentinel, .sentinel, .sentinel, .sentinel, .sentinel, .sentinel, .sentinel, .sentinel, .sentinel, .sentinel], laidTests := true, laidLooks := .later }
def QuorumBestUptoCardSaid : Prop := Claim7.holds Tryz.pinned (.plain (OpenSpec.upto quorumBestSpec)) quorumBestUptoCard
end Rows
end Go.Proofs.YtjgllhnecoibkaaGreatDoor
