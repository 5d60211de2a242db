/-
  DERIVED. GIVEN WITH THE SEED: THE CARDS: each row of YtjhjpijjfpfjeaaGreatDoorRows.lean that lists a variable, with what it lists TIED to the program's text (the seventh form; the later family's looks); each row that meets fmt, with fmt's text TOLD by the authors' own Lean function (tested against real Go, not proved from fmt's source: count such statements apart). THE CARD IS WHAT COUNTS. Prove the row's statement (the work); the ties are given (YtjhjpijjfpfjeaaGreatDoorTie.lean); close each card by the builder's one call (the guide's Derived/Test/ToyasCard.lean, 'card_holds'). Laid BY PROGRAM, IN A SANDBOX (cutbox-door.mjs). By AI agents, Wed Nov 11 2026. No macro, syntax, notation, axiom, sorry.
-/
import Derived.Test.YtjhjpijjfpfjeaaGreatDoorRows
import GoSem.ClaimSeven
namespace Go.Proofs.YtjhjpijjfpfjeaaGreatDoor
namespace Rows

/-- THE TIED CARD OF 'shardkeeplaw2.QuorumBest'. -/
def quorumBestCard : Claim7 := { stood := { row := quorumBestRow, standIns := [], harness := (true, "3cd768d119259fa69d5112853e1994ac9cc744c4dfb62cd064d1eaa956c80957"), looks := true }, kinds := [], alts := [], laidByText := true, laidKinds := [.handle, .sentinel, .sentinel, .sentinel, .sentinel, .sentinel, .sentinel, .sentinel, .sentinel, .sentinel, .sentinel, .sentinel, .sentinel], laidTests := true, laidLooks := .later }
def QuorumBestCardSaid : Prop := Claim7.holds Tryz.pinned (.plain (OpenSpec.ofChange quorumBestSpec)) quorumBestCard

/-- THE SECOND FORM's CARD OF 'shardkeeplaw2.QuorumBest'. -/
def quorumBestUptoCard : Claim7 := { stood := { row := quorumBestUptoRow, standIns := [], harness := (true, "3cd768d119259fa69d5112853e1994ac9cc744c4dfb62cd064d1eaa956c80957"), looks := true }, kinds := [], alts := [], laidByText := true, laidKinds := [.handle, .sentinel, .sentinel, .sentinel, .sentinel, .sentinel, .sentinel, .sentinel, .sentinel, .sentinel, .sentinel, .sentinel, .sentinel], laidTests := true, laidLooks := .later }
def QuorumBestUptoCardSaid : Prop := Claim7.holds Tryz.pinned (.plain (OpenSpec.upto quorumBestSpec)) quorumBestUptoCard
end Rows
end Go.Proofs.YtjhjpijjfpfjeaaGreatDoor
