/-
  DERIVED. GIVEN WITH THE SEED: THE CARDS: each row of YtdikigdlmlocmaaDoorRows.lean that lists a variable, with what it lists TIED to the program's text (the seventh form; the later family's looks); each row that meets fmt, with fmt's text TOLD by the authors' own Lean function (tested against real Go, not proved from fmt's source: count such statements apart). THE CARD IS WHAT COUNTS. Prove the row's statement (the work); the ties are given (YtdikigdlmlocmaaDoorTie.lean); close each card by the builder's one call (the guide's Derived/Test/ToyasCard.lean, 'card_holds'). Laid BY PROGRAM, IN A SANDBOX (cutbox-door.mjs). By AI agents, Wed Nov 11 2026. No macro, syntax, notation, axiom, sorry.
-/
import Derived.Test.YtdikigdlmlocmaaDoorRows
import GoSem.ClaimSeven
namespace Go.Proofs.YtdikigdlmlocmaaDoor
namespace Rows

/-- THE TIED CARD OF 'shardkeeplaw2.ServeSeals'. -/
def serveSealsCard : Claim7 := { stood := { row := serveSealsRow, standIns := [], harness := (true, "fac78563e4237f495da9a2e04a4c9a02976d024ea8f52824e5e6d515ee05d466"), looks := true }, kinds := [], alts := [], laidByText := true, laidKinds := [.sentinel, .sentinel, .sentinel, .sentinel, .sentinel], laidTests := true, laidLooks := .later }
def ServeSealsCardSaid : Prop := Claim7.holds Tryd.pinned (.plain (OpenSpec.ofChange serveSealsSpec)) serveSealsCard

/-- THE TIED CARD OF 'shardkeeplaw2.WireCodes'. -/
def wireCodesCard : Claim7 := { stood := { row := wireCodesRow, standIns := [], harness := (true, "fac78563e4237f495da9a2e04a4c9a02976d024ea8f52824e5e6d515ee05d466"), looks := true }, kinds := [], alts := [], laidByText := true, laidKinds := [.handle, .sentinel, .sentinel, .sentinel, .sentinel, .sentinel, .sentinel, .sentinel, .sentinel, .sentinel, .sentinel, .sentinel, .sentinel], laidTests := true, laidLooks := .later }
def WireCodesCardSaid : Prop := Claim7.holds Tryd.pinned (.plain (OpenSpec.ofChange wireCodesSpec)) wireCodesCard

/-- THE TIED CARD OF 'shardkeeplaw2.WireReads'. -/
def wireReadsCard : Claim7 := { stood := { row := wireReadsRow, standIns := [], harness := (true, "fac78563e4237f495da9a2e04a4c9a02976d024ea8f52824e5e6d515ee05d466"), looks := true }, kinds := [], alts := [], laidByText := true, laidKinds := [.handle, .sentinel, .sentinel, .sentinel, .sentinel, .sentinel, .sentinel, .sentinel, .sentinel, .sentinel, .sentinel, .sentinel, .sentinel], laidTests := true, laidLooks := .later }
def WireReadsCardSaid : Prop := Claim7.holds Tryd.pinned (.plain (OpenSpec.ofChange wireReadsSpec)) wireReadsCard

/-- THE SECOND FORM's CARD OF 'shardkeeplaw2.ServeSeals'. -/
def serveSealsUptoCard : Claim7 := { stood := { row := serveSealsUptoRow, standIns := [], harness := (true, "fac78563e4237f495da9a2e04a4c9a02976d024ea8f52824e5e6d515ee05d466"), looks := true }, kinds := [], alts := [], laidByText := true, laidKinds := [.sentinel, .sentinel, .sentinel, .sentinel, .sentinel], laidTests := true, laidLooks := .later }
def ServeSealsUptoCardSaid : Prop := Claim7.holds Tryd.pinned (.plain (OpenSpec.upto serveSealsSpec)) serveSealsUptoCard

/-- THE SECOND FORM's CARD OF 'shardkeeplaw2.WireCodes'. -/
def wireCodesUptoCard : Claim7 := { stood := { row := wireCodesUptoRow, standIns := [], harness := (true, "fac78563e4237f495da9a2e04a4c9a02976d024ea8f52824e5e6d515ee05d466"), looks := true }, kinds := [], alts := [], laidByText := true, laidKinds := [.handle, .sentinel, .sentinel, .sentinel, .sentinel, .sentinel, .sentinel, .sentinel, .sentinel, .sentinel, .sentinel, .sentinel, .sentinel], laidTests := true, laidLooks := .later }
def WireCodesUptoCardSaid : Prop := Claim7.holds Tryd.pinned (.plain (OpenSpec.upto wireCodesSpec)) wireCodesUptoCard

/-- THE SECOND FORM's CARD OF 'shardkeeplaw2.WireReads'. -/
def wireReadsUptoCard : Claim7 := { stood := { row := wireReadsUptoRow, standIns := [], harness := (true, "fac78563e4237f495da9a2e04a4c9a02976d024ea8f52824e5e6d515ee05d466"), looks := true }, kinds := [], alts := [], laidByText := true, laidKinds := [.handle, .sentinel, .sentinel, .sentinel, .sentinel, .sentinel, .sentinel, .sentinel, .sentinel, .sentinel, .sentinel, .sentinel, .sentinel], laidTests := true, laidLooks := .later }
def WireReadsUptoCardSaid : Prop := Claim7.holds Tryd.pinned (.plain (OpenSpec.upto wireReadsSpec)) wireReadsUptoCard
end Rows
end Go.Proofs.YtdikigdlmlocmaaDoor
