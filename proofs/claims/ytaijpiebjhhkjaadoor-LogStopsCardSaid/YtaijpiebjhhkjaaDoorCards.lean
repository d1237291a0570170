/-
  DERIVED. GIVEN WITH THE SEED: THE CARDS: each row of YtaijpiebjhhkjaaDoorRows.lean that lists a variable, with what it lists TIED to the program's text (the seventh form; the later family's looks); each row that meets fmt, with fmt's text TOLD by the authors' own Lean function (tested against real Go, not proved from fmt's source: count such statements apart). THE CARD IS WHAT COUNTS. Prove the row's statement (the work); the ties are given (YtaijpiebjhhkjaaDoorTie.lean); close each card by the builder's one call (the guide's Derived/Test/ToyasCard.lean, 'card_holds'). Laid BY PROGRAM, IN A SANDBOX (cutbox-door.mjs). By AI agents, Wed Nov 11 2026. No macro, syntax, notation, axiom, sorry.
-/
import Derived.Test.YtaijpiebjhhkjaaDoorRows
import GoSem.ClaimSeven
namespace Go.Proofs.YtaijpiebjhhkjaaDoor
namespace Rows

/-- THE TIED CARD OF 'fairlaw4.LogMany'. -/
def logManyCard : Claim7 := { stood := { row := logManyRow, standIns := [], harness := (true, "cb5590886858084de5fa56d53a0da4fadf85f9b42f691599c8bb713d5aab7ed9"), looks := true }, kinds := [], alts := [], laidByText := true, laidKinds := [.data, .data, .data, .handle], laidTests := true, laidLooks := .later }
def LogManyCardSaid : Prop := Claim7.holds Tryd.pinned (.plain (OpenSpec.ofChange logManySpec)) logManyCard

/-- THE TIED CARD OF 'fairlaw3.LogStops'. -/
def logStopsCard : Claim7 := { stood := { row := logStopsRow, standIns := [], harness := (true, "cb5590886858084de5fa56d53a0da4fadf85f9b42f691599c8bb713d5aab7ed9"), looks := true }, kinds := [], alts := [], laidByText := true, laidKinds := [.data, .data, .data, .handle, .sentinel, .sentinel, .listed, .data], laidTests := true, laidLooks := .later }
def LogStopsCardSaid : Prop := Claim7.holds Tryd.pinned (.plain (OpenSpec.ofChange logStopsSpec)) logStopsCard

/-- THE SECOND FORM's CARD OF 'fairlaw4.LogMany'. -/
def logManyUptoCard : Claim7 := { stood := { row := logManyUptoRow, standIns := [], harness := (true, "cb5590886858084de5fa56d53a0da4fadf85f9b42f691599c8bb713d5aab7ed9"), looks := true }, kinds := [], alts := [], laidByText := true, laidKinds := [.data, .data, .data, .handle], laidTests := true, laidLooks := .later }
def LogManyUptoCardSaid : Prop := Claim7.holds Tryd.pinned (.plain (OpenSpec.upto logManySpec)) logManyUptoCard

/-- THE SECOND FORM's CARD OF 'fairlaw3.LogStops'. -/
def logStopsUptoCard : Claim7 := { stood := { row := logStopsUptoRow, standIns := [], harness := (true, "cb5590886858084de5fa56d53a0da4fadf85f9b42f691599c8bb713d5aab7ed9"), looks := true }, kinds := [], alts := [], laidByText := true, laidKinds := [.data, .data, .data, .handle, .sentinel, .sentinel, .listed, .data], laidTests := true, laidLooks := .later }
def LogStopsUptoCardSaid : Prop := Claim7.holds Tryd.pinned (.plain (OpenSpec.upto logStopsSpec)) logStopsUptoCard
end Rows
end Go.Proofs.YtaijpiebjhhkjaaDoor
