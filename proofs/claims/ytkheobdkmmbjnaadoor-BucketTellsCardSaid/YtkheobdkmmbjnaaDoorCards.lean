/-
  DERIVED. GIVEN WITH THE SEED: THE CARDS: each row of YtkheobdkmmbjnaaDoorRows.lean that lists a variable, with what it lists TIED to the program's text (the seventh form; the later family's looks); each row that meets fmt, with fmt's text TOLD by the authors' own Lean function (tested against real Go, not proved from fmt's source: count such statements apart). THE CARD IS WHAT COUNTS. Prove the row's statement (the work); the ties are given (YtkheobdkmmbjnaaDoorTie.lean); close each card by the builder's one call (the guide's Derived/Test/ToyasCard.lean, 'card_holds'). Laid BY PROGRAM, IN A SANDBOX (cutbox-door.mjs). By AI agents, Wed Nov 11 2026. No macro, syntax, notation, axiom, sorry.
-/
import Derived.Test.YtkheobdkmmbjnaaDoorRows
import GoSem.ClaimSeven
namespace Go.Proofs.YtkheobdkmmbjnaaDoor
namespace Rows

/-- THE TIED CARD OF 'fairlaw2.MarkTells'. -/
def markTellsCard : Claim7 := { stood := { row := markTellsRow, standIns := [], harness := (true, "ed5c2fbf2385011873cb42db108beb65f5f82d73d60586a9c9eb87bec2287ac9"), looks := true }, kinds := [], alts := [], laidByText := true, laidKinds := [.handle], laidTests := true, laidLooks := .later }
def MarkTellsCardSaid : Prop := Claim7.holds Tryd.pinned (.plain (OpenSpec.ofChange markTellsSpec)) markTellsCard

/-- THE TIED CARD OF 'fairlaw4.BucketFull'. -/
def bucketFullCard : Claim7 := { stood := { row := bucketFullRow, standIns := [], harness := (true, "ed5c2fbf2385011873cb42db108beb65f5f82d73d60586a9c9eb87bec2287ac9"), looks := true }, kinds := [], alts := [], laidByText := true, laidKinds := [.handle], laidTests := true, laidLooks := .later }
def BucketFullCardSaid : Prop := Claim7.holds Tryd.pinned (.plain (OpenSpec.ofChange bucketFullSpec)) bucketFullCard

/-- THE TIED CARD OF 'fairlaw2.PoolTells'. -/
def poolTellsCard : Claim7 := { stood := { row := poolTellsRow, standIns := [], harness := (true, "ed5c2fbf2385011873cb42db108beb65f5f82d73d60586a9c9eb87bec2287ac9"), looks := true }, kinds := [], alts := [], laidByText := true, laidKinds := [.handle], laidTests := true, laidLooks := .later }
def PoolTellsCardSaid : Prop := Claim7.holds Tryd.pinned (.plain (OpenSpec.ofChange poolTellsSpec)) poolTellsCard

/-- THE TIED CARD OF 'fairlaw4.SourceOne'. -/
def sourceOneCard : Claim7 := { stood := { row := sourceOneRow, standIns := [], harness := (true, "ed5c2fbf2385011873cb42db108beb65f5f82d73d60586a9c9eb87bec2287ac9"), looks := true }, kinds := [], alts := [], laidByText := true, laidKinds := [.handle], laidTests := true, laidLooks := .later }
def SourceOneCardSaid : Prop := Claim7.holds Tryd.pinned (.plain (OpenSpec.ofChange sourceOneSpec)) sourceOneCard

/-- THE TIED CARD OF 'fairlaw2.SourceTells'. -/
def sourceTellsCard : Claim7 := { stood := { row := sourceTellsRow, standIns := [], harness := (true, "ed5c2fbf2385011873cb42db108beb65f5f82d73d60586a9c9eb87bec2287ac9"), looks := true }, kinds := [], alts := [], laidByText := true, laidKinds := [.handle], laidTests := true, laidLooks := .later }
def SourceTellsCardSaid : Prop := Claim7.holds Tryd.pinned (.plain (OpenSpec.ofChange sourceTellsSpec)) sourceTellsCard

/-- THE TIED CARD OF 'fairlaw2.BucketTells'. -/
def bucketTellsCard : Claim7 := { stood := { row := bucketTellsRow, standIns := [], harness := (true, "ed5c2fbf2385011873cb42db108beb65f5f82d73d60586a9c9eb87bec2287ac9"), looks := true }, kinds := [], alts := [], laidByText := true, laidKinds := [.handle], laidTests := true, laidLooks := .later }
def BucketTellsCardSaid : Prop := Claim7.holds Tryd.pinned (.plain (OpenSpec.ofChange bucketTellsSpec)) bucketTellsCard

/-- THE TIED CARD OF 'fairlaw2.MeterTells'. -/
def meterTellsCard : Claim7 := { stood := { row := meterTellsRow, standIns := [], harness := (true, "ed5c2fbf2385011873cb42db108beb65f5f82d73d60586a9c9eb87bec2287ac9"), looks := true }, kinds := [], alts := [], laidByText := true, laidKinds := [.handle], laidTests := true, laidLooks := .later }
def MeterTellsCardSaid : Prop := Claim7.holds Tryd.pinned (.plain (OpenSpec.ofChange meterTellsSpec)) meterTellsCard

/-- THE TIED CARD OF 'fairlaw4.EvenTimes'. -/
def evenTimesCard : Claim7 := { stood := { row := evenTimesRow, standIns := [], harness := (true, "ed5c2fbf2385011873cb42db108beb65f5f82d73d60586a9c9eb87bec2287ac9"), looks := true }, kinds := [], alts := [], laidByText := true, laidKinds := [.handle], laidTests := true, laidLooks := .later }
def EvenTimesCardSaid : Prop := Claim7.holds Tryd.pinned (.plain (OpenSpec.ofChange evenTimesSpec)) evenTimesCard

/-- THE TIED CARD OF 'fairlaw1.AimdTells'. -/
def aimdTellsCard : Claim7 := { stood := { row := aimdTellsRow, standIns := [], harness := (true, "ed5c2fbf2385011873cb42db108beb65f5f82d73d60586a9c9eb87bec2287ac9"), looks := true }, kinds := [], alts := [], laidByText := true, laidKinds := [.handle], laidTests := true, laidLooks := .later }
def AimdTellsCardSaid : Prop := Claim7.holds Tryd.pinned (.plain (OpenSpec.ofChange aimdTellsSpec)) aimdTellsCard

/-- THE TIED CARD OF 'fairlaw1.EvenTells'. -/
def evenTellsCard : Claim7 := { stood := { row := evenTellsRow, standIns := [], harness := (true, "ed5c2fbf2385011873cb42db108beb65f5f82d73d60586a9c9eb87bec2287ac9"), looks := true }, kinds := [], alts := [], laidByText := true, laidKinds := [.handle], laidTests := true, laidLooks := .later }
def EvenTellsCardSaid : Prop := Claim7.holds Tryd.pinned (.plain (OpenSpec.ofChange evenTellsSpec)) evenTellsCard

/-- THE TIED CARD OF 'fairlaw2.RoadPlays'. -/
def roadPlaysCard : Claim7 := { stood := { row := roadPlaysRow, standIns := [], harness := (true, "ed5c2fbf2385011873cb42db108beb65f5f82d73d60586a9c9eb87bec2287ac9"), looks := true }, kinds := [], alts := [], laidByText := true, laidKinds := [.handle], laidTests := true, laidLooks := .later }
def RoadPlaysCardSaid : Prop := Claim7.holds Tryd.pinned (.plain (OpenSpec.ofChange roadPlaysSpec)) roadPlaysCard

/-- THE TIED CARD OF 'fairlaw2.ShuffleTells'. -/
def shuffleTellsCard : Claim7 := { stood := { row := shuffleTellsRow, standIns := [], harness := (true, "ed5c2fbf2385011873cb42db108beb65f5f82d73d60586a9c9eb87bec2287ac9"), looks := true }, kinds := [], alts := [], laidByText := true, laidKinds := [.handle], laidTests := true, laidLooks := .later }
def ShuffleTellsCardSaid : Prop := Claim7.holds Tryd.pinned (.plain (OpenSpec.ofChange shuffleTellsSpec)) shuffleTellsCard

/-- THE TIED CARD OF 'fairlaw2.ShuffleKeeps'. -/
def shuffleKeepsCard : Claim7 := { stood := { row := shuffleKeepsRow, standIns := [], harness := (true, "ed5c2fbf2385011873cb42db108beb65f5f82d73d60586a9c9eb87bec2287ac9"), looks := true }, kinds := [], alts := [], laidByText := true, laidKinds := [.handle], laidTests := true, laidLooks := .later }
def ShuffleKeepsCardSaid : Prop := Claim7.holds Tryd.pinned (.plain (OpenSpec.ofChange shuffleKeepsSpec)) shuffleKeepsCard

/-- THE TIED CARD OF 'fairlaw4.GiveEven'. -/
def giveEvenCard : Claim7 := { stood := { row := giveEvenRow, standIns := [], harness := (true, "ed5c2fbf2385011873cb42db108beb65f5f82d73d60586a9c9eb87bec2287ac9"), looks := true }, kinds := [], alts := [], laidByText := true, laidKinds := [.handle], laidTests := true, laidLooks := .later }
def GiveEvenCardSaid : Prop := Claim7.holds Tryd.pinned (.plain (OpenSpec.ofChange giveEvenSpec)) giveEvenCard

/-- THE TIED CARD OF 'fairlaw2.GiveTells'. -/
def giveTellsCard : Claim7 := { stood := { row := giveTellsRow, standIns := [], harness := (true, "ed5c2fbf2385011873cb42db108beb65f5f82d73d60586a9c9eb87bec2287ac9"), looks := true }, kinds := [], alts := [], laidByText := true, laidKinds := [.handle], laidTests := true, laidLooks := .later }
def GiveTellsCardSaid : Prop := Claim7.holds Tryd.pinned (.plain (OpenSpec.ofChange giveTellsSpec)) giveTellsCard

/-- THE SECOND FORM's CARD OF 'fairlaw2.MarkTells'. -/
def markTellsUptoCard : Claim7 := { stood := { row := markTellsUptoRow, standIns := [], harness := (true, "ed5c2fbf2385011873cb42db108beb65f5f82d73d60586a9c9eb87bec2287ac9"), looks := true }, kinds := [], alts := [], laidByText := true, laidKinds := [.handle], laidTests := true, laidLooks := .later }
def MarkTellsUptoCardSaid : Prop := Claim7.holds Tryd.pinned (.plain (OpenSpec.upto markTellsSpec)) markTellsUptoCard

/-- THE SECOND FORM's CARD OF 'fairlaw4.BucketFull'. -/
def bucketFullUptoCard : Claim7 := { stood := { row := bucketFullUptoRow, standIns := [], harness := (true, "ed5c2fbf2385011873cb42db108beb65f5f82d73d60586a9c9eb87bec2287ac9"), looks := true }, kinds := [], alts := [], laidByText := true, laidKinds := [.handle], laidTests := true, laidLooks := .later }
def BucketFullUptoCardSaid : Prop := Claim7.holds Tryd.pinned (.plain (OpenSpec.upto bucketFullSpec)) bucketFullUptoCard

/-- THE SECOND FORM's CARD OF 'fairlaw2.PoolTells'. -/
def poolTellsUptoCard : Claim7 := { stood := { row := poolTellsUptoRow, standIns := [], harness := (true, "ed5c2fbf2385011873cb42db108beb65f5f82d73d60586a9c9eb87bec2287ac9"), looks := true }, kinds := [], alts := [], laidByText := true, laidKinds := [.handle], laidTests := true, laidLooks := .later }
def PoolTellsUptoCardSaid : Prop := Claim7.holds Tryd.pinned (.plain (OpenSpec.upto poolTellsSpec)) poolTellsUptoCard

/-- THE SECOND FORM's CARD OF 'fairlaw4.SourceOne'. -/
def sourceOneUptoCard : Claim7 := { stood := { row := sourceOneUptoRow, standIns := [], harness := (true, "ed5c2fbf2385011873cb42db108beb65f5f82d73d60586a9c9eb87bec2287ac9"), looks := true }, kinds := [], alts := [], laidByText := true, laidKinds := [.handle], laidTests := true, laidLooks := .later }
def SourceOneUptoCardSaid : Prop := Claim7.holds Tryd.pinned (.plain (OpenSpec.upto sourceOneSpec)) sourceOneUptoCard

/-- THE SECOND FORM's CARD OF 'fairlaw2.SourceTells'. -/
def sourceTellsUptoCard : Claim7 := { stood := { row := sourceTellsUptoRow, standIns := [], harness := (true, "ed5c2fbf2385011873cb42db108beb65f5f82d73d60586a9c9eb87bec2287ac9"), looks := true }, kinds := [], alts := [], laidByText := true, laidKinds := [.handle], laidTests := true, laidLooks := .later }
def SourceTellsUptoCardSaid : Prop := Claim7.holds Tryd.pinned (.plain (OpenSpec.upto sourceTellsSpec)) sourceTellsUptoCard

/-- THE SECOND FORM's CARD OF 'fairlaw2.BucketTells'. -/
def bucketTellsUptoCard : Claim7 := { stood := { row := bucketTellsUptoRow, standIns := [], harness := (true, "ed5c2fbf2385011873cb42db108beb65f5f82d73d60586a9c9eb87bec2287ac9"), looks := true }, kinds := [], alts := [], laidByText := true, laidKinds := [.handle], laidTests := true, laidLooks := .later }
def BucketTellsUptoCardSaid : Prop := Claim7.holds Tryd.pinned (.plain (OpenSpec.upto bucketTellsSpec)) bucketTellsUptoCard

/-- THE SECOND FORM's CARD OF 'fairlaw2.MeterTells'. -/
def meterTellsUptoCard : Claim7 := { stood := { row := meterTellsUptoRow, standIns := [], harness := (true, "ed5c2fbf2385011873cb42db108beb65f5f82d73d60586a9c9eb87bec2287ac9"), looks := true }, kinds := [], alts := [], laidByText := true, laidKinds := [.handle], laidTests := true, laidLooks := .later }
def MeterTellsUptoCardSaid : Prop := Claim7.holds Tryd.pinned (.plain (OpenSpec.upto meterTellsSpec)) meterTellsUptoCard

/-- THE SECOND FORM's CARD OF 'fairlaw4.EvenTimes'. -/
def evenTimesUptoCard : Claim7 := { stood := { row := evenTimesUptoRow, standIns := [], harness := (true, "ed5c2fbf2385011873cb42db108beb65f5f82d73d60586a9c9eb87bec2287ac9"), looks := true }, kinds := [], alts := [], laidByText := true, laidKinds := [.handle], laidTests := true, laidLooks := .later }
def EvenTimesUptoCardSaid : Prop := Claim7.holds Tryd.pinned (.plain (OpenSpec.upto evenTimesSpec)) evenTimesUptoCard

/-- THE SECOND FORM's CARD OF 'fairlaw1.AimdTells'. -/
def aimdTellsUptoCard : Claim7 := { stood := { row := aimdTellsUptoRow, standIns := [], harness := (true, "ed5c2fbf2385011873cb42db108beb65f5f82d73d60586a9c9eb87bec2287ac9"), looks := true }, kinds := [], alts := [], laidByText := true, laidKinds := [.handle], laidTests := true, laidLooks := .later }
def AimdTellsUptoCardSaid : Prop := Claim7.holds Tryd.pinned (.plain (OpenSpec.upto aimdTellsSpec)) aimdTellsUptoCard

/-- THE SECOND FORM's CARD OF 'fairlaw1.EvenTells'. -/
def evenTellsUptoCard : Claim7 := { stood := { row := evenTellsUptoRow, standIns := [], harness := (true, "ed5c2fbf2385011873cb42db108beb65f5f82d73d60586a9c9eb87bec2287ac9"), looks := true }, kinds := [], alts := [], laidByText := true, laidKinds := [.handle], laidTests := true, laidLooks := .later }
def EvenTellsUptoCardSaid : Prop := Claim7.holds Tryd.pinned (.plain (OpenSpec.upto evenTellsSpec)) evenTellsUptoCard

/-- THE SECOND FORM's CARD OF 'fairlaw2.RoadPlays'. -/
def roadPlaysUptoCard : Claim7 := { stood := { row := roadPlaysUptoRow, standIns := [], harness := (true, "ed5c2fbf2385011873cb42db108beb65f5f82d73d60586a9c9eb87bec2287ac9"), looks := true }, kinds := [], alts := [], laidByText := true, laidKinds := [.handle], laidTests := true, laidLooks := .later }
def RoadPlaysUptoCardSaid : Prop := Claim7.holds Tryd.pinned (.plain (OpenSpec.upto roadPlaysSpec)) roadPlaysUptoCard

/-- THE SECOND FORM's CARD OF 'fairlaw2.ShuffleTells'. -/
def shuffleTellsUptoCard : Claim7 := { stood := { row := shuffleTellsUptoRow, standIns := [], harness := (true, "ed5c2fbf2385011873cb42db108beb65f5f82d73d60586a9c9eb87bec2287ac9"), looks := true }, kinds := [], alts := [], laidByText := true, laidKinds := [.handle], laidTests := true, laidLooks := .later }
def ShuffleTellsUptoCardSaid : Prop := Claim7.holds Tryd.pinned (.plain (OpenSpec.upto shuffleTellsSpec)) shuffleTellsUptoCard

/-- THE SECOND FORM's CARD OF 'fairlaw2.ShuffleKeeps'. -/
def shuffleKeepsUptoCard : Claim7 := { stood := { row := shuffleKeepsUptoRow, standIns := [], harness := (true, "ed5c2fbf2385011873cb42db108beb65f5f82d73d60586a9c9eb87bec2287ac9"), looks := true }, kinds := [], alts := [], laidByText := true, laidKinds := [.handle], laidTests := true, laidLooks := .later }
def ShuffleKeepsUptoCardSaid : Prop := Claim7.holds Tryd.pinned (.plain (OpenSpec.upto shuffleKeepsSpec)) shuffleKeepsUptoCard

/-- THE SECOND FORM's CARD OF 'fairlaw4.GiveEven'. -/
def giveEvenUptoCard : Claim7 := { stood := { row := giveEvenUptoRow, standIns := [], harness := (true, "ed5c2fbf2385011873cb42db108beb65f5f82d73d60586a9c9eb87bec2287ac9"), looks := true }, kinds := [], alts := [], laidByText := true, laidKinds := [.handle], laidTests := true, laidLooks := .later }
def GiveEvenUptoCardSaid : Prop := Claim7.holds Tryd.pinned (.plain (OpenSpec.upto giveEvenSpec)) giveEvenUptoCard

/-- THE SECOND FORM's CARD OF 'fairlaw2.GiveTells'. -/
def giveTellsUptoCard : Claim7 := { stood := { row := giveTellsUptoRow, standIns := [], harness := (true, "ed5c2fbf2385011873cb42db108beb65f5f82d73d60586a9c9eb87bec2287ac9"), looks := true }, kinds := [], alts := [], laidByText := true, laidKinds := [.handle], laidTests := true, laidLooks := .later }
def GiveTellsUptoCardSaid : Prop := Claim7.holds Tryd.pinned (.plain (OpenSpec.upto giveTellsSpec)) giveTellsUptoCard
end Rows
end Go.Proofs.YtkheobdkmmbjnaaDoor
