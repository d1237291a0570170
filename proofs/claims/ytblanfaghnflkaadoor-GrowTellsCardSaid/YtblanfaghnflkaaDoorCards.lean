/-
  DERIVED. GIVEN WITH THE SEED: THE CARDS: each row of YtblanfaghnflkaaDoorRows.lean that lists a variable, with what it lists TIED to the program's text (the seventh form; the later family's looks); each row that meets fmt, with fmt's text TOLD by the authors' own Lean function (tested against real Go, not proved from fmt's source: count such statements apart). THE CARD IS WHAT COUNTS. Prove the row's statement (the work); the ties are given (YtblanfaghnflkaaDoorTie.lean); close each card by the builder's one call (the guide's Derived/Test/ToyasCard.lean, 'card_holds'). Laid BY PROGRAM, IN A SANDBOX (cutbox-door.mjs). By AI agents, Wed Nov 11 2026. No macro, syntax, notation, axiom, sorry.
-/
import Derived.Test.YtblanfaghnflkaaDoorRows
import GoSem.ClaimSeven
namespace Go.Proofs.YtblanfaghnflkaaDoor
namespace Rows

/-- THE TIED CARD OF 'fairlaw1.FracTells'. -/
def fracTellsCard : Claim7 := { stood := { row := fracTellsRow, standIns := [], harness := (true, "1660eb5b9209af738afb548d6c132dee378efdebba37b2e075576fe662bcdd3d"), looks := true }, kinds := [], alts := [], laidByText := true, laidKinds := [.handle], laidTests := true, laidLooks := .later }
def FracTellsCardSaid : Prop := Claim7.holds Tryd.pinned (.plain (OpenSpec.ofChange fracTellsSpec)) fracTellsCard

/-- THE TIED CARD OF 'fairlaw1.NetTells'. -/
def netTellsCard : Claim7 := { stood := { row := netTellsRow, standIns := [], harness := (true, "1660eb5b9209af738afb548d6c132dee378efdebba37b2e075576fe662bcdd3d"), looks := true }, kinds := [], alts := [], laidByText := true, laidKinds := [.handle], laidTests := true, laidLooks := .later }
def NetTellsCardSaid : Prop := Claim7.holds Tryd.pinned (.plain (OpenSpec.ofChange netTellsSpec)) netTellsCard

/-- THE TIED CARD OF 'fairlaw2.RoadPlays'. -/
def roadPlaysCard : Claim7 := { stood := { row := roadPlaysRow, standIns := [], harness := (true, "1660eb5b9209af738afb548d6c132dee378efdebba37b2e075576fe662bcdd3d"), looks := true }, kinds := [], alts := [], laidByText := true, laidKinds := [.handle], laidTests := true, laidLooks := .later }
def RoadPlaysCardSaid : Prop := Claim7.holds Tryd.pinned (.plain (OpenSpec.ofChange roadPlaysSpec)) roadPlaysCard

/-- THE TIED CARD OF 'fairlaw1.FillTells'. -/
def fillTellsCard : Claim7 := { stood := { row := fillTellsRow, standIns := [], harness := (true, "1660eb5b9209af738afb548d6c132dee378efdebba37b2e075576fe662bcdd3d"), looks := true }, kinds := [], alts := [], laidByText := true, laidKinds := [.handle], laidTests := true, laidLooks := .later }
def FillTellsCardSaid : Prop := Claim7.holds Tryd.pinned (.plain (OpenSpec.ofChange fillTellsSpec)) fillTellsCard

/-- THE TIED CARD OF 'fairlaw1.LoadTells'. -/
def loadTellsCard : Claim7 := { stood := { row := loadTellsRow, standIns := [], harness := (true, "1660eb5b9209af738afb548d6c132dee378efdebba37b2e075576fe662bcdd3d"), looks := true }, kinds := [], alts := [], laidByText := true, laidKinds := [.handle], laidTests := true, laidLooks := .later }
def LoadTellsCardSaid : Prop := Claim7.holds Tryd.pinned (.plain (OpenSpec.ofChange loadTellsSpec)) loadTellsCard

/-- THE TIED CARD OF 'fairlaw1.WantTells'. -/
def wantTellsCard : Claim7 := { stood := { row := wantTellsRow, standIns := [], harness := (true, "1660eb5b9209af738afb548d6c132dee378efdebba37b2e075576fe662bcdd3d"), looks := true }, kinds := [], alts := [], laidByText := true, laidKinds := [.handle], laidTests := true, laidLooks := .later }
def WantTellsCardSaid : Prop := Claim7.holds Tryd.pinned (.plain (OpenSpec.ofChange wantTellsSpec)) wantTellsCard

/-- THE TIED CARD OF 'fairlaw1.NeckTells'. -/
def neckTellsCard : Claim7 := { stood := { row := neckTellsRow, standIns := [], harness := (true, "1660eb5b9209af738afb548d6c132dee378efdebba37b2e075576fe662bcdd3d"), looks := true }, kinds := [], alts := [], laidByText := true, laidKinds := [.handle], laidTests := true, laidLooks := .later }
def NeckTellsCardSaid : Prop := Claim7.holds Tryd.pinned (.plain (OpenSpec.ofChange neckTellsSpec)) neckTellsCard

/-- THE TIED CARD OF 'fairlaw1.RankTells'. -/
def rankTellsCard : Claim7 := { stood := { row := rankTellsRow, standIns := [], harness := (true, "1660eb5b9209af738afb548d6c132dee378efdebba37b2e075576fe662bcdd3d"), looks := true }, kinds := [], alts := [], laidByText := true, laidKinds := [.handle], laidTests := true, laidLooks := .later }
def RankTellsCardSaid : Prop := Claim7.holds Tryd.pinned (.plain (OpenSpec.ofChange rankTellsSpec)) rankTellsCard

/-- THE TIED CARD OF 'fairlaw2.GrowTells'. -/
def growTellsCard : Claim7 := { stood := { row := growTellsRow, standIns := [], harness := (true, "1660eb5b9209af738afb548d6c132dee378efdebba37b2e075576fe662bcdd3d"), looks := true }, kinds := [], alts := [], laidByText := true, laidKinds := [.handle], laidTests := true, laidLooks := .later }
def GrowTellsCardSaid : Prop := Claim7.holds Tryd.pinned (.plain (OpenSpec.ofChange growTellsSpec)) growTellsCard

/-- THE TIED CARD OF 'fairlaw1.WantSated'. -/
def wantSatedCard : Claim7 := { stood := { row := wantSatedRow, standIns := [], harness := (true, "1660eb5b9209af738afb548d6c132dee378efdebba37b2e075576fe662bcdd3d"), looks := true }, kinds := [], alts := [], laidByText := true, laidKinds := [.handle], laidTests := true, laidLooks := .later }
def WantSatedCardSaid : Prop := Claim7.holds Tryd.pinned (.plain (OpenSpec.ofChange wantSatedSpec)) wantSatedCard

/-- THE SECOND FORM's CARD OF 'fairlaw1.FracTells'. -/
def fracTellsUptoCard : Claim7 := { stood := { row := fracTellsUptoRow, standIns := [], harness := (true, "1660eb5b9209af738afb548d6c132dee378efdebba37b2e075576fe662bcdd3d"), looks := true }, kinds := [], alts := [], laidByText := true, laidKinds := [.handle], laidTests := true, laidLooks := .later }
def FracTellsUptoCardSaid : Prop := Claim7.holds Tryd.pinned (.plain (OpenSpec.upto fracTellsSpec)) fracTellsUptoCard

/-- THE SECOND FORM's CARD OF 'fairlaw1.NetTells'. -/
def netTellsUptoCard : Claim7 := { stood := { row := netTellsUptoRow, standIns := [], harness := (true, "1660eb5b9209af738afb548d6c132dee378efdebba37b2e075576fe662bcdd3d"), looks := true }, kinds := [], alts := [], laidByText := true, laidKinds := [.handle], laidTests := true, laidLooks := .later }
def NetTellsUptoCardSaid : Prop := Claim7.holds Tryd.pinned (.plain (OpenSpec.upto netTellsSpec)) netTellsUptoCard

/-- THE SECOND FORM's CARD OF 'fairlaw2.RoadPlays'. -/
def roadPlaysUptoCard : Claim7 := { stood := { row := roadPlaysUptoRow, standIns := [], harness := (true, "1660eb5b9209af738afb548d6c132dee378efdebba37b2e075576fe662bcdd3d"), looks := true }, kinds := [], alts := [], laidByText := true, laidKinds := [.handle], laidTests := true, laidLooks := .later }
def RoadPlaysUptoCardSaid : Prop := Claim7.holds Tryd.pinned (.plain (OpenSpec.upto roadPlaysSpec)) roadPlaysUptoCard

/-- THE SECOND FORM's CARD OF 'fairlaw1.FillTells'. -/
def fillTellsUptoCard : Claim7 := { stood := { row := fillTellsUptoRow, standIns := [], harness := (true, "1660eb5b9209af738afb548d6c132dee378efdebba37b2e075576fe662bcdd3d"), looks := true }, kinds := [], alts := [], laidByText := true, laidKinds := [.handle], laidTests := true, laidLooks := .later }
def FillTellsUptoCardSaid : Prop := Claim7.holds Tryd.pinned (.plain (OpenSpec.upto fillTellsSpec)) fillTellsUptoCard

/-- THE SECOND FORM's CARD OF 'fairlaw1.LoadTells'. -/
def loadTellsUptoCard : Claim7 := { stood := { row := loadTellsUptoRow, standIns := [], harness := (true, "1660eb5b9209af738afb548d6c132dee378efdebba37b2e075576fe662bcdd3d"), looks := true }, kinds := [], alts := [], laidByText := true, laidKinds := [.handle], laidTests := true, laidLooks := .later }
def LoadTellsUptoCardSaid : Prop := Claim7.holds Tryd.pinned (.plain (OpenSpec.upto loadTellsSpec)) loadTellsUptoCard

/-- THE SECOND FORM's CARD OF 'fairlaw1.WantTells'. -/
def wantTellsUptoCard : Claim7 := { stood := { row := wantTellsUptoRow, standIns := [], harness := (true, "1660eb5b9209af738afb548d6c132dee378efdebba37b2e075576fe662bcdd3d"), looks := true }, kinds := [], alts := [], laidByText := true, laidKinds := [.handle], laidTests := true, laidLooks := .later }
def WantTellsUptoCardSaid : Prop := Claim7.holds Tryd.pinned (.plain (OpenSpec.upto wantTellsSpec)) wantTellsUptoCard

/-- THE SECOND FORM's CARD OF 'fairlaw1.NeckTells'. -/
def neckTellsUptoCard : Claim7 := { stood := { row := neckTellsUptoRow, standIns := [], harness := (true, "1660eb5b9209af738afb548d6c132dee378efdebba37b2e075576fe662bcdd3d"), looks := true }, kinds := [], alts := [], laidByText := true, laidKinds := [.handle], laidTests := true, laidLooks := .later }
def NeckTellsUptoCardSaid : Prop := Claim7.holds Tryd.pinned (.plain (OpenSpec.upto neckTellsSpec)) neckTellsUptoCard

/-- THE SECOND FORM's CARD OF 'fairlaw1.RankTells'. -/
def rankTellsUptoCard : Claim7 := { stood := { row := rankTellsUptoRow, standIns := [], harness := (true, "1660eb5b9209af738afb548d6c132dee378efdebba37b2e075576fe662bcdd3d"), looks := true }, kinds := [], alts := [], laidByText := true, laidKinds := [.handle], laidTests := true, laidLooks := .later }
def RankTellsUptoCardSaid : Prop := Claim7.holds Tryd.pinned (.plain (OpenSpec.upto rankTellsSpec)) rankTellsUptoCard

/-- THE SECOND FORM's CARD OF 'fairlaw2.GrowTells'. -/
def growTellsUptoCard : Claim7 := { stood := { row := growTellsUptoRow, standIns := [], harness := (true, "1660eb5b9209af738afb548d6c132dee378efdebba37b2e075576fe662bcdd3d"), looks := true }, kinds := [], alts := [], laidByText := true, laidKinds := [.handle], laidTests := true, laidLooks := .later }
def GrowTellsUptoCardSaid : Prop := Claim7.holds Tryd.pinned (.plain (OpenSpec.upto growTellsSpec)) growTellsUptoCard

/-- THE SECOND FORM's CARD OF 'fairlaw1.WantSated'. -/
def wantSatedUptoCard : Claim7 := { stood := { row := wantSatedUptoRow, standIns := [], harness := (true, "1660eb5b9209af738afb548d6c132dee378efdebba37b2e075576fe662bcdd3d"), looks := true }, kinds := [], alts := [], laidByText := true, laidKinds := [.handle], laidTests := true, laidLooks := .later }
def WantSatedUptoCardSaid : Prop := Claim7.holds Tryd.pinned (.plain (OpenSpec.upto wantSatedSpec)) wantSatedUptoCard
end Rows
end Go.Proofs.YtblanfaghnflkaaDoor
