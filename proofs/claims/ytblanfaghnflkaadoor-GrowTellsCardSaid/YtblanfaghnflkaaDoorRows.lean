/-
  NARROWER THAN 'FOR EVERY INPUT', by the rows' own cells (each row's printed sentence says how): FracTells: laid · NetTells: laid · RoadPlays: laid · FillTells: laid · LoadTells: laid · WantTells: laid · NeckTells: laid · RankTells: laid · GrowTells: laid · WantSated: laid.
  DERIVED. THE GIVEN ROWS OF THIS SEAT. 10 by the template 'for every input the law returns true; each argument reads behind the call as it read before'; 0 by the template 'total and deterministic' (their statements: YtblanfaghnflkaaDoorTotals.lean).
  GIVEN WITH THE SEED: the statements are not yours to turn. If you find one false, say at which input.
  Laid BY PROGRAM, IN A SANDBOX (cutbox-rows.mjs): the forced cells as the released guide's own fill.sh prints them over the translation 68df31fd609e57b2… (all of the seat's roots in one cut). By AI agents, Wed Nov 11 2026. No macro, syntax, notation, axiom, sorry.
-/
import Derived.Test.YtblanfaghnflkaaDoorChecked
import GoSem.Claim
import GoSem.ClaimJoined
import GoSem.ClaimMapViews
import Derived.JoinedTies
import Derived.KernelRfl
namespace Go.Proofs.YtblanfaghnflkaaDoor
/- THE CELL 'sum', in the pinned program and in every row, IS THE sha256 OF THE DUMP (.gsa) THAT YtblanfaghnflkaaDoorProg.lean LOADS. Nothing in Lean hashes anything: it is a label: what it is worth is what the hold of that sum in a sandbox is worth. -/
noncomputable def Tryd.pinned : Pinned := { name := "ytblanfaghnflkaadoor", sum := "68df31fd609e57b2baa8336d524f89997f73afda1433a44b17fa2f64729ca790", checked := Tryd.checked }
namespace Rows
def none {H : Type} : Left H := { results := [], args := [] }

/- WHAT THE LISTED PACKAGE-LEVEL VARIABLES READ AS WHEN THE CALL BEGINS. Each datum BY PROGRAM (the guide's laid-datum.mjs) off the statement by which the dump's own 'gosem.cut.vars' lays the variable. In a bare row this is a premise. The card (YtblanfaghnflkaaDoorCards.lean) ties it to the program's text. -/
def laid_errors_errorType {H : Type} : DataW H := .iface "internal/reflectlite.rtype" (.agg [.ptr (.lit (.string [101, 114, 114, 111, 114]))])

/-- 'fairlaw1.FracTells': WHATEVER THE INPUT: true; the input reads as it did. -/
def fracTellsSpec : ChangeSpec := { name := "fracTells", fn := fun _ => fun
  | [d1, d2, d3, d4, d5] => { results := [.lit (.bool true)], args := [d1, d2, d3, d4, d5] }
  | _ => none }
def fracTellsRow : OpenClaim := { program := "ytblanfaghnflkaadoor", sum := "68df31fd609e57b2baa8336d524f89997f73afda1433a44b17fa2f64729ca790", func := "fairsluice/fairlaw1.FracTells", spec := "fracTells", inPlace := ["internal/reflectlite.ValueOf", "(internal/reflectlite.Value).Type", "(internal/reflectlite.Value).IsNil", "internal/reflectlite.TypeOf", "(internal/reflectlite.Value).Elem", "(internal/reflectlite.Value).Set"], unfollowed := true, recurses := true, named := ["errors.errorType"], apart := false, laid := [("errors.errorType", laid_errors_errorType)] }
def FracTellsSaid : Prop := fracTellsRow.holds Tryd.pinned (OpenSpec.ofChange fracTellsSpec)

/-- ITS FALSE NEIGHBOUR: 'it returns false'. Refute it at one input. -/
def fracTellsWrong : ChangeSpec := { name := "fracTells", fn := fun _ => fun
  | [d1, d2, d3, d4, d5] => { results := [.lit (.bool false)], args := [d1, d2, d3, d4, d5] }
  | _ => none }
def FracTellsWrongFalsely : Prop := fracTellsRow.holds Tryd.pinned (OpenSpec.ofChange fracTellsWrong)

/-- 'fairlaw1.NetTells': WHATEVER THE INPUT: true; the input reads as it did. -/
def netTellsSpec : ChangeSpec := { name := "netTells", fn := fun _ => fun
  | [d1, d2, d3, d4] => { results := [.lit (.bool true)], args := [d1, d2, d3, d4] }
  | _ => none }
def netTellsRow : OpenClaim := { program := "ytblanfaghnflkaadoor", sum := "68df31fd609e57b2baa8336d524f89997f73afda1433a44b17fa2f64729ca790", func := "fairsluice/fairlaw1.NetTells", spec := "netTells", inPlace := ["internal/reflectlite.ValueOf", "(internal/reflectlite.Value).Type", "(internal/reflectlite.Value).IsNil", "internal/reflectlite.TypeOf", "(internal/reflectlite.Value).Elem", "(internal/reflectlite.Value).Set"], unfollowed := true, recurses := true, named := ["errors.errorType"], apart := false, laid := [("errors.errorType", laid_errors_errorType)] }
def NetTellsSaid : Prop := netTellsRow.holds Tryd.pinned (OpenSpec.ofChange netTellsSpec)

/-- ITS FALSE NEIGHBOUR: 'it returns false'. Refute it at one input. -/
def netTellsWrong : ChangeSpec := { name := "netTells", fn := fun _ => fun
  | [d1, d2, d3, d4] => { results := [.lit (.bool false)], args := [d1, d2, d3, d4] }
  | _ => none }
def NetTellsWrongFalsely : Prop := netTellsRow.holds Tryd.pinned (OpenSpec.ofChange netTellsWrong)

/-- 'fairlaw2.RoadPlays': WHATEVER THE INPUT: true; the input reads as it did. -/
def roadPlaysSpec : ChangeSpec := { name := "roadPlays", fn := fun _ => fun
  | [d1, d2, d3] => { results := [.lit (.bool true)], args := [d1, d2, d3] }
  | _ => none }
def roadPlaysRow : OpenClaim := { program := "ytblanfaghnflkaadoor", sum := "68df31fd609e57b2baa8336d524f89997f73afda1433a44b17fa2f64729ca790", func := "fairsluice/fairlaw2.RoadPlays", spec := "roadPlays", inPlace := ["internal/reflectlite.ValueOf", "(internal/reflectlite.Value).Type", "(internal/reflectlite.Value).IsNil", "internal/reflectlite.TypeOf", "(internal/reflectlite.Value).Elem", "(internal/reflectlite.Value).Set"], unfollowed := true, recurses := true, named := ["errors.errorType"], apart := false, laid := [("errors.errorType", laid_errors_errorType)] }
def RoadPlaysSaid : Prop := roadPlaysRow.holds Tryd.pinned (OpenSpec.ofChange roadPlaysSpec)

/-- ITS FALSE NEIGHBOUR: 'it returns false'. Refute it at one input. -/
def roadPlaysWrong : ChangeSpec := { name := "roadPlays", fn := fun _ => fun
  | [d1, d2, d3] => { results := [.lit (.bool false)], args := [d1, d2, d3] }
  | _ => none }
def RoadPlaysWrongFalsely : Prop := roadPlaysRow.holds Tryd.pinned (OpenSpec.ofChange roadPlaysWrong)

/-- 'fairlaw1.FillTells': WHATEVER THE INPUT: true; the input reads as it did. -/
def fillTellsSpec : ChangeSpec := { name := "fillTells", fn := fun _ => fun
  | [d] => { results := [.lit (.bool true)], args := [d] }
  | _ => none }
def fillTellsRow : OpenClaim := { program := "ytblanfaghnflkaadoor", sum := "68df31fd609e57b2baa8336d524f89997f73afda1433a44b17fa2f64729ca790", func := "fairsluice/fairlaw1.FillTells", spec := "fillTells", inPlace := ["internal/reflectlite.ValueOf", "(internal/reflectlite.Value).Type", "(internal/reflectlite.Value).IsNil", "internal/reflectlite.TypeOf", "(internal/reflectlite.Value).Elem", "(internal/reflectlite.Value).Set"], unfollowed := true, recurses := true, named := ["errors.errorType"], apart := false, laid := [("errors.errorType", laid_errors_errorType)] }
def FillTellsSaid : Prop := fillTellsRow.holds Tryd.pinned (OpenSpec.ofChange fillTellsSpec)

/-- ITS FALSE NEIGHBOUR: 'it returns false'. Refute it at one input. -/
def fillTellsWrong : ChangeSpec := { name := "fillTells", fn := fun _ => fun
  | [d] => { results := [.lit (.bool false)], args := [d] }
  | _ => none }
def FillTellsWrongFalsely : Prop := fillTellsRow.holds Tryd.pinned (OpenSpec.ofChange fillTellsWrong)

/-- 'fairlaw1.LoadTells': WHATEVER THE INPUT: true; the input reads as it did. -/
def loadTellsSpec : ChangeSpec := { name := "loadTells", fn := fun _ => fun
  | [d1, d2] => { results := [.lit (.bool true)], args := [d1, d2] }
  | _ => none }
def loadTellsRow : OpenClaim := { program := "ytblanfaghnflkaadoor", sum := "68df31fd609e57b2baa8336d524f89997f73afda1433a44b17fa2f64729ca790", func := "fairsluice/fairlaw1.LoadTells", spec := "loadTells", inPlace := ["internal/reflectlite.ValueOf", "(internal/reflectlite.Value).Type", "(internal/reflectlite.Value).IsNil", "internal/reflectlite.TypeOf", "(internal/reflectlite.Value).Elem", "(internal/reflectlite.Value).Set"], unfollowed := true, recurses := true, named := ["errors.errorType"], apart := false, laid := [("errors.errorType", laid_errors_errorType)] }
def LoadTellsSaid : Prop := loadTellsRow.holds Tryd.pinned (OpenSpec.ofChange loadTellsSpec)

/-- ITS FALSE NEIGHBOUR: 'it returns false'. Refute it at one input. -/
def loadTellsWrong : ChangeSpec := { name := "loadTells", fn := fun _ => fun
  | [d1, d2] => { results := [.lit (.bool false)], args := [d1, d2] }
  | _ => none }
def LoadTellsWrongFalsely : Prop := loadTellsRow.holds Tryd.pinned (OpenSpec.ofChange loadTellsWrong)

/-- 'fairlaw1.WantTells': WHATEVER THE INPUT: true; the input reads as it did. -/
def wantTellsSpec : ChangeSpec := { name := "wantTells", fn := fun _ => fun
  | [d1, d2] => { results := [.lit (.bool true)], args := [d1, d2] }
  | _ => none }
def wantTellsRow : OpenClaim := { program := "ytblanfaghnflkaadoor", sum := "68df31fd609e57b2baa8336d524f89997f73afda1433a44b17fa2f64729ca790", func := "fairsluice/fairlaw1.WantTells", spec := "wantTells", inPlace := ["internal/reflectlite.ValueOf", "(internal/reflectlite.Value).Type", "(internal/reflectlite.Value).IsNil", "internal/reflectlite.TypeOf", "(internal/reflectlite.Value).Elem", "(internal/reflectlite.Value).Set"], unfollowed := true, recurses := true, named := ["errors.errorType"], apart := false, laid := [("errors.errorType", laid_errors_errorType)] }
def WantTellsSaid : Prop := wantTellsRow.holds Tryd.pinned (OpenSpec.ofChange wantTellsSpec)

/-- ITS FALSE NEIGHBOUR: 'it returns false'. Refute it at one input. -/
def wantTellsWrong : ChangeSpec := { name := "wantTells", fn := fun _ => fun
  | [d1, d2] => { results := [.lit (.bool false)], args := [d1, d2] }
  | _ => none }
def WantTellsWrongFalsely : Prop := wantTellsRow.holds Tryd.pinned (OpenSpec.ofChange wantTellsWrong)

/-- 'fairlaw1.NeckTells': WHATEVER THE INPUT: true; the input reads as it did. -/
def neckTellsSpec : ChangeSpec := { name := "neckTells", fn := fun _ => fun
  | [d1, d2] => { results := [.lit (.bool true)], args := [d1, d2] }
  | _ => none }
def neckTellsRow : OpenClaim := { program := "ytblanfaghnflkaadoor", sum := "68df31fd609e57b2baa8336d524f89997f73afda1433a44b17fa2f64729ca790", func := "fairsluice/fairlaw1.NeckTells", spec := "neckTells", inPlace := ["internal/reflectlite.ValueOf", "(internal/reflectlite.Value).Type", "(internal/reflectlite.Value).IsNil", "internal/reflectlite.TypeOf", "(internal/reflectlite.Value).Elem", "(internal/reflectlite.Value).Set"], unfollowed := true, recurses := true, named := ["errors.errorType"], apart := false, laid := [("errors.errorType", laid_errors_errorType)] }
def NeckTellsSaid : Prop := neckTellsRow.holds Tryd.pinned (OpenSpec.ofChange neckTellsSpec)

/-- ITS FALSE NEIGHBOUR: 'it returns false'. Refute it at one input. -/
def neckTellsWrong : ChangeSpec := { name := "neckTells", fn := fun _ => fun
  | [d1, d2] => { results := [.lit (.bool false)], args := [d1, d2] }
  | _ => none }
def NeckTellsWrongFalsely : Prop := neckTellsRow.holds Tryd.pinned (OpenSpec.ofChange neckTellsWrong)

/-- 'fairlaw1.RankTells': WHATEVER THE INPUT: true; the input reads as it did. -/
def rankTellsSpec : ChangeSpec := { name := "rankTells", fn := fun _ => fun
  | [d1, d2] => { results := [.lit (.bool true)], args := [d1, d2] }
  | _ => none }
def rankTellsRow : OpenClaim := { program := "ytblanfaghnflkaadoor", sum := "68df31fd609e57b2baa8336d524f89997f73afda1433a44b17fa2f64729ca790", func := "fairsluice/fairlaw1.RankTells", spec := "rankTells", inPlace := ["internal/reflectlite.ValueOf", "(internal/reflectlite.Value).Type", "(internal/reflectlite.Value).IsNil", "internal/reflectlite.TypeOf", "(internal/reflectlite.Value).Elem", "(internal/reflectlite.Value).Set"], unfollowed := true, recurses := true, named := ["errors.errorType"], apart := false, laid := [("errors.errorType", laid_errors_errorType)] }
def RankTellsSaid : Prop := rankTellsRow.holds Tryd.pinned (OpenSpec.ofChange rankTellsSpec)

/-- ITS FALSE NEIGHBOUR: 'it returns false'. Refute it at one input. -/
def rankTellsWrong : ChangeSpec := { name := "rankTells", fn := fun _ => fun
  | [d1, d2] => { results := [.lit (.bool false)], args := [d1, d2] }
  | _ => none }
def RankTellsWrongFalsely : Prop := rankTellsRow.holds Tryd.pinned (OpenSpec.ofChange rankTellsWrong)

/-- 'fairlaw2.GrowTells': WHATEVER THE INPUT: true; the input reads as it did. -/
def growTellsSpec : ChangeSpec := { name := "growTells", fn := fun _ => fun
  | [d1, d2, d3, d4, d5] => { results := [.lit (.bool true)], args := [d1, d2, d3, d4, d5] }
  | _ => none }
def growTellsRow : OpenClaim := { program := "ytblanfaghnflkaadoor", sum := "68df31fd609e57b2baa8336d524f89997f73afda1433a44b17fa2f64729ca790", func := "fairsluice/fairlaw2.GrowTells", spec := "growTells", inPlace := ["internal/reflectlite.ValueOf", "(internal/reflectlite.Value).Type", "(internal/reflectlite.Value).IsNil", "internal/reflectlite.TypeOf", "(internal/reflectlite.Value).Elem", "(internal/reflectlite.Value).Set"], unfollowed := true, recurses := true, named := ["errors.errorType"], apart := false, laid := [("errors.errorType", laid_errors_errorType)] }
def GrowTellsSaid : Prop := growTellsRow.holds Tryd.pinned (OpenSpec.ofChange growTellsSpec)

/-- ITS FALSE NEIGHBOUR: 'it returns false'. Refute it at one input. -/
def growTellsWrong : ChangeSpec := { name := "growTells", fn := fun _ => fun
  | [d1, d2, d3, d4, d5] => { results := [.lit (.bool false)], args := [d1, d2, d3, d4, d5] }
  | _ => none }
def GrowTellsWrongFalsely : Prop := growTellsRow.holds Tryd.pinned (OpenSpec.ofChange growTellsWrong)

/-- 'fairlaw1.WantSated': WHATEVER THE INPUT: true; the input reads as it did. -/
def wantSatedSpec : ChangeSpec := { name := "wantSated", fn := fun _ => fun
  | [d1, d2] => { results := [.lit (.bool true)], args := [d1, d2] }
  | _ => none }
def wantSatedRow : OpenClaim := { program := "ytblanfaghnflkaadoor", sum := "68df31fd609e57b2baa8336d524f89997f73afda1433a44b17fa2f64729ca790", func := "fairsluice/fairlaw1.WantSated", spec := "wantSated", inPlace := ["internal/reflectlite.ValueOf", "(internal/reflectlite.Value).Type", "(internal/reflectlite.Value).IsNil", "internal/reflectlite.TypeOf", "(internal/reflectlite.Value).Elem", "(internal/reflectlite.Value).Set"], unfollowed := true, recurses := true, named := ["errors.errorType"], apart := false, laid := [("errors.errorType", laid_errors_errorType)] }
def WantSatedSaid : Prop := wantSatedRow.holds Tryd.pinned (OpenSpec.ofChange wantSatedSpec)

/-- ITS FALSE NEIGHBOUR: 'it returns false'. Refute it at one input. -/
def wantSatedWrong : ChangeSpec := { name := "wantSated", fn := fun _ => fun
  | [d1, d2] => { results := [.lit (.bool false)], args := [d1, d2] }
  | _ => none }
def WantSatedWrongFalsely : Prop := wantSatedRow.holds Tryd.pinned (OpenSpec.ofChange wantSatedWrong)

/- THE SECOND FORM. 'bulk': how many values and letters a reading holds, each counted each time it is reached (what is shared counts as often as it is met; a slice's spare places count too). A statement '..UptoSaid' is the law's where the arguments, and the package variables that the reading takes, are together of bulk at most 1048576: NARROWER than '..Said'. Prove '..Said' where nothing that the law and all that it calls make is longer than what came in: it says more and counts as full. Else prove '..UptoSaid'. A law counts once. -/
mutual
def uptoBulk {H : Type} : DataW H → Nat
  | .lit (.string bytes) => bytes.length + 1
  | .lit _ => 1
  | .nil => 1
  | .ptr d => uptoBulk d + 1
  | .slice elems spare => uptoBulkAll elems + uptoBulkAll spare + 1
  | .agg parts => uptoBulkAll parts + 1
  | .iface _ d => uptoBulk d + 1
  | .map entries => uptoBulkEntries entries + 1
  | .held _ => 1
def uptoBulkAll {H : Type} : List (DataW H) → Nat
  | [] => 0
  | d :: r => uptoBulk d + uptoBulkAll r
def uptoBulkEntries {H : Type} : List (Lit × DataW H) → Nat
  | [] => 0
  | x :: r => uptoBulkEntry x + uptoBulkEntries r
def uptoBulkEntry {H : Type} : Lit × DataW H → Nat
  | (.string bytes, d) => bytes.length + uptoBulk d + 1
  | (_, d) => uptoBulk d + 1
 end
def uptoSmall : (H : Type) → List (DataW H) → Bool := fun _ ds => decide (uptoBulkAll ds ≤ 1048576)
def OpenSpec.upto (s : _root_.Go.ChangeSpec) : _root_.Go.OpenSpec := { _root_.Go.OpenSpec.ofChange s with cond := some uptoSmall }

/-- 'fairlaw1.FracTells', WHERE WHAT IT READS IS OF BULK AT MOST 1048576: true; the input reads as it did. -/
def fracTellsUptoRow : OpenClaim := { program := "ytblanfaghnflkaadoor", sum := "68df31fd609e57b2baa8336d524f89997f73afda1433a44b17fa2f64729ca790", func := "fairsluice/fairlaw1.FracTells", spec := "fracTells", inPlace := ["internal/reflectlite.ValueOf", "(internal/reflectlite.Value).Type", "(internal/reflectlite.Value).IsNil", "internal/reflectlite.TypeOf", "(internal/reflectlite.Value).Elem", "(internal/reflectlite.Value).Set"], unfollowed := true, recurses := true, named := ["errors.errorType"], apart := false, laid := [("errors.errorType", laid_errors_errorType)], narrowed := true }
def FracTellsUptoSaid : Prop := fracTellsUptoRow.holds Tryd.pinned (OpenSpec.upto fracTellsSpec)

/-- 'fairlaw1.NetTells', WHERE WHAT IT READS IS OF BULK AT MOST 1048576: true; the input reads as it did. -/
def netTellsUptoRow : OpenClaim := { program := "ytblanfaghnflkaadoor", sum := "68df31fd609e57b2baa8336d524f89997f73afda1433a44b17fa2f64729ca790", func := "fairsluice/fairlaw1.NetTells", spec := "netTells", inPlace := ["internal/reflectlite.ValueOf", "(internal/reflectlite.Value).Type", "(internal/reflectlite.Value).IsNil", "internal/reflectlite.TypeOf", "(internal/reflectlite.Value).Elem", "(internal/reflectlite.Value).Set"], unfollowed := true, recurses := true, named := ["errors.errorType"], apart := false, laid := [("errors.errorType", laid_errors_errorType)], narrowed := true }
def NetTellsUptoSaid : Prop := netTellsUptoRow.holds Tryd.pinned (OpenSpec.upto netTellsSpec)

/-- 'fairlaw2.RoadPlays', WHERE WHAT IT READS IS OF BULK AT MOST 1048576: true; the input reads as it did. -/
def roadPlaysUptoRow : OpenClaim := { program := "ytblanfaghnflkaadoor", sum := "68df31fd609e57b2baa8336d524f89997f73afda1433a44b17fa2f64729ca790", func := "fairsluice/fairlaw2.RoadPlays", spec := "roadPlays", inPlace := ["internal/reflectlite.ValueOf", "(internal/reflectlite.Value).Type", "(internal/reflectlite.Value).IsNil", "internal/reflectlite.TypeOf", "(internal/reflectlite.Value).Elem", "(internal/reflectlite.Value).Set"], unfollowed := true, recurses := true, named := ["errors.errorType"], apart := false, laid := [("errors.errorType", laid_errors_errorType)], narrowed := true }
def RoadPlaysUptoSaid : Prop := roadPlaysUptoRow.holds Tryd.pinned (OpenSpec.upto roadPlaysSpec)

/-- 'fairlaw1.FillTells', WHERE WHAT IT READS IS OF BULK AT MOST 1048576: true; the input reads as it did. -/
def fillTellsUptoRow : OpenClaim := { program := "ytblanfaghnflkaadoor", sum := "68df31fd609e57b2baa8336d524f89997f73afda1433a44b17fa2f64729ca790", func := "fairsluice/fairlaw1.FillTells", spec := "fillTells", inPlace := ["internal/reflectlite.ValueOf", "(internal/reflectlite.Value).Type", "(internal/reflectlite.Value).IsNil", "internal/reflectlite.TypeOf", "(internal/reflectlite.Value).Elem", "(internal/reflectlite.Value).Set"], unfollowed := true, recurses := true, named := ["errors.errorType"], apart := false, laid := [("errors.errorType", laid_errors_errorType)], narrowed := true }
def FillTellsUptoSaid : Prop := fillTellsUptoRow.holds Tryd.pinned (OpenSpec.upto fillTellsSpec)

/-- 'fairlaw1.LoadTells', WHERE WHAT IT READS IS OF BULK AT MOST 1048576: true; the input reads as it did. -/
def loadTellsUptoRow : OpenClaim := { program := "ytblanfaghnflkaadoor", sum := "68df31fd609e57b2baa8336d524f89997f73afda1433a44b17fa2f64729ca790", func := "fairsluice/fairlaw1.LoadTells", spec := "loadTells", inPlace := ["internal/reflectlite.ValueOf", "(internal/reflectlite.Value).Type", "(internal/reflectlite.Value).IsNil", "internal/reflectlite.TypeOf", "(internal/reflectlite.Value).Elem", "(internal/reflectlite.Value).Set"], unfollowed := true, recurses := true, named := ["errors.errorType"], apart := false, laid := [("errors.errorType", laid_errors_errorType)], narrowed := true }
def LoadTellsUptoSaid : Prop := loadTellsUptoRow.holds Tryd.pinned (OpenSpec.upto loadTellsSpec)

/-- 'fairlaw1.WantTells', WHERE WHAT IT READS IS OF BULK AT MOST 1048576: true; the input reads as it did. -/
def wantTellsUptoRow : OpenClaim := { program := "ytblanfaghnflkaadoor", sum := "68df31fd609e57b2baa8336d524f89997f73afda1433a44b17fa2f64729ca790", func := "fairsluice/fairlaw1.WantTells", spec := "wantTells", inPlace := ["internal/reflectlite.ValueOf", "(internal/reflectlite.Value).Type", "(internal/reflectlite.Value).IsNil", "internal/reflectlite.TypeOf", "(internal/reflectlite.Value).Elem", "(internal/reflectlite.Value).Set"], unfollowed := true, recurses := true, named := ["errors.errorType"], apart := false, laid := [("errors.errorType", laid_errors_errorType)], narrowed := true }
def WantTellsUptoSaid : Prop := wantTellsUptoRow.holds Tryd.pinned (OpenSpec.upto wantTellsSpec)

/-- 'fairlaw1.NeckTells', WHERE WHAT IT READS IS OF BULK AT MOST 1048576: true; the input reads as it did. -/
def neckTellsUptoRow : OpenClaim := { program := "ytblanfaghnflkaadoor", sum := "68df31fd609e57b2baa8336d524f89997f73afda1433a44b17fa2f64729ca790", func := "fairsluice/fairlaw1.NeckTells", spec := "neckTells", inPlace := ["internal/reflectlite.ValueOf", "(internal/reflectlite.Value).Type", "(internal/reflectlite.Value).IsNil", "internal/reflectlite.TypeOf", "(internal/reflectlite.Value).Elem", "(internal/reflectlite.Value).Set"], unfollowed := true, recurses := true, named := ["errors.errorType"], apart := false, laid := [("errors.errorType", laid_errors_errorType)], narrowed := true }
def NeckTellsUptoSaid : Prop := neckTellsUptoRow.holds Tryd.pinned (OpenSpec.upto neckTellsSpec)

/-- 'fairlaw1.RankTells', WHERE WHAT IT READS IS OF BULK AT MOST 1048576: true; the input reads as it did. -/
def rankTellsUptoRow : OpenClaim := { program := "ytblanfaghnflkaadoor", sum := "68df31fd609e57b2baa8336d524f89997f73afda1433a44b17fa2f64729ca790", func := "fairsluice/fairlaw1.RankTells", spec := "rankTells", inPlace := ["internal/reflectlite.ValueOf", "(internal/reflectlite.Value).Type", "(internal/reflectlite.Value).IsNil", "internal/reflectlite.TypeOf", "(internal/reflectlite.Value).Elem", "(internal/reflectlite.Value).Set"], unfollowed := true, recurses := true, named := ["errors.errorType"], apart := false, laid := [("errors.errorType", laid_errors_errorType)], narrowed := true }
def RankTellsUptoSaid : Prop := rankTellsUptoRow.holds Tryd.pinned (OpenSpec.upto rankTellsSpec)

/-- 'fairlaw2.GrowTells', WHERE WHAT IT READS IS OF BULK AT MOST 1048576: true; the input reads as it did. -/
def growTellsUptoRow : OpenClaim := { program := "ytblanfaghnflkaadoor", sum := "68df31fd609e57b2baa8336d524f89997f73afda1433a44b17fa2f64729ca790", func := "fairsluice/fairlaw2.GrowTells", spec := "growTells", inPlace := ["internal/reflectlite.ValueOf", "(internal/reflectlite.Value).Type", "(internal/reflectlite.Value).IsNil", "internal/reflectlite.TypeOf", "(internal/reflectlite.Value).Elem", "(internal/reflectlite.Value).Set"], unfollowed := true, recurses := true, named := ["errors.errorType"], apart := false, laid := [("errors.errorType", laid_errors_errorType)], narrowed := true }
def GrowTellsUptoSaid : Prop := growTellsUptoRow.holds Tryd.pinned (OpenSpec.upto growTellsSpec)

/-- 'fairlaw1.WantSated', WHERE WHAT IT READS IS OF BULK AT MOST 1048576: true; the input reads as it did. -/
def wantSatedUptoRow : OpenClaim := { program := "ytblanfaghnflkaadoor", sum := "68df31fd609e57b2baa8336d524f89997f73afda1433a44b17fa2f64729ca790", func := "fairsluice/fairlaw1.WantSated", spec := "wantSated", inPlace := ["internal/reflectlite.ValueOf", "(internal/reflectlite.Value).Type", "(internal/reflectlite.Value).IsNil", "internal/reflectlite.TypeOf", "(internal/reflectlite.Value).Elem", "(internal/reflectlite.Value).Set"], unfollowed := true, recurses := true, named := ["errors.errorType"], apart := false, laid := [("errors.errorType", laid_errors_errorType)], narrowed := true }
def WantSatedUptoSaid : Prop := wantSatedUptoRow.holds Tryd.pinned (OpenSpec.upto wantSatedSpec)

end Rows
end Go.Proofs.YtblanfaghnflkaaDoor
