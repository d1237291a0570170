/-
  NARROWER THAN 'FOR EVERY INPUT', by the rows' own cells (each row's printed sentence says how): MarkTells: laid · BucketFull: laid · PoolTells: laid · SourceOne: laid · SourceTells: laid · BucketTells: laid · MeterTells: laid · EvenTimes: laid · AimdTells: laid · EvenTells: laid · RoadPlays: laid · ShuffleTells: laid · ShuffleKeeps: laid · GiveEven: laid · GiveTells: laid.
  DERIVED. THE GIVEN ROWS OF THIS SEAT. 15 by the template 'for every input the law returns true; each argument reads behind the call as it read before'; 0 by the template 'total and deterministic' (their statements: YtkheobdkmmbjnaaDoorTotals.lean).
  GIVEN WITH THE SEED: the statements are not yours to turn. If you find one false, say at which input.
  Laid BY PROGRAM, IN A SANDBOX (cutbox-rows.mjs): the forced cells as the released guide's own fill.sh prints them over the translation 247efa0cf69b778c… (all of the seat's roots in one cut). By AI agents, Wed Nov 11 2026. No macro, syntax, notation, axiom, sorry.
-/
import Derived.Test.YtkheobdkmmbjnaaDoorChecked
import GoSem.Claim
import GoSem.ClaimJoined
import GoSem.ClaimMapViews
import Derived.JoinedTies
import Derived.KernelRfl
namespace Go.Proofs.YtkheobdkmmbjnaaDoor
/- THE CELL 'sum', in the pinned program and in every row, IS THE sha256 OF THE DUMP (.gsa) THAT YtkheobdkmmbjnaaDoorProg.lean LOADS. Nothing in Lean hashes anything: it is a label: what it is worth is what the hold of that sum in a sandbox is worth. -/
noncomputable def Tryd.pinned : Pinned := { name := "ytkheobdkmmbjnaadoor", sum := "247efa0cf69b778cb1fc9fc2ba34383bed0373496a56a30481b3794526ebc4ac", checked := Tryd.checked }
namespace Rows
def none {H : Type} : Left H := { results := [], args := [] }

/- WHAT THE LISTED PACKAGE-LEVEL VARIABLES READ AS WHEN THE CALL BEGINS. Each datum BY PROGRAM (the guide's laid-datum.mjs) off the statement by which the dump's own 'gosem.cut.vars' lays the variable. In a bare row this is a premise. The card (YtkheobdkmmbjnaaDoorCards.lean) ties it to the program's text. -/
def laid_errors_errorType {H : Type} : DataW H := .iface "internal/reflectlite.rtype" (.agg [.ptr (.lit (.string [101, 114, 114, 111, 114]))])

/-- 'fairlaw2.MarkTells': WHATEVER THE INPUT: true; the input reads as it did. -/
def markTellsSpec : ChangeSpec := { name := "markTells", fn := fun _ => fun
  | [d1, d2, d3, d4] => { results := [.lit (.bool true)], args := [d1, d2, d3, d4] }
  | _ => none }
def markTellsRow : OpenClaim := { program := "ytkheobdkmmbjnaadoor", sum := "247efa0cf69b778cb1fc9fc2ba34383bed0373496a56a30481b3794526ebc4ac", func := "fairsluice/fairlaw2.MarkTells", spec := "markTells", inPlace := ["internal/reflectlite.ValueOf", "(internal/reflectlite.Value).Type", "(internal/reflectlite.Value).IsNil", "internal/reflectlite.TypeOf", "(internal/reflectlite.Value).Elem", "(internal/reflectlite.Value).Set"], unfollowed := true, recurses := true, named := ["errors.errorType"], apart := false, laid := [("errors.errorType", laid_errors_errorType)] }
def MarkTellsSaid : Prop := markTellsRow.holds Tryd.pinned (OpenSpec.ofChange markTellsSpec)

/-- ITS FALSE NEIGHBOUR: 'it returns false'. Refute it at one input. -/
def markTellsWrong : ChangeSpec := { name := "markTells", fn := fun _ => fun
  | [d1, d2, d3, d4] => { results := [.lit (.bool false)], args := [d1, d2, d3, d4] }
  | _ => none }
def MarkTellsWrongFalsely : Prop := markTellsRow.holds Tryd.pinned (OpenSpec.ofChange markTellsWrong)

/-- 'fairlaw4.BucketFull': WHATEVER THE INPUT: true; the input reads as it did. -/
def bucketFullSpec : ChangeSpec := { name := "bucketFull", fn := fun _ => fun
  | [d1, d2] => { results := [.lit (.bool true)], args := [d1, d2] }
  | _ => none }
def bucketFullRow : OpenClaim := { program := "ytkheobdkmmbjnaadoor", sum := "247efa0cf69b778cb1fc9fc2ba34383bed0373496a56a30481b3794526ebc4ac", func := "fairsluice/fairlaw4.BucketFull", spec := "bucketFull", inPlace := ["internal/reflectlite.ValueOf", "(internal/reflectlite.Value).Type", "(internal/reflectlite.Value).IsNil", "internal/reflectlite.TypeOf", "(internal/reflectlite.Value).Elem", "(internal/reflectlite.Value).Set"], unfollowed := true, recurses := true, named := ["errors.errorType"], apart := false, laid := [("errors.errorType", laid_errors_errorType)] }
def BucketFullSaid : Prop := bucketFullRow.holds Tryd.pinned (OpenSpec.ofChange bucketFullSpec)

/-- ITS FALSE NEIGHBOUR: 'it returns false'. Refute it at one input. -/
def bucketFullWrong : ChangeSpec := { name := "bucketFull", fn := fun _ => fun
  | [d1, d2] => { results := [.lit (.bool false)], args := [d1, d2] }
  | _ => none }
def BucketFullWrongFalsely : Prop := bucketFullRow.holds Tryd.pinned (OpenSpec.ofChange bucketFullWrong)

/-- 'fairlaw2.PoolTells': WHATEVER THE INPUT: true; the input reads as it did. -/
def poolTellsSpec : ChangeSpec := { name := "poolTells", fn := fun _ => fun
  | [d1, d2, d3] => { results := [.lit (.bool true)], args := [d1, d2, d3] }
  | _ => none }
def poolTellsRow : OpenClaim := { program := "ytkheobdkmmbjnaadoor", sum := "247efa0cf69b778cb1fc9fc2ba34383bed0373496a56a30481b3794526ebc4ac", func := "fairsluice/fairlaw2.PoolTells", spec := "poolTells", inPlace := ["internal/reflectlite.ValueOf", "(internal/reflectlite.Value).Type", "(internal/reflectlite.Value).IsNil", "internal/reflectlite.TypeOf", "(internal/reflectlite.Value).Elem", "(internal/reflectlite.Value).Set"], unfollowed := true, recurses := true, named := ["errors.errorType"], apart := false, laid := [("errors.errorType", laid_errors_errorType)] }
def PoolTellsSaid : Prop := poolTellsRow.holds Tryd.pinned (OpenSpec.ofChange poolTellsSpec)

/-- ITS FALSE NEIGHBOUR: 'it returns false'. Refute it at one input. -/
def poolTellsWrong : ChangeSpec := { name := "poolTells", fn := fun _ => fun
  | [d1, d2, d3] => { results := [.lit (.bool false)], args := [d1, d2, d3] }
  | _ => none }
def PoolTellsWrongFalsely : Prop := poolTellsRow.holds Tryd.pinned (OpenSpec.ofChange poolTellsWrong)

/-- 'fairlaw4.SourceOne': WHATEVER THE INPUT: true; the input reads as it did. -/
def sourceOneSpec : ChangeSpec := { name := "sourceOne", fn := fun _ => fun
  | [d1, d2] => { results := [.lit (.bool true)], args := [d1, d2] }
  | _ => none }
def sourceOneRow : OpenClaim := { program := "ytkheobdkmmbjnaadoor", sum := "247efa0cf69b778cb1fc9fc2ba34383bed0373496a56a30481b3794526ebc4ac", func := "fairsluice/fairlaw4.SourceOne", spec := "sourceOne", inPlace := ["internal/reflectlite.ValueOf", "(internal/reflectlite.Value).Type", "(internal/reflectlite.Value).IsNil", "internal/reflectlite.TypeOf", "(internal/reflectlite.Value).Elem", "(internal/reflectlite.Value).Set"], unfollowed := true, recurses := true, named := ["errors.errorType"], apart := false, laid := [("errors.errorType", laid_errors_errorType)] }
def SourceOneSaid : Prop := sourceOneRow.holds Tryd.pinned (OpenSpec.ofChange sourceOneSpec)

/-- ITS FALSE NEIGHBOUR: 'it returns false'. Refute it at one input. -/
def sourceOneWrong : ChangeSpec := { name := "sourceOne", fn := fun _ => fun
  | [d1, d2] => { results := [.lit (.bool false)], args := [d1, d2] }
  | _ => none }
def SourceOneWrongFalsely : Prop := sourceOneRow.holds Tryd.pinned (OpenSpec.ofChange sourceOneWrong)

/-- 'fairlaw2.SourceTells': WHATEVER THE INPUT: true; the input reads as it did. -/
def sourceTellsSpec : ChangeSpec := { name := "sourceTells", fn := fun _ => fun
  | [d1, d2] => { results := [.lit (.bool true)], args := [d1, d2] }
  | _ => none }
def sourceTellsRow : OpenClaim := { program := "ytkheobdkmmbjnaadoor", sum := "247efa0cf69b778cb1fc9fc2ba34383bed0373496a56a30481b3794526ebc4ac", func := "fairsluice/fairlaw2.SourceTells", spec := "sourceTells", inPlace := ["internal/reflectlite.ValueOf", "(internal/reflectlite.Value).Type", "(internal/reflectlite.Value).IsNil", "internal/reflectlite.TypeOf", "(internal/reflectlite.Value).Elem", "(internal/reflectlite.Value).Set"], unfollowed := true, recurses := true, named := ["errors.errorType"], apart := false, laid := [("errors.errorType", laid_errors_errorType)] }
def SourceTellsSaid : Prop := sourceTellsRow.holds Tryd.pinned (OpenSpec.ofChange sourceTellsSpec)

/-- ITS FALSE NEIGHBOUR: 'it returns false'. Refute it at one input. -/
def sourceTellsWrong : ChangeSpec := { name := "sourceTells", fn := fun _ => fun
  | [d1, d2] => { results := [.lit (.bool false)], args := [d1, d2] }
  | _ => none }
def SourceTellsWrongFalsely : Prop := sourceTellsRow.holds Tryd.pinned (OpenSpec.ofChange sourceTellsWrong)

/-- 'fairlaw2.BucketTells': WHATEVER THE INPUT: true; the input reads as it did. -/
def bucketTellsSpec : ChangeSpec := { name := "bucketTells", fn := fun _ => fun
  | [d1, d2, d3] => { results := [.lit (.bool true)], args := [d1, d2, d3] }
  | _ => none }
def bucketTellsRow : OpenClaim := { program := "ytkheobdkmmbjnaadoor", sum := "247efa0cf69b778cb1fc9fc2ba34383bed0373496a56a30481b3794526ebc4ac", func := "fairsluice/fairlaw2.BucketTells", spec := "bucketTells", inPlace := ["internal/reflectlite.ValueOf", "(internal/reflectlite.Value).Type", "(internal/reflectlite.Value).IsNil", "internal/reflectlite.TypeOf", "(internal/reflectlite.Value).Elem", "(internal/reflectlite.Value).Set"], unfollowed := true, recurses := true, named := ["errors.errorType"], apart := false, laid := [("errors.errorType", laid_errors_errorType)] }
def BucketTellsSaid : Prop := bucketTellsRow.holds Tryd.pinned (OpenSpec.ofChange bucketTellsSpec)

/-- ITS FALSE NEIGHBOUR: 'it returns false'. Refute it at one input. -/
def bucketTellsWrong : ChangeSpec := { name := "bucketTells", fn := fun _ => fun
  | [d1, d2, d3] => { results := [.lit (.bool false)], args := [d1, d2, d3] }
  | _ => none }
def BucketTellsWrongFalsely : Prop := bucketTellsRow.holds Tryd.pinned (OpenSpec.ofChange bucketTellsWrong)

/-- 'fairlaw2.MeterTells': WHATEVER THE INPUT: true; the input reads as it did. -/
def meterTellsSpec : ChangeSpec := { name := "meterTells", fn := fun _ => fun
  | [d1, d2, d3] => { results := [.lit (.bool true)], args := [d1, d2, d3] }
  | _ => none }
def meterTellsRow : OpenClaim := { program := "ytkheobdkmmbjnaadoor", sum := "247efa0cf69b778cb1fc9fc2ba34383bed0373496a56a30481b3794526ebc4ac", func := "fairsluice/fairlaw2.MeterTells", spec := "meterTells", inPlace := ["internal/reflectlite.ValueOf", "(internal/reflectlite.Value).Type", "(internal/reflectlite.Value).IsNil", "internal/reflectlite.TypeOf", "(internal/reflectlite.Value).Elem", "(internal/reflectlite.Value).Set"], unfollowed := true, recurses := true, named := ["errors.errorType"], apart := false, laid := [("errors.errorType", laid_errors_errorType)] }
def MeterTellsSaid : Prop := meterTellsRow.holds Tryd.pinned (OpenSpec.ofChange meterTellsSpec)

/-- ITS FALSE NEIGHBOUR: 'it returns false'. Refute it at one input. -/
def meterTellsWrong : ChangeSpec := { name := "meterTells", fn := fun _ => fun
  | [d1, d2, d3] => { results := [.lit (.bool false)], args := [d1, d2, d3] }
  | _ => none }
def MeterTellsWrongFalsely : Prop := meterTellsRow.holds Tryd.pinned (OpenSpec.ofChange meterTellsWrong)

/-- 'fairlaw4.EvenTimes': WHATEVER THE INPUT: true; the input reads as it did. -/
def evenTimesSpec : ChangeSpec := { name := "evenTimes", fn := fun _ => fun
  | [d1, d2] => { results := [.lit (.bool true)], args := [d1, d2] }
  | _ => none }
def evenTimesRow : OpenClaim := { program := "ytkheobdkmmbjnaadoor", sum := "247efa0cf69b778cb1fc9fc2ba34383bed0373496a56a30481b3794526ebc4ac", func := "fairsluice/fairlaw4.EvenTimes", spec := "evenTimes", inPlace := ["internal/reflectlite.ValueOf", "(internal/reflectlite.Value).Type", "(internal/reflectlite.Value).IsNil", "internal/reflectlite.TypeOf", "(internal/reflectlite.Value).Elem", "(internal/reflectlite.Value).Set"], unfollowed := true, recurses := true, named := ["errors.errorType"], apart := false, laid := [("errors.errorType", laid_errors_errorType)] }
def EvenTimesSaid : Prop := evenTimesRow.holds Tryd.pinned (OpenSpec.ofChange evenTimesSpec)

/-- ITS FALSE NEIGHBOUR: 'it returns false'. Refute it at one input. -/
def evenTimesWrong : ChangeSpec := { name := "evenTimes", fn := fun _ => fun
  | [d1, d2] => { results := [.lit (.bool false)], args := [d1, d2] }
  | _ => none }
def EvenTimesWrongFalsely : Prop := evenTimesRow.holds Tryd.pinned (OpenSpec.ofChange evenTimesWrong)

/-- 'fairlaw1.AimdTells': WHATEVER THE INPUT: true; the input reads as it did. -/
def aimdTellsSpec : ChangeSpec := { name := "aimdTells", fn := fun _ => fun
  | [d1, d2, d3, d4] => { results := [.lit (.bool true)], args := [d1, d2, d3, d4] }
  | _ => none }
def aimdTellsRow : OpenClaim := { program := "ytkheobdkmmbjnaadoor", sum := "247efa0cf69b778cb1fc9fc2ba34383bed0373496a56a30481b3794526ebc4ac", func := "fairsluice/fairlaw1.AimdTells", spec := "aimdTells", inPlace := ["internal/reflectlite.ValueOf", "(internal/reflectlite.Value).Type", "(internal/reflectlite.Value).IsNil", "internal/reflectlite.TypeOf", "(internal/reflectlite.Value).Elem", "(internal/reflectlite.Value).Set"], unfollowed := true, recurses := true, named := ["errors.errorType"], apart := false, laid := [("errors.errorType", laid_errors_errorType)] }
def AimdTellsSaid : Prop := aimdTellsRow.holds Tryd.pinned (OpenSpec.ofChange aimdTellsSpec)

/-- ITS FALSE NEIGHBOUR: 'it returns false'. Refute it at one input. -/
def aimdTellsWrong : ChangeSpec := { name := "aimdTells", fn := fun _ => fun
  | [d1, d2, d3, d4] => { results := [.lit (.bool false)], args := [d1, d2, d3, d4] }
  | _ => none }
def AimdTellsWrongFalsely : Prop := aimdTellsRow.holds Tryd.pinned (OpenSpec.ofChange aimdTellsWrong)

/-- 'fairlaw1.EvenTells': WHATEVER THE INPUT: true; the input reads as it did. -/
def evenTellsSpec : ChangeSpec := { name := "evenTells", fn := fun _ => fun
  | [d1, d2, d3, d4] => { results := [.lit (.bool true)], args := [d1, d2, d3, d4] }
  | _ => none }
def evenTellsRow : OpenClaim := { program := "ytkheobdkmmbjnaadoor", sum := "247efa0cf69b778cb1fc9fc2ba34383bed0373496a56a30481b3794526ebc4ac", func := "fairsluice/fairlaw1.EvenTells", spec := "evenTells", inPlace := ["internal/reflectlite.ValueOf", "(internal/reflectlite.Value).Type", "(internal/reflectlite.Value).IsNil", "internal/reflectlite.TypeOf", "(internal/reflectlite.Value).Elem", "(internal/reflectlite.Value).Set"], unfollowed := true, recurses := true, named := ["errors.errorType"], apart := false, laid := [("errors.errorType", laid_errors_errorType)] }
def EvenTellsSaid : Prop := evenTellsRow.holds Tryd.pinned (OpenSpec.ofChange evenTellsSpec)

/-- ITS FALSE NEIGHBOUR: 'it returns false'. Refute it at one input. -/
def evenTellsWrong : ChangeSpec := { name := "evenTells", fn := fun _ => fun
  | [d1, d2, d3, d4] => { results := [.lit (.bool false)], args := [d1, d2, d3, d4] }
  | _ => none }
def EvenTellsWrongFalsely : Prop := evenTellsRow.holds Tryd.pinned (OpenSpec.ofChange evenTellsWrong)

/-- 'fairlaw2.RoadPlays': WHATEVER THE INPUT: true; the input reads as it did. -/
def roadPlaysSpec : ChangeSpec := { name := "roadPlays", fn := fun _ => fun
  | [d1, d2, d3] => { results := [.lit (.bool true)], args := [d1, d2, d3] }
  | _ => none }
def roadPlaysRow : OpenClaim := { program := "ytkheobdkmmbjnaadoor", sum := "247efa0cf69b778cb1fc9fc2ba34383bed0373496a56a30481b3794526ebc4ac", func := "fairsluice/fairlaw2.RoadPlays", spec := "roadPlays", inPlace := ["internal/reflectlite.ValueOf", "(internal/reflectlite.Value).Type", "(internal/reflectlite.Value).IsNil", "internal/reflectlite.TypeOf", "(internal/reflectlite.Value).Elem", "(internal/reflectlite.Value).Set"], unfollowed := true, recurses := true, named := ["errors.errorType"], apart := false, laid := [("errors.errorType", laid_errors_errorType)] }
def RoadPlaysSaid : Prop := roadPlaysRow.holds Tryd.pinned (OpenSpec.ofChange roadPlaysSpec)

/-- ITS FALSE NEIGHBOUR: 'it returns false'. Refute it at one input. -/
def roadPlaysWrong : ChangeSpec := { name := "roadPlays", fn := fun _ => fun
  | [d1, d2, d3] => { results := [.lit (.bool false)], args := [d1, d2, d3] }
  | _ => none }
def RoadPlaysWrongFalsely : Prop := roadPlaysRow.holds Tryd.pinned (OpenSpec.ofChange roadPlaysWrong)

/-- 'fairlaw2.ShuffleTells': WHATEVER THE INPUT: true; the input reads as it did. -/
def shuffleTellsSpec : ChangeSpec := { name := "shuffleTells", fn := fun _ => fun
  | [d1, d2] => { results := [.lit (.bool true)], args := [d1, d2] }
  | _ => none }
def shuffleTellsRow : OpenClaim := { program := "ytkheobdkmmbjnaadoor", sum := "247efa0cf69b778cb1fc9fc2ba34383bed0373496a56a30481b3794526ebc4ac", func := "fairsluice/fairlaw2.ShuffleTells", spec := "shuffleTells", inPlace := ["internal/reflectlite.ValueOf", "(internal/reflectlite.Value).Type", "(internal/reflectlite.Value).IsNil", "internal/reflectlite.TypeOf", "(internal/reflectlite.Value).Elem", "(internal/reflectlite.Value).Set"], unfollowed := true, recurses := true, named := ["errors.errorType"], apart := false, laid := [("errors.errorType", laid_errors_errorType)] }
def ShuffleTellsSaid : Prop := shuffleTellsRow.holds Tryd.pinned (OpenSpec.ofChange shuffleTellsSpec)

/-- ITS FALSE NEIGHBOUR: 'it returns false'. Refute it at one input. -/
def shuffleTellsWrong : ChangeSpec := { name := "shuffleTells", fn := fun _ => fun
  | [d1, d2] => { results := [.lit (.bool false)], args := [d1, d2] }
  | _ => none }
def ShuffleTellsWrongFalsely : Prop := shuffleTellsRow.holds Tryd.pinned (OpenSpec.ofChange shuffleTellsWrong)

/-- 'fairlaw2.ShuffleKeeps': WHATEVER THE INPUT: true; the input reads as it did. -/
def shuffleKeepsSpec : ChangeSpec := { name := "shuffleKeeps", fn := fun _ => fun
  | [d1, d2, d3] => { results := [.lit (.bool true)], args := [d1, d2, d3] }
  | _ => none }
def shuffleKeepsRow : OpenClaim := { program := "ytkheobdkmmbjnaadoor", sum := "247efa0cf69b778cb1fc9fc2ba34383bed0373496a56a30481b3794526ebc4ac", func := "fairsluice/fairlaw2.ShuffleKeeps", spec := "shuffleKeeps", inPlace := ["internal/reflectlite.ValueOf", "(internal/reflectlite.Value).Type", "(internal/reflectlite.Value).IsNil", "internal/reflectlite.TypeOf", "(internal/reflectlite.Value).Elem", "(internal/reflectlite.Value).Set"], unfollowed := true, recurses := true, named := ["errors.errorType"], apart := false, laid := [("errors.errorType", laid_errors_errorType)] }
def ShuffleKeepsSaid : Prop := shuffleKeepsRow.holds Tryd.pinned (OpenSpec.ofChange shuffleKeepsSpec)

/-- ITS FALSE NEIGHBOUR: 'it returns false'. Refute it at one input. -/
def shuffleKeepsWrong : ChangeSpec := { name := "shuffleKeeps", fn := fun _ => fun
  | [d1, d2, d3] => { results := [.lit (.bool false)], args := [d1, d2, d3] }
  | _ => none }
def ShuffleKeepsWrongFalsely : Prop := shuffleKeepsRow.holds Tryd.pinned (OpenSpec.ofChange shuffleKeepsWrong)

/-- 'fairlaw4.GiveEven': WHATEVER THE INPUT: true; the input reads as it did. -/
def giveEvenSpec : ChangeSpec := { name := "giveEven", fn := fun _ => fun
  | [d1, d2, d3] => { results := [.lit (.bool true)], args := [d1, d2, d3] }
  | _ => none }
def giveEvenRow : OpenClaim := { program := "ytkheobdkmmbjnaadoor", sum := "247efa0cf69b778cb1fc9fc2ba34383bed0373496a56a30481b3794526ebc4ac", func := "fairsluice/fairlaw4.GiveEven", spec := "giveEven", inPlace := ["internal/reflectlite.ValueOf", "(internal/reflectlite.Value).Type", "(internal/reflectlite.Value).IsNil", "internal/reflectlite.TypeOf", "(internal/reflectlite.Value).Elem", "(internal/reflectlite.Value).Set"], unfollowed := true, recurses := true, named := ["errors.errorType"], apart := false, laid := [("errors.errorType", laid_errors_errorType)] }
def GiveEvenSaid : Prop := giveEvenRow.holds Tryd.pinned (OpenSpec.ofChange giveEvenSpec)

/-- ITS FALSE NEIGHBOUR: 'it returns false'. Refute it at one input. -/
def giveEvenWrong : ChangeSpec := { name := "giveEven", fn := fun _ => fun
  | [d1, d2, d3] => { results := [.lit (.bool false)], args := [d1, d2, d3] }
  | _ => none }
def GiveEvenWrongFalsely : Prop := giveEvenRow.holds Tryd.pinned (OpenSpec.ofChange giveEvenWrong)

/-- 'fairlaw2.GiveTells': WHATEVER THE INPUT: true; the input reads as it did. -/
def giveTellsSpec : ChangeSpec := { name := "giveTells", fn := fun _ => fun
  | [d1, d2, d3] => { results := [.lit (.bool true)], args := [d1, d2, d3] }
  | _ => none }
def giveTellsRow : OpenClaim := { program := "ytkheobdkmmbjnaadoor", sum := "247efa0cf69b778cb1fc9fc2ba34383bed0373496a56a30481b3794526ebc4ac", func := "fairsluice/fairlaw2.GiveTells", spec := "giveTells", inPlace := ["internal/reflectlite.ValueOf", "(internal/reflectlite.Value).Type", "(internal/reflectlite.Value).IsNil", "internal/reflectlite.TypeOf", "(internal/reflectlite.Value).Elem", "(internal/reflectlite.Value).Set"], unfollowed := true, recurses := true, named := ["errors.errorType"], apart := false, laid := [("errors.errorType", laid_errors_errorType)] }
def GiveTellsSaid : Prop := giveTellsRow.holds Tryd.pinned (OpenSpec.ofChange giveTellsSpec)

/-- ITS FALSE NEIGHBOUR: 'it returns false'. Refute it at one input. -/
def giveTellsWrong : ChangeSpec := { name := "giveTells", fn := fun _ => fun
  | [d1, d2, d3] => { results := [.lit (.bool false)], args := [d1, d2, d3] }
  | _ => none }
def GiveTellsWrongFalsely : Prop := giveTellsRow.holds Tryd.pinned (OpenSpec.ofChange giveTellsWrong)

/- THE SECOND FORM. 'bulk': how many values and letters a reading holds, each counted each time it is reached (what is shared counts as often as it is met; a slice's spare places count too). A statement '..UptoSaid' is the law's where the arguments, and the package variables that the reading takes, are together of bulk at most 1048576: NARROWER than '..Said'. Prove '..Said' where nothing that the law and all that it calls make is longer than what came in: it says more and counts as full. Else prove '..UptoSaid'. A law counts once. -/
mutual
def uptoBulk {H : Type} : DataW H → Nat
  | .lit (.string bytes) => bytes.length + 1
  | .lit _ => 1
  | .nil => 1
  | .ptr d => uptoBulk d + 1
  | .slice elems spare => uptoBulkAll elems + uptoBulkAll spare + 1
  | .agg parts => uptoBulkAll parts + 1
  | .iface _ d => uptoBulk d + 1
  | .map entries => uptoBulkEntries entries + 1
  | .held _ => 1
def uptoBulkAll {H : Type} : List (DataW H) → Nat
  | [] => 0
  | d :: r => uptoBulk d + uptoBulkAll r
def uptoBulkEntries {H : Type} : List (Lit × DataW H) → Nat
  | [] => 0
  | x :: r => uptoBulkEntry x + uptoBulkEntries r
def uptoBulkEntry {H : Type} : Lit × DataW H → Nat
  | (.string bytes, d) => bytes.length + uptoBulk d + 1
  | (_, d) => uptoBulk d + 1
 end
def uptoSmall : (H : Type) → List (DataW H) → Bool := fun _ ds => decide (uptoBulkAll ds ≤ 1048576)
def OpenSpec.upto (s : _root_.Go.ChangeSpec) : _root_.Go.OpenSpec := { _root_.Go.OpenSpec.ofChange s with cond := some uptoSmall }

/-- 'fairlaw2.MarkTells', WHERE WHAT IT READS IS OF BULK AT MOST 1048576: true; the input reads as it did. -/
def markTellsUptoRow : OpenClaim := { program := "ytkheobdkmmbjnaadoor", sum := "247efa0cf69b778cb1fc9fc2ba34383bed0373496a56a30481b3794526ebc4ac", func := "fairsluice/fairlaw2.MarkTells", spec := "markTells", inPlace := ["internal/reflectlite.ValueOf", "(internal/reflectlite.Value).Type", "(internal/reflectlite.Value).IsNil", "internal/reflectlite.TypeOf", "(internal/reflectlite.Value).Elem", "(internal/reflectlite.Value).Set"], unfollowed := true, recurses := true, named := ["errors.errorType"], apart := false, laid := [("errors.errorType", laid_errors_errorType)], narrowed := true }
def MarkTellsUptoSaid : Prop := markTellsUptoRow.holds Tryd.pinned (OpenSpec.upto markTellsSpec)

/-- 'fairlaw4.BucketFull', WHERE WHAT IT READS IS OF BULK AT MOST 1048576: true; the input reads as it did. -/
def bucketFullUptoRow : OpenClaim := { program := "ytkheobdkmmbjnaadoor", sum := "247efa0cf69b778cb1fc9fc2ba34383bed0373496a56a30481b3794526ebc4ac", func := "fairsluice/fairlaw4.BucketFull", spec := "bucketFull", inPlace := ["internal/reflectlite.ValueOf", "(internal/reflectlite.Value).Type", "(internal/reflectlite.Value).IsNil", "internal/reflectlite.TypeOf", "(internal/reflectlite.Value).Elem", "(internal/reflectlite.Value).Set"], unfollowed := true, recurses := true, named := ["errors.errorType"], apart := false, laid := [("errors.errorType", laid_errors_errorType)], narrowed := true }
def BucketFullUptoSaid : Prop := bucketFullUptoRow.holds Tryd.pinned (OpenSpec.upto bucketFullSpec)

/-- 'fairlaw2.PoolTells', WHERE WHAT IT READS IS OF BULK AT MOST 1048576: true; the input reads as it did. -/
def poolTellsUptoRow : OpenClaim := { program := "ytkheobdkmmbjnaadoor", sum := "247efa0cf69b778cb1fc9fc2ba34383bed0373496a56a30481b3794526ebc4ac", func := "fairsluice/fairlaw2.PoolTells", spec := "poolTells", inPlace := ["internal/reflectlite.ValueOf", "(internal/reflectlite.Value).Type", "(internal/reflectlite.Value).IsNil", "internal/reflectlite.TypeOf", "(internal/reflectlite.Value).Elem", "(internal/reflectlite.Value).Set"], unfollowed := true, recurses := true, named := ["errors.errorType"], apart := false, laid := [("errors.errorType", laid_errors_errorType)], narrowed := true }
def PoolTellsUptoSaid : Prop := poolTellsUptoRow.holds Tryd.pinned (OpenSpec.upto poolTellsSpec)

/-- 'fairlaw4.SourceOne', WHERE WHAT IT READS IS OF BULK AT MOST 1048576: true; the input reads as it did. -/
def sourceOneUptoRow : OpenClaim := { program := "ytkheobdkmmbjnaadoor", sum := "247efa0cf69b778cb1fc9fc2ba34383bed0373496a56a30481b3794526ebc4ac", func := "fairsluice/fairlaw4.SourceOne", spec := "sourceOne", inPlace := ["internal/reflectlite.ValueOf", "(internal/reflectlite.Value).Type", "(internal/reflectlite.Value).IsNil", "internal/reflectlite.TypeOf", "(internal/reflectlite.Value).Elem", "(internal/reflectlite.Value).Set"], unfollowed := true, recurses := true, named := ["errors.errorType"], apart := false, laid := [("errors.errorType", laid_errors_errorType)], narrowed := true }
def SourceOneUptoSaid : Prop := sourceOneUptoRow.holds Tryd.pinned (OpenSpec.upto sourceOneSpec)

/-- 'fairlaw2.SourceTells', WHERE WHAT IT READS IS OF BULK AT MOST 1048576: true; the input reads as it did. -/
def sourceTellsUptoRow : OpenClaim := { program := "ytkheobdkmmbjnaadoor", sum := "247efa0cf69b778cb1fc9fc2ba34383bed0373496a56a30481b3794526ebc4ac", func := "fairsluice/fairlaw2.SourceTells", spec := "sourceTells", inPlace := ["internal/reflectlite.ValueOf", "(internal/reflectlite.Value).Type", "(internal/reflectlite.Value).IsNil", "internal/reflectlite.TypeOf", "(internal/reflectlite.Value).Elem", "(internal/reflectlite.Value).Set"], unfollowed := true, recurses := true, named := ["errors.errorType"], apart := false, laid := [("errors.errorType", laid_errors_errorType)], narrowed := true }
def SourceTellsUptoSaid : Prop := sourceTellsUptoRow.holds Tryd.pinned (OpenSpec.upto sourceTellsSpec)

/-- 'fairlaw2.BucketTells', WHERE WHAT IT READS IS OF BULK AT MOST 1048576: true; the input reads as it did. -/
def bucketTellsUptoRow : OpenClaim := { program := "ytkheobdkmmbjnaadoor", sum := "247efa0cf69b778cb1fc9fc2ba34383bed0373496a56a30481b3794526ebc4ac", func := "fairsluice/fairlaw2.BucketTells", spec := "bucketTells", inPlace := ["internal/reflectlite.ValueOf", "(internal/reflectlite.Value).Type", "(internal/reflectlite.Value).IsNil", "internal/reflectlite.TypeOf", "(internal/reflectlite.Value).Elem", "(internal/reflectlite.Value).Set"], unfollowed := true, recurses := true, named := ["errors.errorType"], apart := false, laid := [("errors.errorType", laid_errors_errorType)], narrowed := true }
def BucketTellsUptoSaid : Prop := bucketTellsUptoRow.holds Tryd.pinned (OpenSpec.upto bucketTellsSpec)

/-- 'fairlaw2.MeterTells', WHERE WHAT IT READS IS OF BULK AT MOST 1048576: true; the input reads as it did. -/
def meterTellsUptoRow : OpenClaim := { program := "ytkheobdkmmbjnaadoor", sum := "247efa0cf69b778cb1fc9fc2ba34383bed0373496a56a30481b3794526ebc4ac", func := "fairsluice/fairlaw2.MeterTells", spec := "meterTells", inPlace := ["internal/reflectlite.ValueOf", "(internal/reflectlite.Value).Type", "(internal/reflectlite.Value).IsNil", "internal/reflectlite.TypeOf", "(internal/reflectlite.Value).Elem", "(internal/reflectlite.Value).Set"], unfollowed := true, recurses := true, named := ["errors.errorType"], apart := false, laid := [("errors.errorType", laid_errors_errorType)], narrowed := true }
def MeterTellsUptoSaid : Prop := meterTellsUptoRow.holds Tryd.pinned (OpenSpec.upto meterTellsSpec)

/-- 'fairlaw4.EvenTimes', WHERE WHAT IT READS IS OF BULK AT MOST 1048576: true; the input reads as it did. -/
def evenTimesUptoRow : OpenClaim := { program := "ytkheobdkmmbjnaadoor", sum := "247efa0cf69b778cb1fc9fc2ba34383bed0373496a56a30481b3794526ebc4ac", func := "fairsluice/fairlaw4.EvenTimes", spec := "evenTimes", inPlace := ["internal/reflectlite.ValueOf", "(internal/reflectlite.Value).Type", "(internal/reflectlite.Value).IsNil", "internal/reflectlite.TypeOf", "(internal/reflectlite.Value).Elem", "(internal/reflectlite.Value).Set"], unfollowed := true, recurses := true, named := ["errors.errorType"], apart := false, laid := [("errors.errorType", laid_errors_errorType)], narrowed := true }
def EvenTimesUptoSaid : Prop := evenTimesUptoRow.holds Tryd.pinned (OpenSpec.upto evenTimesSpec)

/-- 'fairlaw1.AimdTells', WHERE WHAT IT READS IS OF BULK AT MOST 1048576: true; the input reads as it did. -/
def aimdTellsUptoRow : OpenClaim := { program := "ytkheobdkmmbjnaadoor", sum := "247efa0cf69b778cb1fc9fc2ba34383bed0373496a56a30481b3794526ebc4ac", func := "fairsluice/fairlaw1.AimdTells", spec := "aimdTells", inPlace := ["internal/reflectlite.ValueOf", "(internal/reflectlite.Value).Type", "(internal/reflectlite.Value).IsNil", "internal/reflectlite.TypeOf", "(internal/reflectlite.Value).Elem", "(internal/reflectlite.Value).Set"], unfollowed := true, recurses := true, named := ["errors.errorType"], apart := false, laid := [("errors.errorType", laid_errors_errorType)], narrowed := true }
def AimdTellsUptoSaid : Prop := aimdTellsUptoRow.holds Tryd.pinned (OpenSpec.upto aimdTellsSpec)

/-- 'fairlaw1.EvenTells', WHERE WHAT IT READS IS OF BULK AT MOST 1048576: true; the input reads as it did. -/
def evenTellsUptoRow : OpenClaim := { program := "ytkheobdkmmbjnaadoor", sum := "247efa0cf69b778cb1fc9fc2ba34383bed0373496a56a30481b3794526ebc4ac", func := "fairsluice/fairlaw1.EvenTells", spec := "evenTells", inPlace := ["internal/reflectlite.ValueOf", "(internal/reflectlite.Value).Type", "(internal/reflectlite.Value).IsNil", "internal/reflectlite.TypeOf", "(internal/reflectlite.Value).Elem", "(internal/reflectlite.Value).Set"], unfollowed := true, recurses := true, named := ["errors.errorType"], apart := false, laid := [("errors.errorType", laid_errors_errorType)], narrowed := true }
def EvenTellsUptoSaid : Prop := evenTellsUptoRow.holds Tryd.pinned (OpenSpec.upto evenTellsSpec)

/-- 'fairlaw2.RoadPlays', WHERE WHAT IT READS IS OF BULK AT MOST 1048576: true; the input reads as it did. -/
def roadPlaysUptoRow : OpenClaim := { program := "ytkheobdkmmbjnaadoor", sum := "247efa0cf69b778cb1fc9fc2ba34383bed0373496a56a30481b3794526ebc4ac", func := "fairsluice/fairlaw2.RoadPlays", spec := "roadPlays", inPlace := ["internal/reflectlite.ValueOf", "(internal/reflectlite.Value).Type", "(internal/reflectlite.Value).IsNil", "internal/reflectlite.TypeOf", "(internal/reflectlite.Value).Elem", "(internal/reflectlite.Value).Set"], unfollowed := true, recurses := true, named := ["errors.errorType"], apart := false, laid := [("errors.errorType", laid_errors_errorType)], narrowed := true }
def RoadPlaysUptoSaid : Prop := roadPlaysUptoRow.holds Tryd.pinned (OpenSpec.upto roadPlaysSpec)

/-- 'fairlaw2.ShuffleTells', WHERE WHAT IT READS IS OF BULK AT MOST 1048576: true; the input reads as it did. -/
def shuffleTellsUptoRow : OpenClaim := { program := "ytkheobdkmmbjnaadoor", sum := "247efa0cf69b778cb1fc9fc2ba34383bed0373496a56a30481b3794526ebc4ac", func := "fairsluice/fairlaw2.ShuffleTells", spec := "shuffleTells", inPlace := ["internal/reflectlite.ValueOf", "(internal/reflectlite.Value).Type", "(internal/reflectlite.Value).IsNil", "internal/reflectlite.TypeOf", "(internal/reflectlite.Value).Elem", "(internal/reflectlite.Value).Set"], unfollowed := true, recurses := true, named := ["errors.errorType"], apart := false, laid := [("errors.errorType", laid_errors_errorType)], narrowed := true }
def ShuffleTellsUptoSaid : Prop := shuffleTellsUptoRow.holds Tryd.pinned (OpenSpec.upto shuffleTellsSpec)

/-- 'fairlaw2.ShuffleKeeps', WHERE WHAT IT READS IS OF BULK AT MOST 1048576: true; the input reads as it did. -/
def shuffleKeepsUptoRow : OpenClaim := { program := "ytkheobdkmmbjnaadoor", sum := "247efa0cf69b778cb1fc9fc2ba34383bed0373496a56a30481b3794526ebc4ac", func := "fairsluice/fairlaw2.ShuffleKeeps", spec := "shuffleKeeps", inPlace := ["internal/reflectlite.ValueOf", "(internal/reflectlite.Value).Type", "(internal/reflectlite.Value).IsNil", "internal/reflectlite.TypeOf", "(internal/reflectlite.Value).Elem", "(internal/reflectlite.Value).Set"], unfollowed := true, recurses := true, named := ["errors.errorType"], apart := false, laid := [("errors.errorType", laid_errors_errorType)], narrowed := true }
def ShuffleKeepsUptoSaid : Prop := shuffleKeepsUptoRow.holds Tryd.pinned (OpenSpec.upto shuffleKeepsSpec)

/-- 'fairlaw4.GiveEven', WHERE WHAT IT READS IS OF BULK AT MOST 1048576: true; the input reads as it did. -/
def giveEvenUptoRow : OpenClaim := { program := "ytkheobdkmmbjnaadoor", sum := "247efa0cf69b778cb1fc9fc2ba34383bed0373496a56a30481b3794526ebc4ac", func := "fairsluice/fairlaw4.GiveEven", spec := "giveEven", inPlace := ["internal/reflectlite.ValueOf", "(internal/reflectlite.Value).Type", "(internal/reflectlite.Value).IsNil", "internal/reflectlite.TypeOf", "(internal/reflectlite.Value).Elem", "(internal/reflectlite.Value).Set"], unfollowed := true, recurses := true, named := ["errors.errorType"], apart := false, laid := [("errors.errorType", laid_errors_errorType)], narrowed := true }
def GiveEvenUptoSaid : Prop := giveEvenUptoRow.holds Tryd.pinned (OpenSpec.upto giveEvenSpec)

/-- 'fairlaw2.GiveTells', WHERE WHAT IT READS IS OF BULK AT MOST 1048576: true; the input reads as it did. -/
def giveTellsUptoRow : OpenClaim := { program := "ytkheobdkmmbjnaadoor", sum := "247efa0cf69b778cb1fc9fc2ba34383bed0373496a56a30481b3794526ebc4ac", func := "fairsluice/fairlaw2.GiveTells", spec := "giveTells", inPlace := ["internal/reflectlite.ValueOf", "(internal/reflectlite.Value).Type", "(internal/reflectlite.Value).IsNil", "internal/reflectlite.TypeOf", "(internal/reflectlite.Value).Elem", "(internal/reflectlite.Value).Set"], unfollowed := true, recurses := true, named := ["errors.errorType"], apart := false, laid := [("errors.errorType", laid_errors_errorType)], narrowed := true }
def GiveTellsUptoSaid : Prop := giveTellsUptoRow.holds Tryd.pinned (OpenSpec.upto giveTellsSpec)

end Rows
end Go.Proofs.YtkheobdkmmbjnaaDoor
