/-
  No cell of these rows narrows 'for every input' (looked for: loops, veiled, ifaces, maps, wideKeys, modest, calm, conditions, laid).
  DERIVED. THE GIVEN ROWS OF THIS SEAT. 16 by the template 'for every input the law returns true; each argument reads behind the call as it read before'; 0 by the template 'total and deterministic' (their statements: YtkheobdkmmbjnaaTotals.lean).
  GIVEN WITH THE SEED: the statements are not yours to turn. If you find one false, say at which input.
  Laid BY PROGRAM, IN A SANDBOX (cutbox-rows.mjs): the forced cells as the released guide's own fill.sh prints them over the translation 858c42c6895c6944… (all of the seat's roots in one cut). By AI agents, Wed Nov 11 2026. No macro, syntax, notation, axiom, sorry.
-/
import Derived.Test.YtkheobdkmmbjnaaChecked
import GoSem.Claim
import GoSem.ClaimJoined
import GoSem.ClaimMapViews
import Derived.JoinedTies
import Derived.KernelRfl
namespace Go.Proofs.Ytkheobdkmmbjnaa
/- THE CELL 'sum', in the pinned program and in every row, IS THE sha256 OF THE DUMP (.gsa) THAT YtkheobdkmmbjnaaProg.lean LOADS. Nothing in Lean hashes anything: it is a label: what it is worth is what the hold of that sum in a sandbox is worth. -/
noncomputable def Try.pinned : Pinned := { name := "ytkheobdkmmbjnaa", sum := "858c42c6895c6944fa9af9b0dfb12b6b29542a698e4774425cf9de542e4862a9", checked := Try.checked }
namespace Rows
def none {H : Type} : Left H := { results := [], args := [] }

/-- 'fairlaw2.MarkEven': WHATEVER THE INPUT: true; the input reads as it did. -/
def markEvenSpec : ChangeSpec := { name := "markEven", fn := fun _ => fun
  | [d1, d2, d3, d4] => { results := [.lit (.bool true)], args := [d1, d2, d3, d4] }
  | _ => none }
def markEvenRow : OpenClaim := { program := "ytkheobdkmmbjnaa", sum := "858c42c6895c6944fa9af9b0dfb12b6b29542a698e4774425cf9de542e4862a9", func := "fairsluice/fairlaw2.MarkEven", spec := "markEven", apart := false }
def MarkEvenSaid : Prop := markEvenRow.holds Try.pinned (OpenSpec.ofChange markEvenSpec)

/-- ITS FALSE NEIGHBOUR: 'it returns false'. Refute it at one input. -/
def markEvenWrong : ChangeSpec := { name := "markEven", fn := fun _ => fun
  | [d1, d2, d3, d4] => { results := [.lit (.bool false)], args := [d1, d2, d3, d4] }
  | _ => none }
def MarkEvenWrongFalsely : Prop := markEvenRow.holds Try.pinned (OpenSpec.ofChange markEvenWrong)

/-- 'fairlaw4.MarkAll': WHATEVER THE INPUT: true; the input reads as it did. -/
def markAllSpec : ChangeSpec := { name := "markAll", fn := fun _ => fun
  | [d] => { results := [.lit (.bool true)], args := [d] }
  | _ => none }
def markAllRow : OpenClaim := { program := "ytkheobdkmmbjnaa", sum := "858c42c6895c6944fa9af9b0dfb12b6b29542a698e4774425cf9de542e4862a9", func := "fairsluice/fairlaw4.MarkAll", spec := "markAll", apart := false }
def MarkAllSaid : Prop := markAllRow.holds Try.pinned (OpenSpec.ofChange markAllSpec)

/-- ITS FALSE NEIGHBOUR: 'it returns false'. Refute it at one input. -/
def markAllWrong : ChangeSpec := { name := "markAll", fn := fun _ => fun
  | [d] => { results := [.lit (.bool false)], args := [d] }
  | _ => none }
def MarkAllWrongFalsely : Prop := markAllRow.holds Try.pinned (OpenSpec.ofChange markAllWrong)

/-- 'fairlaw1.Names': WHATEVER THE INPUT: true; the input reads as it did. -/
def namesSpec : ChangeSpec := { name := "names", fn := fun _ => fun
  | [] => { results := [.lit (.bool true)], args := [] }
  | _ => none }
def namesRow : OpenClaim := { program := "ytkheobdkmmbjnaa", sum := "858c42c6895c6944fa9af9b0dfb12b6b29542a698e4774425cf9de542e4862a9", func := "fairsluice/fairlaw1.Names", spec := "names", apart := false }
def NamesSaid : Prop := namesRow.holds Try.pinned (OpenSpec.ofChange namesSpec)

/-- ITS FALSE NEIGHBOUR: 'it returns false'. Refute it at one input. -/
def namesWrong : ChangeSpec := { name := "names", fn := fun _ => fun
  | [] => { results := [.lit (.bool false)], args := [] }
  | _ => none }
def NamesWrongFalsely : Prop := namesRow.holds Try.pinned (OpenSpec.ofChange namesWrong)

/-- 'fairlaw4.PoolEmpty': WHATEVER THE INPUT: true; the input reads as it did. -/
def poolEmptySpec : ChangeSpec := { name := "poolEmpty", fn := fun _ => fun
  | [d1, d2, d3] => { results := [.lit (.bool true)], args := [d1, d2, d3] }
  | _ => none }
def poolEmptyRow : OpenClaim := { program := "ytkheobdkmmbjnaa", sum := "858c42c6895c6944fa9af9b0dfb12b6b29542a698e4774425cf9de542e4862a9", func := "fairsluice/fairlaw4.PoolEmpty", spec := "poolEmpty", apart := false }
def PoolEmptySaid : Prop := poolEmptyRow.holds Try.pinned (OpenSpec.ofChange poolEmptySpec)

/-- ITS FALSE NEIGHBOUR: 'it returns false'. Refute it at one input. -/
def poolEmptyWrong : ChangeSpec := { name := "poolEmpty", fn := fun _ => fun
  | [d1, d2, d3] => { results := [.lit (.bool false)], args := [d1, d2, d3] }
  | _ => none }
def PoolEmptyWrongFalsely : Prop := poolEmptyRow.holds Try.pinned (OpenSpec.ofChange poolEmptyWrong)

/-- 'fairlaw2.MeterStays': WHATEVER THE INPUT: true; the input reads as it did. -/
def meterStaysSpec : ChangeSpec := { name := "meterStays", fn := fun _ => fun
  | [d1, d2, d3] => { results := [.lit (.bool true)], args := [d1, d2, d3] }
  | _ => none }
def meterStaysRow : OpenClaim := { program := "ytkheobdkmmbjnaa", sum := "858c42c6895c6944fa9af9b0dfb12b6b29542a698e4774425cf9de542e4862a9", func := "fairsluice/fairlaw2.MeterStays", spec := "meterStays", apart := false }
def MeterStaysSaid : Prop := meterStaysRow.holds Try.pinned (OpenSpec.ofChange meterStaysSpec)

/-- ITS FALSE NEIGHBOUR: 'it returns false'. Refute it at one input. -/
def meterStaysWrong : ChangeSpec := { name := "meterStays", fn := fun _ => fun
  | [d1, d2, d3] => { results := [.lit (.bool false)], args := [d1, d2, d3] }
  | _ => none }
def MeterStaysWrongFalsely : Prop := meterStaysRow.holds Try.pinned (OpenSpec.ofChange meterStaysWrong)

/-- 'fairlaw2.BucketBounds': WHATEVER THE INPUT: true; the input reads as it did. -/
def bucketBoundsSpec : ChangeSpec := { name := "bucketBounds", fn := fun _ => fun
  | [d1, d2] => { results := [.lit (.bool true)], args := [d1, d2] }
  | _ => none }
def bucketBoundsRow : OpenClaim := { program := "ytkheobdkmmbjnaa", sum := "858c42c6895c6944fa9af9b0dfb12b6b29542a698e4774425cf9de542e4862a9", func := "fairsluice/fairlaw2.BucketBounds", spec := "bucketBounds", unfollowed := true, recurses := true, apart := false }
def BucketBoundsSaid : Prop := bucketBoundsRow.holds Try.pinned (OpenSpec.ofChange bucketBoundsSpec)

/-- ITS FALSE NEIGHBOUR: 'it returns false'. Refute it at one input. -/
def bucketBoundsWrong : ChangeSpec := { name := "bucketBounds", fn := fun _ => fun
  | [d1, d2] => { results := [.lit (.bool false)], args := [d1, d2] }
  | _ => none }
def BucketBoundsWrongFalsely : Prop := bucketBoundsRow.holds Try.pinned (OpenSpec.ofChange bucketBoundsWrong)

/-- 'fairlaw2.PoolKeeps': WHATEVER THE INPUT: true; the input reads as it did. -/
def poolKeepsSpec : ChangeSpec := { name := "poolKeeps", fn := fun _ => fun
  | [d1, d2, d3] => { results := [.lit (.bool true)], args := [d1, d2, d3] }
  | _ => none }
def poolKeepsRow : OpenClaim := { program := "ytkheobdkmmbjnaa", sum := "858c42c6895c6944fa9af9b0dfb12b6b29542a698e4774425cf9de542e4862a9", func := "fairsluice/fairlaw2.PoolKeeps", spec := "poolKeeps", unfollowed := true, recurses := true, apart := false }
def PoolKeepsSaid : Prop := poolKeepsRow.holds Try.pinned (OpenSpec.ofChange poolKeepsSpec)

/-- ITS FALSE NEIGHBOUR: 'it returns false'. Refute it at one input. -/
def poolKeepsWrong : ChangeSpec := { name := "poolKeeps", fn := fun _ => fun
  | [d1, d2, d3] => { results := [.lit (.bool false)], args := [d1, d2, d3] }
  | _ => none }
def PoolKeepsWrongFalsely : Prop := poolKeepsRow.holds Try.pinned (OpenSpec.ofChange poolKeepsWrong)

/-- 'fairlaw2.SourceKeeps': WHATEVER THE INPUT: true; the input reads as it did. -/
def sourceKeepsSpec : ChangeSpec := { name := "sourceKeeps", fn := fun _ => fun
  | [d1, d2] => { results := [.lit (.bool true)], args := [d1, d2] }
  | _ => none }
def sourceKeepsRow : OpenClaim := { program := "ytkheobdkmmbjnaa", sum := "858c42c6895c6944fa9af9b0dfb12b6b29542a698e4774425cf9de542e4862a9", func := "fairsluice/fairlaw2.SourceKeeps", spec := "sourceKeeps", apart := false }
def SourceKeepsSaid : Prop := sourceKeepsRow.holds Try.pinned (OpenSpec.ofChange sourceKeepsSpec)

/-- ITS FALSE NEIGHBOUR: 'it returns false'. Refute it at one input. -/
def sourceKeepsWrong : ChangeSpec := { name := "sourceKeeps", fn := fun _ => fun
  | [d1, d2] => { results := [.lit (.bool false)], args := [d1, d2] }
  | _ => none }
def SourceKeepsWrongFalsely : Prop := sourceKeepsRow.holds Try.pinned (OpenSpec.ofChange sourceKeepsWrong)

/-- 'fairlaw4.MeterIdle': WHATEVER THE INPUT: true; the input reads as it did. -/
def meterIdleSpec : ChangeSpec := { name := "meterIdle", fn := fun _ => fun
  | [d1, d2] => { results := [.lit (.bool true)], args := [d1, d2] }
  | _ => none }
def meterIdleRow : OpenClaim := { program := "ytkheobdkmmbjnaa", sum := "858c42c6895c6944fa9af9b0dfb12b6b29542a698e4774425cf9de542e4862a9", func := "fairsluice/fairlaw4.MeterIdle", spec := "meterIdle", unfollowed := true, recurses := true, apart := false }
def MeterIdleSaid : Prop := meterIdleRow.holds Try.pinned (OpenSpec.ofChange meterIdleSpec)

/-- ITS FALSE NEIGHBOUR: 'it returns false'. Refute it at one input. -/
def meterIdleWrong : ChangeSpec := { name := "meterIdle", fn := fun _ => fun
  | [d1, d2] => { results := [.lit (.bool false)], args := [d1, d2] }
  | _ => none }
def MeterIdleWrongFalsely : Prop := meterIdleRow.holds Try.pinned (OpenSpec.ofChange meterIdleWrong)

/-- 'fairlaw1.AimdEvens': WHATEVER THE INPUT: true; the input reads as it did. -/
def aimdEvensSpec : ChangeSpec := { name := "aimdEvens", fn := fun _ => fun
  | [d1, d2, d3, d4] => { results := [.lit (.bool true)], args := [d1, d2, d3, d4] }
  | _ => none }
def aimdEvensRow : OpenClaim := { program := "ytkheobdkmmbjnaa", sum := "858c42c6895c6944fa9af9b0dfb12b6b29542a698e4774425cf9de542e4862a9", func := "fairsluice/fairlaw1.AimdEvens", spec := "aimdEvens", unfollowed := true, recurses := true, apart := false }
def AimdEvensSaid : Prop := aimdEvensRow.holds Try.pinned (OpenSpec.ofChange aimdEvensSpec)

/-- ITS FALSE NEIGHBOUR: 'it returns false'. Refute it at one input. -/
def aimdEvensWrong : ChangeSpec := { name := "aimdEvens", fn := fun _ => fun
  | [d1, d2, d3, d4] => { results := [.lit (.bool false)], args := [d1, d2, d3, d4] }
  | _ => none }
def AimdEvensWrongFalsely : Prop := aimdEvensRow.holds Try.pinned (OpenSpec.ofChange aimdEvensWrong)

/-- 'fairlaw4.AimdNone': WHATEVER THE INPUT: true; the input reads as it did. -/
def aimdNoneSpec : ChangeSpec := { name := "aimdNone", fn := fun _ => fun
  | [d1, d2, d3] => { results := [.lit (.bool true)], args := [d1, d2, d3] }
  | _ => none }
def aimdNoneRow : OpenClaim := { program := "ytkheobdkmmbjnaa", sum := "858c42c6895c6944fa9af9b0dfb12b6b29542a698e4774425cf9de542e4862a9", func := "fairsluice/fairlaw4.AimdNone", spec := "aimdNone", unfollowed := true, recurses := true, apart := false }
def AimdNoneSaid : Prop := aimdNoneRow.holds Try.pinned (OpenSpec.ofChange aimdNoneSpec)

/-- ITS FALSE NEIGHBOUR: 'it returns false'. Refute it at one input. -/
def aimdNoneWrong : ChangeSpec := { name := "aimdNone", fn := fun _ => fun
  | [d1, d2, d3] => { results := [.lit (.bool false)], args := [d1, d2, d3] }
  | _ => none }
def AimdNoneWrongFalsely : Prop := aimdNoneRow.holds Try.pinned (OpenSpec.ofChange aimdNoneWrong)

/-- 'fairlaw1.EvenBetween': WHATEVER THE INPUT: true; the input reads as it did. -/
def evenBetweenSpec : ChangeSpec := { name := "evenBetween", fn := fun _ => fun
  | [d1, d2, d3, d4] => { results := [.lit (.bool true)], args := [d1, d2, d3, d4] }
  | _ => none }
def evenBetweenRow : OpenClaim := { program := "ytkheobdkmmbjnaa", sum := "858c42c6895c6944fa9af9b0dfb12b6b29542a698e4774425cf9de542e4862a9", func := "fairsluice/fairlaw1.EvenBetween", spec := "evenBetween", unfollowed := true, recurses := true, apart := false }
def EvenBetweenSaid : Prop := evenBetweenRow.holds Try.pinned (OpenSpec.ofChange evenBetweenSpec)

/-- ITS FALSE NEIGHBOUR: 'it returns false'. Refute it at one input. -/
def evenBetweenWrong : ChangeSpec := { name := "evenBetween", fn := fun _ => fun
  | [d1, d2, d3, d4] => { results := [.lit (.bool false)], args := [d1, d2, d3, d4] }
  | _ => none }
def EvenBetweenWrongFalsely : Prop := evenBetweenRow.holds Try.pinned (OpenSpec.ofChange evenBetweenWrong)

/-- 'fairlaw4.RoadIdle': WHATEVER THE INPUT: true; the input reads as it did. -/
def roadIdleSpec : ChangeSpec := { name := "roadIdle", fn := fun _ => fun
  | [d1, d2, d3] => { results := [.lit (.bool true)], args := [d1, d2, d3] }
  | _ => none }
def roadIdleRow : OpenClaim := { program := "ytkheobdkmmbjnaa", sum := "858c42c6895c6944fa9af9b0dfb12b6b29542a698e4774425cf9de542e4862a9", func := "fairsluice/fairlaw4.RoadIdle", spec := "roadIdle", apart := false }
def RoadIdleSaid : Prop := roadIdleRow.holds Try.pinned (OpenSpec.ofChange roadIdleSpec)

/-- ITS FALSE NEIGHBOUR: 'it returns false'. Refute it at one input. -/
def roadIdleWrong : ChangeSpec := { name := "roadIdle", fn := fun _ => fun
  | [d1, d2, d3] => { results := [.lit (.bool false)], args := [d1, d2, d3] }
  | _ => none }
def RoadIdleWrongFalsely : Prop := roadIdleRow.holds Try.pinned (OpenSpec.ofChange roadIdleWrong)

/-- 'fairlaw2.RoadKeeps': WHATEVER THE INPUT: true; the input reads as it did. -/
def roadKeepsSpec : ChangeSpec := { name := "roadKeeps", fn := fun _ => fun
  | [d1, d2, d3] => { results := [.lit (.bool true)], args := [d1, d2, d3] }
  | _ => none }
def roadKeepsRow : OpenClaim := { program := "ytkheobdkmmbjnaa", sum := "858c42c6895c6944fa9af9b0dfb12b6b29542a698e4774425cf9de542e4862a9", func := "fairsluice/fairlaw2.RoadKeeps", spec := "roadKeeps", apart := false }
def RoadKeepsSaid : Prop := roadKeepsRow.holds Try.pinned (OpenSpec.ofChange roadKeepsSpec)

/-- ITS FALSE NEIGHBOUR: 'it returns false'. Refute it at one input. -/
def roadKeepsWrong : ChangeSpec := { name := "roadKeeps", fn := fun _ => fun
  | [d1, d2, d3] => { results := [.lit (.bool false)], args := [d1, d2, d3] }
  | _ => none }
def RoadKeepsWrongFalsely : Prop := roadKeepsRow.holds Try.pinned (OpenSpec.ofChange roadKeepsWrong)

/-- 'fairlaw4.ShuffleNone': WHATEVER THE INPUT: true; the input reads as it did. -/
def shuffleNoneSpec : ChangeSpec := { name := "shuffleNone", fn := fun _ => fun
  | [d] => { results := [.lit (.bool true)], args := [d] }
  | _ => none }
def shuffleNoneRow : OpenClaim := { program := "ytkheobdkmmbjnaa", sum := "858c42c6895c6944fa9af9b0dfb12b6b29542a698e4774425cf9de542e4862a9", func := "fairsluice/fairlaw4.ShuffleNone", spec := "shuffleNone", unfollowed := true, recurses := true, apart := false }
def ShuffleNoneSaid : Prop := shuffleNoneRow.holds Try.pinned (OpenSpec.ofChange shuffleNoneSpec)

/-- ITS FALSE NEIGHBOUR: 'it returns false'. Refute it at one input. -/
def shuffleNoneWrong : ChangeSpec := { name := "shuffleNone", fn := fun _ => fun
  | [d] => { results := [.lit (.bool false)], args := [d] }
  | _ => none }
def ShuffleNoneWrongFalsely : Prop := shuffleNoneRow.holds Try.pinned (OpenSpec.ofChange shuffleNoneWrong)

/-- 'fairlaw2.GiveAll': WHATEVER THE INPUT: true; the input reads as it did. -/
def giveAllSpec : ChangeSpec := { name := "giveAll", fn := fun _ => fun
  | [d1, d2] => { results := [.lit (.bool true)], args := [d1, d2] }
  | _ => none }
def giveAllRow : OpenClaim := { program := "ytkheobdkmmbjnaa", sum := "858c42c6895c6944fa9af9b0dfb12b6b29542a698e4774425cf9de542e4862a9", func := "fairsluice/fairlaw2.GiveAll", spec := "giveAll", unfollowed := true, recurses := true, apart := false }
def GiveAllSaid : Prop := giveAllRow.holds Try.pinned (OpenSpec.ofChange giveAllSpec)

/-- ITS FALSE NEIGHBOUR: 'it returns false'. Refute it at one input. -/
def giveAllWrong : ChangeSpec := { name := "giveAll", fn := fun _ => fun
  | [d1, d2] => { results := [.lit (.bool false)], args := [d1, d2] }
  | _ => none }
def GiveAllWrongFalsely : Prop := giveAllRow.holds Try.pinned (OpenSpec.ofChange giveAllWrong)

/- THE SECOND FORM. 'bulk': how many values and letters a reading holds, each counted each time it is reached (what is shared counts as often as it is met; a slice's spare places count too). A statement '..UptoSaid' is the law's where the arguments, and the package variables that the reading takes, are together of bulk at most 1048576: NARROWER than '..Said'. Prove '..Said' where nothing that the law and all that it calls make is longer than what came in: it says more and counts as full. Else prove '..UptoSaid'. A law counts once. -/
mutual
def uptoBulk {H : Type} : DataW H → Nat
  | .lit (.string bytes) => bytes.length + 1
  | .lit _ => 1
  | .nil => 1
  | .ptr d => uptoBulk d + 1
  | .slice elems spare => uptoBulkAll elems + uptoBulkAll spare + 1
  | .agg parts => uptoBulkAll parts + 1
  | .iface _ d => uptoBulk d + 1
  | .map entries => uptoBulkEntries entries + 1
  | .held _ => 1
def uptoBulkAll {H : Type} : List (DataW H) → Nat
  | [] => 0
  | d :: r => uptoBulk d + uptoBulkAll r
def uptoBulkEntries {H : Type} : List (Lit × DataW H) → Nat
  | [] => 0
  | x :: r => uptoBulkEntry x + uptoBulkEntries r
def uptoBulkEntry {H : Type} : Lit × DataW H → Nat
  | (.string bytes, d) => bytes.length + uptoBulk d + 1
  | (_, d) => uptoBulk d + 1
 end
def uptoSmall : (H : Type) → List (DataW H) → Bool := fun _ ds => decide (uptoBulkAll ds ≤ 1048576)
def OpenSpec.upto (s : _root_.Go.ChangeSpec) : _root_.Go.OpenSpec := { _root_.Go.OpenSpec.ofChange s with cond := some uptoSmall }

/-- 'fairlaw2.MarkEven', WHERE WHAT IT READS IS OF BULK AT MOST 1048576: true; the input reads as it did. -/
def markEvenUptoRow : OpenClaim := { program := "ytkheobdkmmbjnaa", sum := "858c42c6895c6944fa9af9b0dfb12b6b29542a698e4774425cf9de542e4862a9", func := "fairsluice/fairlaw2.MarkEven", spec := "markEven", apart := false, narrowed := true }
def MarkEvenUptoSaid : Prop := markEvenUptoRow.holds Try.pinned (OpenSpec.upto markEvenSpec)

/-- 'fairlaw4.MarkAll', WHERE WHAT IT READS IS OF BULK AT MOST 1048576: true; the input reads as it did. -/
def markAllUptoRow : OpenClaim := { program := "ytkheobdkmmbjnaa", sum := "858c42c6895c6944fa9af9b0dfb12b6b29542a698e4774425cf9de542e4862a9", func := "fairsluice/fairlaw4.MarkAll", spec := "markAll", apart := false, narrowed := true }
def MarkAllUptoSaid : Prop := markAllUptoRow.holds Try.pinned (OpenSpec.upto markAllSpec)

/-- 'fairlaw1.Names', WHERE WHAT IT READS IS OF BULK AT MOST 1048576: true; the input reads as it did. -/
def namesUptoRow : OpenClaim := { program := "ytkheobdkmmbjnaa", sum := "858c42c6895c6944fa9af9b0dfb12b6b29542a698e4774425cf9de542e4862a9", func := "fairsluice/fairlaw1.Names", spec := "names", apart := false, narrowed := true }
def NamesUptoSaid : Prop := namesUptoRow.holds Try.pinned (OpenSpec.upto namesSpec)

/-- 'fairlaw4.PoolEmpty', WHERE WHAT IT READS IS OF BULK AT MOST 1048576: true; the input reads as it did. -/
def poolEmptyUptoRow : OpenClaim := { program := "ytkheobdkmmbjnaa", sum := "858c42c6895c6944fa9af9b0dfb12b6b29542a698e4774425cf9de542e4862a9", func := "fairsluice/fairlaw4.PoolEmpty", spec := "poolEmpty", apart := false, narrowed := true }
def PoolEmptyUptoSaid : Prop := poolEmptyUptoRow.holds Try.pinned (OpenSpec.upto poolEmptySpec)

/-- 'fairlaw2.MeterStays', WHERE WHAT IT READS IS OF BULK AT MOST 1048576: true; the input reads as it did. -/
def meterStaysUptoRow : OpenClaim := { program := "ytkheobdkmmbjnaa", sum := "858c42c6895c6944fa9af9b0dfb12b6b29542a698e4774425cf9de542e4862a9", func := "fairsluice/fairlaw2.MeterStays", spec := "meterStays", apart := false, narrowed := true }
def MeterStaysUptoSaid : Prop := meterStaysUptoRow.holds Try.pinned (OpenSpec.upto meterStaysSpec)

/-- 'fairlaw2.BucketBounds', WHERE WHAT IT READS IS OF BULK AT MOST 1048576: true; the input reads as it did. -/
def bucketBoundsUptoRow : OpenClaim := { program := "ytkheobdkmmbjnaa", sum := "858c42c6895c6944fa9af9b0dfb12b6b29542a698e4774425cf9de542e4862a9", func := "fairsluice/fairlaw2.BucketBounds", spec := "bucketBounds", unfollowed := true, recurses := true, apart := false, narrowed := true }
def BucketBoundsUptoSaid : Prop := bucketBoundsUptoRow.holds Try.pinned (OpenSpec.upto bucketBoundsSpec)

/-- 'fairlaw2.PoolKeeps', WHERE WHAT IT READS IS OF BULK AT MOST 1048576: true; the input reads as it did. -/
def poolKeepsUptoRow : OpenClaim := { program := "ytkheobdkmmbjnaa", sum := "858c42c6895c6944fa9af9b0dfb12b6b29542a698e4774425cf9de542e4862a9", func := "fairsluice/fairlaw2.PoolKeeps", spec := "poolKeeps", unfollowed := true, recurses := true, apart := false, narrowed := true }
def PoolKeepsUptoSaid : Prop := poolKeepsUptoRow.holds Try.pinned (OpenSpec.upto poolKeepsSpec)

/-- 'fairlaw2.SourceKeeps', WHERE WHAT IT READS IS OF BULK AT MOST 1048576: true; the input reads as it did. -/
def sourceKeepsUptoRow : OpenClaim := { program := "ytkheobdkmmbjnaa", sum := "858c42c6895c6944fa9af9b0dfb12b6b29542a698e4774425cf9de542e4862a9", func := "fairsluice/fairlaw2.SourceKeeps", spec := "sourceKeeps", apart := false, narrowed := true }
def SourceKeepsUptoSaid : Prop := sourceKeepsUptoRow.holds Try.pinned (OpenSpec.upto sourceKeepsSpec)

/-- 'fairlaw4.MeterIdle', WHERE WHAT IT READS IS OF BULK AT MOST 1048576: true; the input reads as it did. -/
def meterIdleUptoRow : OpenClaim := { program := "ytkheobdkmmbjnaa", sum := "858c42c6895c6944fa9af9b0dfb12b6b29542a698e4774425cf9de542e4862a9", func := "fairsluice/fairlaw4.MeterIdle", spec := "meterIdle", unfollowed := true, recurses := true, apart := false, narrowed := true }
def MeterIdleUptoSaid : Prop := meterIdleUptoRow.holds Try.pinned (OpenSpec.upto meterIdleSpec)

/-- 'fairlaw1.AimdEvens', WHERE WHAT IT READS IS OF BULK AT MOST 1048576: true; the input reads as it did. -/
def aimdEvensUptoRow : OpenClaim := { program := "ytkheobdkmmbjnaa", sum := "858c42c6895c6944fa9af9b0dfb12b6b29542a698e4774425cf9de542e4862a9", func := "fairsluice/fairlaw1.AimdEvens", spec := "aimdEvens", unfollowed := true, recurses := true, apart := false, narrowed := true }
def AimdEvensUptoSaid : Prop := aimdEvensUptoRow.holds Try.pinned (OpenSpec.upto aimdEvensSpec)

/-- 'fairlaw4.AimdNone', WHERE WHAT IT READS IS OF BULK AT MOST 1048576: true; the input reads as it did. -/
def aimdNoneUptoRow : OpenClaim := { program := "ytkheobdkmmbjnaa", sum := "858c42c6895c6944fa9af9b0dfb12b6b29542a698e4774425cf9de542e4862a9", func := "fairsluice/fairlaw4.AimdNone", spec := "aimdNone", unfollowed := true, recurses := true, apart := false, narrowed := true }
def AimdNoneUptoSaid : Prop := aimdNoneUptoRow.holds Try.pinned (OpenSpec.upto aimdNoneSpec)

/-- 'fairlaw1.EvenBetween', WHERE WHAT IT READS IS OF BULK AT MOST 1048576: true; the input reads as it did. -/
def evenBetweenUptoRow : OpenClaim := { program := "ytkheobdkmmbjnaa", sum := "858c42c6895c6944fa9af9b0dfb12b6b29542a698e4774425cf9de542e4862a9", func := "fairsluice/fairlaw1.EvenBetween", spec := "evenBetween", unfollowed := true, recurses := true, apart := false, narrowed := true }
def EvenBetweenUptoSaid : Prop := evenBetweenUptoRow.holds Try.pinned (OpenSpec.upto evenBetweenSpec)

/-- 'fairlaw4.RoadIdle', WHERE WHAT IT READS IS OF BULK AT MOST 1048576: true; the input reads as it did. -/
def roadIdleUptoRow : OpenClaim := { program := "ytkheobdkmmbjnaa", sum := "858c42c6895c6944fa9af9b0dfb12b6b29542a698e4774425cf9de542e4862a9", func := "fairsluice/fairlaw4.RoadIdle", spec := "roadIdle", apart := false, narrowed := true }
def RoadIdleUptoSaid : Prop := roadIdleUptoRow.holds Try.pinned (OpenSpec.upto roadIdleSpec)

/-- 'fairlaw2.RoadKeeps', WHERE WHAT IT READS IS OF BULK AT MOST 1048576: true; the input reads as it did. -/
def roadKeepsUptoRow : OpenClaim := { program := "ytkheobdkmmbjnaa", sum := "858c42c6895c6944fa9af9b0dfb12b6b29542a698e4774425cf9de542e4862a9", func := "fairsluice/fairlaw2.RoadKeeps", spec := "roadKeeps", apart := false, narrowed := true }
def RoadKeepsUptoSaid : Prop := roadKeepsUptoRow.holds Try.pinned (OpenSpec.upto roadKeepsSpec)

/-- 'fairlaw4.ShuffleNone', WHERE WHAT IT READS IS OF BULK AT MOST 1048576: true; the input reads as it did. -/
def shuffleNoneUptoRow : OpenClaim := { program := "ytkheobdkmmbjnaa", sum := "858c42c6895c6944fa9af9b0dfb12b6b29542a698e4774425cf9de542e4862a9", func := "fairsluice/fairlaw4.ShuffleNone", spec := "shuffleNone", unfollowed := true, recurses := true, apart := false, narrowed := true }
def ShuffleNoneUptoSaid : Prop := shuffleNoneUptoRow.holds Try.pinned (OpenSpec.upto shuffleNoneSpec)

/-- 'fairlaw2.GiveAll', WHERE WHAT IT READS IS OF BULK AT MOST 1048576: true; the input reads as it did. -/
def giveAllUptoRow : OpenClaim := { program := "ytkheobdkmmbjnaa", sum := "858c42c6895c6944fa9af9b0dfb12b6b29542a698e4774425cf9de542e4862a9", func := "fairsluice/fairlaw2.GiveAll", spec := "giveAll", unfollowed := true, recurses := true, apart := false, narrowed := true }
def GiveAllUptoSaid : Prop := giveAllUptoRow.holds Try.pinned (OpenSpec.upto giveAllSpec)

end Rows
end Go.Proofs.Ytkheobdkmmbjnaa
