/-
  No cell of these rows narrows 'for every input' (looked for: loops, veiled, ifaces, maps, wideKeys, modest, calm, conditions, laid).
  DERIVED. THE GIVEN ROWS OF THIS SEAT. 19 by the template 'for every input the law returns true; each argument reads behind the call as it read before'; 0 by the template 'total and deterministic' (their statements: YthffjnfnfddpdaaTotals.lean).
  GIVEN WITH THE SEED: the statements are not yours to turn. If you find one false, say at which input.
  Laid BY PROGRAM, IN A SANDBOX (cutbox-rows.mjs): the forced cells as the released guide's own fill.sh prints them over the translation b99367c10518b40a… (all of the seat's roots in one cut). By AI agents, Wed Nov 11 2026. No macro, syntax, notation, axiom, sorry.
-/
import Derived.Test.YthffjnfnfddpdaaChecked
import GoSem.Claim
import GoSem.ClaimJoined
import GoSem.ClaimMapViews
import Derived.JoinedTies
import Derived.KernelRfl
namespace Go.Proofs.Ythffjnfnfddpdaa
/- THE CELL 'sum', in the pinned program and in every row, IS THE sha256 OF THE DUMP (.gsa) THAT YthffjnfnfddpdaaProg.lean LOADS. Nothing in Lean hashes anything: it is a label: what it is worth is what the hold of that sum in a sandbox is worth. -/
noncomputable def Try.pinned : Pinned := { name := "ythffjnfnfddpdaa", sum := "b99367c10518b40abcb75fae309fde6a75244efda35d12c8c1c03f7356d58f26", checked := Try.checked }
namespace Rows
def none {H : Type} : Left H := { results := [], args := [] }

/-- 'fairlaw4.RoadIdle': WHATEVER THE INPUT: true; the input reads as it did. -/
def roadIdleSpec : ChangeSpec := { name := "roadIdle", fn := fun _ => fun
  | [d1, d2, d3] => { results := [.lit (.bool true)], args := [d1, d2, d3] }
  | _ => none }
def roadIdleRow : OpenClaim := { program := "ythffjnfnfddpdaa", sum := "b99367c10518b40abcb75fae309fde6a75244efda35d12c8c1c03f7356d58f26", func := "fairsluice/fairlaw4.RoadIdle", spec := "roadIdle", apart := false }
def RoadIdleSaid : Prop := roadIdleRow.holds Try.pinned (OpenSpec.ofChange roadIdleSpec)

/-- ITS FALSE NEIGHBOUR: 'it returns false'. Refute it at one input. -/
def roadIdleWrong : ChangeSpec := { name := "roadIdle", fn := fun _ => fun
  | [d1, d2, d3] => { results := [.lit (.bool false)], args := [d1, d2, d3] }
  | _ => none }
def RoadIdleWrongFalsely : Prop := roadIdleRow.holds Try.pinned (OpenSpec.ofChange roadIdleWrong)

/-- 'fairlaw2.RoadKeeps': WHATEVER THE INPUT: true; the input reads as it did. -/
def roadKeepsSpec : ChangeSpec := { name := "roadKeeps", fn := fun _ => fun
  | [d1, d2, d3] => { results := [.lit (.bool true)], args := [d1, d2, d3] }
  | _ => none }
def roadKeepsRow : OpenClaim := { program := "ythffjnfnfddpdaa", sum := "b99367c10518b40abcb75fae309fde6a75244efda35d12c8c1c03f7356d58f26", func := "fairsluice/fairlaw2.RoadKeeps", spec := "roadKeeps", apart := false }
def RoadKeepsSaid : Prop := roadKeepsRow.holds Try.pinned (OpenSpec.ofChange roadKeepsSpec)

/-- ITS FALSE NEIGHBOUR: 'it returns false'. Refute it at one input. -/
def roadKeepsWrong : ChangeSpec := { name := "roadKeeps", fn := fun _ => fun
  | [d1, d2, d3] => { results := [.lit (.bool false)], args := [d1, d2, d3] }
  | _ => none }
def RoadKeepsWrongFalsely : Prop := roadKeepsRow.holds Try.pinned (OpenSpec.ofChange roadKeepsWrong)

/-- 'fairlaw4.FracZero': WHATEVER THE INPUT: true; the input reads as it did. -/
def fracZeroSpec : ChangeSpec := { name := "fracZero", fn := fun _ => fun
  | [d] => { results := [.lit (.bool true)], args := [d] }
  | _ => none }
def fracZeroRow : OpenClaim := { program := "ythffjnfnfddpdaa", sum := "b99367c10518b40abcb75fae309fde6a75244efda35d12c8c1c03f7356d58f26", func := "fairsluice/fairlaw4.FracZero", spec := "fracZero", apart := false }
def FracZeroSaid : Prop := fracZeroRow.holds Try.pinned (OpenSpec.ofChange fracZeroSpec)

/-- ITS FALSE NEIGHBOUR: 'it returns false'. Refute it at one input. -/
def fracZeroWrong : ChangeSpec := { name := "fracZero", fn := fun _ => fun
  | [d] => { results := [.lit (.bool false)], args := [d] }
  | _ => none }
def FracZeroWrongFalsely : Prop := fracZeroRow.holds Try.pinned (OpenSpec.ofChange fracZeroWrong)

/-- 'fairlaw1.FracSound': WHATEVER THE INPUT: true; the input reads as it did. -/
def fracSoundSpec : ChangeSpec := { name := "fracSound", fn := fun _ => fun
  | [d1, d2, d3, d4] => { results := [.lit (.bool true)], args := [d1, d2, d3, d4] }
  | _ => none }
def fracSoundRow : OpenClaim := { program := "ythffjnfnfddpdaa", sum := "b99367c10518b40abcb75fae309fde6a75244efda35d12c8c1c03f7356d58f26", func := "fairsluice/fairlaw1.FracSound", spec := "fracSound", apart := false }
def FracSoundSaid : Prop := fracSoundRow.holds Try.pinned (OpenSpec.ofChange fracSoundSpec)

/-- ITS FALSE NEIGHBOUR: 'it returns false'. Refute it at one input. -/
def fracSoundWrong : ChangeSpec := { name := "fracSound", fn := fun _ => fun
  | [d1, d2, d3, d4] => { results := [.lit (.bool false)], args := [d1, d2, d3, d4] }
  | _ => none }
def FracSoundWrongFalsely : Prop := fracSoundRow.holds Try.pinned (OpenSpec.ofChange fracSoundWrong)

/-- 'fairlaw1.NetBack': WHATEVER THE INPUT: true; the input reads as it did. -/
def netBackSpec : ChangeSpec := { name := "netBack", fn := fun _ => fun
  | [d1, d2, d3] => { results := [.lit (.bool true)], args := [d1, d2, d3] }
  | _ => none }
def netBackRow : OpenClaim := { program := "ythffjnfnfddpdaa", sum := "b99367c10518b40abcb75fae309fde6a75244efda35d12c8c1c03f7356d58f26", func := "fairsluice/fairlaw1.NetBack", spec := "netBack", unfollowed := true, recurses := true, apart := false }
def NetBackSaid : Prop := netBackRow.holds Try.pinned (OpenSpec.ofChange netBackSpec)

/-- ITS FALSE NEIGHBOUR: 'it returns false'. Refute it at one input. -/
def netBackWrong : ChangeSpec := { name := "netBack", fn := fun _ => fun
  | [d1, d2, d3] => { results := [.lit (.bool false)], args := [d1, d2, d3] }
  | _ => none }
def NetBackWrongFalsely : Prop := netBackRow.holds Try.pinned (OpenSpec.ofChange netBackWrong)

/-- 'fairtop.TopShaped': WHATEVER THE INPUT: true; the input reads as it did. -/
def topShapedSpec : ChangeSpec := { name := "topShaped", fn := fun _ => fun
  | [d1, d2, d3] => { results := [.lit (.bool true)], args := [d1, d2, d3] }
  | _ => none }
def topShapedRow : OpenClaim := { program := "ythffjnfnfddpdaa", sum := "b99367c10518b40abcb75fae309fde6a75244efda35d12c8c1c03f7356d58f26", func := "fairsluice/fairtop.TopShaped", spec := "topShaped", unfollowed := true, recurses := true, apart := false }
def TopShapedSaid : Prop := topShapedRow.holds Try.pinned (OpenSpec.ofChange topShapedSpec)

/-- ITS FALSE NEIGHBOUR: 'it returns false'. Refute it at one input. -/
def topShapedWrong : ChangeSpec := { name := "topShaped", fn := fun _ => fun
  | [d1, d2, d3] => { results := [.lit (.bool false)], args := [d1, d2, d3] }
  | _ => none }
def TopShapedWrongFalsely : Prop := topShapedRow.holds Try.pinned (OpenSpec.ofChange topShapedWrong)

/-- 'fairlaw4.FillAlike': WHATEVER THE INPUT: true; the input reads as it did. -/
def fillAlikeSpec : ChangeSpec := { name := "fillAlike", fn := fun _ => fun
  | [d1, d2] => { results := [.lit (.bool true)], args := [d1, d2] }
  | _ => none }
def fillAlikeRow : OpenClaim := { program := "ythffjnfnfddpdaa", sum := "b99367c10518b40abcb75fae309fde6a75244efda35d12c8c1c03f7356d58f26", func := "fairsluice/fairlaw4.FillAlike", spec := "fillAlike", unfollowed := true, recurses := true, apart := false }
def FillAlikeSaid : Prop := fillAlikeRow.holds Try.pinned (OpenSpec.ofChange fillAlikeSpec)

/-- ITS FALSE NEIGHBOUR: 'it returns false'. Refute it at one input. -/
def fillAlikeWrong : ChangeSpec := { name := "fillAlike", fn := fun _ => fun
  | [d1, d2] => { results := [.lit (.bool false)], args := [d1, d2] }
  | _ => none }
def FillAlikeWrongFalsely : Prop := fillAlikeRow.holds Try.pinned (OpenSpec.ofChange fillAlikeWrong)

/-- 'fairlaw4.LoadNone': WHATEVER THE INPUT: true; the input reads as it did. -/
def loadNoneSpec : ChangeSpec := { name := "loadNone", fn := fun _ => fun
  | [d] => { results := [.lit (.bool true)], args := [d] }
  | _ => none }
def loadNoneRow : OpenClaim := { program := "ythffjnfnfddpdaa", sum := "b99367c10518b40abcb75fae309fde6a75244efda35d12c8c1c03f7356d58f26", func := "fairsluice/fairlaw4.LoadNone", spec := "loadNone", unfollowed := true, recurses := true, apart := false }
def LoadNoneSaid : Prop := loadNoneRow.holds Try.pinned (OpenSpec.ofChange loadNoneSpec)

/-- ITS FALSE NEIGHBOUR: 'it returns false'. Refute it at one input. -/
def loadNoneWrong : ChangeSpec := { name := "loadNone", fn := fun _ => fun
  | [d] => { results := [.lit (.bool false)], args := [d] }
  | _ => none }
def LoadNoneWrongFalsely : Prop := loadNoneRow.holds Try.pinned (OpenSpec.ofChange loadNoneWrong)

/-- 'fairtop.TopWeak': WHATEVER THE INPUT: true; the input reads as it did. -/
def topWeakSpec : ChangeSpec := { name := "topWeak", fn := fun _ => fun
  | [d1, d2, d3] => { results := [.lit (.bool true)], args := [d1, d2, d3] }
  | _ => none }
def topWeakRow : OpenClaim := { program := "ythffjnfnfddpdaa", sum := "b99367c10518b40abcb75fae309fde6a75244efda35d12c8c1c03f7356d58f26", func := "fairsluice/fairtop.TopWeak", spec := "topWeak", unfollowed := true, recurses := true, apart := false }
def TopWeakSaid : Prop := topWeakRow.holds Try.pinned (OpenSpec.ofChange topWeakSpec)

/-- ITS FALSE NEIGHBOUR: 'it returns false'. Refute it at one input. -/
def topWeakWrong : ChangeSpec := { name := "topWeak", fn := fun _ => fun
  | [d1, d2, d3] => { results := [.lit (.bool false)], args := [d1, d2, d3] }
  | _ => none }
def TopWeakWrongFalsely : Prop := topWeakRow.holds Try.pinned (OpenSpec.ofChange topWeakWrong)

/-- 'fairlaw4.WantAll': WHATEVER THE INPUT: true; the input reads as it did. -/
def wantAllSpec : ChangeSpec := { name := "wantAll", fn := fun _ => fun
  | [d] => { results := [.lit (.bool true)], args := [d] }
  | _ => none }
def wantAllRow : OpenClaim := { program := "ythffjnfnfddpdaa", sum := "b99367c10518b40abcb75fae309fde6a75244efda35d12c8c1c03f7356d58f26", func := "fairsluice/fairlaw4.WantAll", spec := "wantAll", unfollowed := true, recurses := true, apart := false }
def WantAllSaid : Prop := wantAllRow.holds Try.pinned (OpenSpec.ofChange wantAllSpec)

/-- ITS FALSE NEIGHBOUR: 'it returns false'. Refute it at one input. -/
def wantAllWrong : ChangeSpec := { name := "wantAll", fn := fun _ => fun
  | [d] => { results := [.lit (.bool false)], args := [d] }
  | _ => none }
def WantAllWrongFalsely : Prop := wantAllRow.holds Try.pinned (OpenSpec.ofChange wantAllWrong)

/-- 'fairlaw1.LoadAdds': WHATEVER THE INPUT: true; the input reads as it did. -/
def loadAddsSpec : ChangeSpec := { name := "loadAdds", fn := fun _ => fun
  | [d1, d2, d3] => { results := [.lit (.bool true)], args := [d1, d2, d3] }
  | _ => none }
def loadAddsRow : OpenClaim := { program := "ythffjnfnfddpdaa", sum := "b99367c10518b40abcb75fae309fde6a75244efda35d12c8c1c03f7356d58f26", func := "fairsluice/fairlaw1.LoadAdds", spec := "loadAdds", unfollowed := true, recurses := true, apart := false }
def LoadAddsSaid : Prop := loadAddsRow.holds Try.pinned (OpenSpec.ofChange loadAddsSpec)

/-- ITS FALSE NEIGHBOUR: 'it returns false'. Refute it at one input. -/
def loadAddsWrong : ChangeSpec := { name := "loadAdds", fn := fun _ => fun
  | [d1, d2, d3] => { results := [.lit (.bool false)], args := [d1, d2, d3] }
  | _ => none }
def LoadAddsWrongFalsely : Prop := loadAddsRow.holds Try.pinned (OpenSpec.ofChange loadAddsWrong)

/-- 'fairtop.TopRoad': WHATEVER THE INPUT: true; the input reads as it did. -/
def topRoadSpec : ChangeSpec := { name := "topRoad", fn := fun _ => fun
  | [d1, d2] => { results := [.lit (.bool true)], args := [d1, d2] }
  | _ => none }
def topRoadRow : OpenClaim := { program := "ythffjnfnfddpdaa", sum := "b99367c10518b40abcb75fae309fde6a75244efda35d12c8c1c03f7356d58f26", func := "fairsluice/fairtop.TopRoad", spec := "topRoad", unfollowed := true, recurses := true, apart := false }
def TopRoadSaid : Prop := topRoadRow.holds Try.pinned (OpenSpec.ofChange topRoadSpec)

/-- ITS FALSE NEIGHBOUR: 'it returns false'. Refute it at one input. -/
def topRoadWrong : ChangeSpec := { name := "topRoad", fn := fun _ => fun
  | [d1, d2] => { results := [.lit (.bool false)], args := [d1, d2] }
  | _ => none }
def TopRoadWrongFalsely : Prop := topRoadRow.holds Try.pinned (OpenSpec.ofChange topRoadWrong)

/-- 'fairlaw4.NeckNone': WHATEVER THE INPUT: true; the input reads as it did. -/
def neckNoneSpec : ChangeSpec := { name := "neckNone", fn := fun _ => fun
  | [d] => { results := [.lit (.bool true)], args := [d] }
  | _ => none }
def neckNoneRow : OpenClaim := { program := "ythffjnfnfddpdaa", sum := "b99367c10518b40abcb75fae309fde6a75244efda35d12c8c1c03f7356d58f26", func := "fairsluice/fairlaw4.NeckNone", spec := "neckNone", unfollowed := true, recurses := true, apart := false }
def NeckNoneSaid : Prop := neckNoneRow.holds Try.pinned (OpenSpec.ofChange neckNoneSpec)

/-- ITS FALSE NEIGHBOUR: 'it returns false'. Refute it at one input. -/
def neckNoneWrong : ChangeSpec := { name := "neckNone", fn := fun _ => fun
  | [d] => { results := [.lit (.bool false)], args := [d] }
  | _ => none }
def NeckNoneWrongFalsely : Prop := neckNoneRow.holds Try.pinned (OpenSpec.ofChange neckNoneWrong)

/-- 'fairlaw4.GrowSame': WHATEVER THE INPUT: true; the input reads as it did. -/
def growSameSpec : ChangeSpec := { name := "growSame", fn := fun _ => fun
  | [d1, d2, d3] => { results := [.lit (.bool true)], args := [d1, d2, d3] }
  | _ => none }
def growSameRow : OpenClaim := { program := "ythffjnfnfddpdaa", sum := "b99367c10518b40abcb75fae309fde6a75244efda35d12c8c1c03f7356d58f26", func := "fairsluice/fairlaw4.GrowSame", spec := "growSame", unfollowed := true, recurses := true, apart := false }
def GrowSameSaid : Prop := growSameRow.holds Try.pinned (OpenSpec.ofChange growSameSpec)

/-- ITS FALSE NEIGHBOUR: 'it returns false'. Refute it at one input. -/
def growSameWrong : ChangeSpec := { name := "growSame", fn := fun _ => fun
  | [d1, d2, d3] => { results := [.lit (.bool false)], args := [d1, d2, d3] }
  | _ => none }
def GrowSameWrongFalsely : Prop := growSameRow.holds Try.pinned (OpenSpec.ofChange growSameWrong)

/-- 'fairlaw4.RankSelf': WHATEVER THE INPUT: true; the input reads as it did. -/
def rankSelfSpec : ChangeSpec := { name := "rankSelf", fn := fun _ => fun
  | [d1, d2] => { results := [.lit (.bool true)], args := [d1, d2] }
  | _ => none }
def rankSelfRow : OpenClaim := { program := "ythffjnfnfddpdaa", sum := "b99367c10518b40abcb75fae309fde6a75244efda35d12c8c1c03f7356d58f26", func := "fairsluice/fairlaw4.RankSelf", spec := "rankSelf", unfollowed := true, recurses := true, apart := false }
def RankSelfSaid : Prop := rankSelfRow.holds Try.pinned (OpenSpec.ofChange rankSelfSpec)

/-- ITS FALSE NEIGHBOUR: 'it returns false'. Refute it at one input. -/
def rankSelfWrong : ChangeSpec := { name := "rankSelf", fn := fun _ => fun
  | [d1, d2] => { results := [.lit (.bool false)], args := [d1, d2] }
  | _ => none }
def RankSelfWrongFalsely : Prop := rankSelfRow.holds Try.pinned (OpenSpec.ofChange rankSelfWrong)

/-- 'fairlaw1.NeckOnly': WHATEVER THE INPUT: true; the input reads as it did. -/
def neckOnlySpec : ChangeSpec := { name := "neckOnly", fn := fun _ => fun
  | [d1, d2] => { results := [.lit (.bool true)], args := [d1, d2] }
  | _ => none }
def neckOnlyRow : OpenClaim := { program := "ythffjnfnfddpdaa", sum := "b99367c10518b40abcb75fae309fde6a75244efda35d12c8c1c03f7356d58f26", func := "fairsluice/fairlaw1.NeckOnly", spec := "neckOnly", unfollowed := true, recurses := true, apart := false }
def NeckOnlySaid : Prop := neckOnlyRow.holds Try.pinned (OpenSpec.ofChange neckOnlySpec)

/-- ITS FALSE NEIGHBOUR: 'it returns false'. Refute it at one input. -/
def neckOnlyWrong : ChangeSpec := { name := "neckOnly", fn := fun _ => fun
  | [d1, d2] => { results := [.lit (.bool false)], args := [d1, d2] }
  | _ => none }
def NeckOnlyWrongFalsely : Prop := neckOnlyRow.holds Try.pinned (OpenSpec.ofChange neckOnlyWrong)

/-- 'fairlaw1.FillFair': WHATEVER THE INPUT: true; the input reads as it did. -/
def fillFairSpec : ChangeSpec := { name := "fillFair", fn := fun _ => fun
  | [d] => { results := [.lit (.bool true)], args := [d] }
  | _ => none }
def fillFairRow : OpenClaim := { program := "ythffjnfnfddpdaa", sum := "b99367c10518b40abcb75fae309fde6a75244efda35d12c8c1c03f7356d58f26", func := "fairsluice/fairlaw1.FillFair", spec := "fillFair", unfollowed := true, recurses := true, apart := false }
def FillFairSaid : Prop := fillFairRow.holds Try.pinned (OpenSpec.ofChange fillFairSpec)

/-- ITS FALSE NEIGHBOUR: 'it returns false'. Refute it at one input. -/
def fillFairWrong : ChangeSpec := { name := "fillFair", fn := fun _ => fun
  | [d] => { results := [.lit (.bool false)], args := [d] }
  | _ => none }
def FillFairWrongFalsely : Prop := fillFairRow.holds Try.pinned (OpenSpec.ofChange fillFairWrong)

/-- 'fairlaw1.RankBest': WHATEVER THE INPUT: true; the input reads as it did. -/
def rankBestSpec : ChangeSpec := { name := "rankBest", fn := fun _ => fun
  | [d1, d2] => { results := [.lit (.bool true)], args := [d1, d2] }
  | _ => none }
def rankBestRow : OpenClaim := { program := "ythffjnfnfddpdaa", sum := "b99367c10518b40abcb75fae309fde6a75244efda35d12c8c1c03f7356d58f26", func := "fairsluice/fairlaw1.RankBest", spec := "rankBest", unfollowed := true, recurses := true, apart := false }
def RankBestSaid : Prop := rankBestRow.holds Try.pinned (OpenSpec.ofChange rankBestSpec)

/-- ITS FALSE NEIGHBOUR: 'it returns false'. Refute it at one input. -/
def rankBestWrong : ChangeSpec := { name := "rankBest", fn := fun _ => fun
  | [d1, d2] => { results := [.lit (.bool false)], args := [d1, d2] }
  | _ => none }
def RankBestWrongFalsely : Prop := rankBestRow.holds Try.pinned (OpenSpec.ofChange rankBestWrong)

/-- 'fairlaw2.GrowLess': WHATEVER THE INPUT: true; the input reads as it did. -/
def growLessSpec : ChangeSpec := { name := "growLess", fn := fun _ => fun
  | [d1, d2, d3, d4, d5] => { results := [.lit (.bool true)], args := [d1, d2, d3, d4, d5] }
  | _ => none }
def growLessRow : OpenClaim := { program := "ythffjnfnfddpdaa", sum := "b99367c10518b40abcb75fae309fde6a75244efda35d12c8c1c03f7356d58f26", func := "fairsluice/fairlaw2.GrowLess", spec := "growLess", unfollowed := true, recurses := true, apart := false }
def GrowLessSaid : Prop := growLessRow.holds Try.pinned (OpenSpec.ofChange growLessSpec)

/-- ITS FALSE NEIGHBOUR: 'it returns false'. Refute it at one input. -/
def growLessWrong : ChangeSpec := { name := "growLess", fn := fun _ => fun
  | [d1, d2, d3, d4, d5] => { results := [.lit (.bool false)], args := [d1, d2, d3, d4, d5] }
  | _ => none }
def GrowLessWrongFalsely : Prop := growLessRow.holds Try.pinned (OpenSpec.ofChange growLessWrong)

/- THE SECOND FORM. 'bulk': how many values and letters a reading holds, each counted each time it is reached (what is shared counts as often as it is met; a slice's spare places count too). A statement '..UptoSaid' is the law's where the arguments, and the package variables that the reading takes, are together of bulk at most 1048576: NARROWER than '..Said'. Prove '..Said' where nothing that the law and all that it calls make is longer than what came in: it says more and counts as full. Else prove '..UptoSaid'. A law counts once. -/
mutual
def uptoBulk {H : Type} : DataW H → Nat
  | .lit (.string bytes) => bytes.length + 1
  | .lit _ => 1
  | .nil => 1
  | .ptr d => uptoBulk d + 1
  | .slice elems spare => uptoBulkAll elems + uptoBulkAll spare + 1
  | .agg parts => uptoBulkAll parts + 1
  | .iface _ d => uptoBulk d + 1
  | .map entries => uptoBulkEntries entries + 1
  | .held _ => 1
def uptoBulkAll {H : Type} : List (DataW H) → Nat
  | [] => 0
  | d :: r => uptoBulk d + uptoBulkAll r
def uptoBulkEntries {H : Type} : List (Lit × DataW H) → Nat
  | [] => 0
  | x :: r => uptoBulkEntry x + uptoBulkEntries r
def uptoBulkEntry {H : Type} : Lit × DataW H → Nat
  | (.string bytes, d) => bytes.length + uptoBulk d + 1
  | (_, d) => uptoBulk d + 1
 end
def uptoSmall : (H : Type) → List (DataW H) → Bool := fun _ ds => decide (uptoBulkAll ds ≤ 1048576)
def OpenSpec.upto (s : _root_.Go.ChangeSpec) : _root_.Go.OpenSpec := { _root_.Go.OpenSpec.ofChange s with cond := some uptoSmall }

/-- 'fairlaw4.RoadIdle', WHERE WHAT IT READS IS OF BULK AT MOST 1048576: true; the input reads as it did. -/
def roadIdleUptoRow : OpenClaim := { program := "ythffjnfnfddpdaa", sum := "b99367c10518b40abcb75fae309fde6a75244efda35d12c8c1c03f7356d58f26", func := "fairsluice/fairlaw4.RoadIdle", spec := "roadIdle", apart := false, narrowed := true }
def RoadIdleUptoSaid : Prop := roadIdleUptoRow.holds Try.pinned (OpenSpec.upto roadIdleSpec)

/-- 'fairlaw2.RoadKeeps', WHERE WHAT IT READS IS OF BULK AT MOST 1048576: true; the input reads as it did. -/
def roadKeepsUptoRow : OpenClaim := { program := "ythffjnfnfddpdaa", sum := "b99367c10518b40abcb75fae309fde6a75244efda35d12c8c1c03f7356d58f26", func := "fairsluice/fairlaw2.RoadKeeps", spec := "roadKeeps", apart := false, narrowed := true }
def RoadKeepsUptoSaid : Prop := roadKeepsUptoRow.holds Try.pinned (OpenSpec.upto roadKeepsSpec)

/-- 'fairlaw4.FracZero', WHERE WHAT IT READS IS OF BULK AT MOST 1048576: true; the input reads as it did. -/
def fracZeroUptoRow : OpenClaim := { program := "ythffjnfnfddpdaa", sum := "b99367c10518b40abcb75fae309fde6a75244efda35d12c8c1c03f7356d58f26", func := "fairsluice/fairlaw4.FracZero", spec := "fracZero", apart := false, narrowed := true }
def FracZeroUptoSaid : Prop := fracZeroUptoRow.holds Try.pinned (OpenSpec.upto fracZeroSpec)

/-- 'fairlaw1.FracSound', WHERE WHAT IT READS IS OF BULK AT MOST 1048576: true; the input reads as it did. -/
def fracSoundUptoRow : OpenClaim := { program := "ythffjnfnfddpdaa", sum := "b99367c10518b40abcb75fae309fde6a75244efda35d12c8c1c03f7356d58f26", func := "fairsluice/fairlaw1.FracSound", spec := "fracSound", apart := false, narrowed := true }
def FracSoundUptoSaid : Prop := fracSoundUptoRow.holds Try.pinned (OpenSpec.upto fracSoundSpec)

/-- 'fairlaw1.NetBack', WHERE WHAT IT READS IS OF BULK AT MOST 1048576: true; the input reads as it did. -/
def netBackUptoRow : OpenClaim := { program := "ythffjnfnfddpdaa", sum := "b99367c10518b40abcb75fae309fde6a75244efda35d12c8c1c03f7356d58f26", func := "fairsluice/fairlaw1.NetBack", spec := "netBack", unfollowed := true, recurses := true, apart := false, narrowed := true }
def NetBackUptoSaid : Prop := netBackUptoRow.holds Try.pinned (OpenSpec.upto netBackSpec)

/-- 'fairtop.TopShaped', WHERE WHAT IT READS IS OF BULK AT MOST 1048576: true; the input reads as it did. -/
def topShapedUptoRow : OpenClaim := { program := "ythffjnfnfddpdaa", sum := "b99367c10518b40abcb75fae309fde6a75244efda35d12c8c1c03f7356d58f26", func := "fairsluice/fairtop.TopShaped", spec := "topShaped", unfollowed := true, recurses := true, apart := false, narrowed := true }
def TopShapedUptoSaid : Prop := topShapedUptoRow.holds Try.pinned (OpenSpec.upto topShapedSpec)

/-- 'fairlaw4.FillAlike', WHERE WHAT IT READS IS OF BULK AT MOST 1048576: true; the input reads as it did. -/
def fillAlikeUptoRow : OpenClaim := { program := "ythffjnfnfddpdaa", sum := "b99367c10518b40abcb75fae309fde6a75244efda35d12c8c1c03f7356d58f26", func := "fairsluice/fairlaw4.FillAlike", spec := "fillAlike", unfollowed := true, recurses := true, apart := false, narrowed := true }
def FillAlikeUptoSaid : Prop := fillAlikeUptoRow.holds Try.pinned (OpenSpec.upto fillAlikeSpec)

/-- 'fairlaw4.LoadNone', WHERE WHAT IT READS IS OF BULK AT MOST 1048576: true; the input reads as it did. -/
def loadNoneUptoRow : OpenClaim := { program := "ythffjnfnfddpdaa", sum := "b99367c10518b40abcb75fae309fde6a75244efda35d12c8c1c03f7356d58f26", func := "fairsluice/fairlaw4.LoadNone", spec := "loadNone", unfollowed := true, recurses := true, apart := false, narrowed := true }
def LoadNoneUptoSaid : Prop := loadNoneUptoRow.holds Try.pinned (OpenSpec.upto loadNoneSpec)

/-- 'fairtop.TopWeak', WHERE WHAT IT READS IS OF BULK AT MOST 1048576: true; the input reads as it did. -/
def topWeakUptoRow : OpenClaim := { program := "ythffjnfnfddpdaa", sum := "b99367c10518b40abcb75fae309fde6a75244efda35d12c8c1c03f7356d58f26", func := "fairsluice/fairtop.TopWeak", spec := "topWeak", unfollowed := true, recurses := true, apart := false, narrowed := true }
def TopWeakUptoSaid : Prop := topWeakUptoRow.holds Try.pinned (OpenSpec.upto topWeakSpec)

/-- 'fairlaw4.WantAll', WHERE WHAT IT READS IS OF BULK AT MOST 1048576: true; the input reads as it did. -/
def wantAllUptoRow : OpenClaim := { program := "ythffjnfnfddpdaa", sum := "b99367c10518b40abcb75fae309fde6a75244efda35d12c8c1c03f7356d58f26", func := "fairsluice/fairlaw4.WantAll", spec := "wantAll", unfollowed := true, recurses := true, apart := false, narrowed := true }
def WantAllUptoSaid : Prop := wantAllUptoRow.holds Try.pinned (OpenSpec.upto wantAllSpec)

/-- 'fairlaw1.LoadAdds', WHERE WHAT IT READS IS OF BULK AT MOST 1048576: true; the input reads as it did. -/
def loadAddsUptoRow : OpenClaim := { program := "ythffjnfnfddpdaa", sum := "b99367c10518b40abcb75fae309fde6a75244efda35d12c8c1c03f7356d58f26", func := "fairsluice/fairlaw1.LoadAdds", spec := "loadAdds", unfollowed := true, recurses := true, apart := false, narrowed := true }
def LoadAddsUptoSaid : Prop := loadAddsUptoRow.holds Try.pinned (OpenSpec.upto loadAddsSpec)

/-- 'fairtop.TopRoad', WHERE WHAT IT READS IS OF BULK AT MOST 1048576: true; the input reads as it did. -/
def topRoadUptoRow : OpenClaim := { program := "ythffjnfnfddpdaa", sum := "b99367c10518b40abcb75fae309fde6a75244efda35d12c8c1c03f7356d58f26", func := "fairsluice/fairtop.TopRoad", spec := "topRoad", unfollowed := true, recurses := true, apart := false, narrowed := true }
def TopRoadUptoSaid : Prop := topRoadUptoRow.holds Try.pinned (OpenSpec.upto topRoadSpec)

/-- 'fairlaw4.NeckNone', WHERE WHAT IT READS IS OF BULK AT MOST 1048576: true; the input reads as it did. -/
def neckNoneUptoRow : OpenClaim := { program := "ythffjnfnfddpdaa", sum := "b99367c10518b40abcb75fae309fde6a75244efda35d12c8c1c03f7356d58f26", func := "fairsluice/fairlaw4.NeckNone", spec := "neckNone", unfollowed := true, recurses := true, apart := false, narrowed := true }
def NeckNoneUptoSaid : Prop := neckNoneUptoRow.holds Try.pinned (OpenSpec.upto neckNoneSpec)

/-- 'fairlaw4.GrowSame', WHERE WHAT IT READS IS OF BULK AT MOST 1048576: true; the input reads as it did. -/
def growSameUptoRow : OpenClaim := { program := "ythffjnfnfddpdaa", sum := "b99367c10518b40abcb75fae309fde6a75244efda35d12c8c1c03f7356d58f26", func := "fairsluice/fairlaw4.GrowSame", spec := "growSame", unfollowed := true, recurses := true, apart := false, narrowed := true }
def GrowSameUptoSaid : Prop := growSameUptoRow.holds Try.pinned (OpenSpec.upto growSameSpec)

/-- 'fairlaw4.RankSelf', WHERE WHAT IT READS IS OF BULK AT MOST 1048576: true; the input reads as it did. -/
def rankSelfUptoRow : OpenClaim := { program := "ythffjnfnfddpdaa", sum := "b99367c10518b40abcb75fae309fde6a75244efda35d12c8c1c03f7356d58f26", func := "fairsluice/fairlaw4.RankSelf", spec := "rankSelf", unfollowed := true, recurses := true, apart := false, narrowed := true }
def RankSelfUptoSaid : Prop := rankSelfUptoRow.holds Try.pinned (OpenSpec.upto rankSelfSpec)

/-- 'fairlaw1.NeckOnly', WHERE WHAT IT READS IS OF BULK AT MOST 1048576: true; the input reads as it did. -/
def neckOnlyUptoRow : OpenClaim := { program := "ythffjnfnfddpdaa", sum := "b99367c10518b40abcb75fae309fde6a75244efda35d12c8c1c03f7356d58f26", func := "fairsluice/fairlaw1.NeckOnly", spec := "neckOnly", unfollowed := true, recurses := true, apart := false, narrowed := true }
def NeckOnlyUptoSaid : Prop := neckOnlyUptoRow.holds Try.pinned (OpenSpec.upto neckOnlySpec)

/-- 'fairlaw1.FillFair', WHERE WHAT IT READS IS OF BULK AT MOST 1048576: true; the input reads as it did. -/
def fillFairUptoRow : OpenClaim := { program := "ythffjnfnfddpdaa", sum := "b99367c10518b40abcb75fae309fde6a75244efda35d12c8c1c03f7356d58f26", func := "fairsluice/fairlaw1.FillFair", spec := "fillFair", unfollowed := true, recurses := true, apart := false, narrowed := true }
def FillFairUptoSaid : Prop := fillFairUptoRow.holds Try.pinned (OpenSpec.upto fillFairSpec)

/-- 'fairlaw1.RankBest', WHERE WHAT IT READS IS OF BULK AT MOST 1048576: true; the input reads as it did. -/
def rankBestUptoRow : OpenClaim := { program := "ythffjnfnfddpdaa", sum := "b99367c10518b40abcb75fae309fde6a75244efda35d12c8c1c03f7356d58f26", func := "fairsluice/fairlaw1.RankBest", spec := "rankBest", unfollowed := true, recurses := true, apart := false, narrowed := true }
def RankBestUptoSaid : Prop := rankBestUptoRow.holds Try.pinned (OpenSpec.upto rankBestSpec)

/-- 'fairlaw2.GrowLess', WHERE WHAT IT READS IS OF BULK AT MOST 1048576: true; the input reads as it did. -/
def growLessUptoRow : OpenClaim := { program := "ythffjnfnfddpdaa", sum := "b99367c10518b40abcb75fae309fde6a75244efda35d12c8c1c03f7356d58f26", func := "fairsluice/fairlaw2.GrowLess", spec := "growLess", unfollowed := true, recurses := true, apart := false, narrowed := true }
def GrowLessUptoSaid : Prop := growLessUptoRow.holds Try.pinned (OpenSpec.upto growLessSpec)

end Rows
end Go.Proofs.Ythffjnfnfddpdaa
