/-
  No cell of these rows narrows 'for every input' (looked for: loops, veiled, ifaces, maps, wideKeys, modest, calm, conditions, laid).
  DERIVED. THE GIVEN ROWS OF THIS SEAT. 8 by the template 'for every input the law returns true; each argument reads behind the call as it read before'; 0 by the template 'total and deterministic' (their statements: YtblanfaghnflkaaTotals.lean).
  GIVEN WITH THE SEED: the statements are not yours to turn. If you find one false, say at which input.
  Laid BY PROGRAM, IN A SANDBOX (cutbox-rows.mjs): the forced cells as the released guide's own fill.sh prints them over the translation f5396bf7d290482d… (all of the seat's roots in one cut). By AI agents, Wed Nov 11 2026. No macro, syntax, notation, axiom, sorry.
-/
import Derived.Test.YtblanfaghnflkaaChecked
import GoSem.Claim
import GoSem.ClaimJoined
import GoSem.ClaimMapViews
import Derived.JoinedTies
import Derived.KernelRfl
namespace Go.Proofs.Ytblanfaghnflkaa
/- THE CELL 'sum', in the pinned program and in every row, IS THE sha256 OF THE DUMP (.gsa) THAT YtblanfaghnflkaaProg.lean LOADS. Nothing in Lean hashes anything: it is a label: what it is worth is what the hold of that sum in a sandbox is worth. -/
noncomputable def Try.pinned : Pinned := { name := "ytblanfaghnflkaa", sum := "f5396bf7d290482da34390d0f208bb3261ba09701be7a0019d45e9f0a811e4de", checked := Try.checked }
namespace Rows
def none {H : Type} : Left H := { results := [], args := [] }

/-- 'fairlaw4.LoadNone': WHATEVER THE INPUT: true; the input reads as it did. -/
def loadNoneSpec : ChangeSpec := { name := "loadNone", fn := fun _ => fun
  | [d] => { results := [.lit (.bool true)], args := [d] }
  | _ => none }
def loadNoneRow : OpenClaim := { program := "ytblanfaghnflkaa", sum := "f5396bf7d290482da34390d0f208bb3261ba09701be7a0019d45e9f0a811e4de", func := "fairsluice/fairlaw4.LoadNone", spec := "loadNone", unfollowed := true, recurses := true, apart := false }
def LoadNoneSaid : Prop := loadNoneRow.holds Try.pinned (OpenSpec.ofChange loadNoneSpec)

/-- ITS FALSE NEIGHBOUR: 'it returns false'. Refute it at one input. -/
def loadNoneWrong : ChangeSpec := { name := "loadNone", fn := fun _ => fun
  | [d] => { results := [.lit (.bool false)], args := [d] }
  | _ => none }
def LoadNoneWrongFalsely : Prop := loadNoneRow.holds Try.pinned (OpenSpec.ofChange loadNoneWrong)

/-- 'fairlaw4.WantAll': WHATEVER THE INPUT: true; the input reads as it did. -/
def wantAllSpec : ChangeSpec := { name := "wantAll", fn := fun _ => fun
  | [d] => { results := [.lit (.bool true)], args := [d] }
  | _ => none }
def wantAllRow : OpenClaim := { program := "ytblanfaghnflkaa", sum := "f5396bf7d290482da34390d0f208bb3261ba09701be7a0019d45e9f0a811e4de", func := "fairsluice/fairlaw4.WantAll", spec := "wantAll", unfollowed := true, recurses := true, apart := false }
def WantAllSaid : Prop := wantAllRow.holds Try.pinned (OpenSpec.ofChange wantAllSpec)

/-- ITS FALSE NEIGHBOUR: 'it returns false'. Refute it at one input. -/
def wantAllWrong : ChangeSpec := { name := "wantAll", fn := fun _ => fun
  | [d] => { results := [.lit (.bool false)], args := [d] }
  | _ => none }
def WantAllWrongFalsely : Prop := wantAllRow.holds Try.pinned (OpenSpec.ofChange wantAllWrong)

/-- 'fairlaw1.LoadAdds': WHATEVER THE INPUT: true; the input reads as it did. -/
def loadAddsSpec : ChangeSpec := { name := "loadAdds", fn := fun _ => fun
  | [d1, d2, d3] => { results := [.lit (.bool true)], args := [d1, d2, d3] }
  | _ => none }
def loadAddsRow : OpenClaim := { program := "ytblanfaghnflkaa", sum := "f5396bf7d290482da34390d0f208bb3261ba09701be7a0019d45e9f0a811e4de", func := "fairsluice/fairlaw1.LoadAdds", spec := "loadAdds", unfollowed := true, recurses := true, apart := false }
def LoadAddsSaid : Prop := loadAddsRow.holds Try.pinned (OpenSpec.ofChange loadAddsSpec)

/-- ITS FALSE NEIGHBOUR: 'it returns false'. Refute it at one input. -/
def loadAddsWrong : ChangeSpec := { name := "loadAdds", fn := fun _ => fun
  | [d1, d2, d3] => { results := [.lit (.bool false)], args := [d1, d2, d3] }
  | _ => none }
def LoadAddsWrongFalsely : Prop := loadAddsRow.holds Try.pinned (OpenSpec.ofChange loadAddsWrong)

/-- 'fairlaw4.NeckNone': WHATEVER THE INPUT: true; the input reads as it did. -/
def neckNoneSpec : ChangeSpec := { name := "neckNone", fn := fun _ => fun
  | [d] => { results := [.lit (.bool true)], args := [d] }
  | _ => none }
def neckNoneRow : OpenClaim := { program := "ytblanfaghnflkaa", sum := "f5396bf7d290482da34390d0f208bb3261ba09701be7a0019d45e9f0a811e4de", func := "fairsluice/fairlaw4.NeckNone", spec := "neckNone", unfollowed := true, recurses := true, apart := false }
def NeckNoneSaid : Prop := neckNoneRow.holds Try.pinned (OpenSpec.ofChange neckNoneSpec)

/-- ITS FALSE NEIGHBOUR: 'it returns false'. Refute it at one input. -/
def neckNoneWrong : ChangeSpec := { name := "neckNone", fn := fun _ => fun
  | [d] => { results := [.lit (.bool false)], args := [d] }
  | _ => none }
def NeckNoneWrongFalsely : Prop := neckNoneRow.holds Try.pinned (OpenSpec.ofChange neckNoneWrong)

/-- 'fairlaw4.RankSelf': WHATEVER THE INPUT: true; the input reads as it did. -/
def rankSelfSpec : ChangeSpec := { name := "rankSelf", fn := fun _ => fun
  | [d1, d2] => { results := [.lit (.bool true)], args := [d1, d2] }
  | _ => none }
def rankSelfRow : OpenClaim := { program := "ytblanfaghnflkaa", sum := "f5396bf7d290482da34390d0f208bb3261ba09701be7a0019d45e9f0a811e4de", func := "fairsluice/fairlaw4.RankSelf", spec := "rankSelf", unfollowed := true, recurses := true, apart := false }
def RankSelfSaid : Prop := rankSelfRow.holds Try.pinned (OpenSpec.ofChange rankSelfSpec)

/-- ITS FALSE NEIGHBOUR: 'it returns false'. Refute it at one input. -/
def rankSelfWrong : ChangeSpec := { name := "rankSelf", fn := fun _ => fun
  | [d1, d2] => { results := [.lit (.bool false)], args := [d1, d2] }
  | _ => none }
def RankSelfWrongFalsely : Prop := rankSelfRow.holds Try.pinned (OpenSpec.ofChange rankSelfWrong)

/-- 'fairlaw1.RankBest': WHATEVER THE INPUT: true; the input reads as it did. -/
def rankBestSpec : ChangeSpec := { name := "rankBest", fn := fun _ => fun
  | [d1, d2] => { results := [.lit (.bool true)], args := [d1, d2] }
  | _ => none }
def rankBestRow : OpenClaim := { program := "ytblanfaghnflkaa", sum := "f5396bf7d290482da34390d0f208bb3261ba09701be7a0019d45e9f0a811e4de", func := "fairsluice/fairlaw1.RankBest", spec := "rankBest", unfollowed := true, recurses := true, apart := false }
def RankBestSaid : Prop := rankBestRow.holds Try.pinned (OpenSpec.ofChange rankBestSpec)

/-- ITS FALSE NEIGHBOUR: 'it returns false'. Refute it at one input. -/
def rankBestWrong : ChangeSpec := { name := "rankBest", fn := fun _ => fun
  | [d1, d2] => { results := [.lit (.bool false)], args := [d1, d2] }
  | _ => none }
def RankBestWrongFalsely : Prop := rankBestRow.holds Try.pinned (OpenSpec.ofChange rankBestWrong)

/-- 'fairlaw2.GrowLess': WHATEVER THE INPUT: true; the input reads as it did. -/
def growLessSpec : ChangeSpec := { name := "growLess", fn := fun _ => fun
  | [d1, d2, d3, d4, d5] => { results := [.lit (.bool true)], args := [d1, d2, d3, d4, d5] }
  | _ => none }
def growLessRow : OpenClaim := { program := "ytblanfaghnflkaa", sum := "f5396bf7d290482da34390d0f208bb3261ba09701be7a0019d45e9f0a811e4de", func := "fairsluice/fairlaw2.GrowLess", spec := "growLess", unfollowed := true, recurses := true, apart := false }
def GrowLessSaid : Prop := growLessRow.holds Try.pinned (OpenSpec.ofChange growLessSpec)

/-- ITS FALSE NEIGHBOUR: 'it returns false'. Refute it at one input. -/
def growLessWrong : ChangeSpec := { name := "growLess", fn := fun _ => fun
  | [d1, d2, d3, d4, d5] => { results := [.lit (.bool false)], args := [d1, d2, d3, d4, d5] }
  | _ => none }
def GrowLessWrongFalsely : Prop := growLessRow.holds Try.pinned (OpenSpec.ofChange growLessWrong)

/-- 'fairtop.TopEvens': WHATEVER THE INPUT: true; the input reads as it did. -/
def topEvensSpec : ChangeSpec := { name := "topEvens", fn := fun _ => fun
  | [d1, d2, d3] => { results := [.lit (.bool true)], args := [d1, d2, d3] }
  | _ => none }
def topEvensRow : OpenClaim := { program := "ytblanfaghnflkaa", sum := "f5396bf7d290482da34390d0f208bb3261ba09701be7a0019d45e9f0a811e4de", func := "fairsluice/fairtop.TopEvens", spec := "topEvens", unfollowed := true, recurses := true, apart := false }
def TopEvensSaid : Prop := topEvensRow.holds Try.pinned (OpenSpec.ofChange topEvensSpec)

/-- ITS FALSE NEIGHBOUR: 'it returns false'. Refute it at one input. -/
def topEvensWrong : ChangeSpec := { name := "topEvens", fn := fun _ => fun
  | [d1, d2, d3] => { results := [.lit (.bool false)], args := [d1, d2, d3] }
  | _ => none }
def TopEvensWrongFalsely : Prop := topEvensRow.holds Try.pinned (OpenSpec.ofChange topEvensWrong)

/- THE SECOND FORM. 'bulk': how many values and letters a reading holds, each counted each time it is reached (what is shared counts as often as it is met; a slice's spare places count too). A statement '..UptoSaid' is the law's where the arguments, and the package variables that the reading takes, are together of bulk at most 1048576: NARROWER than '..Said'. Prove '..Said' where nothing that the law and all that it calls make is longer than what came in: it says more and counts as full. Else prove '..UptoSaid'. A law counts once. -/
mutual
def uptoBulk {H : Type} : DataW H → Nat
  | .lit (.string bytes) => bytes.length + 1
  | .lit _ => 1
  | .nil => 1
  | .ptr d => uptoBulk d + 1
  | .slice elems spare => uptoBulkAll elems + uptoBulkAll spare + 1
  | .agg parts => uptoBulkAll parts + 1
  | .iface _ d => uptoBulk d + 1
  | .map entries => uptoBulkEntries entries + 1
  | .held _ => 1
def uptoBulkAll {H : Type} : List (DataW H) → Nat
  | [] => 0
  | d :: r => uptoBulk d + uptoBulkAll r
def uptoBulkEntries {H : Type} : List (Lit × DataW H) → Nat
  | [] => 0
  | x :: r => uptoBulkEntry x + uptoBulkEntries r
def uptoBulkEntry {H : Type} : Lit × DataW H → Nat
  | (.string bytes, d) => bytes.length + uptoBulk d + 1
  | (_, d) => uptoBulk d + 1
 end
def uptoSmall : (H : Type) → List (DataW H) → Bool := fun _ ds => decide (uptoBulkAll ds ≤ 1048576)
def OpenSpec.upto (s : _root_.Go.ChangeSpec) : _root_.Go.OpenSpec := { _root_.Go.OpenSpec.ofChange s with cond := some uptoSmall }

/-- 'fairlaw4.LoadNone', WHERE WHAT IT READS IS OF BULK AT MOST 1048576: true; the input reads as it did. -/
def loadNoneUptoRow : OpenClaim := { program := "ytblanfaghnflkaa", sum := "f5396bf7d290482da34390d0f208bb3261ba09701be7a0019d45e9f0a811e4de", func := "fairsluice/fairlaw4.LoadNone", spec := "loadNone", unfollowed := true, recurses := true, apart := false, narrowed := true }
def LoadNoneUptoSaid : Prop := loadNoneUptoRow.holds Try.pinned (OpenSpec.upto loadNoneSpec)

/-- 'fairlaw4.WantAll', WHERE WHAT IT READS IS OF BULK AT MOST 1048576: true; the input reads as it did. -/
def wantAllUptoRow : OpenClaim := { program := "ytblanfaghnflkaa", sum := "f5396bf7d290482da34390d0f208bb3261ba09701be7a0019d45e9f0a811e4de", func := "fairsluice/fairlaw4.WantAll", spec := "wantAll", unfollowed := true, recurses := true, apart := false, narrowed := true }
def WantAllUptoSaid : Prop := wantAllUptoRow.holds Try.pinned (OpenSpec.upto wantAllSpec)

/-- 'fairlaw1.LoadAdds', WHERE WHAT IT READS IS OF BULK AT MOST 1048576: true; the input reads as it did. -/
def loadAddsUptoRow : OpenClaim := { program := "ytblanfaghnflkaa", sum := "f5396bf7d290482da34390d0f208bb3261ba09701be7a0019d45e9f0a811e4de", func := "fairsluice/fairlaw1.LoadAdds", spec := "loadAdds", unfollowed := true, recurses := true, apart := false, narrowed := true }
def LoadAddsUptoSaid : Prop := loadAddsUptoRow.holds Try.pinned (OpenSpec.upto loadAddsSpec)

/-- 'fairlaw4.NeckNone', WHERE WHAT IT READS IS OF BULK AT MOST 1048576: true; the input reads as it did. -/
def neckNoneUptoRow : OpenClaim := { program := "ytblanfaghnflkaa", sum := "f5396bf7d290482da34390d0f208bb3261ba09701be7a0019d45e9f0a811e4de", func := "fairsluice/fairlaw4.NeckNone", spec := "neckNone", unfollowed := true, recurses := true, apart := false, narrowed := true }
def NeckNoneUptoSaid : Prop := neckNoneUptoRow.holds Try.pinned (OpenSpec.upto neckNoneSpec)

/-- 'fairlaw4.RankSelf', WHERE WHAT IT READS IS OF BULK AT MOST 1048576: true; the input reads as it did. -/
def rankSelfUptoRow : OpenClaim := { program := "ytblanfaghnflkaa", sum := "f5396bf7d290482da34390d0f208bb3261ba09701be7a0019d45e9f0a811e4de", func := "fairsluice/fairlaw4.RankSelf", spec := "rankSelf", unfollowed := true, recurses := true, apart := false, narrowed := true }
def RankSelfUptoSaid : Prop := rankSelfUptoRow.holds Try.pinned (OpenSpec.upto rankSelfSpec)

/-- 'fairlaw1.RankBest', WHERE WHAT IT READS IS OF BULK AT MOST 1048576: true; the input reads as it did. -/
def rankBestUptoRow : OpenClaim := { program := "ytblanfaghnflkaa", sum := "f5396bf7d290482da34390d0f208bb3261ba09701be7a0019d45e9f0a811e4de", func := "fairsluice/fairlaw1.RankBest", spec := "rankBest", unfollowed := true, recurses := true, apart := false, narrowed := true }
def RankBestUptoSaid : Prop := rankBestUptoRow.holds Try.pinned (OpenSpec.upto rankBestSpec)

/-- 'fairlaw2.GrowLess', WHERE WHAT IT READS IS OF BULK AT MOST 1048576: true; the input reads as it did. -/
def growLessUptoRow : OpenClaim := { program := "ytblanfaghnflkaa", sum := "f5396bf7d290482da34390d0f208bb3261ba09701be7a0019d45e9f0a811e4de", func := "fairsluice/fairlaw2.GrowLess", spec := "growLess", unfollowed := true, recurses := true, apart := false, narrowed := true }
def GrowLessUptoSaid : Prop := growLessUptoRow.holds Try.pinned (OpenSpec.upto growLessSpec)

/-- 'fairtop.TopEvens', WHERE WHAT IT READS IS OF BULK AT MOST 1048576: true; the input reads as it did. -/
def topEvensUptoRow : OpenClaim := { program := "ytblanfaghnflkaa", sum := "f5396bf7d290482da34390d0f208bb3261ba09701be7a0019d45e9f0a811e4de", func := "fairsluice/fairtop.TopEvens", spec := "topEvens", unfollowed := true, recurses := true, apart := false, narrowed := true }
def TopEvensUptoSaid : Prop := topEvensUptoRow.holds Try.pinned (OpenSpec.upto topEvensSpec)

end Rows
end Go.Proofs.Ytblanfaghnflkaa
