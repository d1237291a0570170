/- The walk of RoadPlays: it returns true for every input. -/
import Derived.Test.YtblanfaghnflkaaDoorRoadPlays3
namespace Go.Proofs.YtblanfaghnflkaaDoor
open Go.RowKit
theorem roadPlays_walk (A : Option Addr) (c : Nat) (S : List Src) (w : World) (hs : Srcs w w.heap.size A c S) (_ : True) (r p k : Int) (_ : (Lit.int .i64 r).wf = true) (_ : (Lit.int .i64 p).wf = true) (_ : (Lit.int .i64 k).wf = true) (m : Int) (_ : (Lit.int .i64 m).wf = true) (hg : Laid w) :
    Calls Tryd.prog 5 #[.slice A S.length c, .agg #[.int .i64 r, .int .i64 p, .int .i64 k], .int .i64 m] w fun e w' => e = .returned (.bool true) ∧ Below w.heap.size w w' := by
  by_cases he : newErr S r p k = 0
  · unfold newErr at he
    split at he
    · rename_i h1
      split at he
      · rename_i h2
        split at he
        · rename_i h3
          subst h3
          exact roadPlays_yes A c S w hg hs r p m h1 h2
        · omega
      · omega
    · rename_i h1; exact absurd he h1
  · exact roadPlays_no A c S w hg hs r p k m _ rfl he
end Go.Proofs.YtblanfaghnflkaaDoor
