/- The reference's Ticks. -/
import Derived.Test.YtblanfaghnflkaaDoorTicks
import Derived.Test.YtblanfaghnflkaaDoorLibA
namespace Go.Proofs.YtblanfaghnflkaaDoor
open Go.RowKit
def ticksErr (l : List Int) : Int := if 60 < l.length then 4 else if l.any badRate then 1 else 0
end Go.Proofs.YtblanfaghnflkaaDoor
