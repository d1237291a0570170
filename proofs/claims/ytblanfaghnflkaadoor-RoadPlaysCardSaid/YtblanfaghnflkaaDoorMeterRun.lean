/- meter.Run: the rates of so many ticks. -/
import Derived.Test.YtblanfaghnflkaaDoorMeter
import Derived.Test.YtblanfaghnflkaaDoorLibA
namespace Go.Proofs.YtblanfaghnflkaaDoor
open Go.RowKit
attribute [local go_sem ↓] run_min_mn run_max_mx
end Go.Proofs.YtblanfaghnflkaaDoor
