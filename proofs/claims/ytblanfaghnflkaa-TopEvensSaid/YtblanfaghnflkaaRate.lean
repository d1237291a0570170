/- bucket.Rate. -/
import Derived.Test.YtblanfaghnflkaaLibA
namespace Go.Proofs.Ytblanfaghnflkaa
open Go.RowKit
attribute [local go_sem ↓] run_min_mn run_max_mx
end Go.Proofs.Ytblanfaghnflkaa
