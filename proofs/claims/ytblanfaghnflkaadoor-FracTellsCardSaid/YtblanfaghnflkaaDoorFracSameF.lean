/- FracTells: two forms of fairsame.Error. -/
import Derived.Test.YtblanfaghnflkaaDoorFracTells1
namespace Go.Proofs.YtblanfaghnflkaaDoor
open Go.RowKit
attribute [local go_sem ↓] run_min_mn run_max_mx
theorem sameF_e (n : Int) (w : World) (hg : Laid w) (h : n ≠ 0) : Calls Tryd.prog 15 #[.iface 119 (.int .i64 n), .int .i64 n] w fun e w' => e = .returned (.bool true) ∧ Below w.heap.size w w' := by
  have := same_yes n w hg
  rwa [errVal_pos h] at this
theorem sameF_0 (w : World) (hg : Laid w) : Calls Tryd.prog 15 #[.nilIface, .int .i64 0] w fun e w' => e = .returned (.bool true) ∧ Below w.heap.size w w' := by
  have := same_yes 0 w hg
  rwa [errVal_zero] at this
end Go.Proofs.YtblanfaghnflkaaDoor
