/- Package meter: what its functions compute. -/
import Derived.Test.YtblanfaghnflkaaDoorTicks
import Derived.Test.YtblanfaghnflkaaDoorPlMeter
import Derived.Test.YtblanfaghnflkaaDoorLibA
namespace Go.Proofs.YtblanfaghnflkaaDoor
open Go.RowKit
attribute [local go_sem ↓] run_min_mn run_max_mx

theorem tdiv_bd (n b : Int) (h0 : -1000000000 ≤ n) (h1 : n ≤ 1000000000) : -1000000000 ≤ n.tdiv b ∧ n.tdiv b ≤ 1000000000 := by
  have a := Int.natAbs_tdiv_le_natAbs n b
  omega
def MeterOk (c a k : Int) : Prop := 1 ≤ c ∧ c ≤ 1000 ∧ 0 ≤ a ∧ a ≤ 10000 ∧ 0 ≤ k ∧ k ≤ 10000
theorem mul_bd2 (r x : Int) (h0 : 0 ≤ r) (h1 : r ≤ 1000) (h2 : -30000 ≤ x) (h3 : x ≤ 30000) : -30000000 ≤ r * x ∧ r * x ≤ 30000000 := by
  have a : r * x ≤ r * 30000 := Int.mul_le_mul_of_nonneg_left h3 h0
  have b : r * (-30000) ≤ r * x := Int.mul_le_mul_of_nonneg_left h2 h0
  omega
end Go.Proofs.YtblanfaghnflkaaDoor
