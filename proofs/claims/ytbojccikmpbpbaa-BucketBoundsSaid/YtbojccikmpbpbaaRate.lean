/- bucket.Rate. -/
import Derived.Test.YtbojccikmpbpbaaLibA
namespace Go.Proofs.Ytbojccikmpbpbaa
open Go.RowKit
attribute [local go_sem ↓] run_min_mn run_max_mx
theorem rate_yes (n : Int) (w : World) (h0 : 0 ≤ n) (h1 : n ≤ 10000) : Calls Try.prog 10 #[.int .i64 n] w fun e w' => e = .returned (.bool true) ∧ w = w' := by
  go_enter Try.func10, Try.ntmps10
  go_wp2
  go_ret
  exact ⟨rfl, rfl⟩
theorem rate_no (n : Int) (w : World) (h : n < 0 ∨ 10000 < n) : Calls Try.prog 10 #[.int .i64 n] w fun e w' => e = .returned (.bool false) ∧ w = w' := by
  rcases h with h | h
  · go_enter Try.func10, Try.ntmps10
    go_wp2
    go_ret
    exact ⟨rfl, rfl⟩
  · have h' : 0 ≤ n := by omega
    have hd : decide (n ≤ 10000) = false := by simpa using h
    go_enter Try.func10, Try.ntmps10
    go_wp2
    go_ret
    exact ⟨rfl, rfl⟩
end Go.Proofs.Ytbojccikmpbpbaa
