/- The reference's bucket: its functions. -/
import Derived.Test.YtkheobdkmmbjnaaDoorBucketTick
import Derived.Test.YtkheobdkmmbjnaaDoorRefTicks
import Derived.Test.YtkheobdkmmbjnaaDoorTold
namespace Go.Proofs.YtkheobdkmmbjnaaDoor
open Go.RowKit
attribute [local go_sem ↓] run_min_mn run_max_mx
set_option maxHeartbeats 1000000 in
theorem refBucket_yes (s r h : Int) (w : World) (ok : BucketOk s r h) : Calls Tryd.prog 40 #[.agg #[.int .i64 s, .int .i64 r, .int .i64 h]] w fun e w' => e = .returned (.int .i64 0) ∧ w.alloc (.cells #[.int .i64 s, .int .i64 r, .int .i64 h] 35) = w' := by
  obtain ⟨g1, g2, g3, g4, g5, g6⟩ := ok
  go_enter Tryd.func40, Tryd.ntmps40
  go_wp2
  go_ret
  exact ⟨rfl, rfl⟩
set_option maxHeartbeats 2000000 in
theorem refBucket_no (s r h : Int) (w : World) (no : ¬ BucketOk s r h) : Calls Tryd.prog 40 #[.agg #[.int .i64 s, .int .i64 r, .int .i64 h]] w fun e w' => e = .returned (.int .i64 1) ∧ w.alloc (.cells #[.int .i64 s, .int .i64 r, .int .i64 h] 35) = w' := by
  unfold BucketOk at no
  have d : s < 1 ∨ (1 ≤ s ∧ 10000 < s) ∨ (1 ≤ s ∧ s ≤ 10000 ∧ r < 0) ∨ (1 ≤ s ∧ s ≤ 10000 ∧ 0 ≤ r ∧ s < r) ∨ (1 ≤ s ∧ s ≤ 10000 ∧ 0 ≤ r ∧ r ≤ s ∧ h < 0) ∨ (1 ≤ s ∧ s ≤ 10000 ∧ 0 ≤ r ∧ r ≤ s ∧ 0 ≤ h ∧ s < h) := by omega
  clear no
  rcases d with d | ⟨d1, d⟩ | ⟨d1, d2, d⟩ | ⟨d1, d2, d3, d⟩ | ⟨d1, d2, d3, d4, d⟩ | ⟨d1, d2, d3, d4, d5, d⟩
  all_goals
    go_enter Tryd.func40, Tryd.ntmps40
    go_wp2
    go_ret
    exact ⟨rfl, rfl⟩
set_option maxHeartbeats 2000000 in
theorem refFill (s r h : Int) (w : World) (h1 : -100000 ≤ h) (h2 : h ≤ 100000) (r1 : 0 ≤ r) (r2 : r ≤ 10000) : Calls Tryd.prog 41 #[.agg #[.int .i64 s, .int .i64 r, .int .i64 h]] w fun e w' =>
    e = .returned (.agg #[.int .i64 s, .int .i64 r, .int .i64 (min s (h + r))]) ∧ (w.alloc (.cells #[.int .i64 s, .int .i64 r, .int .i64 (min s (h + r))] 35)).alloc (.cells #[.int .i64 s, .int .i64 r, .int .i64 (min s (h + r))] 35) = w' := by
  by_cases c : s < h + r
  · have e : min s (h + r) = s := by omega
    rw [e]; clear e
    go_enter Tryd.func41, Tryd.ntmps41
    go_wp2
    exact bodyPost_ret (v := .agg #[.int .i64 s, .int .i64 r, .int .i64 s]) (by simp [results, Tryd.results41, go_sem]) rfl ⟨rfl, rfl⟩
  · have e : min s (h + r) = h + r := by omega
    rw [e]; clear e
    go_enter Tryd.func41, Tryd.ntmps41
    go_wp2
    exact bodyPost_ret (v := .agg #[.int .i64 s, .int .i64 r, .int .i64 (h + r)]) (by simp [results, Tryd.results41, go_sem]) rfl ⟨rfl, rfl⟩
end Go.Proofs.YtkheobdkmmbjnaaDoor
