/- Package pool: what its functions compute. -/
import Derived.Test.YtblanfaghnflkaaDoorTicks
import Derived.Test.YtblanfaghnflkaaDoorPlPool
import Derived.Test.YtblanfaghnflkaaDoorLibA
import Derived.Lib.SmallJoins
namespace Go.Proofs.YtblanfaghnflkaaDoor
open Go.RowKit
attribute [local go_sem ↓] run_min_mn run_max_mx

set_option maxHeartbeats 1000000 in
theorem flow_any (r c k n : Int) (w : World) (h0 : 0 ≤ r) (h1 : r ≤ 20000) (h2 : 0 ≤ c) (h3 : c ≤ 20000) (h4 : 0 ≤ k) (h5 : k ≤ 20000) (h6 : 0 ≤ n) (h7 : n ≤ 20000) :
    Calls Tryd.prog 101 #[.agg #[.int .i64 r, .int .i64 c, .int .i64 k], .int .i64 n] w fun e w' =>
      e = .returned (.tuple #[.agg #[.int .i64 r, .int .i64 c, .int .i64 (PP.left r c k n)], .agg #[.int .i64 (PP.went c k n), .int .i64 (PP.lost r c k n), .int .i64 (PP.left r c k n)]]) ∧
      (((w.alloc (.cells #[.int .i64 r, .int .i64 c, .int .i64 (PP.left r c k n)] 60)).alloc (.cells #[.int .i64 r, .int .i64 c, .int .i64 (PP.left r c k n)] 60)).alloc (.cells #[.int .i64 (PP.went c k n), .int .i64 (PP.lost r c k n), .int .i64 (PP.left r c k n)] 69)).drew = w' := by
  unfold PP.lost PP.left PP.went
  go_enter Tryd.func101, Tryd.ntmps101
  go_wp2
  go_region
  go_wp2
  exact bodyPost_ret (v := .tuple #[.agg #[.int .i64 r, .int .i64 c, .int .i64 (min r (k + n - min c (k + n)))], .agg #[.int .i64 (min c (k + n)), .int .i64 (k + n - min c (k + n) - min r (k + n - min c (k + n))), .int .i64 (min r (k + n - min c (k + n)))]]) (by simp [results, Tryd.results101, go_sem]) rfl ⟨rfl, rfl⟩

def PoolOk (r c k : Int) : Prop := 0 ≤ r ∧ r ≤ 10000 ∧ 1 ≤ c ∧ c ≤ 1000 ∧ 0 ≤ k ∧ k ≤ r
set_option maxHeartbeats 400000 in
theorem pcheck_yes (r c k : Int) (w : World) (h : PoolOk r c k) : Calls Tryd.prog 95 #[.agg #[.int .i64 r, .int .i64 c, .int .i64 k]] w fun e w' => e = .returned .nilIface ∧ w.alloc (.cells #[.int .i64 r, .int .i64 c, .int .i64 k] 60) = w' := by
  obtain ⟨h1, h2, h3, h4, h5, h6⟩ := h
  go_enter Tryd.func95, Tryd.ntmps95
  go_wp2_with fail
  refine (rate_yes _ _ (by omega) (by omega)).mono ?_; rintro e w' ⟨rfl, rfl⟩
  go_wp2
  go_ret
  exact ⟨rfl, rfl⟩
set_option maxHeartbeats 1000000 in
theorem pcheck_no (r c k : Int) (w : World) (h : ¬ PoolOk r c k) : Calls Tryd.prog 95 #[.agg #[.int .i64 r, .int .i64 c, .int .i64 k]] w fun e w' => e = .returned (.iface 119 (.int .i64 1)) ∧ w.alloc (.cells #[.int .i64 r, .int .i64 c, .int .i64 k] 60) = w' := by
  unfold PoolOk at h
  by_cases h1 : r < 0 ∨ 10000 < r
  · clear h
    go_enter Tryd.func95, Tryd.ntmps95
    go_wp2_with fail
    refine (rate_no _ _ h1).mono ?_; rintro e w' ⟨rfl, rfl⟩
    go_wp2
    go_ret
    exact ⟨rfl, rfl⟩
  · have g1 : 0 ≤ r ∧ r ≤ 10000 := by omega
    clear h1
    by_cases h2 : c < 1
    · clear h
      go_enter Tryd.func95, Tryd.ntmps95
      go_wp2_with fail
      refine (rate_yes _ _ (by omega) (by omega)).mono ?_; rintro e w' ⟨rfl, rfl⟩
      go_wp2
      go_ret
      exact ⟨rfl, rfl⟩
    · by_cases h3 : 1000 < c
      · clear h
        go_enter Tryd.func95, Tryd.ntmps95
        go_wp2_with fail
        refine (rate_yes _ _ (by omega) (by omega)).mono ?_; rintro e w' ⟨rfl, rfl⟩
        go_wp2
        go_ret
        exact ⟨rfl, rfl⟩
      · by_cases h4 : k < 0
        · clear h
          go_enter Tryd.func95, Tryd.ntmps95
          go_wp2_with fail
          refine (rate_yes _ _ (by omega) (by omega)).mono ?_; rintro e w' ⟨rfl, rfl⟩
          go_wp2
          go_ret
          exact ⟨rfl, rfl⟩
        · have h5 : r < k := by omega
          clear h
          go_enter Tryd.func95, Tryd.ntmps95
          go_wp2_with fail
          refine (rate_yes _ _ (by omega) (by omega)).mono ?_; rintro e w' ⟨rfl, rfl⟩
          go_wp2
          go_ret
          exact ⟨rfl, rfl⟩
theorem step_bd (r c k n : Int) (h0 : 0 ≤ r) (h2 : 0 ≤ c) (h4 : 0 ≤ k) (h6 : 0 ≤ n) (h8 : k ≤ 10000) (h9 : n ≤ 10000) : 0 ≤ PP.went c k n ∧ PP.went c k n ≤ 20000 ∧ 0 ≤ PP.lost r c k n ∧ PP.lost r c k n ≤ 20000 ∧ 0 ≤ PP.left r c k n ∧ PP.left r c k n ≤ r := by
  unfold PP.lost PP.left PP.went; omega
end Go.Proofs.YtblanfaghnflkaaDoor
