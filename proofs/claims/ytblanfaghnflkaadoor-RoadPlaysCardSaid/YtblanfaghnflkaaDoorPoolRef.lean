/- The reference's pool: its functions. -/
import Derived.Test.YtblanfaghnflkaaDoorPool
import Derived.Test.YtblanfaghnflkaaDoorRefTicks
import Derived.Test.YtblanfaghnflkaaDoorTold
namespace Go.Proofs.YtblanfaghnflkaaDoor
open Go.RowKit
attribute [local go_sem ↓] run_min_mn run_max_mx
set_option maxHeartbeats 1000000 in
theorem refPool_yes (r c k : Int) (w : World) (ok : PoolOk r c k) : Calls Tryd.prog 93 #[.agg #[.int .i64 r, .int .i64 c, .int .i64 k]] w fun e w' => e = .returned (.int .i64 0) ∧ Below w.heap.size w w' := by
  obtain ⟨g1, g2, g3, g4, g5, g6⟩ := ok
  go_enter Tryd.func93, Tryd.ntmps93
  go_wp2
  go_ret
  exact ⟨rfl, (Below.refl _ _).alloc (Nat.le_refl _) _⟩
set_option maxHeartbeats 2000000 in
theorem refPool_no (r c k : Int) (w : World) (no : ¬ PoolOk r c k) : Calls Tryd.prog 93 #[.agg #[.int .i64 r, .int .i64 c, .int .i64 k]] w fun e w' => e = .returned (.int .i64 1) ∧ Below w.heap.size w w' := by
  unfold PoolOk at no
  have d : r < 0 ∨ (0 ≤ r ∧ 10000 < r) ∨ (0 ≤ r ∧ r ≤ 10000 ∧ c < 1) ∨ (0 ≤ r ∧ r ≤ 10000 ∧ 1 ≤ c ∧ 1000 < c) ∨ (0 ≤ r ∧ r ≤ 10000 ∧ 1 ≤ c ∧ c ≤ 1000 ∧ k < 0) ∨ (0 ≤ r ∧ r ≤ 10000 ∧ 1 ≤ c ∧ c ≤ 1000 ∧ 0 ≤ k ∧ r < k) := by omega
  clear no
  rcases d with d | ⟨d1, d⟩ | ⟨d1, d2, d⟩ | ⟨d1, d2, d3, d⟩ | ⟨d1, d2, d3, d4, d⟩ | ⟨d1, d2, d3, d4, d5, d⟩
  all_goals
    go_enter Tryd.func93, Tryd.ntmps93
    go_wp2
    go_ret
    exact ⟨rfl, (Below.refl _ _).alloc (Nat.le_refl _) _⟩
set_option maxHeartbeats 2000000 in
theorem refFlow (r c k n : Int) (w : World) (h : PoolOk r c k) (n0 : 0 ≤ n) (n1 : n ≤ 10000) : Calls Tryd.prog 98 #[.agg #[.int .i64 r, .int .i64 c, .int .i64 k], .int .i64 n] w fun e w' =>
    e = .returned (.tuple #[.agg #[.int .i64 r, .int .i64 c, .int .i64 (PP.left r c k n)], .agg #[.int .i64 (PP.went c k n), .int .i64 (PP.lost r c k n), .int .i64 (PP.left r c k n)]]) ∧ Below w.heap.size w w' := by
  obtain ⟨g1, g2, g3, g4, g5, g6⟩ := h
  by_cases a : c < k + n
  · have e1 : PP.went c k n = c := by unfold PP.went; omega
    by_cases b : r < k + n - c
    · have e2 : PP.left r c k n = r := by unfold PP.left; rw [e1]; omega
      have e3 : PP.lost r c k n = k + n - c - r := by unfold PP.lost; rw [e1, e2]
      rw [e1, e2, e3]
      clear e1 e2 e3
      go_enter Tryd.func98, Tryd.ntmps98
      go_wp2
      go_region
      all_goals
        go_wp2
        refine bodyPost_ret (v := .tuple #[.agg #[.int .i64 r, .int .i64 c, .int .i64 r], .agg #[.int .i64 c, .int .i64 (k + n - c - r), .int .i64 r]]) (by simp [results, Tryd.results98, go_sem]) rfl ⟨rfl, ?_⟩
        repeat (first | exact Below.refl _ _ | apply Below.drew | refine Below.setCell ?_ (by simp <;> omega) _ | refine Below.alloc ?_ (by simp <;> omega) _)
    · have e2 : PP.left r c k n = k + n - c := by unfold PP.left; rw [e1]; omega
      have e3 : PP.lost r c k n = 0 := by unfold PP.lost; rw [e1, e2]; omega
      rw [e1, e2, e3]
      clear e1 e2 e3
      go_enter Tryd.func98, Tryd.ntmps98
      go_wp2
      go_region
      all_goals
        go_wp2
        refine bodyPost_ret (v := .tuple #[.agg #[.int .i64 r, .int .i64 c, .int .i64 (k + n - c)], .agg #[.int .i64 c, .int .i64 0, .int .i64 (k + n - c)]]) (by simp [results, Tryd.results98, go_sem]) rfl ⟨rfl, ?_⟩
        repeat (first | exact Below.refl _ _ | apply Below.drew | refine Below.setCell ?_ (by simp <;> omega) _ | refine Below.alloc ?_ (by simp <;> omega) _)
  · have e1 : PP.went c k n = k + n := by unfold PP.went; omega
    have e2 : PP.left r c k n = 0 := by unfold PP.left; rw [e1]; omega
    have e3 : PP.lost r c k n = 0 := by unfold PP.lost; rw [e1, e2]; omega
    have e4 : k + n - (k + n) = 0 := by omega
    rw [e1, e2, e3]
    clear e1 e2 e3
    go_enter Tryd.func98, Tryd.ntmps98
    go_wp2
    go_region
    all_goals
      go_wp2
      refine bodyPost_ret (v := .tuple #[.agg #[.int .i64 r, .int .i64 c, .int .i64 0], .agg #[.int .i64 (k + n), .int .i64 0, .int .i64 0]]) (by simp [results, Tryd.results98, go_sem]) rfl ⟨rfl, ?_⟩
      repeat (first | exact Below.refl _ _ | apply Below.drew | refine Below.setCell ?_ (by simp <;> omega) _ | refine Below.alloc ?_ (by simp <;> omega) _)
theorem refFlow_is (r c k n a b d : Int) (w : World) (h : PoolOk r c k) (n0 : 0 ≤ n) (n1 : n ≤ 10000) (ha : PP.went c k n = a) (hb : PP.lost r c k n = b) (hd : PP.left r c k n = d) : Calls Tryd.prog 98 #[.agg #[.int .i64 r, .int .i64 c, .int .i64 k], .int .i64 n] w fun e w' =>
    e = .returned (.tuple #[.agg #[.int .i64 r, .int .i64 c, .int .i64 d], .agg #[.int .i64 a, .int .i64 b, .int .i64 d]]) ∧ Below w.heap.size w w' := by
  subst ha hb hd; exact refFlow r c k n w h n0 n1
end Go.Proofs.YtblanfaghnflkaaDoor
