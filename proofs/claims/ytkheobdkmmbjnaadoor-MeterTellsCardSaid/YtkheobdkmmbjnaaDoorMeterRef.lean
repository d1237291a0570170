/- The reference's meter: its functions. -/
import Derived.Test.YtkheobdkmmbjnaaDoorMeterRun
import Derived.Test.YtkheobdkmmbjnaaDoorRefTicks
import Derived.Test.YtkheobdkmmbjnaaDoorTold
namespace Go.Proofs.YtkheobdkmmbjnaaDoor
open Go.RowKit
attribute [local go_sem ↓] run_min_mn run_max_mx
set_option maxHeartbeats 1000000 in
theorem refMeter_yes (c a k : Int) (w : World) (ok : MeterOk c a k) : Calls Tryd.prog 45 #[.agg #[.int .i64 c, .int .i64 a, .int .i64 k]] w fun e w' => e = .returned (.int .i64 0) ∧ Below w.heap.size w w' := by
  obtain ⟨g1, g2, g3, g4, g5, g6⟩ := ok
  go_enter Tryd.func45, Tryd.ntmps45
  go_wp2
  go_ret
  exact ⟨rfl, (Below.refl _ _).alloc (Nat.le_refl _) _⟩
set_option maxHeartbeats 2000000 in
theorem refMeter_no (c a k : Int) (w : World) (no : ¬ MeterOk c a k) : Calls Tryd.prog 45 #[.agg #[.int .i64 c, .int .i64 a, .int .i64 k]] w fun e w' => e = .returned (.int .i64 1) ∧ Below w.heap.size w w' := by
  unfold MeterOk at no
  have d : c < 1 ∨ (1 ≤ c ∧ 1000 < c) ∨ (1 ≤ c ∧ c ≤ 1000 ∧ a < 0) ∨ (1 ≤ c ∧ c ≤ 1000 ∧ 0 ≤ a ∧ 10000 < a) ∨ (1 ≤ c ∧ c ≤ 1000 ∧ 0 ≤ a ∧ a ≤ 10000 ∧ k < 0) ∨ (1 ≤ c ∧ c ≤ 1000 ∧ 0 ≤ a ∧ a ≤ 10000 ∧ 0 ≤ k ∧ 10000 < k) := by omega
  clear no
  rcases d with d | ⟨d1, d⟩ | ⟨d1, d2, d⟩ | ⟨d1, d2, d3, d⟩ | ⟨d1, d2, d3, d4, d⟩ | ⟨d1, d2, d3, d4, d5, d⟩
  all_goals
    go_enter Tryd.func45, Tryd.ntmps45
    go_wp2
    go_ret
    exact ⟨rfl, (Below.refl _ _).alloc (Nat.le_refl _) _⟩
theorem down_q (n b : Int) (hb : 1 ≤ b) : b * n.tdiv b + n.tmod b = n ∧ (n < 0 → n.tmod b ≤ 0) ∧ (0 ≤ n → 0 ≤ n.tmod b) ∧ -b < n.tmod b ∧ n.tmod b < b := by
  refine ⟨Int.mul_tdiv_add_tmod n b, fun h => ?_, fun h => Int.tmod_nonneg _ h, ?_, Int.tmod_lt_of_pos _ (by omega)⟩
  · have := Int.tmod_nonneg b (show 0 ≤ -n by omega)
    rw [Int.neg_tmod] at this; omega
  · have := Int.tmod_lt_of_pos (-n) (show 0 < b by omega)
    rw [Int.neg_tmod] at this; omega
set_option maxHeartbeats 4000000 in
theorem refNext (c a k r : Int) (w : World) (h : MeterOk c a k) (h0 : 1 ≤ r) (h1 : r ≤ 1000) :
    Calls Tryd.prog 47 #[.agg #[.int .i64 c, .int .i64 a, .int .i64 k], .int .i64 r] w fun e w' => e = .returned (.int .i64 (PM.nxt c a k r)) ∧ Below w.heap.size w w' := by
  obtain ⟨g1, g2, g3, g4, g5, g6⟩ := h
  obtain ⟨b0, b1⟩ := mul_bd2 r (2 * (c - a) - k) (by omega) h1 (by omega) (by omega)
  obtain ⟨t0, t1⟩ := tdiv_bd (r * (2 * (c - a) - k)) (4 * c) (by omega) (by omega)
  obtain ⟨d0, d1, d2, d3, d4⟩ := down_q (r * (2 * (c - a) - k)) (4 * c) (by omega)
  have D := PM.down (r * (2 * (c - a) - k)) (4 * c) (by omega)
  have em : (r * (2 * (c - a) - k)).tdiv (4 * c) * (4 * c) = r * (2 * (c - a) - k) - (r * (2 * (c - a) - k)).tmod (4 * c) := by
    rw [Int.mul_comm]; omega
  have m0 : -40000000 ≤ (r * (2 * (c - a) - k)).tdiv (4 * c) * (4 * c) := by rw [em]; omega
  have m1 : (r * (2 * (c - a) - k)).tdiv (4 * c) * (4 * c) ≤ 40000000 := by rw [em]; omega
  have hz : ((4 * c) == 0) = false := by simp; omega
  have hz' : 4 * c ≠ 0 := by omega
  have hm1 : 4 * c ≠ -1 := by omega
  have hv : PM.nxt c a k r = max 1 (min c (r + r * (2 * (c - a) - k) / (4 * c))) := rfl
  by_cases hneg : r * (2 * (c - a) - k) < 0
  · by_cases hq : (r * (2 * (c - a) - k)).tmod (4 * c) = 0
    · have hq2 : ((r * (2 * (c - a) - k)).tdiv (4 * c) * (4 * c) != r * (2 * (c - a) - k)) = false := by rw [em, hq]; simp
      rw [hq, if_neg (by omega)] at D
      rw [← D] at hv
      clear D d0 em hq d1 d2 d3 d4
      by_cases k1 : c < r + (r * (2 * (c - a) - k)).tdiv (4 * c)
      · have e : PM.nxt c a k r = c := by rw [hv]; omega
        rw [e]; clear e hv
        go_enter Tryd.func47, Tryd.ntmps47
        go_wp2
        go_ret
        exact ⟨rfl, (Below.refl _ _).alloc (Nat.le_refl _) _⟩
      · by_cases k2 : r + (r * (2 * (c - a) - k)).tdiv (4 * c) < 1
        · have e : PM.nxt c a k r = 1 := by rw [hv]; omega
          rw [e]; clear e hv
          go_enter Tryd.func47, Tryd.ntmps47
          go_wp2
          go_ret
          exact ⟨rfl, (Below.refl _ _).alloc (Nat.le_refl _) _⟩
        · have e : PM.nxt c a k r = r + (r * (2 * (c - a) - k)).tdiv (4 * c) := by rw [hv]; omega
          rw [e]; clear e hv
          go_enter Tryd.func47, Tryd.ntmps47
          go_wp2
          go_ret
          exact ⟨rfl, (Below.refl _ _).alloc (Nat.le_refl _) _⟩
    · have hq2 : ((r * (2 * (c - a) - k)).tdiv (4 * c) * (4 * c) != r * (2 * (c - a) - k)) = true := by rw [em, bne_iff_ne]; omega
      rw [if_pos (by omega)] at D
      rw [← D] at hv
      clear D d0 em hq d1 d2 d3 d4
      by_cases k1 : c < r + ((r * (2 * (c - a) - k)).tdiv (4 * c) - 1)
      · have e : PM.nxt c a k r = c := by rw [hv]; omega
        rw [e]; clear e hv
        go_enter Tryd.func47, Tryd.ntmps47
        go_wp2
        go_ret
        exact ⟨rfl, (Below.refl _ _).alloc (Nat.le_refl _) _⟩
      · by_cases k2 : r + ((r * (2 * (c - a) - k)).tdiv (4 * c) - 1) < 1
        · have e : PM.nxt c a k r = 1 := by rw [hv]; omega
          rw [e]; clear e hv
          go_enter Tryd.func47, Tryd.ntmps47
          go_wp2
          go_ret
          exact ⟨rfl, (Below.refl _ _).alloc (Nat.le_refl _) _⟩
        · have e : PM.nxt c a k r = r + ((r * (2 * (c - a) - k)).tdiv (4 * c) - 1) := by rw [hv]; omega
          rw [e]; clear e hv
          go_enter Tryd.func47, Tryd.ntmps47
          go_wp2
          go_ret
          exact ⟨rfl, (Below.refl _ _).alloc (Nat.le_refl _) _⟩
  · rw [if_neg (by omega)] at D
    rw [← D] at hv
    clear D d0 em d1 d2 d3 d4
    by_cases k1 : c < r + (r * (2 * (c - a) - k)).tdiv (4 * c)
    · have e : PM.nxt c a k r = c := by rw [hv]; omega
      rw [e]; clear e hv
      go_enter Tryd.func47, Tryd.ntmps47
      go_wp2
      go_ret
      exact ⟨rfl, (Below.refl _ _).alloc (Nat.le_refl _) _⟩
    · by_cases k2 : r + (r * (2 * (c - a) - k)).tdiv (4 * c) < 1
      · have e : PM.nxt c a k r = 1 := by rw [hv]; omega
        rw [e]; clear e hv
        go_enter Tryd.func47, Tryd.ntmps47
        go_wp2
        go_ret
        exact ⟨rfl, (Below.refl _ _).alloc (Nat.le_refl _) _⟩
      · have e : PM.nxt c a k r = r + (r * (2 * (c - a) - k)).tdiv (4 * c) := by rw [hv]; omega
        rw [e]; clear e hv
        go_enter Tryd.func47, Tryd.ntmps47
        go_wp2
        go_ret
        exact ⟨rfl, (Below.refl _ _).alloc (Nat.le_refl _) _⟩
theorem refNext_is (c a k r y : Int) (w : World) (h : MeterOk c a k) (h0 : 1 ≤ r) (h1 : r ≤ 1000) (hy : PM.nxt c a k r = y) :
    Calls Tryd.prog 47 #[.agg #[.int .i64 c, .int .i64 a, .int .i64 k], .int .i64 r] w fun e w' => e = .returned (.int .i64 y) ∧ Below w.heap.size w w' := by
  subst hy; exact refNext c a k r w h h0 h1
theorem mnext_is (c a k r y : Int) (w : World) (h : MeterOk c a k) (h0 : 1 ≤ r) (h1 : r ≤ 1000) (hy : PM.nxt c a k r = y) :
    Calls Tryd.prog 48 #[.agg #[.int .i64 c, .int .i64 a, .int .i64 k], .int .i64 r] w fun e w' => e = .returned (.tuple #[.int .i64 y, .nilIface]) ∧ Below w.heap.size w w' := by
  subst hy; exact mnext_yes c a k r w h h0 h1
end Go.Proofs.YtkheobdkmmbjnaaDoor
