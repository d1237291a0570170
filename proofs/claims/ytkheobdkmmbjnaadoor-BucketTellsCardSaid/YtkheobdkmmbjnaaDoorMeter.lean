/- Package meter: what its functions compute. -/
import Derived.Test.YtkheobdkmmbjnaaDoorTicks
import Derived.Test.YtkheobdkmmbjnaaDoorPlMeter
import Derived.Test.YtkheobdkmmbjnaaDoorBlk
namespace Go.Proofs.YtkheobdkmmbjnaaDoor
open Go.RowKit
attribute [local go_sem ↓] run_min_mn run_max_mx

theorem tdiv_bd (n b : Int) (h0 : -1000000000 ≤ n) (h1 : n ≤ 1000000000) : -1000000000 ≤ n.tdiv b ∧ n.tdiv b ≤ 1000000000 := by
  have a := Int.natAbs_tdiv_le_natAbs n b
  omega
set_option maxHeartbeats 400000 in
theorem down_any (n b : Int) (w : World) (hb : 1 ≤ b) (hb' : b ≤ 4000) (h0 : -1000000000 ≤ n) (h1 : n ≤ 1000000000) : Calls Tryd.prog 111 #[.int .i64 n, .int .i64 b] w fun e w' => e = .returned (.int .i64 (n / b)) ∧ w = w' := by
  obtain ⟨t0, t1⟩ := tdiv_bd n b h0 h1
  have HD := Lib.hid (PM.down n b (by omega))
  have hz : (b == 0) = false := by simp; omega
  have hz' : b ≠ 0 := by omega
  have hm1 : b ≠ -1 := by omega
  rw [← HD.out]
  by_cases hneg : n.tmod b < 0
  · rw [if_pos hneg]
    go_enter Tryd.func111, Tryd.ntmps111
    go_wp2
    go_ret
    exact ⟨rfl, rfl⟩
  · rw [if_neg hneg]
    go_enter Tryd.func111, Tryd.ntmps111
    go_wp2
    go_ret
    exact ⟨rfl, rfl⟩
def MeterOk (c a k : Int) : Prop := 1 ≤ c ∧ c ≤ 1000 ∧ 0 ≤ a ∧ a ≤ 10000 ∧ 0 ≤ k ∧ k ≤ 10000
theorem mul_bd2 (r x : Int) (h0 : 0 ≤ r) (h1 : r ≤ 1000) (h2 : -30000 ≤ x) (h3 : x ≤ 30000) : -30000000 ≤ r * x ∧ r * x ≤ 30000000 := by
  have a : r * x ≤ r * 30000 := Int.mul_le_mul_of_nonneg_left h3 h0
  have b : r * (-30000) ≤ r * x := Int.mul_le_mul_of_nonneg_left h2 h0
  omega
set_option maxHeartbeats 1000000 in
theorem next_any (c a k r : Int) (w : World) (h : MeterOk c a k) (h0 : 1 ≤ r) (h1 : r ≤ 1000) :
    Calls Tryd.prog 88 #[.agg #[.int .i64 c, .int .i64 a, .int .i64 k], .int .i64 r] w fun e w' => e = .returned (.int .i64 (PM.nxt c a k r)) ∧ Below w.heap.size w w' := by
  obtain ⟨g1, g2, g3, g4, g5, g6⟩ := h
  obtain ⟨b0, b1⟩ := mul_bd2 r (2 * (c - a) - k) (by omega) h1 (by omega) (by omega)
  have q0 : -1000000000 ≤ r * (2 * (c - a) - k) / (4 * c) ∧ r * (2 * (c - a) - k) / (4 * c) ≤ 1000000000 := by
    have e := PM.down (r * (2 * (c - a) - k)) (4 * c) (by omega)
    have := tdiv_bd (r * (2 * (c - a) - k)) (4 * c) (by omega) (by omega)
    have h5 := Int.le_ediv_of_mul_le (show 0 < 4 * c by omega) (show -30000000 * (4 * c) ≤ r * (2 * (c - a) - k) by omega)
    have h6 := Int.ediv_le_self (r * (2 * (c - a) - k)) (a := 4 * c)
    constructor
    · omega
    · split at e <;> omega
  obtain ⟨q0, q1⟩ := q0
  unfold PM.nxt
  go_enter Tryd.func88, Tryd.ntmps88
  go_wp2
  go_quiet ((go_at_call 111; exact quiet_left (down_any _ _ _ (by omega) (by omega) (by omega) (by omega))))
  go_wp2
  go_ret
  exact ⟨rfl, below_drewN ((Below.refl _ _).alloc (Nat.le_refl _) _) _⟩
set_option maxHeartbeats 1000000 in
theorem mcheck_yes (c a k : Int) (w : World) (h : MeterOk c a k) : Calls Tryd.prog 46 #[.agg #[.int .i64 c, .int .i64 a, .int .i64 k]] w fun e w' => e = .returned .nilIface ∧ w.alloc (.cells #[.int .i64 c, .int .i64 a, .int .i64 k] 77) = w' := by
  obtain ⟨g1, g2, g3, g4, g5, g6⟩ := h
  go_enter Tryd.func46, Tryd.ntmps46
  go_wp2_with fail
  refine (rate_yes _ _ (by omega) (by omega)).mono ?_; rintro e w' ⟨rfl, rfl⟩
  go_wp2_with fail
  refine (rate_yes _ _ (by omega) (by omega)).mono ?_; rintro e w' ⟨rfl, rfl⟩
  go_wp2
  go_ret
  exact ⟨rfl, rfl⟩
set_option maxHeartbeats 1000000 in
theorem mcheck_no (c a k : Int) (w : World) (h : ¬ MeterOk c a k) : Calls Tryd.prog 46 #[.agg #[.int .i64 c, .int .i64 a, .int .i64 k]] w fun e w' => e = .returned (.iface 124 (.int .i64 1)) ∧ w.alloc (.cells #[.int .i64 c, .int .i64 a, .int .i64 k] 77) = w' := by
  unfold MeterOk at h
  by_cases h1 : c < 1
  · clear h
    go_enter Tryd.func46, Tryd.ntmps46
    go_wp2
    go_ret
    exact ⟨rfl, rfl⟩
  · by_cases h2 : 1000 < c
    · clear h
      go_enter Tryd.func46, Tryd.ntmps46
      go_wp2
      go_ret
      exact ⟨rfl, rfl⟩
    · by_cases h3 : a < 0 ∨ 10000 < a
      · clear h
        go_enter Tryd.func46, Tryd.ntmps46
        go_wp2_with fail
        refine (rate_no _ _ h3).mono ?_; rintro e w' ⟨rfl, rfl⟩
        go_wp2
        go_ret
        exact ⟨rfl, rfl⟩
      · have h4 : k < 0 ∨ 10000 < k := by omega
        clear h
        go_enter Tryd.func46, Tryd.ntmps46
        go_wp2_with fail
        refine (rate_yes _ _ (by omega) (by omega)).mono ?_; rintro e w' ⟨rfl, rfl⟩
        go_wp2_with fail
        refine (rate_no _ _ h4).mono ?_; rintro e w' ⟨rfl, rfl⟩
        go_wp2
        go_ret
        exact ⟨rfl, rfl⟩
theorem mchk_yes (c a k r : Int) (w : World) (h : MeterOk c a k) (h0 : 1 ≤ r) (h1 : r ≤ 1000) : Calls Tryd.prog 87 #[.agg #[.int .i64 c, .int .i64 a, .int .i64 k], .int .i64 r] w fun e w' => e = .returned .nilIface ∧ Below w.heap.size w w' := by
  have H := Lib.hid h; clear h
  go_enter Tryd.func87, Tryd.ntmps87
  go_wp2_with fail
  refine (mcheck_yes c a k _ H.out).mono ?_; rintro e w' ⟨rfl, rfl⟩
  go_wp2
  go_ret
  exact ⟨rfl, ((Below.refl _ _).alloc (Nat.le_refl _) _).alloc (by simp) _⟩
theorem mchk_no (c a k r : Int) (w : World) (h : ¬ (MeterOk c a k ∧ 1 ≤ r ∧ r ≤ 1000)) : Calls Tryd.prog 87 #[.agg #[.int .i64 c, .int .i64 a, .int .i64 k], .int .i64 r] w fun e w' => e = .returned (.iface 124 (.int .i64 1)) ∧ Below w.heap.size w w' := by
  by_cases hm : MeterOk c a k
  · have hr : r < 1 ∨ 1000 < r := by
      by_cases x : r < 1 ∨ 1000 < r
      · exact x
      · exact absurd ⟨hm, by omega, by omega⟩ h
    have H := Lib.hid hm; clear hm h
    rcases hr with hr | hr
    · go_enter Tryd.func87, Tryd.ntmps87
      go_wp2_with fail
      refine (mcheck_yes c a k _ H.out).mono ?_; rintro e w' ⟨rfl, rfl⟩
      go_wp2
      go_ret
      exact ⟨rfl, ((Below.refl _ _).alloc (Nat.le_refl _) _).alloc (by simp) _⟩
    · go_enter Tryd.func87, Tryd.ntmps87
      go_wp2_with fail
      refine (mcheck_yes c a k _ H.out).mono ?_; rintro e w' ⟨rfl, rfl⟩
      go_wp2
      go_ret
      exact ⟨rfl, ((Below.refl _ _).alloc (Nat.le_refl _) _).alloc (by simp) _⟩
  · have H := Lib.hid hm; clear hm h
    go_enter Tryd.func87, Tryd.ntmps87
    go_wp2_with fail
    refine (mcheck_no c a k _ H.out).mono ?_; rintro e w' ⟨rfl, rfl⟩
    go_wp2
    go_ret
    exact ⟨rfl, ((Below.refl _ _).alloc (Nat.le_refl _) _).alloc (by simp) _⟩
set_option maxHeartbeats 1000000 in
theorem mnext_yes (c a k r : Int) (w : World) (h : MeterOk c a k) (h0 : 1 ≤ r) (h1 : r ≤ 1000) :
    Calls Tryd.prog 48 #[.agg #[.int .i64 c, .int .i64 a, .int .i64 k], .int .i64 r] w fun e w' => e = .returned (.tuple #[.int .i64 (PM.nxt c a k r), .nilIface]) ∧ Below w.heap.size w w' := by
  have H := Lib.hid h; clear h
  go_enter Tryd.func48, Tryd.ntmps48
  go_wp2_with fail
  refine (mchk_yes c a k r _ H.out h0 h1).mono ?_; rintro e w1 ⟨rfl, hb1⟩
  have HP := Lib.hid ((Blk.new w 77 #[.int .i64 c, .int .i64 a, .int .i64 k]).below hb1 (by simp))
  obtain ⟨p0, p1, p2, f0, f1, f2, z0⟩ := HP.out.three
  go_wp2_with fail
  refine (next_any c a k r _ H.out h0 h1).mono ?_; rintro e w2 ⟨rfl, hb2⟩
  go_wp2
  go_ret2
  exact ⟨rfl, (((Below.refl _ _).alloc (Nat.le_refl _) _).trans (hb1.mono (by simp))).trans (hb2.mono (by omega))⟩
set_option maxHeartbeats 1000000 in
theorem mnext_no (c a k r : Int) (w : World) (h : ¬ (MeterOk c a k ∧ 1 ≤ r ∧ r ≤ 1000)) :
    Calls Tryd.prog 48 #[.agg #[.int .i64 c, .int .i64 a, .int .i64 k], .int .i64 r] w fun e w' => e = .returned (.tuple #[.int .i64 0, .iface 124 (.int .i64 1)]) ∧ Below w.heap.size w w' := by
  have H := Lib.hid h; clear h
  go_enter Tryd.func48, Tryd.ntmps48
  go_wp2_with fail
  refine (mchk_no c a k r _ H.out).mono ?_; rintro e w1 ⟨rfl, hb1⟩
  go_wp2
  go_ret2
  exact ⟨rfl, ((Below.refl _ _).alloc (Nat.le_refl _) _).trans (hb1.mono (by simp))⟩
end Go.Proofs.YtkheobdkmmbjnaaDoor
