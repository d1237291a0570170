/- The reference's lowest terms. -/
import Derived.Test.YtaijpiebjhhkjaaGreatDoorLibF
namespace Go.Proofs.YtaijpiebjhhkjaaGreatDoor
open Go.RowKit
attribute [local go_sem ↓] run_min_mn run_max_mx
set_option maxHeartbeats 1000000 in
theorem refCommon_any (a b : Int) (w : World) (ha0 : -1000000000000000000 ≤ a) (ha1 : a ≤ 1000000000000000000) (hb0 : 0 ≤ b) (hb1 : b ≤ 1000000000000000000) :
    Calls Tryz.prog 63 #[.int .i64 a, .int .i64 b] w fun e w' => e = .returned (.int .i64 (Int.gcd a b)) ∧ w = w' := by
  obtain ⟨G, hG⟩ : ∃ G, Int.gcd a b = G := ⟨_, rfl⟩
  rw [hG]
  have step : ∀ a' : Int, 0 ≤ a' → a' ≤ 1000000000000000000 → Int.gcd b a' = G → Hid (0 ≤ a' ∧ a' ≤ 1000000000000000000 ∧ Int.gcd b a' = G) := fun a' h1 h2 h3 => Lib.hid ⟨h1, h2, h3⟩
  by_cases hn : a < 0
  · have H0 := step (-a) (by omega) (by omega) (by rw [← hG, Int.gcd_neg, Int.gcd_comm])
    clear hG step
    go_enter Tryz.func63, Tryz.ntmps63
    go_wp2
    go_loop [0, 1] (fun u v => ∃ (x y : Int), u = .int .i64 x ∧ v = .int .i64 y ∧ 0 ≤ x ∧ x ≤ 1000000000000000000 ∧ 0 ≤ y ∧ y ≤ 1000000000000000000 ∧ Hid (Int.gcd y x = G)) (fun u _ => (intOf u).natAbs)
    case atStart => exact ⟨-a, b, rfl, rfl, by omega, by omega, hb0, hb1, H0.out.2.2⟩
    case round =>
      obtain ⟨x, y, rfl, rfl, x0, x1, y0, y1, H⟩ := hrel
      by_cases hx : x = 0
      · subst hx
        have hm := gcd_zero_abs y
        rw [H.out] at hm
        have HM := Lib.hid (show (G : Int) = y by omega); clear hm
        go_wp2
        go_ret
        exact ⟨by rw [HM.out]; rfl, rfl⟩
      · have e1 : (x != 0) = true := by rw [bne_iff_ne]; exact hx
        have e2 : (x == 0) = false := beq_eq_false_iff_ne.2 hx
        have hs := gcd_step y x
        rw [Int.tmod_eq_emod_of_nonneg y0] at hs
        have HS := Lib.hid hs; clear hs
        have t0 : 0 ≤ y % x := Int.emod_nonneg _ hx
        have t1 : y % x < x := Int.emod_lt_of_pos _ (by omega)
        go_wp2
        go_round
        case rel => exact ⟨y % x, x, rfl, rfl, t0, by omega, x0, x1, Lib.hid (by rw [HS.out]; exact H.out)⟩
        case measure => simp [intOf]; omega
  · have H0 := step a (by omega) (by omega) (by rw [← hG, Int.gcd_comm])
    clear hG step
    go_enter Tryz.func63, Tryz.ntmps63
    go_wp2
    go_loop [0, 1] (fun u v => ∃ (x y : Int), u = .int .i64 x ∧ v = .int .i64 y ∧ 0 ≤ x ∧ x ≤ 1000000000000000000 ∧ 0 ≤ y ∧ y ≤ 1000000000000000000 ∧ Hid (Int.gcd y x = G)) (fun u _ => (intOf u).natAbs)
    case atStart => exact ⟨a, b, rfl, rfl, by omega, by omega, hb0, hb1, H0.out.2.2⟩
    case round =>
      obtain ⟨x, y, rfl, rfl, x0, x1, y0, y1, H⟩ := hrel
      by_cases hx : x = 0
      · subst hx
        have hm := gcd_zero_abs y
        rw [H.out] at hm
        have HM := Lib.hid (show (G : Int) = y by omega); clear hm
        go_wp2
        go_ret
        exact ⟨by rw [HM.out]; rfl, rfl⟩
      · have e1 : (x != 0) = true := by rw [bne_iff_ne]; exact hx
        have e2 : (x == 0) = false := beq_eq_false_iff_ne.2 hx
        have hs := gcd_step y x
        rw [Int.tmod_eq_emod_of_nonneg y0] at hs
        have HS := Lib.hid hs; clear hs
        have t0 : 0 ≤ y % x := Int.emod_nonneg _ hx
        have t1 : y % x < x := Int.emod_lt_of_pos _ (by omega)
        go_wp2
        go_round
        case rel => exact ⟨y % x, x, rfl, rfl, t0, by omega, x0, x1, Lib.hid (by rw [HS.out]; exact H.out)⟩
        case measure => simp [intOf]; omega
set_option maxHeartbeats 1000000 in
theorem refLow_any (t b : Int) (w : World) (ht0 : -1000000000000000000 ≤ t) (ht1 : t ≤ 1000000000000000000) (hb0 : 0 < b) (hb1 : b ≤ 1000000000000000000) :
    Calls Tryz.prog 30 #[.int .i64 t, .int .i64 b] w fun e w' => e = .returned (.agg #[.int .i64 (lowT t b), .int .i64 (lowB t b)]) ∧ Below w.heap.size w w' := by
  have HC := Lib.hid fun W => refCommon_any t b W ht0 ht1 (by omega) hb1
  have g1 := gcd_pos_of t b hb0
  have g2 := gcd_le_of t b hb0
  have d1 := abs_tdiv_le t (Int.gcd t b)
  unfold lowT lowB
  generalize Int.gcd t b = g at *
  have d2 : -1000000000000000000 ≤ t.tdiv g := by omega
  have d3 : t.tdiv g ≤ 1000000000000000000 := by omega
  clear d1
  have hz : ((g : Int) == 0) = false := beq_eq_false_iff_ne.2 (by omega)
  have hz' : (g : Int) ≠ 0 := by omega
  have hz1 : (g : Int) ≠ -1 := by omega
  have q0 : 0 ≤ b / (g : Int) := Int.ediv_nonneg (by omega) (by omega)
  have q1 : b / (g : Int) ≤ b := Int.ediv_le_self _ (by omega)
  go_enter Tryz.func30, Tryz.ntmps30
  go_wp2_with fail
  refine (HC.out _).mono ?_; rintro e w1 ⟨rfl, rfl⟩
  go_wp2
  go_region
  all_goals
    go_wp2
    refine bodyPost_ret (v := .agg #[.int .i64 (t.tdiv g), .int .i64 (b / g)]) (by simp [results, Tryz.results30, go_sem]) rfl ⟨rfl, ?_⟩
    repeat (first | exact Below.refl _ _ | apply Below.drew | apply below_drewN | refine Below.setCell ?_ (by simp <;> omega) _ | refine Below.alloc ?_ (by simp <;> omega) _)
end Go.Proofs.YtaijpiebjhhkjaaGreatDoor
