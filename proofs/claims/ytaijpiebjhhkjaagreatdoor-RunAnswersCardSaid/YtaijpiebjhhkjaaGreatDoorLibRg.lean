/- Several texts in one: RefGcd, RefFrac. -/
import Derived.Test.YtaijpiebjhhkjaaGreatDoorLibF
/- The reference's lowest terms. -/
namespace Go.Proofs.YtaijpiebjhhkjaaGreatDoor
open Go.RowKit
attribute [local go_sem ↓] run_min_mn run_max_mx
set_option maxHeartbeats 1000000 in
theorem refCommon_any (a b : Int) (w : World) (ha0 : -1000000000000000000 ≤ a) (ha1 : a ≤ 1000000000000000000) (hb0 : 0 ≤ b) (hb1 : b ≤ 1000000000000000000) :
    Calls Tryz.prog 63 #[.int .i64 a, .int .i64 b] w fun e w' => e = .returned (.int .i64 (Int.gcd a b)) ∧ w = w' := by
  obtain ⟨G, hG⟩ : ∃ G, Int.gcd a b = G := ⟨_, rfl⟩
  rw [hG]
  have step : ∀ a' : Int, 0 ≤ a' → a' ≤ 1000000000000000000 → Int.gcd b a' = G → Hid (0 ≤ a' ∧ a' ≤ 1000000000000000000 ∧ Int.gcd b a' = G) := fun a' h1 h2 h3 => Lib.hid ⟨h1, h2, h3⟩
  by_cases hn : a < 0
  · have H0 := step (-a) (by omega) (by omega) (by rw [← hG, Int.gcd_neg, Int.gcd_comm])
    clear hG step
    go_enter Tryz.func63, Tryz.ntmps63
    go_wp2
    go_loop [0, 1] (fun u v => ∃ (x y : Int), u = .int .i64 x ∧ v = .int .i64 y ∧ 0 ≤ x ∧ x ≤ 1000000000000000000 ∧ 0 ≤ y ∧ y ≤ 1000000000000000000 ∧ Hid (Int.gcd y x = G)) (fun u _ => (intOf u).natAbs)
    case atStart => exact ⟨-a, b, rfl, rfl, by omega, by omega, hb0, hb1, H0.out.2.2⟩
    case round =>
      obtain ⟨x, y, rfl, rfl, x0, x1, y0, y1, H⟩ := hrel
      by_cases hx : x = 0
      · subst hx
        have hm := gcd_zero_abs y
        rw [H.out] at hm
        have HM := Lib.hid (show (G : Int) = y by omega); clear hm
        go_wp2
        go_ret
        exact ⟨by rw [HM.out]; rfl, rfl⟩
      · have e1 : (x != 0) = true := by rw [bne_iff_ne]; exact hx
        have e2 : (x == 0) = false := beq_eq_false_iff_ne.2 hx
        have hs := gcd_step y x
        rw [Int.tmod_eq_emod_of_nonneg y0] at hs
        have HS := Lib.hid hs; clear hs
        have t0 : 0 ≤ y % x := Int.emod_nonneg _ hx
        have t1 : y % x < x := Int.emod_lt_of_pos _ (by omega)
        go_wp2
        go_round
        case rel => exact ⟨y % x, x, rfl, rfl, t0, by omega, x0, x1, Lib.hid (by rw [HS.out]; exact H.out)⟩
        case measure => simp [intOf]; omega
  · have H0 := step a (by omega) (by omega) (by rw [← hG, Int.gcd_comm])
    clear hG step
    go_enter Tryz.func63, Tryz.ntmps63
    go_wp2
    go_loop [0, 1] (fun u v => ∃ (x y : Int), u = .int .i64 x ∧ v = .int .i64 y ∧ 0 ≤ x ∧ x ≤ 1000000000000000000 ∧ 0 ≤ y ∧ y ≤ 1000000000000000000 ∧ Hid (Int.gcd y x = G)) (fun u _ => (intOf u).natAbs)
    case atStart => exact ⟨a, b, rfl, rfl, by omega, by omega, hb0, hb1, H0.out.2.2⟩
    case round =>
      obtain ⟨x, y, rfl, rfl, x0, x1, y0, y1, H⟩ := hrel
      by_cases hx : x = 0
      · subst hx
        have hm := gcd_zero_abs y
        rw [H.out] at hm
        have HM := Lib.hid (show (G : Int) = y by omega); clear hm
        go_wp2
        go_ret
        exact ⟨by rw [HM.out]; rfl, rfl⟩
      · have e1 : (x != 0) = true := by rw [bne_iff_ne]; exact hx
        have e2 : (x == 0) = false := beq_eq_false_iff_ne.2 hx
        have hs := gcd_step y x
        rw [Int.tmod_eq_emod_of_nonneg y0] at hs
        have HS := Lib.hid hs; clear hs
        have t0 : 0 ≤ y % x := Int.emod_nonneg _ hx
        have t1 : y % x < x := Int.emod_lt_of_pos _ (by omega)
        go_wp2
        go_round
        case rel => exact ⟨y % x, x, rfl, rfl, t0, by omega, x0, x1, Lib.hid (by rw [HS.out]; exact H.out)⟩
        case measure => simp [intOf]; omega
set_option maxHeartbeats 1000000 in
theorem refLow_any (t b : Int) (w : World) (ht0 : -1000000000000000000 ≤ t) (ht1 : t ≤ 1000000000000000000) (hb0 : 0 < b) (hb1 : b ≤ 1000000000000000000) :
    Calls Tryz.prog 30 #[.int .i64 t, .int .i64 b] w fun e w' => e = .returned (.agg #[.int .i64 (lowT t b), .int .i64 (lowB t b)]) ∧ Below w.heap.size w w' := by
  have HC := Lib.hid fun W => refCommon_any t b W ht0 ht1 (by omega) hb1
  have g1 := gcd_pos_of t b hb0
  have g2 := gcd_le_of t b hb0
  have d1 := abs_tdiv_le t (Int.gcd t b)
  unfold lowT lowB
  generalize Int.gcd t b = g at *
  have d2 : -1000000000000000000 ≤ t.tdiv g := by omega
  have d3 : t.tdiv g ≤ 1000000000000000000 := by omega
  clear d1
  have hz : ((g : Int) == 0) = false := beq_eq_false_iff_ne.2 (by omega)
  have hz' : (g : Int) ≠ 0 := by omega
  have hz1 : (g : Int) ≠ -1 := by omega
  have q0 : 0 ≤ b / (g : Int) := Int.ediv_nonneg (by omega) (by omega)
  have q1 : b / (g : Int) ≤ b := Int.ediv_le_self _ (by omega)
  go_enter Tryz.func30, Tryz.ntmps30
  go_wp2_with fail
  refine (HC.out _).mono ?_; rintro e w1 ⟨rfl, rfl⟩
  go_wp2
  go_region
  all_goals
    go_wp2
    refine bodyPost_ret (v := .agg #[.int .i64 (t.tdiv g), .int .i64 (b / g)]) (by simp [results, Tryz.results30, go_sem]) rfl ⟨rfl, ?_⟩
    repeat (first | exact Below.refl _ _ | apply Below.drew | apply below_drewN | refine Below.setCell ?_ (by simp <;> omega) _ | refine Below.alloc ?_ (by simp <;> omega) _)
end Go.Proofs.YtaijpiebjhhkjaaGreatDoor
/- The reference's fractions. -/
namespace Go.Proofs.YtaijpiebjhhkjaaGreatDoor
open Go.RowKit
attribute [local go_sem ↓] run_min_mn run_max_mx
theorem refWhole_any (n : Int) (w : World) :
    Calls Tryz.prog 47 #[.int .i64 n] w fun e w' => e = .returned (.agg #[.int .i64 n, .int .i64 1]) ∧ Below w.heap.size w w' := by
  go_enter Tryz.func47, Tryz.ntmps47
  go_wp2
  refine bodyPost_ret (v := .agg #[.int .i64 n, .int .i64 1]) (by simp [results, Tryz.results47, go_sem]) rfl ⟨rfl, ?_⟩
  repeat (first | exact Below.refl _ _ | apply Below.drew | refine Below.setCell ?_ (by simp) _ | refine Below.alloc ?_ (by simp) _)
theorem refMinus_any (t b : Int) (w : World) (h2 : -1000000000 ≤ t) (h3 : t ≤ 1000000000) :
    Calls Tryz.prog 50 #[.agg #[.int .i64 t, .int .i64 b]] w fun e w' => e = .returned (.agg #[.int .i64 (-t), .int .i64 b]) ∧ Below w.heap.size w w' := by
  go_enter Tryz.func50, Tryz.ntmps50
  go_wp2
  refine bodyPost_ret (v := .agg #[.int .i64 (-t), .int .i64 b]) (by simp [results, Tryz.results50, go_sem]) rfl ⟨rfl, ?_⟩
  repeat (first | exact Below.refl _ _ | apply Below.drew | apply below_drewN | refine Below.setCell ?_ (by simp) _ | refine Below.alloc ?_ (by simp) _)
set_option maxHeartbeats 1000000 in
theorem refSum_any (t b u c : Int) (w : World) (h : FracIn t b) (k : FracIn u c) :
    Calls Tryz.prog 49 #[.agg #[.int .i64 t, .int .i64 b], .agg #[.int .i64 u, .int .i64 c]] w fun e w' => e = .returned (.agg #[.int .i64 (sumT t b u c), .int .i64 (sumB t b u c)]) ∧ Below w.heap.size w w' := by
  obtain ⟨h0, h1, h2, h3⟩ := h
  obtain ⟨k0, k1, k2, k3⟩ := k
  obtain ⟨m1, m3⟩ := mul_in t c h2 h3 k0 k1
  obtain ⟨m2, m4⟩ := mul_in u b k2 k3 h0 h1
  obtain ⟨m5, m6⟩ := mul_pos_in b c h0 h1 k0 k1
  have HL := Lib.hid fun W => refLow_any (t * c + u * b) (b * c) W (by omega) (by omega) (by omega) (by omega)
  unfold sumT sumB
  generalize lowT (t * c + u * b) (b * c) = vt at *
  generalize lowB (t * c + u * b) (b * c) = vb at *
  go_enter Tryz.func49, Tryz.ntmps49
  go_wp2_with fail
  refine (HL.out _).mono ?_; rintro e w2 ⟨rfl, hb2⟩
  have hbel := ((((Below.refl w.heap.size w).alloc (Nat.le_refl _) (.cells #[.int .i64 t, .int .i64 b] 37)).alloc (by simp) (.cells #[.int .i64 u, .int .i64 c] 37)).alloc (by simp; omega) (.cells #[.int .i64 0, .int .i64 0] 37))
  have HP := Lib.hid ((Blk.new' ((w.alloc (.cells #[.int .i64 t, .int .i64 b] 37)).alloc (.cells #[.int .i64 u, .int .i64 c] 37)) 37 #[.int .i64 0, .int .i64 0] (g := w.heap.size + 1 + 1) (by simp)).below hb2 (by simp))
  obtain ⟨p0, p1, f0, f1, z0⟩ := HP.out.two
  have HBEL := Lib.hid (hbel.trans (hb2.mono (by simp; omega)))
  clear hbel hb2
  go_wp2
  refine bodyPost_ret (v := .agg #[.int .i64 vt, .int .i64 vb]) (by simp [results, Tryz.results49, go_sem, *]) rfl ⟨rfl, ?_⟩
  exact (HBEL.out.setCell (by first | (focus (simp; done)) | (simp; omega)) _).setCell (by first | (focus (simp; done)) | (simp; omega)) _
theorem refOrder_any (t b u c : Int) (w : World) (h : FracIn t b) (k : FracIn u c) :
    Calls Tryz.prog 51 #[.agg #[.int .i64 t, .int .i64 b], .agg #[.int .i64 u, .int .i64 c]] w fun e w' => e = .returned (.int .i64 (cmpI (t * c) (u * b))) ∧ Below w.heap.size w w' := by
  obtain ⟨h0, h1, h2, h3⟩ := h
  obtain ⟨k0, k1, k2, k3⟩ := k
  obtain ⟨m1, m3⟩ := mul_in t c h2 h3 k0 k1
  obtain ⟨m2, m4⟩ := mul_in u b k2 k3 h0 h1
  have hb0 : Below w.heap.size w ((w.alloc (.cells #[.int .i64 t, .int .i64 b] 37)).alloc (.cells #[.int .i64 u, .int .i64 c] 37)) := ((Below.refl _ _).alloc (Nat.le_refl _) _).alloc (by simp) _
  unfold cmpI
  by_cases hx : t * c < u * b
  · rw [if_pos hx]
    go_enter Tryz.func51, Tryz.ntmps51
    go_wp2
    go_ret
    exact ⟨rfl, hb0⟩
  · rw [if_neg hx]
    by_cases hy : u * b < t * c
    · rw [if_pos hy]
      go_enter Tryz.func51, Tryz.ntmps51
      go_wp2
      go_ret
      exact ⟨rfl, hb0⟩
    · rw [if_neg hy]
      go_enter Tryz.func51, Tryz.ntmps51
      go_wp2
      go_ret
      exact ⟨rfl, hb0⟩
theorem refSum_q (q r s : Rat) (w : World) (hq : QIn q) (hr : QIn r) (hs : q + r = s) :
    Calls Tryz.prog 49 #[.agg #[.int .i64 q.num, .int .i64 q.den], .agg #[.int .i64 r.num, .int .i64 r.den]] w fun e w' => e = .returned (.agg #[.int .i64 s.num, .int .i64 s.den]) ∧ Below w.heap.size w w' := by
  subst hs
  refine (refSum_any q.num q.den r.num r.den w hq hr).mono fun _ _ ⟨h1, h2⟩ => ⟨?_, h2⟩
  rw [h1]; unfold sumT sumB; rw [sum_num, sum_den]
theorem refMinus_q (q r : Rat) (w : World) (hq : QIn q) (hr : -q = r) :
    Calls Tryz.prog 50 #[.agg #[.int .i64 q.num, .int .i64 q.den]] w fun e w' => e = .returned (.agg #[.int .i64 r.num, .int .i64 r.den]) ∧ Below w.heap.size w w' := by
  subst hr
  refine (refMinus_any q.num q.den w hq.2.2.1 hq.2.2.2).mono fun _ _ ⟨h1, h2⟩ => ⟨?_, h2⟩
  rw [h1]; simp
theorem refOrder_q (q r : Rat) (o : Int) (w : World) (hq : QIn q) (hr : QIn r) (ho : ordQ q r = o) :
    Calls Tryz.prog 51 #[.agg #[.int .i64 q.num, .int .i64 q.den], .agg #[.int .i64 r.num, .int .i64 r.den]] w fun e w' => e = .returned (.int .i64 o) ∧ Below w.heap.size w w' := by
  subst ho
  refine (refOrder_any q.num q.den r.num r.den w hq hr).mono fun _ _ ⟨h1, h2⟩ => ⟨?_, h2⟩
  rw [h1, cmp_rat]
end Go.Proofs.YtaijpiebjhhkjaaGreatDoor
