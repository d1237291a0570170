/- The reference's fractions. -/
import Derived.Test.YtblanfaghnflkaaDoorRefGcd
import Derived.Test.YtblanfaghnflkaaDoorLibF
namespace Go.Proofs.YtblanfaghnflkaaDoor
open Go.RowKit
attribute [local go_sem ↓] run_min_mn run_max_mx
set_option maxHeartbeats 1000000 in
theorem refFrac_any (t b : Int) (w : World) :
    Calls Tryd.prog 16 #[.agg #[.int .i64 t, .int .i64 b]] w fun e w' => e = .returned (.int .i64 (fracErr t b)) ∧ Below w.heap.size w w' := by
  have hb0 : Below w.heap.size w (w.alloc (.cells #[.int .i64 t, .int .i64 b] 23)) := (Below.refl _ _).alloc (Nat.le_refl _) _
  by_cases h1 : b < 1
  · have e : fracErr t b = 1 := by unfold fracErr FracIn; rw [if_pos (by omega)]
    rw [e]; clear e
    go_enter Tryd.func16, Tryd.ntmps16
    go_wp2
    go_ret
    exact ⟨rfl, hb0⟩
  · by_cases h2 : 100000000 < b
    · have e : fracErr t b = 1 := by unfold fracErr FracIn; rw [if_pos (by omega)]
      rw [e]; clear e
      go_enter Tryd.func16, Tryd.ntmps16
      go_wp2
      go_ret
      exact ⟨rfl, hb0⟩
    · by_cases h3 : t < -1000000000
      · have e : fracErr t b = 1 := by unfold fracErr FracIn; rw [if_pos (by omega)]
        rw [e]; clear e
        go_enter Tryd.func16, Tryd.ntmps16
        go_wp2
        go_ret
        exact ⟨rfl, hb0⟩
      · by_cases h4 : 1000000000 < t
        · have e : fracErr t b = 1 := by unfold fracErr FracIn; rw [if_pos (by omega)]
          rw [e]; clear e
          go_enter Tryd.func16, Tryd.ntmps16
          go_wp2
          go_ret
          exact ⟨rfl, hb0⟩
        · have hin : FracIn t b := ⟨by omega, by omega, by omega, by omega⟩
          have e : fracErr t b = if Int.gcd t b ≠ 1 then 3 else 0 := by unfold fracErr; rw [if_neg (fun h => h hin)]
          rw [e]; clear e hin
          have HC := Lib.hid fun W => refCommon_any t b W (by omega) (by omega) (by omega) (by omega)
          by_cases hg : Int.gcd t b = 1
          · rw [if_neg (fun h => h hg)]
            rw [hg] at HC
            clear hg
            go_enter Tryd.func16, Tryd.ntmps16
            go_wp2_with fail
            refine (HC.out _).mono ?_; rintro e w' ⟨rfl, rfl⟩
            go_wp2
            go_ret
            exact ⟨rfl, hb0⟩
          · rw [if_pos hg]
            have hG : ((Int.gcd t b : Nat) : Int) ≠ 1 := by omega
            generalize Int.gcd t b = G at *
            have hn : ((G : Int) != 1) = true := by rw [bne_iff_ne]; exact hG
            clear hg hG
            go_enter Tryd.func16, Tryd.ntmps16
            go_wp2_with fail
            refine (HC.out _).mono ?_; rintro e w' ⟨rfl, rfl⟩
            go_wp2
            go_ret
            exact ⟨rfl, hb0⟩
theorem refBig_yes (t b : Int) (w : World) (h1 : 1 ≤ b) (h : ¬ FracIn t b) :
    Calls Tryd.prog 18 #[.agg #[.int .i64 t, .int .i64 b]] w fun e w' => e = .returned (.bool true) ∧ Below w.heap.size w w' := by
  unfold FracIn at h
  have hb0 : Below w.heap.size w (w.alloc (.cells #[.int .i64 t, .int .i64 b] 23)) := (Below.refl _ _).alloc (Nat.le_refl _) _
  by_cases h2 : 100000000 < b
  · clear h
    go_enter Tryd.func18, Tryd.ntmps18
    go_wp2
    go_ret
    exact ⟨rfl, hb0⟩
  · by_cases h3 : t < -1000000000
    · clear h
      go_enter Tryd.func18, Tryd.ntmps18
      go_wp2
      go_ret
      exact ⟨rfl, hb0⟩
    · have h4 : 1000000000 < t := by omega
      clear h
      go_enter Tryd.func18, Tryd.ntmps18
      go_wp2
      go_ret
      exact ⟨rfl, hb0⟩
theorem refBig_no (t b : Int) (w : World) (h : FracIn t b) :
    Calls Tryd.prog 18 #[.agg #[.int .i64 t, .int .i64 b]] w fun e w' => e = .returned (.bool false) ∧ Below w.heap.size w w' := by
  obtain ⟨h0, h1, h2, h3⟩ := h
  have e1 : decide (100000000 < b) = false := decide_eq_false (by omega)
  have e2 : decide (t < -1000000000) = false := decide_eq_false (by omega)
  have e3 : decide (1000000000 < t) = false := decide_eq_false (by omega)
  go_enter Tryd.func18, Tryd.ntmps18
  go_wp2
  go_ret
  exact ⟨rfl, (Below.refl _ _).alloc (Nat.le_refl _) _⟩
theorem refWhole_any (n : Int) (w : World) :
    Calls Tryd.prog 52 #[.int .i64 n] w fun e w' => e = .returned (.agg #[.int .i64 n, .int .i64 1]) ∧ Below w.heap.size w w' := by
  go_enter Tryd.func52, Tryd.ntmps52
  go_wp2
  refine bodyPost_ret (v := .agg #[.int .i64 n, .int .i64 1]) (by simp [results, Tryd.results52, go_sem]) rfl ⟨rfl, ?_⟩
  repeat (first | exact Below.refl _ _ | apply Below.drew | refine Below.setCell ?_ (by simp) _ | refine Below.alloc ?_ (by simp) _)
theorem refMinus_any (t b : Int) (w : World) (h2 : -1000000000 ≤ t) (h3 : t ≤ 1000000000) :
    Calls Tryd.prog 53 #[.agg #[.int .i64 t, .int .i64 b]] w fun e w' => e = .returned (.agg #[.int .i64 (-t), .int .i64 b]) ∧ Below w.heap.size w w' := by
  go_enter Tryd.func53, Tryd.ntmps53
  go_wp2
  refine bodyPost_ret (v := .agg #[.int .i64 (-t), .int .i64 b]) (by simp [results, Tryd.results53, go_sem]) rfl ⟨rfl, ?_⟩
  repeat (first | exact Below.refl _ _ | apply Below.drew | apply below_drewN | refine Below.setCell ?_ (by simp) _ | refine Below.alloc ?_ (by simp) _)
set_option maxHeartbeats 1000000 in
theorem refSum_any (t b u c : Int) (w : World) (h : FracIn t b) (k : FracIn u c) :
    Calls Tryd.prog 23 #[.agg #[.int .i64 t, .int .i64 b], .agg #[.int .i64 u, .int .i64 c]] w fun e w' => e = .returned (.agg #[.int .i64 (sumT t b u c), .int .i64 (sumB t b u c)]) ∧ Below w.heap.size w w' := by
  obtain ⟨h0, h1, h2, h3⟩ := h
  obtain ⟨k0, k1, k2, k3⟩ := k
  obtain ⟨m1, m3⟩ := mul_in t c h2 h3 k0 k1
  obtain ⟨m2, m4⟩ := mul_in u b k2 k3 h0 h1
  obtain ⟨m5, m6⟩ := mul_pos_in b c h0 h1 k0 k1
  have HL := Lib.hid fun W => refLow_any (t * c + u * b) (b * c) W (by omega) (by omega) (by omega) (by omega)
  unfold sumT sumB
  generalize lowT (t * c + u * b) (b * c) = vt at *
  generalize lowB (t * c + u * b) (b * c) = vb at *
  go_enter Tryd.func23, Tryd.ntmps23
  go_wp2_with fail
  refine (HL.out _).mono ?_; rintro e w2 ⟨rfl, hb2⟩
  have hbel := ((((Below.refl w.heap.size w).alloc (Nat.le_refl _) (.cells #[.int .i64 t, .int .i64 b] 23)).alloc (by simp) (.cells #[.int .i64 u, .int .i64 c] 23)).alloc (by simp; omega) (.cells #[.int .i64 0, .int .i64 0] 23))
  have HP := Lib.hid ((Blk.new' ((w.alloc (.cells #[.int .i64 t, .int .i64 b] 23)).alloc (.cells #[.int .i64 u, .int .i64 c] 23)) 23 #[.int .i64 0, .int .i64 0] (g := w.heap.size + 1 + 1) (by simp)).below hb2 (by simp))
  obtain ⟨p0, p1, f0, f1, z0⟩ := HP.out.two
  have HBEL := Lib.hid (hbel.trans (hb2.mono (by simp; omega)))
  clear hbel hb2
  go_wp2
  refine bodyPost_ret (v := .agg #[.int .i64 vt, .int .i64 vb]) (by simp [results, Tryd.results23, go_sem, *]) rfl ⟨rfl, ?_⟩
  exact (HBEL.out.setCell (by first | (focus (simp; done)) | (simp; omega)) _).setCell (by first | (focus (simp; done)) | (simp; omega)) _
theorem refOrder_any (t b u c : Int) (w : World) (h : FracIn t b) (k : FracIn u c) :
    Calls Tryd.prog 21 #[.agg #[.int .i64 t, .int .i64 b], .agg #[.int .i64 u, .int .i64 c]] w fun e w' => e = .returned (.int .i64 (cmpI (t * c) (u * b))) ∧ Below w.heap.size w w' := by
  obtain ⟨h0, h1, h2, h3⟩ := h
  obtain ⟨k0, k1, k2, k3⟩ := k
  obtain ⟨m1, m3⟩ := mul_in t c h2 h3 k0 k1
  obtain ⟨m2, m4⟩ := mul_in u b k2 k3 h0 h1
  have hb0 : Below w.heap.size w ((w.alloc (.cells #[.int .i64 t, .int .i64 b] 23)).alloc (.cells #[.int .i64 u, .int .i64 c] 23)) := ((Below.refl _ _).alloc (Nat.le_refl _) _).alloc (by simp) _
  unfold cmpI
  by_cases hx : t * c < u * b
  · rw [if_pos hx]
    go_enter Tryd.func21, Tryd.ntmps21
    go_wp2
    go_ret
    exact ⟨rfl, hb0⟩
  · rw [if_neg hx]
    by_cases hy : u * b < t * c
    · rw [if_pos hy]
      go_enter Tryd.func21, Tryd.ntmps21
      go_wp2
      go_ret
      exact ⟨rfl, hb0⟩
    · rw [if_neg hy]
      go_enter Tryd.func21, Tryd.ntmps21
      go_wp2
      go_ret
      exact ⟨rfl, hb0⟩
theorem refSum_q (q r s : Rat) (w : World) (hq : QIn q) (hr : QIn r) (hs : q + r = s) :
    Calls Tryd.prog 23 #[.agg #[.int .i64 q.num, .int .i64 q.den], .agg #[.int .i64 r.num, .int .i64 r.den]] w fun e w' => e = .returned (.agg #[.int .i64 s.num, .int .i64 s.den]) ∧ Below w.heap.size w w' := by
  subst hs
  refine (refSum_any q.num q.den r.num r.den w hq hr).mono fun _ _ ⟨h1, h2⟩ => ⟨?_, h2⟩
  rw [h1]; unfold sumT sumB; rw [sum_num, sum_den]
theorem refMinus_q (q r : Rat) (w : World) (hq : QIn q) (hr : -q = r) :
    Calls Tryd.prog 53 #[.agg #[.int .i64 q.num, .int .i64 q.den]] w fun e w' => e = .returned (.agg #[.int .i64 r.num, .int .i64 r.den]) ∧ Below w.heap.size w w' := by
  subst hr
  refine (refMinus_any q.num q.den w hq.2.2.1 hq.2.2.2).mono fun _ _ ⟨h1, h2⟩ => ⟨?_, h2⟩
  rw [h1]; simp
theorem refOrder_q (q r : Rat) (o : Int) (w : World) (hq : QIn q) (hr : QIn r) (ho : ordQ q r = o) :
    Calls Tryd.prog 21 #[.agg #[.int .i64 q.num, .int .i64 q.den], .agg #[.int .i64 r.num, .int .i64 r.den]] w fun e w' => e = .returned (.int .i64 o) ∧ Below w.heap.size w w' := by
  subst ho
  refine (refOrder_any q.num q.den r.num r.den w hq hr).mono fun _ _ ⟨h1, h2⟩ => ⟨?_, h2⟩
  rw [h1, cmp_rat]
end Go.Proofs.YtblanfaghnflkaaDoor
