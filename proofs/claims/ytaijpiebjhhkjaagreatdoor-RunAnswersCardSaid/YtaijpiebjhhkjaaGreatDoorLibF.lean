/- Several texts in one: Gcd, Frac, FracCmp, PlRat, Frac2, Frac3, Frs. -/
import Derived.Test.YtaijpiebjhhkjaaGreatDoorLibA
import Derived.WalkSpells
/- What goes into both: frac.common, frac.Low, and the reference's. -/
namespace Go.Proofs.YtaijpiebjhhkjaaGreatDoor
open Go.RowKit
attribute [local go_sem ↓] run_min_mn run_max_mx
theorem gcd_step (x y : Int) : Int.gcd y (x.tmod y) = Int.gcd x y := by
  show Nat.gcd y.natAbs (x.tmod y).natAbs = Nat.gcd x.natAbs y.natAbs
  rw [Int.natAbs_tmod, Nat.gcd_comm x.natAbs, Nat.gcd_rec y.natAbs x.natAbs, Nat.gcd_comm]
theorem tmod_lt (x y : Int) (hy : y ≠ 0) : (x.tmod y).natAbs < y.natAbs := by
  rw [Int.natAbs_tmod]; exact Nat.mod_lt _ (by omega)
theorem gcd_zero_abs (x : Int) : ((Int.gcd x 0 : Nat) : Int) = max x (-x) := by
  rw [Int.gcd_zero_right]; omega
theorem drewN_add (w : World) (a b : Nat) : (w.drewN a).drewN b = w.drewN (a + b) := by simp [World.drewN, Nat.add_assoc]
set_option maxHeartbeats 1000000 in
theorem common_any (a b : Int) (w : World) (ha0 : -1000000000000000000 ≤ a) (ha1 : a ≤ 1000000000000000000) (hb0 : -1000000000000000000 ≤ b) (hb1 : b ≤ 1000000000000000000) :
    Calls Tryz.prog 131 #[.int .i64 a, .int .i64 b] w fun e w' => e = .returned (.int .i64 (Int.gcd a b)) ∧ ∃ n, w' = w.drewN n := by
  obtain ⟨G, hG⟩ : ∃ G, Int.gcd a b = G := ⟨_, rfl⟩
  rw [hG]
  have HG := Lib.hid hG; clear hG
  go_enter Tryz.func131, Tryz.ntmps131
  go_wp2
  go_loopw [0, 1] (fun u v wr => ∃ (x y : Int) (d : Nat), u = .int .i64 x ∧ v = .int .i64 y ∧ -1000000000000000000 ≤ x ∧ x ≤ 1000000000000000000 ∧ -1000000000000000000 ≤ y ∧ y ≤ 1000000000000000000 ∧ Hid (Int.gcd x y = G) ∧ wr = w.drewN d)
    (fun _ v _ => (intOf v).natAbs)
  case atStart => exact ⟨a, b, 0, rfl, rfl, ha0, ha1, hb0, hb1, HG, rfl⟩
  case round =>
    obtain ⟨x, y, d, rfl, rfl, x0, x1, y0, y1, H, rfl⟩ := hrel
    by_cases hy : y = 0
    · subst hy
      have hm := gcd_zero_abs x
      rw [H.out] at hm
      have HM := Lib.hid hm; clear hm
      go_wp2
      go_ret
      exact ⟨by rw [HM.out]; rfl, _, rfl⟩
    · have e1 : (y != 0) = true := by rw [bne_iff_ne]; exact hy
      have e2 : (y == 0) = false := beq_eq_false_iff_ne.2 hy
      have ht := tmod_lt x y hy
      have t0 : -1000000000000000000 ≤ x.tmod y := by omega
      have t1 : x.tmod y ≤ 1000000000000000000 := by omega
      have HS := Lib.hid (gcd_step x y)
      clear ht
      go_wp2
      go_quiet (fail)
      go_wp2
      go_roundw
      case rel => exact ⟨y, x.tmod y, _, rfl, rfl, y0, y1, t0, t1, Lib.hid (by rw [HS.out]; exact H.out), drewN_add _ _ _⟩
      case measure => simp [intOf]; exact Nat.mod_lt _ (by omega)
/-- lowest terms -/
def lowT (t b : Int) : Int := t.tdiv (Int.gcd t b)
def lowB (t b : Int) : Int := b / (Int.gcd t b)
theorem gcd_pos_of (t b : Int) (hb : 0 < b) : 0 < Int.gcd t b := Int.gcd_pos_of_ne_zero_right _ (by omega)
theorem gcd_le_of (t b : Int) (hb : 0 < b) : ((Int.gcd t b : Nat) : Int) ≤ b := Int.le_of_dvd hb (Int.gcd_dvd_right ..)
theorem abs_tdiv_le (t g : Int) : -(t.natAbs : Int) ≤ t.tdiv g ∧ t.tdiv g ≤ t.natAbs := by
  have := Int.natAbs_tdiv_le_natAbs t g
  omega
set_option maxHeartbeats 1000000 in
theorem low_any (t b : Int) (w : World) (ht0 : -1000000000000000000 ≤ t) (ht1 : t ≤ 1000000000000000000) (hb0 : 0 < b) (hb1 : b ≤ 1000000000000000000) :
    Calls Tryz.prog 151 #[.int .i64 t, .int .i64 b] w fun e w' => e = .returned (.agg #[.int .i64 (lowT t b), .int .i64 (lowB t b)]) ∧ Below w.heap.size w w' := by
  have HC := Lib.hid fun W => common_any t b W ht0 ht1 (by omega) hb1
  have g1 := gcd_pos_of t b hb0
  have g2 := gcd_le_of t b hb0
  have d1 := abs_tdiv_le t (Int.gcd t b)
  unfold lowT lowB
  generalize Int.gcd t b = g at *
  have d2 : -1000000000000000000 ≤ t.tdiv g := by omega
  have d3 : t.tdiv g ≤ 1000000000000000000 := by omega
  clear d1
  have hz : ((g : Int) == 0) = false := beq_eq_false_iff_ne.2 (by omega)
  have hz' : (g : Int) ≠ 0 := by omega
  have hz1 : (g : Int) ≠ -1 := by omega
  have q0 : 0 ≤ b / (g : Int) := Int.ediv_nonneg (by omega) (by omega)
  have q1 : b / (g : Int) ≤ b := Int.ediv_le_self _ (by omega)
  go_enter Tryz.func151, Tryz.ntmps151
  go_wp2_with fail
  refine (HC.out _).mono ?_; rintro e w1 ⟨rfl, n, rfl⟩
  go_wp2
  go_region
  all_goals
    go_wp2
    refine bodyPost_ret (v := .agg #[.int .i64 (t.tdiv g), .int .i64 (b / g)]) (by simp [results, Tryz.results151, go_sem]) rfl ⟨rfl, ?_⟩
    repeat (first | exact Below.refl _ _ | apply Below.drew | apply below_drewN | refine Below.setCell ?_ (by simp <;> omega) _ | refine Below.alloc ?_ (by simp <;> omega) _)
end Go.Proofs.YtaijpiebjhhkjaaGreatDoor
/- Package frac: what its functions compute (first part: checks, order, of two numbers). -/
namespace Go.Proofs.YtaijpiebjhhkjaaGreatDoor
open Go.RowKit
attribute [local go_sem ↓] run_min_mn run_max_mx
theorem top_yes (n : Int) (w : World) (h0 : -1000000000 ≤ n) (h1 : n ≤ 1000000000) : Calls Tryz.prog 130 #[.int .i64 n] w fun e w' => e = .returned (.bool true) ∧ w = w' := by
  go_enter Tryz.func130, Tryz.ntmps130
  go_wp2
  go_ret
  exact ⟨rfl, rfl⟩
theorem top_no (n : Int) (w : World) (h : n < -1000000000 ∨ 1000000000 < n) : Calls Tryz.prog 130 #[.int .i64 n] w fun e w' => e = .returned (.bool false) ∧ w = w' := by
  rcases h with h | h
  · have hd : decide (-1000000000 ≤ n) = false := decide_eq_false (by omega)
    go_enter Tryz.func130, Tryz.ntmps130
    go_wp2
    go_ret
    exact ⟨rfl, rfl⟩
  · have h0 : -1000000000 ≤ n := by omega
    have hd : decide (n ≤ 1000000000) = false := decide_eq_false (by omega)
    go_enter Tryz.func130, Tryz.ntmps130
    go_wp2
    go_ret
    exact ⟨rfl, rfl⟩
theorem bottom_yes (n : Int) (w : World) (h0 : 1 ≤ n) (h1 : n ≤ 100000000) : Calls Tryz.prog 129 #[.int .i64 n] w fun e w' => e = .returned (.bool true) ∧ w = w' := by
  go_enter Tryz.func129, Tryz.ntmps129
  go_wp2
  go_ret
  exact ⟨rfl, rfl⟩
theorem bottom_no (n : Int) (w : World) (h : n < 1 ∨ 100000000 < n) : Calls Tryz.prog 129 #[.int .i64 n] w fun e w' => e = .returned (.bool false) ∧ w = w' := by
  rcases h with h | h
  · have hd : decide (1 ≤ n) = false := decide_eq_false (by omega)
    go_enter Tryz.func129, Tryz.ntmps129
    go_wp2
    go_ret
    exact ⟨rfl, rfl⟩
  · have h0 : 1 ≤ n := by omega
    have hd : decide (n ≤ 100000000) = false := decide_eq_false (by omega)
    go_enter Tryz.func129, Tryz.ntmps129
    go_wp2
    go_ret
    exact ⟨rfl, rfl⟩
/-- the numbers that may be -/
def FracIn (t b : Int) : Prop := 1 ≤ b ∧ b ≤ 100000000 ∧ -1000000000 ≤ t ∧ t ≤ 1000000000
instance (t b : Int) : Decidable (FracIn t b) := by unfold FracIn; infer_instance
def fracErr (t b : Int) : Int := if ¬ FracIn t b then 1 else if Int.gcd t b ≠ 1 then 3 else 0
theorem frac_ok {t b : Int} (h : fracErr t b = 0) : FracIn t b ∧ Int.gcd t b = 1 := by
  unfold fracErr at h
  split at h
  · omega
  · split at h
    · omega
    · rename_i h1 h2
      exact ⟨Decidable.not_not.1 h1, Decidable.not_not.1 h2⟩
set_option maxHeartbeats 1000000 in
theorem fcheck_all (t b : Int) (w : World) : Calls Tryz.prog 93 #[.agg #[.int .i64 t, .int .i64 b]] w fun e w' => e = .returned (errVal (fracErr t b)) ∧ Below w.heap.size w w' := by
  have b0 : Below w.heap.size w (w.alloc (.cells #[.int .i64 t, .int .i64 b] 37)) := (Below.refl _ _).alloc (Nat.le_refl _) _
  by_cases hb : b < 1 ∨ 100000000 < b
  · have e : fracErr t b = 1 := by unfold fracErr FracIn; rw [if_pos (by omega)]
    rw [e]; clear e
    go_enter Tryz.func93, Tryz.ntmps93
    go_wp2_with fail
    refine (bottom_no b _ hb).mono ?_; rintro e w' ⟨rfl, rfl⟩
    clear hb
    go_wp2
    go_ret
    exact ⟨rfl, b0⟩
  · have h0 : 1 ≤ b := by omega
    have h1 : b ≤ 100000000 := by omega
    by_cases ht : t < -1000000000 ∨ 1000000000 < t
    · have e : fracErr t b = 1 := by unfold fracErr FracIn; rw [if_pos (by omega)]
      rw [e]; clear e hb
      go_enter Tryz.func93, Tryz.ntmps93
      go_wp2_with fail
      refine (bottom_yes b _ h0 h1).mono ?_; rintro e w' ⟨rfl, rfl⟩
      go_wp2_with fail
      refine (top_no t _ ht).mono ?_; rintro e w' ⟨rfl, rfl⟩
      clear ht
      go_wp2
      go_ret
      exact ⟨rfl, b0⟩
    · have h2 : -1000000000 ≤ t := by omega
      have h3 : t ≤ 1000000000 := by omega
      have hin : FracIn t b := ⟨h0, h1, h2, h3⟩
      have e : fracErr t b = if Int.gcd t b ≠ 1 then 3 else 0 := by unfold fracErr; rw [if_neg (fun h => h hin)]
      rw [e]; clear e hb ht
      have HC := Lib.hid fun W => common_any t b W (by omega) (by omega) (by omega) (by omega)
      by_cases hg : Int.gcd t b = 1
      · rw [if_neg (fun h => h hg)]
        rw [hg] at HC
        clear hg
        go_enter Tryz.func93, Tryz.ntmps93
        go_wp2_with fail
        refine (bottom_yes b _ h0 h1).mono ?_; rintro e w' ⟨rfl, rfl⟩
        go_wp2_with fail
        refine (top_yes t _ h2 h3).mono ?_; rintro e w' ⟨rfl, rfl⟩
        go_wp2_with fail
        refine (HC.out _).mono ?_; rintro e w' ⟨rfl, n, rfl⟩
        go_wp2
        go_ret
        exact ⟨rfl, below_drewN b0 n⟩
      · rw [if_pos hg]
        have hG : ((Int.gcd t b : Nat) : Int) ≠ 1 := by omega
        generalize Int.gcd t b = G at *
        have hn : ((G : Int) != 1) = true := by rw [bne_iff_ne]; exact hG
        clear hg hG
        go_enter Tryz.func93, Tryz.ntmps93
        go_wp2_with fail
        refine (bottom_yes b _ h0 h1).mono ?_; rintro e w' ⟨rfl, rfl⟩
        go_wp2_with fail
        refine (top_yes t _ h2 h3).mono ?_; rintro e w' ⟨rfl, rfl⟩
        go_wp2_with fail
        refine (HC.out _).mono ?_; rintro e w' ⟨rfl, n, rfl⟩
        go_wp2
        go_ret
        exact ⟨rfl, below_drewN b0 n⟩
theorem mul_in (t b : Int) (h0 : -1000000000 ≤ t) (h1 : t ≤ 1000000000) (h2 : 1 ≤ b) (h3 : b ≤ 100000000) : -100000000000000000 ≤ t * b ∧ t * b ≤ 100000000000000000 := by
  have a : t * b ≤ 1000000000 * b := Int.mul_le_mul_of_nonneg_right h1 (by omega)
  have c : -1000000000 * b ≤ t * b := Int.mul_le_mul_of_nonneg_right h0 (by omega)
  omega
theorem order_any (t b u c : Int) (w : World) (h : FracIn t b) (k : FracIn u c) :
    Calls Tryz.prog 66 #[.agg #[.int .i64 t, .int .i64 b], .agg #[.int .i64 u, .int .i64 c]] w fun e w' => e = .returned (.int .i64 (cmpI (t * c) (u * b))) ∧ Below w.heap.size w w' := by
  obtain ⟨h0, h1, h2, h3⟩ := h
  obtain ⟨k0, k1, k2, k3⟩ := k
  have m1 := mul_in t c h2 h3 k0 k1
  have m2 := mul_in u b k2 k3 h0 h1
  obtain ⟨m1, m3⟩ := m1
  obtain ⟨m2, m4⟩ := m2
  go_enter Tryz.func66, Tryz.ntmps66
  go_wp2_with fail
  refine (cmp_any _ _ _).mono ?_; rintro e w' ⟨rfl, rfl⟩
  go_wp2
  go_ret
  exact ⟨rfl, ((Below.refl _ _).alloc (Nat.le_refl _) _).alloc (by simp) _⟩
end Go.Proofs.YtaijpiebjhhkjaaGreatDoor
/- frac.checks of two, frac.Compare. -/
namespace Go.Proofs.YtaijpiebjhhkjaaGreatDoor
open Go.RowKit
attribute [local go_sem ↓] run_min_mn run_max_mx
theorem fcheck_no (t b er : Int) (w : World) (h : fracErr t b = er) (hp : er ≠ 0) : Calls Tryz.prog 93 #[.agg #[.int .i64 t, .int .i64 b]] w fun e w' => e = .returned (.iface 74 (.int .i64 er)) ∧ Below w.heap.size w w' :=
  (fcheck_all t b w).mono fun _ _ ⟨h1, h2⟩ => ⟨by rw [h1, h, errVal_pos hp], h2⟩
theorem fcheck_yes (t b : Int) (w : World) (h : fracErr t b = 0) : Calls Tryz.prog 93 #[.agg #[.int .i64 t, .int .i64 b]] w fun e w' => e = .returned .nilIface ∧ Below w.heap.size w w' :=
  (fcheck_all t b w).mono fun _ _ ⟨h1, h2⟩ => ⟨by rw [h1, h, errVal_zero], h2⟩
set_option maxHeartbeats 2000000 in
theorem checks_first (t b u c er : Int) (g : Nat) (w : World) (hb : Blk w g 37 #[.int .i64 t, .int .i64 b, .int .i64 u, .int .i64 c]) (h : fracErr t b = er) (hp : er ≠ 0) :
    Calls Tryz.prog 125 #[.slice (some ⟨g, 0, none⟩) 2 2] w fun e w' => e = .returned (.iface 74 (.int .i64 er)) ∧ Below w.heap.size w w' := by
  obtain ⟨p0, p1, p2, p3, f0, f1, f2, f3, z0⟩ := hb.four
  have z1 : g < w.heap.size + 1 := by omega
  have H := Lib.hid h
  have HP := Lib.hid hp
  clear hb h hp
  go_enter Tryz.func125, Tryz.ntmps125
  go_wp2_with fail
  refine wp_loop_rounds 3 ?_
  rw [rounds_succ]
  go_wp2_with fail
  refine (fcheck_no t b er _ H.out HP.out).mono ?_; rintro e w1 ⟨rfl, hb1⟩
  have HBL := Lib.hid (((Below.refl w.heap.size w).alloc (Nat.le_refl _) (.cells #[.int .i64 t, .int .i64 b] 37)).trans (hb1.mono (by simp)))
  clear hb1
  go_wp2
  go_ret
  exact ⟨rfl, HBL.out⟩
set_option maxHeartbeats 4000000 in
theorem checks_second (t b u c er : Int) (g : Nat) (w : World) (hb : Blk w g 37 #[.int .i64 t, .int .i64 b, .int .i64 u, .int .i64 c]) (h : fracErr t b = 0) (k : fracErr u c = er) (hp : er ≠ 0) :
    Calls Tryz.prog 125 #[.slice (some ⟨g, 0, none⟩) 2 2] w fun e w' => e = .returned (.iface 74 (.int .i64 er)) ∧ Below w.heap.size w w' := by
  have HB := Lib.hid hb
  obtain ⟨p0, p1, p2, p3, f0, f1, f2, f3, z0⟩ := hb.four
  have z1 : g < w.heap.size + 1 := by omega
  have H := Lib.hid h
  have K := Lib.hid k
  have HP := Lib.hid hp
  clear hb h hp k
  go_enter Tryz.func125, Tryz.ntmps125
  go_wp2_with fail
  refine wp_loop_rounds 3 ?_
  rw [rounds_succ]
  go_wp2_with fail
  refine (fcheck_yes t b _ H.out).mono ?_; rintro e w1 ⟨rfl, hb1⟩
  have HBL := Lib.hid (((Below.refl w.heap.size w).alloc (Nat.le_refl _) (.cells #[.int .i64 t, .int .i64 b] 37)).trans (hb1.mono (by simp)))
  have HB1 := Lib.hid (HB.out.below HBL.out z0)
  clear hb1 p0 p1 p2 p3 f0 f1 f2 f3 z1
  obtain ⟨p0, p1, p2, p3, f0, f1, f2, f3, z2⟩ := HB1.out.four
  have z3 : g < w1.heap.size + 1 := by omega
  go_wp2_with fail
  rw [rounds_succ]
  go_wp2_with fail
  refine (fcheck_no u c er _ K.out HP.out).mono ?_; rintro e w2 ⟨rfl, hb2⟩
  have HBL2 := Lib.hid ((HBL.out.alloc HBL.out.size (.cells #[.int .i64 u, .int .i64 c] 37)).trans (hb2.mono (by have := HBL.out.size; simp; omega)))
  clear hb2
  go_wp2
  go_ret
  exact ⟨rfl, HBL2.out⟩
set_option maxHeartbeats 4000000 in
theorem checks_ok (t b u c : Int) (g : Nat) (w : World) (hb : Blk w g 37 #[.int .i64 t, .int .i64 b, .int .i64 u, .int .i64 c]) (h : fracErr t b = 0) (k : fracErr u c = 0) :
    Calls Tryz.prog 125 #[.slice (some ⟨g, 0, none⟩) 2 2] w fun e w' => e = .returned .nilIface ∧ Below w.heap.size w w' := by
  have HB := Lib.hid hb
  obtain ⟨p0, p1, p2, p3, f0, f1, f2, f3, z0⟩ := hb.four
  have z1 : g < w.heap.size + 1 := by omega
  have H := Lib.hid h
  have K := Lib.hid k
  clear hb h k
  go_enter Tryz.func125, Tryz.ntmps125
  go_wp2_with fail
  refine wp_loop_rounds 3 ?_
  rw [rounds_succ]
  go_wp2_with fail
  refine (fcheck_yes t b _ H.out).mono ?_; rintro e w1 ⟨rfl, hb1⟩
  have HBL := Lib.hid (((Below.refl w.heap.size w).alloc (Nat.le_refl _) (.cells #[.int .i64 t, .int .i64 b] 37)).trans (hb1.mono (by simp)))
  have HB1 := Lib.hid (HB.out.below HBL.out z0)
  clear hb1 p0 p1 p2 p3 f0 f1 f2 f3 z1
  obtain ⟨p0, p1, p2, p3, f0, f1, f2, f3, z2⟩ := HB1.out.four
  have z3 : g < w1.heap.size + 1 := by omega
  go_wp2_with fail
  rw [rounds_succ]
  go_wp2_with fail
  refine (fcheck_yes u c _ K.out).mono ?_; rintro e w2 ⟨rfl, hb2⟩
  have HBL2 := Lib.hid ((HBL.out.alloc HBL.out.size (.cells #[.int .i64 u, .int .i64 c] 37)).trans (hb2.mono (by have := HBL.out.size; simp; omega)))
  clear hb2
  go_wp2_with fail
  rw [rounds_succ]
  go_wp2
  go_ret
  exact ⟨rfl, HBL2.out⟩
/-- the fault of two -/
def fracs2 (t b u c : Int) : Int := if fracErr t b ≠ 0 then fracErr t b else fracErr u c
theorem checks_all (t b u c : Int) (g : Nat) (w : World) (hb : Blk w g 37 #[.int .i64 t, .int .i64 b, .int .i64 u, .int .i64 c]) :
    Calls Tryz.prog 125 #[.slice (some ⟨g, 0, none⟩) 2 2] w fun e w' => e = .returned (errVal (fracs2 t b u c)) ∧ Below w.heap.size w w' := by
  unfold fracs2
  by_cases h : fracErr t b = 0
  · rw [if_neg (fun x => x h)]
    by_cases k : fracErr u c = 0
    · rw [k]; exact checks_ok t b u c g w hb h k
    · rw [errVal_pos k]; exact checks_second t b u c _ g w hb h rfl k
  · rw [if_pos h, errVal_pos h]; exact checks_first t b u c _ g w hb rfl h
theorem checks_no (t b u c er : Int) (g : Nat) (w : World) (hb : Blk w g 37 #[.int .i64 t, .int .i64 b, .int .i64 u, .int .i64 c]) (h : fracs2 t b u c = er) (hp : er ≠ 0) :
    Calls Tryz.prog 125 #[.slice (some ⟨g, 0, none⟩) 2 2] w fun e w' => e = .returned (.iface 74 (.int .i64 er)) ∧ Below w.heap.size w w' :=
  (checks_all t b u c g w hb).mono fun _ _ ⟨h1, h2⟩ => ⟨by rw [h1, h, errVal_pos hp], h2⟩
end Go.Proofs.YtaijpiebjhhkjaaGreatDoor
/- Fractions as Rat (plain: no program in sight but the words lowT, lowB, FracIn, fracErr). -/
namespace Go.Proofs.YtaijpiebjhhkjaaGreatDoor
open Go.RowKit
theorem low_num (t b : Int) (hb : 0 < b) : lowT t b = (mkRat t b.toNat).num := by
  have hn : b.toNat ≠ 0 := by omega
  have hg : Int.gcd t b = t.natAbs.gcd b.toNat := by
    show Nat.gcd t.natAbs b.natAbs = _
    rw [show b.natAbs = b.toNat by omega]
  rw [Rat.mkRat_def, dif_neg hn, Rat.normalize_eq]
  show t.tdiv (Int.gcd t b) = t / ((t.natAbs.gcd b.toNat : Nat) : Int)
  rw [hg]
  exact Int.tdiv_eq_ediv_of_dvd (Int.ofNat_dvd_left.2 (Nat.gcd_dvd_left _ _))
theorem low_den (t b : Int) (hb : 0 < b) : lowB t b = ((mkRat t b.toNat).den : Int) := by
  have hn : b.toNat ≠ 0 := by omega
  have hg : Int.gcd t b = t.natAbs.gcd b.toNat := by
    show Nat.gcd t.natAbs b.natAbs = _
    rw [show b.natAbs = b.toNat by omega]
  rw [Rat.mkRat_def, dif_neg hn, Rat.normalize_eq]
  show b / ((Int.gcd t b : Nat) : Int) = ((b.toNat / t.natAbs.gcd b.toNat : Nat) : Int)
  rw [hg, Int.natCast_ediv, Int.toNat_of_nonneg (by omega)]
/-- a fraction's two numbers are those of a Rat -/
def QIn (q : Rat) : Prop := FracIn q.num q.den
instance (q : Rat) : Decidable (QIn q) := by unfold QIn; infer_instance
theorem frac_rat {t b : Int} (h : fracErr t b = 0) : ∃ q : Rat, t = q.num ∧ b = q.den ∧ QIn q := by
  obtain ⟨h1, h2⟩ := frac_ok h
  have hb := h1.1
  have e1 := low_num t b (by omega)
  have e2 := low_den t b (by omega)
  refine ⟨mkRat t b.toNat, ?_, ?_, ?_⟩
  · rw [← e1]; unfold lowT; rw [h2]; simp
  · rw [← e2]; unfold lowB; rw [h2]; simp
  · unfold QIn
    rw [← e1, ← e2]
    unfold lowT lowB; rw [h2]; simpa using h1
theorem rat_frac {q : Rat} (h : QIn q) : fracErr q.num q.den = 0 := by
  unfold fracErr
  rw [if_neg (fun x => x h), if_neg]
  intro x
  exact x (by show Nat.gcd q.num.natAbs (q.den : Int).natAbs = 1; exact q.reduced)
theorem den_pos' (q : Rat) : (0 : Int) < q.den := by have := q.den_pos; omega
theorem sum_num (q r : Rat) : lowT (q.num * r.den + r.num * q.den) ((q.den : Int) * r.den) = (q + r).num := by
  rw [low_num _ _ (Int.mul_pos (den_pos' q) (den_pos' r)), Rat.add_def']
  rw [show ((q.den : Int) * r.den).toNat = q.den * r.den by rw [← Int.natCast_mul, Int.toNat_natCast]]
theorem sum_den (q r : Rat) : lowB (q.num * r.den + r.num * q.den) ((q.den : Int) * r.den) = (q + r).den := by
  rw [low_den _ _ (Int.mul_pos (den_pos' q) (den_pos' r)), Rat.add_def']
  rw [show ((q.den : Int) * r.den).toNat = q.den * r.den by rw [← Int.natCast_mul, Int.toNat_natCast]]
theorem mk_times (q : Rat) (n : Int) : mkRat (q.num * n) q.den = q * n := by
  have h := Rat.mkRat_mul_mkRat q.num n q.den 1
  rw [Rat.mkRat_self, Nat.mul_one] at h
  rw [← h]; congr 1
  exact Rat.mkRat_one n
theorem times_num (q : Rat) (n : Int) : lowT (q.num * n) q.den = (q * n).num := by
  rw [low_num _ _ (den_pos' q), ← mk_times]; simp
theorem times_den (q : Rat) (n : Int) : lowB (q.num * n) q.den = (q * n).den := by
  rw [low_den _ _ (den_pos' q), ← mk_times]; simp
theorem mk_by (q : Rat) (n : Nat) : mkRat q.num (q.den * n) = q / n := by
  have h := Rat.mkRat_mul_mkRat q.num 1 q.den n
  rw [Rat.mkRat_self, Int.mul_one] at h
  rw [← h, Rat.div_def]
  congr 1
  rw [Rat.mkRat_eq_div]; simp [Rat.div_def]
theorem by_num (q : Rat) (n : Int) (hn : 0 < n) : lowT q.num ((q.den : Int) * n) = (q / n).num := by
  obtain ⟨m, rfl⟩ := Int.eq_ofNat_of_zero_le (Int.le_of_lt hn)
  rw [low_num _ _ (Int.mul_pos (den_pos' q) hn)]
  rw [show ((q.den : Int) * (m : Int)).toNat = q.den * m by rw [← Int.natCast_mul, Int.toNat_natCast], mk_by q m]
  rfl
theorem by_den (q : Rat) (n : Int) (hn : 0 < n) : lowB q.num ((q.den : Int) * n) = (q / n).den := by
  obtain ⟨m, rfl⟩ := Int.eq_ofNat_of_zero_le (Int.le_of_lt hn)
  rw [low_den _ _ (Int.mul_pos (den_pos' q) hn)]
  rw [show ((q.den : Int) * (m : Int)).toNat = q.den * m by rw [← Int.natCast_mul, Int.toNat_natCast], mk_by q m]
  rfl
/-- which is more -/
def ordQ (q r : Rat) : Int := if q < r then -1 else if r < q then 1 else 0
theorem cmp_rat (q r : Rat) : cmpI (q.num * r.den) (r.num * q.den) = ordQ q r := by
  unfold cmpI ordQ
  simp only [Rat.lt_iff]
theorem rat_ext {q r : Rat} (h : q.num = r.num) (k : (q.den : Int) = r.den) : q = r := Rat.ext h (by omega)
end Go.Proofs.YtaijpiebjhhkjaaGreatDoor
/- Package frac, second part: sums, parts, times, and what fits. -/
namespace Go.Proofs.YtaijpiebjhhkjaaGreatDoor
open Go.RowKit
attribute [local go_sem ↓] run_min_mn run_max_mx
theorem fits_yes (t b : Int) (w : World) (h : FracIn t b) :
    Calls Tryz.prog 126 #[.agg #[.int .i64 t, .int .i64 b]] w fun e w' => e = .returned (.tuple #[.agg #[.int .i64 t, .int .i64 b], .nilIface]) ∧ Below w.heap.size w w' := by
  obtain ⟨h0, h1, h2, h3⟩ := h
  go_enter Tryz.func126, Tryz.ntmps126
  go_wp2_with fail
  refine (top_yes t _ h2 h3).mono ?_; rintro e w' ⟨rfl, rfl⟩
  go_wp2_with fail
  refine (bottom_yes b _ h0 h1).mono ?_; rintro e w' ⟨rfl, rfl⟩
  go_wp2
  refine bodyPost_ret (v := .tuple #[.agg #[.int .i64 t, .int .i64 b], .nilIface]) (by simp [results, Tryz.results126, go_sem]) rfl ⟨rfl, ?_⟩
  exact ((Below.refl _ _).alloc (Nat.le_refl _) _).alloc (by simp) _
theorem fits_no (t b : Int) (w : World) (h : ¬ FracIn t b) :
    Calls Tryz.prog 126 #[.agg #[.int .i64 t, .int .i64 b]] w fun e w' => e = .returned (.tuple #[.agg #[.int .i64 0, .int .i64 0], .iface 74 (.int .i64 4)]) ∧ Below w.heap.size w w' := by
  unfold FracIn at h
  by_cases ht : t < -1000000000 ∨ 1000000000 < t
  · clear h
    go_enter Tryz.func126, Tryz.ntmps126
    go_wp2_with fail
    refine (top_no t _ ht).mono ?_; rintro e w' ⟨rfl, rfl⟩
    clear ht
    go_wp2
    refine bodyPost_ret (v := .tuple #[.agg #[.int .i64 0, .int .i64 0], .iface 74 (.int .i64 4)]) (by simp [results, Tryz.results126, go_sem]) rfl ⟨rfl, ?_⟩
    exact ((Below.refl _ _).alloc (Nat.le_refl _) _).alloc (by simp) _
  · have h2 : -1000000000 ≤ t := by omega
    have h3 : t ≤ 1000000000 := by omega
    have hb : b < 1 ∨ 100000000 < b := by omega
    clear h ht
    go_enter Tryz.func126, Tryz.ntmps126
    go_wp2_with fail
    refine (top_yes t _ h2 h3).mono ?_; rintro e w' ⟨rfl, rfl⟩
    go_wp2_with fail
    refine (bottom_no b _ hb).mono ?_; rintro e w' ⟨rfl, rfl⟩
    clear hb
    go_wp2
    refine bodyPost_ret (v := .tuple #[.agg #[.int .i64 0, .int .i64 0], .iface 74 (.int .i64 4)]) (by simp [results, Tryz.results126, go_sem]) rfl ⟨rfl, ?_⟩
    exact ((Below.refl _ _).alloc (Nat.le_refl _) _).alloc (by simp) _
theorem whole_any (n : Int) (w : World) :
    Calls Tryz.prog 67 #[.int .i64 n] w fun e w' => e = .returned (.agg #[.int .i64 n, .int .i64 1]) ∧ Below w.heap.size w w' := by
  go_enter Tryz.func67, Tryz.ntmps67
  go_wp2
  refine bodyPost_ret (v := .agg #[.int .i64 n, .int .i64 1]) (by simp [results, Tryz.results67, go_sem]) rfl ⟨rfl, ?_⟩
  repeat (first | exact Below.refl _ _ | apply Below.drew | refine Below.setCell ?_ (by simp) _ | refine Below.alloc ?_ (by simp) _)
theorem minus_any (t b : Int) (w : World) (h2 : -1000000000 ≤ t) (h3 : t ≤ 1000000000) :
    Calls Tryz.prog 153 #[.agg #[.int .i64 t, .int .i64 b]] w fun e w' => e = .returned (.agg #[.int .i64 (-t), .int .i64 b]) ∧ Below w.heap.size w w' := by
  go_enter Tryz.func153, Tryz.ntmps153
  go_wp2
  refine bodyPost_ret (v := .agg #[.int .i64 (-t), .int .i64 b]) (by simp [results, Tryz.results153, go_sem]) rfl ⟨rfl, ?_⟩
  repeat (first | exact Below.refl _ _ | apply Below.drew | apply below_drewN | refine Below.setCell ?_ (by simp) _ | refine Below.alloc ?_ (by simp) _)
theorem mul_pos_in (b c : Int) (h0 : 1 ≤ b) (h1 : b ≤ 100000000) (h2 : 1 ≤ c) (h3 : c ≤ 100000000) : 1 ≤ b * c ∧ b * c ≤ 10000000000000000 := by
  have a : b * c ≤ 100000000 * c := Int.mul_le_mul_of_nonneg_right h1 (by omega)
  have d : 1 * c ≤ b * c := Int.mul_le_mul_of_nonneg_right h0 (by omega)
  omega
def sumT (t b u c : Int) : Int := lowT (t * c + u * b) (b * c)
def sumB (t b u c : Int) : Int := lowB (t * c + u * b) (b * c)
set_option maxHeartbeats 1000000 in
theorem sum_any (t b u c : Int) (w : World) (h : FracIn t b) (k : FracIn u c) :
    Calls Tryz.prog 127 #[.agg #[.int .i64 t, .int .i64 b], .agg #[.int .i64 u, .int .i64 c]] w fun e w' => e = .returned (.agg #[.int .i64 (sumT t b u c), .int .i64 (sumB t b u c)]) ∧ Below w.heap.size w w' := by
  obtain ⟨h0, h1, h2, h3⟩ := h
  obtain ⟨k0, k1, k2, k3⟩ := k
  obtain ⟨m1, m3⟩ := mul_in t c h2 h3 k0 k1
  obtain ⟨m2, m4⟩ := mul_in u b k2 k3 h0 h1
  obtain ⟨m5, m6⟩ := mul_pos_in b c h0 h1 k0 k1
  have HL := Lib.hid fun W => low_any (t * c + u * b) (b * c) W (by omega) (by omega) (by omega) (by omega)
  unfold sumT sumB
  generalize lowT (t * c + u * b) (b * c) = vt at *
  generalize lowB (t * c + u * b) (b * c) = vb at *
  go_enter Tryz.func127, Tryz.ntmps127
  go_wp2_with fail
  refine (HL.out _).mono ?_; rintro e w2 ⟨rfl, hb2⟩
  have hbel := ((((Below.refl w.heap.size w).alloc (Nat.le_refl _) (.cells #[.int .i64 t, .int .i64 b] 37)).alloc (by simp) (.cells #[.int .i64 u, .int .i64 c] 37)).alloc (by simp; omega) (.cells #[.int .i64 0, .int .i64 0] 37))
  have HP := Lib.hid ((Blk.new' ((w.alloc (.cells #[.int .i64 t, .int .i64 b] 37)).alloc (.cells #[.int .i64 u, .int .i64 c] 37)) 37 #[.int .i64 0, .int .i64 0] (g := w.heap.size + 1 + 1) (by simp)).below hb2 (by simp))
  obtain ⟨p0, p1, f0, f1, z0⟩ := HP.out.two
  have HBEL := Lib.hid (hbel.trans (hb2.mono (by simp; omega)))
  clear hbel hb2
  go_wp2
  refine bodyPost_ret (v := .agg #[.int .i64 vt, .int .i64 vb]) (by simp [results, Tryz.results127, go_sem, *]) rfl ⟨rfl, ?_⟩
  exact (HBEL.out.setCell (by first | (focus (simp; done)) | (simp; omega)) _).setCell (by first | (focus (simp; done)) | (simp; omega)) _
set_option maxHeartbeats 1000000 in
theorem parts_any (t b n : Int) (w : World) (h : FracIn t b) (n0 : 1 ≤ n) (n1 : n ≤ 1000) :
    Calls Tryz.prog 154 #[.agg #[.int .i64 t, .int .i64 b], .int .i64 n] w fun e w' => e = .returned (.agg #[.int .i64 (lowT t (b * n)), .int .i64 (lowB t (b * n))]) ∧ Below w.heap.size w w' := by
  obtain ⟨h0, h1, h2, h3⟩ := h
  obtain ⟨m5, m6⟩ := mul_pos_in b n h0 h1 n0 (by omega)
  have HL := Lib.hid fun W => low_any t (b * n) W (by omega) (by omega) (by omega) (by omega)
  generalize lowT t (b * n) = vt at *
  generalize lowB t (b * n) = vb at *
  go_enter Tryz.func154, Tryz.ntmps154
  go_wp2_with fail
  refine (HL.out _).mono ?_; rintro e w2 ⟨rfl, hb2⟩
  have hbel := (((Below.refl w.heap.size w).alloc (Nat.le_refl _) (.cells #[.int .i64 t, .int .i64 b] 37)).alloc (by simp) (.cells #[.int .i64 0, .int .i64 0] 37))
  have HP := Lib.hid ((Blk.new' ((w.alloc (.cells #[.int .i64 t, .int .i64 b] 37))) 37 #[.int .i64 0, .int .i64 0] (g := w.heap.size + 1) (by simp)).below hb2 (by simp))
  obtain ⟨p0, p1, f0, f1, z0⟩ := HP.out.two
  have HBEL := Lib.hid (hbel.trans (hb2.mono (by simp; omega)))
  clear hbel hb2
  go_wp2
  refine bodyPost_ret (v := .agg #[.int .i64 vt, .int .i64 vb]) (by simp [results, Tryz.results154, go_sem, *]) rfl ⟨rfl, ?_⟩
  exact (HBEL.out.setCell (by first | (focus (simp; done)) | (simp; omega)) _).setCell (by first | (focus (simp; done)) | (simp; omega)) _
/-- a result that fits, or the fault -/
def fitV (t b : Int) : Value := if FracIn t b then .tuple #[.agg #[.int .i64 t, .int .i64 b], .nilIface] else .tuple #[.agg #[.int .i64 0, .int .i64 0], .iface 74 (.int .i64 4)]
theorem fits_any (t b : Int) (w : World) : Calls Tryz.prog 126 #[.agg #[.int .i64 t, .int .i64 b]] w fun e w' => e = .returned (fitV t b) ∧ Below w.heap.size w w' := by
  unfold fitV
  by_cases h : FracIn t b
  · rw [if_pos h]; exact fits_yes t b w h
  · rw [if_neg h]; exact fits_no t b w h
set_option maxHeartbeats 4000000 in
theorem fadd_no (t b u c er : Int) (w : World) (h : fracs2 t b u c = er) (hp : er ≠ 0) :
    Calls Tryz.prog 91 #[.agg #[.int .i64 t, .int .i64 b], .agg #[.int .i64 u, .int .i64 c]] w fun e w' => e = .returned (.tuple #[.agg #[.int .i64 0, .int .i64 0], .iface 74 (.int .i64 er)]) ∧ Below w.heap.size w w' := by
  have HC := Lib.hid fun (g : Nat) (W : World) hb => checks_no t b u c er g W hb h hp
  clear h hp
  have b0 : Below w.heap.size w ((((w.alloc (.cells #[.int .i64 t, .int .i64 b] 37)).alloc (.cells #[.int .i64 u, .int .i64 c] 37)).alloc (.cells #[.int .i64 0, .int .i64 0] 37)).alloc (.cells #[.int .i64 t, .int .i64 b, .int .i64 u, .int .i64 c] 37)) := (((((Below.refl _ _).alloc (Nat.le_refl _) _).alloc (by simp) _).alloc (by simp; omega) _).alloc (by simp; omega) _)
  have HR := Lib.hid ((Blk.new' ((w.alloc (.cells #[.int .i64 t, .int .i64 b] 37)).alloc (.cells #[.int .i64 u, .int .i64 c] 37)) 37 #[.int .i64 0, .int .i64 0] (g := w.heap.size + 1 + 1) (by simp)).alloc (.cells #[.int .i64 t, .int .i64 b, .int .i64 u, .int .i64 c] 37))
  go_enter Tryz.func91, Tryz.ntmps91
  go_wp2_with fail
  refine (HC.out _ _ (Blk.new' _ _ _ (by simp))).mono ?_; rintro e w1 ⟨rfl, hb1⟩
  have HR1 := Lib.hid (HR.out.below hb1 (by simp))
  have HBEL := Lib.hid (b0.trans (hb1.mono (by simp; omega)))
  obtain ⟨r0, r1, f0, f1, z2⟩ := HR1.out.two
  clear hb1 b0 HR
  go_wp2
  refine bodyPost_ret (v := .tuple #[.agg #[.int .i64 0, .int .i64 0], .iface 74 (.int .i64 er)]) (by simp [results, Tryz.results91, go_sem, *]) rfl ⟨rfl, ?_⟩
  exact (HBEL.out.setCell (by first | (focus (simp; done)) | (simp; omega)) _).setCell (by first | (focus (simp; done)) | (simp; omega)) _
set_option maxHeartbeats 4000000 in
theorem fadd_yes (t b u c : Int) (v1 v2 er : Int) (w : World) (h : fracErr t b = 0) (k : fracErr u c = 0) (hv : fitV (sumT t b u c) (sumB t b u c) = .tuple #[.agg #[.int .i64 v1, .int .i64 v2], errVal er]) :
    Calls Tryz.prog 91 #[.agg #[.int .i64 t, .int .i64 b], .agg #[.int .i64 u, .int .i64 c]] w fun e w' => e = .returned (.tuple #[.agg #[.int .i64 v1, .int .i64 v2], errVal er]) ∧ Below w.heap.size w w' := by
  have HC := Lib.hid fun (g : Nat) (W : World) hb => checks_ok t b u c g W hb h k
  have HS := Lib.hid fun W => sum_any t b u c W (frac_ok h).1 (frac_ok k).1
  have HF := Lib.hid fun W => fits_any (sumT t b u c) (sumB t b u c) W
  rw [hv] at HF
  clear h k hv
  generalize sumT t b u c = x at *
  generalize sumB t b u c = y at *
  generalize errVal er = ev at *
  have b0 : Below w.heap.size w ((((w.alloc (.cells #[.int .i64 t, .int .i64 b] 37)).alloc (.cells #[.int .i64 u, .int .i64 c] 37)).alloc (.cells #[.int .i64 0, .int .i64 0] 37)).alloc (.cells #[.int .i64 t, .int .i64 b, .int .i64 u, .int .i64 c] 37)) := (((((Below.refl _ _).alloc (Nat.le_refl _) _).alloc (by simp) _).alloc (by simp; omega) _).alloc (by simp; omega) _)
  have HP := Lib.hid ((((Blk.new w 37 #[.int .i64 t, .int .i64 b]).alloc (.cells #[.int .i64 u, .int .i64 c] 37)).alloc (.cells #[.int .i64 0, .int .i64 0] 37)).alloc (.cells #[.int .i64 t, .int .i64 b, .int .i64 u, .int .i64 c] 37))
  have HQ := Lib.hid (((Blk.new' (w.alloc (.cells #[.int .i64 t, .int .i64 b] 37)) 37 #[.int .i64 u, .int .i64 c] (g := w.heap.size + 1) (by simp)).alloc (.cells #[.int .i64 0, .int .i64 0] 37)).alloc (.cells #[.int .i64 t, .int .i64 b, .int .i64 u, .int .i64 c] 37))
  have HR := Lib.hid ((Blk.new' ((w.alloc (.cells #[.int .i64 t, .int .i64 b] 37)).alloc (.cells #[.int .i64 u, .int .i64 c] 37)) 37 #[.int .i64 0, .int .i64 0] (g := w.heap.size + 1 + 1) (by simp)).alloc (.cells #[.int .i64 t, .int .i64 b, .int .i64 u, .int .i64 c] 37))
  go_enter Tryz.func91, Tryz.ntmps91
  go_wp2_with fail
  refine (HC.out _ _ (Blk.new' _ _ _ (by simp))).mono ?_; rintro e w1 ⟨rfl, hb1⟩
  have HP1 := Lib.hid (HP.out.below hb1 (by simp; omega))
  have HQ1 := Lib.hid (HQ.out.below hb1 (by simp))
  have HR1 := Lib.hid (HR.out.below hb1 (by simp))
  have HBEL := Lib.hid (b0.trans (hb1.mono (by simp; omega)))
  obtain ⟨p0, p1, _, _, z0⟩ := HP1.out.two
  obtain ⟨q0, q1, _, _, z1⟩ := HQ1.out.two
  clear hb1 b0 HP HQ HR
  go_wp2_with fail
  refine (HS.out _).mono ?_; rintro e w2 ⟨rfl, hb2⟩
  have HR2 := Lib.hid (HR1.out.below hb2 HR1.out.lt)
  have HBEL2 := Lib.hid (HBEL.out.trans (hb2.mono HBEL.out.size))
  clear p0 p1 q0 q1 z0 z1 hb2
  go_wp2_with fail
  refine (HF.out _).mono ?_; rintro e w3 ⟨rfl, hb3⟩
  have HR3 := Lib.hid (HR2.out.below hb3 HR2.out.lt)
  have HBEL3 := Lib.hid (HBEL2.out.trans (hb3.mono HBEL2.out.size))
  obtain ⟨r0, r1, f0, f1, z2⟩ := HR3.out.two
  clear hb3
  go_wp2
  refine bodyPost_ret (v := .tuple #[.agg #[.int .i64 v1, .int .i64 v2], ev]) (by simp [results, Tryz.results91, go_sem, *]) rfl ⟨rfl, ?_⟩
  exact (HBEL3.out.setCell (by first | (focus (simp; done)) | (simp; omega)) _).setCell (by first | (focus (simp; done)) | (simp; omega)) _
theorem mul_k (t n : Int) (h0 : -1000000000 ≤ t) (h1 : t ≤ 1000000000) (h2 : -1000 ≤ n) (h3 : n ≤ 1000) : -1000000000000 ≤ t * n ∧ t * n ≤ 1000000000000 := by
  have e : (t * n).natAbs = t.natAbs * n.natAbs := Int.natAbs_mul t n
  have : t.natAbs * n.natAbs ≤ 1000000000 * 1000 := Nat.mul_le_mul (by omega) (by omega)
  omega
end Go.Proofs.YtaijpiebjhhkjaaGreatDoor
/- Package frac, third part: its functions at Rats. -/
namespace Go.Proofs.YtaijpiebjhhkjaaGreatDoor
open Go.RowKit
attribute [local go_sem ↓] run_min_mn run_max_mx
theorem sum_q (q r s : Rat) (w : World) (hq : QIn q) (hr : QIn r) (hs : q + r = s) :
    Calls Tryz.prog 127 #[.agg #[.int .i64 q.num, .int .i64 q.den], .agg #[.int .i64 r.num, .int .i64 r.den]] w fun e w' => e = .returned (.agg #[.int .i64 s.num, .int .i64 s.den]) ∧ Below w.heap.size w w' := by
  subst hs
  refine (sum_any q.num q.den r.num r.den w hq hr).mono fun _ _ ⟨h1, h2⟩ => ⟨?_, h2⟩
  rw [h1]; unfold sumT sumB; rw [sum_num, sum_den]
theorem minus_q (q r : Rat) (w : World) (hq : QIn q) (hr : -q = r) :
    Calls Tryz.prog 153 #[.agg #[.int .i64 q.num, .int .i64 q.den]] w fun e w' => e = .returned (.agg #[.int .i64 r.num, .int .i64 r.den]) ∧ Below w.heap.size w w' := by
  subst hr
  refine (minus_any q.num q.den w hq.2.2.1 hq.2.2.2).mono fun _ _ ⟨h1, h2⟩ => ⟨?_, h2⟩
  rw [h1]; simp
theorem parts_q (q s : Rat) (n : Int) (w : World) (hq : QIn q) (n0 : 1 ≤ n) (n1 : n ≤ 1000) (hs : q / (n : Rat) = s) :
    Calls Tryz.prog 154 #[.agg #[.int .i64 q.num, .int .i64 q.den], .int .i64 n] w fun e w' => e = .returned (.agg #[.int .i64 s.num, .int .i64 s.den]) ∧ Below w.heap.size w w' := by
  subst hs
  refine (parts_any q.num q.den n w hq n0 n1).mono fun _ _ ⟨h1, h2⟩ => ⟨?_, h2⟩
  rw [h1, by_num q n (by omega), by_den q n (by omega)]
theorem order_q (q r : Rat) (o : Int) (w : World) (hq : QIn q) (hr : QIn r) (ho : ordQ q r = o) :
    Calls Tryz.prog 66 #[.agg #[.int .i64 q.num, .int .i64 q.den], .agg #[.int .i64 r.num, .int .i64 r.den]] w fun e w' => e = .returned (.int .i64 o) ∧ Below w.heap.size w w' := by
  subst ho
  refine (order_any q.num q.den r.num r.den w hq hr).mono fun _ _ ⟨h1, h2⟩ => ⟨?_, h2⟩
  rw [h1, cmp_rat]
theorem fcheck_q (q : Rat) (w : World) (hq : QIn q) :
    Calls Tryz.prog 93 #[.agg #[.int .i64 q.num, .int .i64 q.den]] w fun e w' => e = .returned .nilIface ∧ Below w.heap.size w w' := fcheck_yes _ _ w (rat_frac hq)
theorem fitV_q {q : Rat} (h : QIn q) : fitV q.num q.den = .tuple #[.agg #[.int .i64 q.num, .int .i64 q.den], errVal 0] := by
  unfold QIn at h; unfold fitV; rw [if_pos h]; rfl
theorem fitV_no {q : Rat} (h : ¬ QIn q) : fitV q.num q.den = .tuple #[.agg #[.int .i64 0, .int .i64 0], errVal 4] := by
  unfold QIn at h; unfold fitV; rw [if_neg h]; rfl
theorem fadd_q (q r s : Rat) (w : World) (hq : QIn q) (hr : QIn r) (hs : q + r = s) (h : QIn s) :
    Calls Tryz.prog 91 #[.agg #[.int .i64 q.num, .int .i64 q.den], .agg #[.int .i64 r.num, .int .i64 r.den]] w fun e w' => e = .returned (.tuple #[.agg #[.int .i64 s.num, .int .i64 s.den], .nilIface]) ∧ Below w.heap.size w w' := by
  subst hs
  exact fadd_yes q.num q.den r.num r.den _ _ 0 w (rat_frac hq) (rat_frac hr) (by unfold sumT sumB; rw [sum_num, sum_den]; exact fitV_q h)
theorem fadd_full (q r s : Rat) (w : World) (hq : QIn q) (hr : QIn r) (hs : q + r = s) (h : ¬ QIn s) :
    Calls Tryz.prog 91 #[.agg #[.int .i64 q.num, .int .i64 q.den], .agg #[.int .i64 r.num, .int .i64 r.den]] w fun e w' => e = .returned (.tuple #[.agg #[.int .i64 0, .int .i64 0], .iface 74 (.int .i64 4)]) ∧ Below w.heap.size w w' := by
  subst hs
  exact fadd_yes q.num q.den r.num r.den _ _ 4 w (rat_frac hq) (rat_frac hr) (by unfold sumT sumB; rw [sum_num, sum_den]; exact fitV_no h)
/-- by a number, whatever it is asked: the fault, or what it is -/
def ByIs (t b n v1 v2 er : Int) : Prop := er = 0 → ∃ q s : Rat, t = q.num ∧ b = q.den ∧ QIn q ∧ v1 = s.num ∧ v2 = s.den ∧ QIn s ∧ s * (n : Rat) = q ∧ 1 ≤ n ∧ n ≤ 1000
def AddIs (t b u c v1 v2 er : Int) : Prop := er = 0 → ∃ q r s : Rat, t = q.num ∧ b = q.den ∧ QIn q ∧ u = r.num ∧ c = r.den ∧ QIn r ∧ v1 = s.num ∧ v2 = s.den ∧ QIn s ∧ q + r = s
theorem fadd_ex (t b u c : Int) (w : World) :
    Calls Tryz.prog 91 #[.agg #[.int .i64 t, .int .i64 b], .agg #[.int .i64 u, .int .i64 c]] w fun e w' => ∃ v1 v2 er : Int, e = .returned (.tuple #[.agg #[.int .i64 v1, .int .i64 v2], errVal er]) ∧ AddIs t b u c v1 v2 er ∧ Below w.heap.size w w' := by
  by_cases h : fracs2 t b u c = 0
  · have h1 : fracErr t b = 0 := by
      apply Decidable.byContradiction; intro hc
      unfold fracs2 at h; rw [if_pos hc] at h; exact hc h
    have h2 : fracErr u c = 0 := by unfold fracs2 at h; rw [if_neg (fun x => x h1)] at h; exact h
    obtain ⟨q, rfl, rfl, hq⟩ := frac_rat h1
    obtain ⟨r, rfl, rfl, hr⟩ := frac_rat h2
    by_cases hs : QIn (q + r)
    · exact (fadd_q q r _ w hq hr rfl hs).mono fun _ _ ⟨h1, h2⟩ => ⟨_, _, 0, h1, fun _ => ⟨q, r, _, rfl, rfl, hq, rfl, rfl, hr, rfl, rfl, hs, rfl⟩, h2⟩
    · exact (fadd_full q r _ w hq hr rfl hs).mono fun _ _ ⟨h1, h2⟩ => ⟨0, 0, 4, h1, fun h => absurd h (by decide), h2⟩
  · exact (fadd_no t b u c _ w rfl h).mono fun _ _ ⟨h1, h2⟩ => ⟨0, 0, fracs2 t b u c, by rw [errVal_pos h]; exact h1, fun e => absurd e h, h2⟩
end Go.Proofs.YtaijpiebjhhkjaaGreatDoor
/- Slices of fractions: how they lie. -/
namespace Go.Proofs.YtaijpiebjhhkjaaGreatDoor
open Go.RowKit
structure Fr where
  t : Int
  b : Int
def Fr.cells (s : Fr) : List Value := [.int .i64 s.t, .int .i64 s.b]
def Fr.val (s : Fr) : Value := .agg #[.int .i64 s.t, .int .i64 s.b]
def frCells : List Fr → List Value
  | [] => []
  | s :: S => s.cells ++ frCells S
theorem frCells_len (S : List Fr) : (frCells S).length = S.length * 2 := by
  induction S with
  | nil => rfl
  | cons s S ih => simp only [frCells, List.length_append, ih, List.length_cons]; simp [Fr.cells]; omega
theorem frCells_at (S : List Fr) (k : Nat) (s : Fr) (h : S[k]? = some s) : (frCells S)[k * 2]? = some (.int .i64 s.t) ∧ (frCells S)[k * 2 + 1]? = some (.int .i64 s.b) := by
  induction S generalizing k with
  | nil => simp at h
  | cons t S ih =>
    cases k with
    | zero =>
      simp at h; subst h
      simp [frCells, Fr.cells]
    | succ k =>
      have := ih k (by simpa using h)
      have e : ∀ j, (frCells (t :: S))[(k + 1) * 2 + j]? = (frCells S)[k * 2 + j]? := fun j => by
        have h2 : (k + 1) * 2 + j = k * 2 + j + 1 + 1 := by omega
        rw [h2]; rfl
      exact ⟨(e 0).trans this.1, (e 1).trans this.2⟩
theorem frCells_set (S : List Fr) (k : Nat) (s : Fr) (h : k < S.length) : ((frCells S).set (k * 2) (.int .i64 s.t)).set (k * 2 + 1) (.int .i64 s.b) = frCells (S.set k s) := by
  induction S generalizing k with
  | nil => simp at h
  | cons t S ih =>
    cases k with
    | zero => simp [frCells, Fr.cells]
    | succ k =>
      have := ih k (by simpa using h)
      have e : ∀ (L : List Value) j u, (t.cells ++ L).set ((k + 1) * 2 + j) u = t.cells ++ L.set (k * 2 + j) u := fun L j u => by
        rw [List.set_append_right _ _ (by simp [Fr.cells]; omega)]
        congr 2
        simp [Fr.cells]; omega
      have e0 := fun L u => e L 0 u
      simp only [Nat.add_zero] at e0
      simp only [frCells, List.set_cons_succ]
      rw [e0, e, this]
theorem frCells_append (S T : List Fr) : frCells (S ++ T) = frCells S ++ frCells T := by
  induction S with
  | nil => rfl
  | cons s S ih => simp only [List.cons_append, frCells, ih, List.append_assoc]
theorem frCells_one (S : List Fr) : ∀ u ∈ frCells S, u.oneCell' = true := by
  induction S with
  | nil => simp [frCells]
  | cons s S ih =>
    intro u hu
    rcases List.mem_append.1 hu with hu | hu
    · simp [Fr.cells] at hu
      rcases hu with rfl | rfl <;> rfl
    · exact ih u hu
structure Frs (w : World) (B : Nat) (A : Option Addr) (c : Nat) (S : List Fr) : Prop where
  rd : Reads w B 2 A S.length (frCells S)
  le : S.length ≤ c
  cap : c ≤ maxLen
theorem Frs.more {w : World} {B C : Nat} {A : Option Addr} {c : Nat} {S : List Fr} (h : Frs w B A c S) (hC : B ≤ C) : Frs w C A c S := ⟨h.rd.more hC, h.le, h.cap⟩
theorem Frs.below {w w' : World} {B C : Nat} {A : Option Addr} {c : Nat} {S : List Fr} (h : Frs w B A c S) (hb : Below C w w') (hC : B ≤ C) : Frs w' B A c S := ⟨h.rd.below' hb hC, h.le, h.cap⟩
theorem Frs.at' {w w' : World} {A : Option Addr} {c : Nat} {S : List Fr} (h : Frs w w.heap.size A c S) (hb : Below w.heap.size w w') : Frs w' w'.heap.size A c S := (h.below hb (Nat.le_refl _)).more hb.size
theorem Frs.elem {w : World} {B : Nat} {A : Option Addr} {c : Nat} {S : List Fr} (h : Frs w B A c S) {k : Nat} (hk : k < S.length) :
    ∃ b off s, A = some ⟨b, off, none⟩ ∧ b < B ∧ w.cell? ⟨b, off + k * 2, none⟩ = some (.int .i64 s.t) ∧ w.cell? ⟨b, off + k * 2 + 1, none⟩ = some (.int .i64 s.b) ∧ Hid (S[k]? = some s) := by
  obtain ⟨b, off, e, hb, hc⟩ := h.rd.2 (by omega)
  have hs := List.getElem?_eq_getElem hk
  obtain ⟨h0, h1⟩ := frCells_at S k _ hs
  exact ⟨b, off, S[k], e, hb, hc _ _ h0, hc _ _ h1, hs⟩
theorem Tryz.info_fr : (Tryz.prog.info? 37).map (fun i => (i.zero, i.size, i.bytes)) = some (some (.agg #[.int .i64 0, .int .i64 0]), 2, 16) := by kernel_rfl
theorem owns_frs {w : World} {base n : Nat} {v : Value} {S : List Fr} (h : w.ownsRow base 37 2 v n (frCells S)) : ∃ A c, v = .slice A S.length c ∧ n = S.length ∧ Frs w w.heap.size A c S := by
  obtain ⟨A, c, rfl, h1, h2, h3⟩ := owns_reads h
  have hn : n = S.length := by have := h3.1; rw [frCells_len] at this; omega
  subst hn
  exact ⟨A, c, rfl, rfl, ⟨h3, h1, h2⟩⟩
end Go.Proofs.YtaijpiebjhhkjaaGreatDoor
