/- Several texts in one: Gcd, Frac, FracCmp, PlRat, Frac2, Frac3, Frs. -/
import Derived.Test.YtaijpiebjhhkjaaDoorLibA
import Derived.WalkSpells
/- What goes into both: frac.common, frac.Low, and the reference's. -/
namespace Go.Proofs.YtaijpiebjhhkjaaDoor
open Go.RowKit
attribute [local go_sem ↓] run_min_mn run_max_mx
theorem gcd_step (x y : Int) : Int.gcd y (x.tmod y) = Int.gcd x y := by
  show Nat.gcd y.natAbs (x.tmod y).natAbs = Nat.gcd x.natAbs y.natAbs
  rw [Int.natAbs_tmod, Nat.gcd_comm x.natAbs, Nat.gcd_rec y.natAbs x.natAbs, Nat.gcd_comm]
theorem tmod_lt (x y : Int) (hy : y ≠ 0) : (x.tmod y).natAbs < y.natAbs := by
  rw [Int.natAbs_tmod]; exact Nat.mod_lt _ (by omega)
theorem gcd_zero_abs (x : Int) : ((Int.gcd x 0 : Nat) : Int) = max x (-x) := by
  rw [Int.gcd_zero_right]; omega
theorem drewN_add (w : World) (a b : Nat) : (w.drewN a).drewN b = w.drewN (a + b) := by simp [World.drewN, Nat.add_assoc]
set_option maxHeartbeats 1000000 in
theorem common_any (a b : Int) (w : World) (ha0 : -1000000000000000000 ≤ a) (ha1 : a ≤ 1000000000000000000) (hb0 : -1000000000000000000 ≤ b) (hb1 : b ≤ 1000000000000000000) :
    Calls Tryd.prog 38 #[.int .i64 a, .int .i64 b] w fun e w' => e = .returned (.int .i64 (Int.gcd a b)) ∧ ∃ n, w' = w.drewN n := by
  obtain ⟨G, hG⟩ : ∃ G, Int.gcd a b = G := ⟨_, rfl⟩
  rw [hG]
  have HG := Lib.hid hG; clear hG
  go_enter Tryd.func38, Tryd.ntmps38
  go_wp2
  go_loopw [0, 1] (fun u v wr => ∃ (x y : Int) (d : Nat), u = .int .i64 x ∧ v = .int .i64 y ∧ -1000000000000000000 ≤ x ∧ x ≤ 1000000000000000000 ∧ -1000000000000000000 ≤ y ∧ y ≤ 1000000000000000000 ∧ Hid (Int.gcd x y = G) ∧ wr = w.drewN d)
    (fun _ v _ => (intOf v).natAbs)
  case atStart => exact ⟨a, b, 0, rfl, rfl, ha0, ha1, hb0, hb1, HG, rfl⟩
  case round =>
    obtain ⟨x, y, d, rfl, rfl, x0, x1, y0, y1, H, rfl⟩ := hrel
    by_cases hy : y = 0
    · subst hy
      have hm := gcd_zero_abs x
      rw [H.out] at hm
      have HM := Lib.hid hm; clear hm
      go_wp2
      go_ret
      exact ⟨by rw [HM.out]; rfl, _, rfl⟩
    · have e1 : (y != 0) = true := by rw [bne_iff_ne]; exact hy
      have e2 : (y == 0) = false := beq_eq_false_iff_ne.2 hy
      have ht := tmod_lt x y hy
      have t0 : -1000000000000000000 ≤ x.tmod y := by omega
      have t1 : x.tmod y ≤ 1000000000000000000 := by omega
      have HS := Lib.hid (gcd_step x y)
      clear ht
      go_wp2
      go_quiet (fail)
      go_wp2
      go_roundw
      case rel => exact ⟨y, x.tmod y, _, rfl, rfl, y0, y1, t0, t1, Lib.hid (by rw [HS.out]; exact H.out), drewN_add _ _ _⟩
      case measure => simp [intOf]; exact Nat.mod_lt _ (by omega)
/-- lowest terms -/
def lowT (t b : Int) : Int := t.tdiv (Int.gcd t b)
def lowB (t b : Int) : Int := b / (Int.gcd t b)
theorem gcd_pos_of (t b : Int) (hb : 0 < b) : 0 < Int.gcd t b := Int.gcd_pos_of_ne_zero_right _ (by omega)
theorem gcd_le_of (t b : Int) (hb : 0 < b) : ((Int.gcd t b : Nat) : Int) ≤ b := Int.le_of_dvd hb (Int.gcd_dvd_right ..)
theorem abs_tdiv_le (t g : Int) : -(t.natAbs : Int) ≤ t.tdiv g ∧ t.tdiv g ≤ t.natAbs := by
  have := Int.natAbs_tdiv_le_natAbs t g
  omega
set_option maxHeartbeats 1000000 in
theorem low_any (t b : Int) (w : World) (ht0 : -1000000000000000000 ≤ t) (ht1 : t ≤ 1000000000000000000) (hb0 : 0 < b) (hb1 : b ≤ 1000000000000000000) :
    Calls Tryd.prog 25 #[.int .i64 t, .int .i64 b] w fun e w' => e = .returned (.agg #[.int .i64 (lowT t b), .int .i64 (lowB t b)]) ∧ Below w.heap.size w w' := by
  have HC := Lib.hid fun W => common_any t b W ht0 ht1 (by omega) hb1
  have g1 := gcd_pos_of t b hb0
  have g2 := gcd_le_of t b hb0
  have d1 := abs_tdiv_le t (Int.gcd t b)
  unfold lowT lowB
  generalize Int.gcd t b = g at *
  have d2 : -1000000000000000000 ≤ t.tdiv g := by omega
  have d3 : t.tdiv g ≤ 1000000000000000000 := by omega
  clear d1
  have hz : ((g : Int) == 0) = false := beq_eq_false_iff_ne.2 (by omega)
  have hz' : (g : Int) ≠ 0 := by omega
  have hz1 : (g : Int) ≠ -1 := by omega
  have q0 : 0 ≤ b / (g : Int) := Int.ediv_nonneg (by omega) (by omega)
  have q1 : b / (g : Int) ≤ b := Int.ediv_le_self _ (by omega)
  go_enter Tryd.func25, Tryd.ntmps25
  go_wp2_with fail
  refine (HC.out _).mono ?_; rintro e w1 ⟨rfl, n, rfl⟩
  go_wp2
  go_region
  all_goals
    go_wp2
    refine bodyPost_ret (v := .agg #[.int .i64 (t.tdiv g), .int .i64 (b / g)]) (by simp [results, Tryd.results25, go_sem]) rfl ⟨rfl, ?_⟩
    repeat (first | exact Below.refl _ _ | apply Below.drew | apply below_drewN | refine Below.setCell ?_ (by simp <;> omega) _ | refine Below.alloc ?_ (by simp <;> omega) _)
end Go.Proofs.YtaijpiebjhhkjaaDoor
/- Package frac: what its functions compute (first part: checks, order, of two numbers). -/
namespace Go.Proofs.YtaijpiebjhhkjaaDoor
open Go.RowKit
attribute [local go_sem ↓] run_min_mn run_max_mx
theorem top_yes (n : Int) (w : World) (h0 : -1000000000 ≤ n) (h1 : n ≤ 1000000000) : Calls Tryd.prog 24 #[.int .i64 n] w fun e w' => e = .returned (.bool true) ∧ w = w' := by
  go_enter Tryd.func24, Tryd.ntmps24
  go_wp2
  go_ret
  exact ⟨rfl, rfl⟩
theorem top_no (n : Int) (w : World) (h : n < -1000000000 ∨ 1000000000 < n) : Calls Tryd.prog 24 #[.int .i64 n] w fun e w' => e = .returned (.bool false) ∧ w = w' := by
  rcases h with h | h
  · have hd : decide (-1000000000 ≤ n) = false := decide_eq_false (by omega)
    go_enter Tryd.func24, Tryd.ntmps24
    go_wp2
    go_ret
    exact ⟨rfl, rfl⟩
  · have h0 : -1000000000 ≤ n := by omega
    have hd : decide (n ≤ 1000000000) = false := decide_eq_false (by omega)
    go_enter Tryd.func24, Tryd.ntmps24
    go_wp2
    go_ret
    exact ⟨rfl, rfl⟩
theorem bottom_yes (n : Int) (w : World) (h0 : 1 ≤ n) (h1 : n ≤ 100000000) : Calls Tryd.prog 23 #[.int .i64 n] w fun e w' => e = .returned (.bool true) ∧ w = w' := by
  go_enter Tryd.func23, Tryd.ntmps23
  go_wp2
  go_ret
  exact ⟨rfl, rfl⟩
theorem bottom_no (n : Int) (w : World) (h : n < 1 ∨ 100000000 < n) : Calls Tryd.prog 23 #[.int .i64 n] w fun e w' => e = .returned (.bool false) ∧ w = w' := by
  rcases h with h | h
  · have hd : decide (1 ≤ n) = false := decide_eq_false (by omega)
    go_enter Tryd.func23, Tryd.ntmps23
    go_wp2
    go_ret
    exact ⟨rfl, rfl⟩
  · have h0 : 1 ≤ n := by omega
    have hd : decide (n ≤ 100000000) = false := decide_eq_false (by omega)
    go_enter Tryd.func23, Tryd.ntmps23
    go_wp2
    go_ret
    exact ⟨rfl, rfl⟩
/-- the numbers that may be -/
def FracIn (t b : Int) : Prop := 1 ≤ b ∧ b ≤ 100000000 ∧ -1000000000 ≤ t ∧ t ≤ 1000000000
instance (t b : Int) : Decidable (FracIn t b) := by unfold FracIn; infer_instance
def fracErr (t b : Int) : Int := if ¬ FracIn t b then 1 else if Int.gcd t b ≠ 1 then 3 else 0
theorem frac_ok {t b : Int} (h : fracErr t b = 0) : FracIn t b ∧ Int.gcd t b = 1 := by
  unfold fracErr at h
  split at h
  · omega
  · split at h
    · omega
    · rename_i h1 h2
      exact ⟨Decidable.not_not.1 h1, Decidable.not_not.1 h2⟩
theorem mul_in (t b : Int) (h0 : -1000000000 ≤ t) (h1 : t ≤ 1000000000) (h2 : 1 ≤ b) (h3 : b ≤ 100000000) : -100000000000000000 ≤ t * b ∧ t * b ≤ 100000000000000000 := by
  have a : t * b ≤ 1000000000 * b := Int.mul_le_mul_of_nonneg_right h1 (by omega)
  have c : -1000000000 * b ≤ t * b := Int.mul_le_mul_of_nonneg_right h0 (by omega)
  omega
theorem order_any (t b u c : Int) (w : World) (h : FracIn t b) (k : FracIn u c) :
    Calls Tryd.prog 67 #[.agg #[.int .i64 t, .int .i64 b], .agg #[.int .i64 u, .int .i64 c]] w fun e w' => e = .returned (.int .i64 (cmpI (t * c) (u * b))) ∧ Below w.heap.size w w' := by
  obtain ⟨h0, h1, h2, h3⟩ := h
  obtain ⟨k0, k1, k2, k3⟩ := k
  have m1 := mul_in t c h2 h3 k0 k1
  have m2 := mul_in u b k2 k3 h0 h1
  obtain ⟨m1, m3⟩ := m1
  obtain ⟨m2, m4⟩ := m2
  go_enter Tryd.func67, Tryd.ntmps67
  go_wp2_with fail
  refine (cmp_any _ _ _).mono ?_; rintro e w' ⟨rfl, rfl⟩
  go_wp2
  go_ret
  exact ⟨rfl, ((Below.refl _ _).alloc (Nat.le_refl _) _).alloc (by simp) _⟩
theorem of_in (t b vt vb : Int) (w : World) (h : FracIn t b) (ht : lowT t b = vt) (hb : lowB t b = vb) :
    Calls Tryd.prog 10 #[.int .i64 t, .int .i64 b] w fun e w' => e = .returned (.tuple #[.agg #[.int .i64 vt, .int .i64 vb], .nilIface]) ∧ Below w.heap.size w w' := by
  subst ht hb
  obtain ⟨h0, h1, h2, h3⟩ := h
  have HL := Lib.hid fun W => low_any t b W (by omega) (by omega) (by omega) (by omega)
  generalize lowT t b = vt at *
  generalize lowB t b = vb at *
  go_enter Tryd.func10, Tryd.ntmps10
  go_wp2_with fail
  refine (bottom_yes b _ h0 h1).mono ?_; rintro e w' ⟨rfl, rfl⟩
  go_wp2_with fail
  refine (top_yes t _ h2 h3).mono ?_; rintro e w' ⟨rfl, rfl⟩
  go_wp2_with fail
  refine (HL.out _).mono ?_; rintro e w2 ⟨rfl, hb2⟩
  have HP := Lib.hid ((Blk.new w 35 #[.int .i64 0, .int .i64 0]).below hb2 (by simp))
  obtain ⟨p0, p1, f0, f1, z0⟩ := HP.out.two
  have hbel := ((Below.refl w.heap.size w).alloc (Nat.le_refl _) (.cells #[.int .i64 0, .int .i64 0] 35)).trans (hb2.mono (by simp))
  have HBEL := Lib.hid hbel
  clear hbel hb2
  go_wp2
  refine bodyPost_ret (v := .tuple #[.agg #[.int .i64 vt, .int .i64 vb], .nilIface]) (by simp [results, Tryd.results10, go_sem, *]) rfl ⟨rfl, ?_⟩
  exact (HBEL.out.setCell (p := ⟨w.heap.size, 0, none⟩) (Nat.le_refl _) _).setCell (p := ⟨w.heap.size, 1, none⟩) (Nat.le_refl _) _
end Go.Proofs.YtaijpiebjhhkjaaDoor
/- frac.checks of two, frac.Compare. -/
namespace Go.Proofs.YtaijpiebjhhkjaaDoor
open Go.RowKit
attribute [local go_sem ↓] run_min_mn run_max_mx
/-- the fault of two -/
def fracs2 (t b u c : Int) : Int := if fracErr t b ≠ 0 then fracErr t b else fracErr u c
end Go.Proofs.YtaijpiebjhhkjaaDoor
/- Fractions as Rat (plain: no program in sight but the words lowT, lowB, FracIn, fracErr). -/
namespace Go.Proofs.YtaijpiebjhhkjaaDoor
open Go.RowKit
theorem low_num (t b : Int) (hb : 0 < b) : lowT t b = (mkRat t b.toNat).num := by
  have hn : b.toNat ≠ 0 := by omega
  have hg : Int.gcd t b = t.natAbs.gcd b.toNat := by
    show Nat.gcd t.natAbs b.natAbs = _
    rw [show b.natAbs = b.toNat by omega]
  rw [Rat.mkRat_def, dif_neg hn, Rat.normalize_eq]
  show t.tdiv (Int.gcd t b) = t / ((t.natAbs.gcd b.toNat : Nat) : Int)
  rw [hg]
  exact Int.tdiv_eq_ediv_of_dvd (Int.ofNat_dvd_left.2 (Nat.gcd_dvd_left _ _))
theorem low_den (t b : Int) (hb : 0 < b) : lowB t b = ((mkRat t b.toNat).den : Int) := by
  have hn : b.toNat ≠ 0 := by omega
  have hg : Int.gcd t b = t.natAbs.gcd b.toNat := by
    show Nat.gcd t.natAbs b.natAbs = _
    rw [show b.natAbs = b.toNat by omega]
  rw [Rat.mkRat_def, dif_neg hn, Rat.normalize_eq]
  show b / ((Int.gcd t b : Nat) : Int) = ((b.toNat / t.natAbs.gcd b.toNat : Nat) : Int)
  rw [hg, Int.natCast_ediv, Int.toNat_of_nonneg (by omega)]
/-- a fraction's two numbers are those of a Rat -/
def QIn (q : Rat) : Prop := FracIn q.num q.den
instance (q : Rat) : Decidable (QIn q) := by unfold QIn; infer_instance
theorem frac_rat {t b : Int} (h : fracErr t b = 0) : ∃ q : Rat, t = q.num ∧ b = q.den ∧ QIn q := by
  obtain ⟨h1, h2⟩ := frac_ok h
  have hb := h1.1
  have e1 := low_num t b (by omega)
  have e2 := low_den t b (by omega)
  refine ⟨mkRat t b.toNat, ?_, ?_, ?_⟩
  · rw [← e1]; unfold lowT; rw [h2]; simp
  · rw [← e2]; unfold lowB; rw [h2]; simp
  · unfold QIn
    rw [← e1, ← e2]
    unfold lowT lowB; rw [h2]; simpa using h1
theorem rat_frac {q : Rat} (h : QIn q) : fracErr q.num q.den = 0 := by
  unfold fracErr
  rw [if_neg (fun x => x h), if_neg]
  intro x
  exact x (by show Nat.gcd q.num.natAbs (q.den : Int).natAbs = 1; exact q.reduced)
theorem den_pos' (q : Rat) : (0 : Int) < q.den := by have := q.den_pos; omega
theorem sum_num (q r : Rat) : lowT (q.num * r.den + r.num * q.den) ((q.den : Int) * r.den) = (q + r).num := by
  rw [low_num _ _ (Int.mul_pos (den_pos' q) (den_pos' r)), Rat.add_def']
  rw [show ((q.den : Int) * r.den).toNat = q.den * r.den by rw [← Int.natCast_mul, Int.toNat_natCast]]
theorem sum_den (q r : Rat) : lowB (q.num * r.den + r.num * q.den) ((q.den : Int) * r.den) = (q + r).den := by
  rw [low_den _ _ (Int.mul_pos (den_pos' q) (den_pos' r)), Rat.add_def']
  rw [show ((q.den : Int) * r.den).toNat = q.den * r.den by rw [← Int.natCast_mul, Int.toNat_natCast]]
theorem mk_times (q : Rat) (n : Int) : mkRat (q.num * n) q.den = q * n := by
  have h := Rat.mkRat_mul_mkRat q.num n q.den 1
  rw [Rat.mkRat_self, Nat.mul_one] at h
  rw [← h]; congr 1
  exact Rat.mkRat_one n
theorem times_num (q : Rat) (n : Int) : lowT (q.num * n) q.den = (q * n).num := by
  rw [low_num _ _ (den_pos' q), ← mk_times]; simp
theorem times_den (q : Rat) (n : Int) : lowB (q.num * n) q.den = (q * n).den := by
  rw [low_den _ _ (den_pos' q), ← mk_times]; simp
theorem mk_by (q : Rat) (n : Nat) : mkRat q.num (q.den * n) = q / n := by
  have h := Rat.mkRat_mul_mkRat q.num 1 q.den n
  rw [Rat.mkRat_self, Int.mul_one] at h
  rw [← h, Rat.div_def]
  congr 1
  rw [Rat.mkRat_eq_div]; simp [Rat.div_def]
theorem by_num (q : Rat) (n : Int) (hn : 0 < n) : lowT q.num ((q.den : Int) * n) = (q / n).num := by
  obtain ⟨m, rfl⟩ := Int.eq_ofNat_of_zero_le (Int.le_of_lt hn)
  rw [low_num _ _ (Int.mul_pos (den_pos' q) hn)]
  rw [show ((q.den : Int) * (m : Int)).toNat = q.den * m by rw [← Int.natCast_mul, Int.toNat_natCast], mk_by q m]
  rfl
theorem by_den (q : Rat) (n : Int) (hn : 0 < n) : lowB q.num ((q.den : Int) * n) = (q / n).den := by
  obtain ⟨m, rfl⟩ := Int.eq_ofNat_of_zero_le (Int.le_of_lt hn)
  rw [low_den _ _ (Int.mul_pos (den_pos' q) hn)]
  rw [show ((q.den : Int) * (m : Int)).toNat = q.den * m by rw [← Int.natCast_mul, Int.toNat_natCast], mk_by q m]
  rfl
/-- which is more -/
def ordQ (q r : Rat) : Int := if q < r then -1 else if r < q then 1 else 0
theorem cmp_rat (q r : Rat) : cmpI (q.num * r.den) (r.num * q.den) = ordQ q r := by
  unfold cmpI ordQ
  simp only [Rat.lt_iff]
theorem rat_ext {q r : Rat} (h : q.num = r.num) (k : (q.den : Int) = r.den) : q = r := Rat.ext h (by omega)
end Go.Proofs.YtaijpiebjhhkjaaDoor
/- Package frac, second part: sums, parts, times, and what fits. -/
namespace Go.Proofs.YtaijpiebjhhkjaaDoor
open Go.RowKit
attribute [local go_sem ↓] run_min_mn run_max_mx
theorem whole_any (n : Int) (w : World) :
    Calls Tryd.prog 80 #[.int .i64 n] w fun e w' => e = .returned (.agg #[.int .i64 n, .int .i64 1]) ∧ Below w.heap.size w w' := by
  go_enter Tryd.func80, Tryd.ntmps80
  go_wp2
  refine bodyPost_ret (v := .agg #[.int .i64 n, .int .i64 1]) (by simp [results, Tryd.results80, go_sem]) rfl ⟨rfl, ?_⟩
  repeat (first | exact Below.refl _ _ | apply Below.drew | refine Below.setCell ?_ (by simp) _ | refine Below.alloc ?_ (by simp) _)
theorem minus_any (t b : Int) (w : World) (h2 : -1000000000 ≤ t) (h3 : t ≤ 1000000000) :
    Calls Tryd.prog 83 #[.agg #[.int .i64 t, .int .i64 b]] w fun e w' => e = .returned (.agg #[.int .i64 (-t), .int .i64 b]) ∧ Below w.heap.size w w' := by
  go_enter Tryd.func83, Tryd.ntmps83
  go_wp2
  refine bodyPost_ret (v := .agg #[.int .i64 (-t), .int .i64 b]) (by simp [results, Tryd.results83, go_sem]) rfl ⟨rfl, ?_⟩
  repeat (first | exact Below.refl _ _ | apply Below.drew | apply below_drewN | refine Below.setCell ?_ (by simp) _ | refine Below.alloc ?_ (by simp) _)
theorem mul_pos_in (b c : Int) (h0 : 1 ≤ b) (h1 : b ≤ 100000000) (h2 : 1 ≤ c) (h3 : c ≤ 100000000) : 1 ≤ b * c ∧ b * c ≤ 10000000000000000 := by
  have a : b * c ≤ 100000000 * c := Int.mul_le_mul_of_nonneg_right h1 (by omega)
  have d : 1 * c ≤ b * c := Int.mul_le_mul_of_nonneg_right h0 (by omega)
  omega
def sumT (t b u c : Int) : Int := lowT (t * c + u * b) (b * c)
def sumB (t b u c : Int) : Int := lowB (t * c + u * b) (b * c)
set_option maxHeartbeats 1000000 in
theorem sum_any (t b u c : Int) (w : World) (h : FracIn t b) (k : FracIn u c) :
    Calls Tryd.prog 82 #[.agg #[.int .i64 t, .int .i64 b], .agg #[.int .i64 u, .int .i64 c]] w fun e w' => e = .returned (.agg #[.int .i64 (sumT t b u c), .int .i64 (sumB t b u c)]) ∧ Below w.heap.size w w' := by
  obtain ⟨h0, h1, h2, h3⟩ := h
  obtain ⟨k0, k1, k2, k3⟩ := k
  obtain ⟨m1, m3⟩ := mul_in t c h2 h3 k0 k1
  obtain ⟨m2, m4⟩ := mul_in u b k2 k3 h0 h1
  obtain ⟨m5, m6⟩ := mul_pos_in b c h0 h1 k0 k1
  have HL := Lib.hid fun W => low_any (t * c + u * b) (b * c) W (by omega) (by omega) (by omega) (by omega)
  unfold sumT sumB
  generalize lowT (t * c + u * b) (b * c) = vt at *
  generalize lowB (t * c + u * b) (b * c) = vb at *
  go_enter Tryd.func82, Tryd.ntmps82
  go_wp2_with fail
  refine (HL.out _).mono ?_; rintro e w2 ⟨rfl, hb2⟩
  have hbel := ((((Below.refl w.heap.size w).alloc (Nat.le_refl _) (.cells #[.int .i64 t, .int .i64 b] 35)).alloc (by simp) (.cells #[.int .i64 u, .int .i64 c] 35)).alloc (by simp; omega) (.cells #[.int .i64 0, .int .i64 0] 35))
  have HP := Lib.hid ((Blk.new' ((w.alloc (.cells #[.int .i64 t, .int .i64 b] 35)).alloc (.cells #[.int .i64 u, .int .i64 c] 35)) 35 #[.int .i64 0, .int .i64 0] (g := w.heap.size + 1 + 1) (by simp)).below hb2 (by simp))
  obtain ⟨p0, p1, f0, f1, z0⟩ := HP.out.two
  have HBEL := Lib.hid (hbel.trans (hb2.mono (by simp; omega)))
  clear hbel hb2
  go_wp2
  refine bodyPost_ret (v := .agg #[.int .i64 vt, .int .i64 vb]) (by simp [results, Tryd.results82, go_sem, *]) rfl ⟨rfl, ?_⟩
  exact (HBEL.out.setCell (by first | (focus (simp; done)) | (simp; omega)) _).setCell (by first | (focus (simp; done)) | (simp; omega)) _
set_option maxHeartbeats 1000000 in
theorem parts_any (t b n : Int) (w : World) (h : FracIn t b) (n0 : 1 ≤ n) (n1 : n ≤ 1000) :
    Calls Tryd.prog 84 #[.agg #[.int .i64 t, .int .i64 b], .int .i64 n] w fun e w' => e = .returned (.agg #[.int .i64 (lowT t (b * n)), .int .i64 (lowB t (b * n))]) ∧ Below w.heap.size w w' := by
  obtain ⟨h0, h1, h2, h3⟩ := h
  obtain ⟨m5, m6⟩ := mul_pos_in b n h0 h1 n0 (by omega)
  have HL := Lib.hid fun W => low_any t (b * n) W (by omega) (by omega) (by omega) (by omega)
  generalize lowT t (b * n) = vt at *
  generalize lowB t (b * n) = vb at *
  go_enter Tryd.func84, Tryd.ntmps84
  go_wp2_with fail
  refine (HL.out _).mono ?_; rintro e w2 ⟨rfl, hb2⟩
  have hbel := (((Below.refl w.heap.size w).alloc (Nat.le_refl _) (.cells #[.int .i64 t, .int .i64 b] 35)).alloc (by simp) (.cells #[.int .i64 0, .int .i64 0] 35))
  have HP := Lib.hid ((Blk.new' ((w.alloc (.cells #[.int .i64 t, .int .i64 b] 35))) 35 #[.int .i64 0, .int .i64 0] (g := w.heap.size + 1) (by simp)).below hb2 (by simp))
  obtain ⟨p0, p1, f0, f1, z0⟩ := HP.out.two
  have HBEL := Lib.hid (hbel.trans (hb2.mono (by simp; omega)))
  clear hbel hb2
  go_wp2
  refine bodyPost_ret (v := .agg #[.int .i64 vt, .int .i64 vb]) (by simp [results, Tryd.results84, go_sem, *]) rfl ⟨rfl, ?_⟩
  exact (HBEL.out.setCell (by first | (focus (simp; done)) | (simp; omega)) _).setCell (by first | (focus (simp; done)) | (simp; omega)) _
/-- a result that fits, or the fault -/
def fitV (t b : Int) : Value := if FracIn t b then .tuple #[.agg #[.int .i64 t, .int .i64 b], .nilIface] else .tuple #[.agg #[.int .i64 0, .int .i64 0], .iface 50 (.int .i64 4)]
theorem mul_k (t n : Int) (h0 : -1000000000 ≤ t) (h1 : t ≤ 1000000000) (h2 : -1000 ≤ n) (h3 : n ≤ 1000) : -1000000000000 ≤ t * n ∧ t * n ≤ 1000000000000 := by
  have e : (t * n).natAbs = t.natAbs * n.natAbs := Int.natAbs_mul t n
  have : t.natAbs * n.natAbs ≤ 1000000000 * 1000 := Nat.mul_le_mul (by omega) (by omega)
  omega
end Go.Proofs.YtaijpiebjhhkjaaDoor
/- Package frac, third part: its functions at Rats. -/
namespace Go.Proofs.YtaijpiebjhhkjaaDoor
open Go.RowKit
attribute [local go_sem ↓] run_min_mn run_max_mx
theorem sum_q (q r s : Rat) (w : World) (hq : QIn q) (hr : QIn r) (hs : q + r = s) :
    Calls Tryd.prog 82 #[.agg #[.int .i64 q.num, .int .i64 q.den], .agg #[.int .i64 r.num, .int .i64 r.den]] w fun e w' => e = .returned (.agg #[.int .i64 s.num, .int .i64 s.den]) ∧ Below w.heap.size w w' := by
  subst hs
  refine (sum_any q.num q.den r.num r.den w hq hr).mono fun _ _ ⟨h1, h2⟩ => ⟨?_, h2⟩
  rw [h1]; unfold sumT sumB; rw [sum_num, sum_den]
theorem minus_q (q r : Rat) (w : World) (hq : QIn q) (hr : -q = r) :
    Calls Tryd.prog 83 #[.agg #[.int .i64 q.num, .int .i64 q.den]] w fun e w' => e = .returned (.agg #[.int .i64 r.num, .int .i64 r.den]) ∧ Below w.heap.size w w' := by
  subst hr
  refine (minus_any q.num q.den w hq.2.2.1 hq.2.2.2).mono fun _ _ ⟨h1, h2⟩ => ⟨?_, h2⟩
  rw [h1]; simp
theorem parts_q (q s : Rat) (n : Int) (w : World) (hq : QIn q) (n0 : 1 ≤ n) (n1 : n ≤ 1000) (hs : q / (n : Rat) = s) :
    Calls Tryd.prog 84 #[.agg #[.int .i64 q.num, .int .i64 q.den], .int .i64 n] w fun e w' => e = .returned (.agg #[.int .i64 s.num, .int .i64 s.den]) ∧ Below w.heap.size w w' := by
  subst hs
  refine (parts_any q.num q.den n w hq n0 n1).mono fun _ _ ⟨h1, h2⟩ => ⟨?_, h2⟩
  rw [h1, by_num q n (by omega), by_den q n (by omega)]
theorem order_q (q r : Rat) (o : Int) (w : World) (hq : QIn q) (hr : QIn r) (ho : ordQ q r = o) :
    Calls Tryd.prog 67 #[.agg #[.int .i64 q.num, .int .i64 q.den], .agg #[.int .i64 r.num, .int .i64 r.den]] w fun e w' => e = .returned (.int .i64 o) ∧ Below w.heap.size w w' := by
  subst ho
  refine (order_any q.num q.den r.num r.den w hq hr).mono fun _ _ ⟨h1, h2⟩ => ⟨?_, h2⟩
  rw [h1, cmp_rat]
theorem fitV_q {q : Rat} (h : QIn q) : fitV q.num q.den = .tuple #[.agg #[.int .i64 q.num, .int .i64 q.den], errVal 0] := by
  unfold QIn at h; unfold fitV; rw [if_pos h]; rfl
theorem fitV_no {q : Rat} (h : ¬ QIn q) : fitV q.num q.den = .tuple #[.agg #[.int .i64 0, .int .i64 0], errVal 4] := by
  unfold QIn at h; unfold fitV; rw [if_neg h]; rfl
/-- by a number, whatever it is asked: the fault, or what it is -/
def ByIs (t b n v1 v2 er : Int) : Prop := er = 0 → ∃ q s : Rat, t = q.num ∧ b = q.den ∧ QIn q ∧ v1 = s.num ∧ v2 = s.den ∧ QIn s ∧ s * (n : Rat) = q ∧ 1 ≤ n ∧ n ≤ 1000
def AddIs (t b u c v1 v2 er : Int) : Prop := er = 0 → ∃ q r s : Rat, t = q.num ∧ b = q.den ∧ QIn q ∧ u = r.num ∧ c = r.den ∧ QIn r ∧ v1 = s.num ∧ v2 = s.den ∧ QIn s ∧ q + r = s
end Go.Proofs.YtaijpiebjhhkjaaDoor
/- Slices of fractions: how they lie. -/
namespace Go.Proofs.YtaijpiebjhhkjaaDoor
open Go.RowKit
structure Fr where
  t : Int
  b : Int
def Fr.cells (s : Fr) : List Value := [.int .i64 s.t, .int .i64 s.b]
def Fr.val (s : Fr) : Value := .agg #[.int .i64 s.t, .int .i64 s.b]
def frCells : List Fr → List Value
  | [] => []
  | s :: S => s.cells ++ frCells S
theorem frCells_len (S : List Fr) : (frCells S).length = S.length * 2 := by
  induction S with
  | nil => rfl
  | cons s S ih => simp only [frCells, List.length_append, ih, List.length_cons]; simp [Fr.cells]; omega
theorem frCells_at (S : List Fr) (k : Nat) (s : Fr) (h : S[k]? = some s) : (frCells S)[k * 2]? = some (.int .i64 s.t) ∧ (frCells S)[k * 2 + 1]? = some (.int .i64 s.b) := by
  induction S generalizing k with
  | nil => simp at h
  | cons t S ih =>
    cases k with
    | zero =>
      simp at h; subst h
      simp [frCells, Fr.cells]
    | succ k =>
      have := ih k (by simpa using h)
      have e : ∀ j, (frCells (t :: S))[(k + 1) * 2 + j]? = (frCells S)[k * 2 + j]? := fun j => by
        have h2 : (k + 1) * 2 + j = k * 2 + j + 1 + 1 := by omega
        rw [h2]; rfl
      exact ⟨(e 0).trans this.1, (e 1).trans this.2⟩
theorem frCells_set (S : List Fr) (k : Nat) (s : Fr) (h : k < S.length) : ((frCells S).set (k * 2) (.int .i64 s.t)).set (k * 2 + 1) (.int .i64 s.b) = frCells (S.set k s) := by
  induction S generalizing k with
  | nil => simp at h
  | cons t S ih =>
    cases k with
    | zero => simp [frCells, Fr.cells]
    | succ k =>
      have := ih k (by simpa using h)
      have e : ∀ (L : List Value) j u, (t.cells ++ L).set ((k + 1) * 2 + j) u = t.cells ++ L.set (k * 2 + j) u := fun L j u => by
        rw [List.set_append_right _ _ (by simp [Fr.cells]; omega)]
        congr 2
        simp [Fr.cells]; omega
      have e0 := fun L u => e L 0 u
      simp only [Nat.add_zero] at e0
      simp only [frCells, List.set_cons_succ]
      rw [e0, e, this]
theorem frCells_append (S T : List Fr) : frCells (S ++ T) = frCells S ++ frCells T := by
  induction S with
  | nil => rfl
  | cons s S ih => simp only [List.cons_append, frCells, ih, List.append_assoc]
theorem frCells_one (S : List Fr) : ∀ u ∈ frCells S, u.oneCell' = true := by
  induction S with
  | nil => simp [frCells]
  | cons s S ih =>
    intro u hu
    rcases List.mem_append.1 hu with hu | hu
    · simp [Fr.cells] at hu
      rcases hu with rfl | rfl <;> rfl
    · exact ih u hu
structure Frs (w : World) (B : Nat) (A : Option Addr) (c : Nat) (S : List Fr) : Prop where
  rd : Reads w B 2 A S.length (frCells S)
  le : S.length ≤ c
  cap : c ≤ maxLen
theorem Frs.more {w : World} {B C : Nat} {A : Option Addr} {c : Nat} {S : List Fr} (h : Frs w B A c S) (hC : B ≤ C) : Frs w C A c S := ⟨h.rd.more hC, h.le, h.cap⟩
theorem Frs.below {w w' : World} {B C : Nat} {A : Option Addr} {c : Nat} {S : List Fr} (h : Frs w B A c S) (hb : Below C w w') (hC : B ≤ C) : Frs w' B A c S := ⟨h.rd.below' hb hC, h.le, h.cap⟩
theorem Frs.at' {w w' : World} {A : Option Addr} {c : Nat} {S : List Fr} (h : Frs w w.heap.size A c S) (hb : Below w.heap.size w w') : Frs w' w'.heap.size A c S := (h.below hb (Nat.le_refl _)).more hb.size
theorem Frs.elem {w : World} {B : Nat} {A : Option Addr} {c : Nat} {S : List Fr} (h : Frs w B A c S) {k : Nat} (hk : k < S.length) :
    ∃ b off s, A = some ⟨b, off, none⟩ ∧ b < B ∧ w.cell? ⟨b, off + k * 2, none⟩ = some (.int .i64 s.t) ∧ w.cell? ⟨b, off + k * 2 + 1, none⟩ = some (.int .i64 s.b) ∧ Hid (S[k]? = some s) := by
  obtain ⟨b, off, e, hb, hc⟩ := h.rd.2 (by omega)
  have hs := List.getElem?_eq_getElem hk
  obtain ⟨h0, h1⟩ := frCells_at S k _ hs
  exact ⟨b, off, S[k], e, hb, hc _ _ h0, hc _ _ h1, hs⟩
theorem Tryd.info_fr : (Tryd.prog.info? 35).map (fun i => (i.zero, i.size, i.bytes)) = some (some (.agg #[.int .i64 0, .int .i64 0]), 2, 16) := by kernel_rfl
theorem owns_frs {w : World} {base n : Nat} {v : Value} {S : List Fr} (h : w.ownsRow base 35 2 v n (frCells S)) : ∃ A c, v = .slice A S.length c ∧ n = S.length ∧ Frs w w.heap.size A c S := by
  obtain ⟨A, c, rfl, h1, h2, h3⟩ := owns_reads h
  have hn : n = S.length := by have := h3.1; rw [frCells_len] at this; omega
  subst hn
  exact ⟨A, c, rfl, rfl, ⟨h3, h1, h2⟩⟩
end Go.Proofs.YtaijpiebjhhkjaaDoor
