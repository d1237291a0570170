/- What goes into both: frac.common, frac.Low, and the reference's. -/
import Derived.Test.YthffjnfnfddpdaaBlk
namespace Go.Proofs.Ythffjnfnfddpdaa
open Go.RowKit
attribute [local go_sem ↓] run_min_mn run_max_mx
theorem gcd_step (x y : Int) : Int.gcd y (x.tmod y) = Int.gcd x y := by
  show Nat.gcd y.natAbs (x.tmod y).natAbs = Nat.gcd x.natAbs y.natAbs
  rw [Int.natAbs_tmod, Nat.gcd_comm x.natAbs, Nat.gcd_rec y.natAbs x.natAbs, Nat.gcd_comm]
theorem tmod_lt (x y : Int) (hy : y ≠ 0) : (x.tmod y).natAbs < y.natAbs := by
  rw [Int.natAbs_tmod]; exact Nat.mod_lt _ (by omega)
theorem gcd_zero_abs (x : Int) : ((Int.gcd x 0 : Nat) : Int) = max x (-x) := by
  rw [Int.gcd_zero_right]; omega
theorem drewN_add (w : World) (a b : Nat) : (w.drewN a).drewN b = w.drewN (a + b) := by simp [World.drewN, Nat.add_assoc]
set_option maxHeartbeats 1000000 in
theorem common_any (a b : Int) (w : World) (ha0 : -1000000000000000000 ≤ a) (ha1 : a ≤ 1000000000000000000) (hb0 : -1000000000000000000 ≤ b) (hb1 : b ≤ 1000000000000000000) :
    Calls Try.prog 76 #[.int .i64 a, .int .i64 b] w fun e w' => e = .returned (.int .i64 (Int.gcd a b)) ∧ ∃ n, w' = w.drewN n := by
  obtain ⟨G, hG⟩ : ∃ G, Int.gcd a b = G := ⟨_, rfl⟩
  rw [hG]
  have HG := Lib.hid hG; clear hG
  go_enter Try.func76, Try.ntmps76
  go_wp2
  go_loopw [0, 1] (fun u v wr => ∃ (x y : Int) (d : Nat), u = .int .i64 x ∧ v = .int .i64 y ∧ -1000000000000000000 ≤ x ∧ x ≤ 1000000000000000000 ∧ -1000000000000000000 ≤ y ∧ y ≤ 1000000000000000000 ∧ Hid (Int.gcd x y = G) ∧ wr = w.drewN d)
    (fun _ v _ => (intOf v).natAbs)
  case atStart => exact ⟨a, b, 0, rfl, rfl, ha0, ha1, hb0, hb1, HG, rfl⟩
  case round =>
    obtain ⟨x, y, d, rfl, rfl, x0, x1, y0, y1, H, rfl⟩ := hrel
    by_cases hy : y = 0
    · subst hy
      have hm := gcd_zero_abs x
      rw [H.out] at hm
      have HM := Lib.hid hm; clear hm
      go_wp2
      go_ret
      exact ⟨by rw [HM.out]; rfl, _, rfl⟩
    · have e1 : (y != 0) = true := by rw [bne_iff_ne]; exact hy
      have e2 : (y == 0) = false := beq_eq_false_iff_ne.2 hy
      have ht := tmod_lt x y hy
      have t0 : -1000000000000000000 ≤ x.tmod y := by omega
      have t1 : x.tmod y ≤ 1000000000000000000 := by omega
      have HS := Lib.hid (gcd_step x y)
      clear ht
      go_wp2
      go_quiet (fail)
      go_wp2
      go_roundw
      case rel => exact ⟨y, x.tmod y, _, rfl, rfl, y0, y1, t0, t1, Lib.hid (by rw [HS.out]; exact H.out), drewN_add _ _ _⟩
      case measure => simp [intOf]; exact Nat.mod_lt _ (by omega)
/-- lowest terms -/
def lowT (t b : Int) : Int := t.tdiv (Int.gcd t b)
def lowB (t b : Int) : Int := b / (Int.gcd t b)
theorem gcd_pos_of (t b : Int) (hb : 0 < b) : 0 < Int.gcd t b := Int.gcd_pos_of_ne_zero_right _ (by omega)
theorem gcd_le_of (t b : Int) (hb : 0 < b) : ((Int.gcd t b : Nat) : Int) ≤ b := Int.le_of_dvd hb (Int.gcd_dvd_right ..)
theorem abs_tdiv_le (t g : Int) : -(t.natAbs : Int) ≤ t.tdiv g ∧ t.tdiv g ≤ t.natAbs := by
  have := Int.natAbs_tdiv_le_natAbs t g
  omega
set_option maxHeartbeats 1000000 in
theorem low_any (t b : Int) (w : World) (ht0 : -1000000000000000000 ≤ t) (ht1 : t ≤ 1000000000000000000) (hb0 : 0 < b) (hb1 : b ≤ 1000000000000000000) :
    Calls Try.prog 73 #[.int .i64 t, .int .i64 b] w fun e w' => e = .returned (.agg #[.int .i64 (lowT t b), .int .i64 (lowB t b)]) ∧ Below w.heap.size w w' := by
  have HC := Lib.hid fun W => common_any t b W ht0 ht1 (by omega) hb1
  have g1 := gcd_pos_of t b hb0
  have g2 := gcd_le_of t b hb0
  have d1 := abs_tdiv_le t (Int.gcd t b)
  unfold lowT lowB
  generalize Int.gcd t b = g at *
  have d2 : -1000000000000000000 ≤ t.tdiv g := by omega
  have d3 : t.tdiv g ≤ 1000000000000000000 := by omega
  clear d1
  have hz : ((g : Int) == 0) = false := beq_eq_false_iff_ne.2 (by omega)
  have hz' : (g : Int) ≠ 0 := by omega
  have hz1 : (g : Int) ≠ -1 := by omega
  have q0 : 0 ≤ b / (g : Int) := Int.ediv_nonneg (by omega) (by omega)
  have q1 : b / (g : Int) ≤ b := Int.ediv_le_self _ (by omega)
  go_enter Try.func73, Try.ntmps73
  go_wp2_with fail
  refine (HC.out _).mono ?_; rintro e w1 ⟨rfl, n, rfl⟩
  go_wp2
  go_region
  all_goals
    go_wp2
    refine bodyPost_ret (v := .agg #[.int .i64 (t.tdiv g), .int .i64 (b / g)]) (by simp [results, Try.results73, go_sem]) rfl ⟨rfl, ?_⟩
    repeat (first | exact Below.refl _ _ | apply Below.drew | apply below_drewN | refine Below.setCell ?_ (by simp <;> omega) _ | refine Below.alloc ?_ (by simp <;> omega) _)
end Go.Proofs.Ythffjnfnfddpdaa
