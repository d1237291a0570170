/- Package frac: what its functions compute (first part: checks, order, of two numbers). -/
import Derived.Test.YthffjnfnfddpdaaGcd
import Derived.Test.YthffjnfnfddpdaaErr
import Derived.Test.YthffjnfnfddpdaaCmp
namespace Go.Proofs.Ythffjnfnfddpdaa
open Go.RowKit
attribute [local go_sem ↓] run_min_mn run_max_mx
theorem top_yes (n : Int) (w : World) (h0 : -1000000000 ≤ n) (h1 : n ≤ 1000000000) : Calls Try.prog 75 #[.int .i64 n] w fun e w' => e = .returned (.bool true) ∧ w = w' := by
  go_enter Try.func75, Try.ntmps75
  go_wp2
  go_ret
  exact ⟨rfl, rfl⟩
theorem top_no (n : Int) (w : World) (h : n < -1000000000 ∨ 1000000000 < n) : Calls Try.prog 75 #[.int .i64 n] w fun e w' => e = .returned (.bool false) ∧ w = w' := by
  rcases h with h | h
  · have hd : decide (-1000000000 ≤ n) = false := decide_eq_false (by omega)
    go_enter Try.func75, Try.ntmps75
    go_wp2
    go_ret
    exact ⟨rfl, rfl⟩
  · have h0 : -1000000000 ≤ n := by omega
    have hd : decide (n ≤ 1000000000) = false := decide_eq_false (by omega)
    go_enter Try.func75, Try.ntmps75
    go_wp2
    go_ret
    exact ⟨rfl, rfl⟩
theorem bottom_yes (n : Int) (w : World) (h0 : 1 ≤ n) (h1 : n ≤ 100000000) : Calls Try.prog 74 #[.int .i64 n] w fun e w' => e = .returned (.bool true) ∧ w = w' := by
  go_enter Try.func74, Try.ntmps74
  go_wp2
  go_ret
  exact ⟨rfl, rfl⟩
theorem bottom_no (n : Int) (w : World) (h : n < 1 ∨ 100000000 < n) : Calls Try.prog 74 #[.int .i64 n] w fun e w' => e = .returned (.bool false) ∧ w = w' := by
  rcases h with h | h
  · have hd : decide (1 ≤ n) = false := decide_eq_false (by omega)
    go_enter Try.func74, Try.ntmps74
    go_wp2
    go_ret
    exact ⟨rfl, rfl⟩
  · have h0 : 1 ≤ n := by omega
    have hd : decide (n ≤ 100000000) = false := decide_eq_false (by omega)
    go_enter Try.func74, Try.ntmps74
    go_wp2
    go_ret
    exact ⟨rfl, rfl⟩
/-- the numbers that may be -/
def FracIn (t b : Int) : Prop := 1 ≤ b ∧ b ≤ 100000000 ∧ -1000000000 ≤ t ∧ t ≤ 1000000000
instance (t b : Int) : Decidable (FracIn t b) := by unfold FracIn; infer_instance
def fracErr (t b : Int) : Int := if ¬ FracIn t b then 1 else if Int.gcd t b ≠ 1 then 3 else 0
theorem frac_ok {t b : Int} (h : fracErr t b = 0) : FracIn t b ∧ Int.gcd t b = 1 := by
  unfold fracErr at h
  split at h
  · omega
  · split at h
    · omega
    · rename_i h1 h2
      exact ⟨Decidable.not_not.1 h1, Decidable.not_not.1 h2⟩
set_option maxHeartbeats 1000000 in
theorem fcheck_all (t b : Int) (w : World) : Calls Try.prog 30 #[.agg #[.int .i64 t, .int .i64 b]] w fun e w' => e = .returned (errVal (fracErr t b)) ∧ Below w.heap.size w w' := by
  have b0 : Below w.heap.size w (w.alloc (.cells #[.int .i64 t, .int .i64 b] 44)) := (Below.refl _ _).alloc (Nat.le_refl _) _
  by_cases hb : b < 1 ∨ 100000000 < b
  · have e : fracErr t b = 1 := by unfold fracErr FracIn; rw [if_pos (by omega)]
    rw [e]; clear e
    go_enter Try.func30, Try.ntmps30
    go_wp2_with fail
    refine (bottom_no b _ hb).mono ?_; rintro e w' ⟨rfl, rfl⟩
    clear hb
    go_wp2
    go_ret
    exact ⟨rfl, b0⟩
  · have h0 : 1 ≤ b := by omega
    have h1 : b ≤ 100000000 := by omega
    by_cases ht : t < -1000000000 ∨ 1000000000 < t
    · have e : fracErr t b = 1 := by unfold fracErr FracIn; rw [if_pos (by omega)]
      rw [e]; clear e hb
      go_enter Try.func30, Try.ntmps30
      go_wp2_with fail
      refine (bottom_yes b _ h0 h1).mono ?_; rintro e w' ⟨rfl, rfl⟩
      go_wp2_with fail
      refine (top_no t _ ht).mono ?_; rintro e w' ⟨rfl, rfl⟩
      clear ht
      go_wp2
      go_ret
      exact ⟨rfl, b0⟩
    · have h2 : -1000000000 ≤ t := by omega
      have h3 : t ≤ 1000000000 := by omega
      have hin : FracIn t b := ⟨h0, h1, h2, h3⟩
      have e : fracErr t b = if Int.gcd t b ≠ 1 then 3 else 0 := by unfold fracErr; rw [if_neg (fun h => h hin)]
      rw [e]; clear e hb ht
      have HC := Lib.hid fun W => common_any t b W (by omega) (by omega) (by omega) (by omega)
      by_cases hg : Int.gcd t b = 1
      · rw [if_neg (fun h => h hg)]
        rw [hg] at HC
        clear hg
        go_enter Try.func30, Try.ntmps30
        go_wp2_with fail
        refine (bottom_yes b _ h0 h1).mono ?_; rintro e w' ⟨rfl, rfl⟩
        go_wp2_with fail
        refine (top_yes t _ h2 h3).mono ?_; rintro e w' ⟨rfl, rfl⟩
        go_wp2_with fail
        refine (HC.out _).mono ?_; rintro e w' ⟨rfl, n, rfl⟩
        go_wp2
        go_ret
        exact ⟨rfl, below_drewN b0 n⟩
      · rw [if_pos hg]
        have hG : ((Int.gcd t b : Nat) : Int) ≠ 1 := by omega
        generalize Int.gcd t b = G at *
        have hn : ((G : Int) != 1) = true := by rw [bne_iff_ne]; exact hG
        clear hg hG
        go_enter Try.func30, Try.ntmps30
        go_wp2_with fail
        refine (bottom_yes b _ h0 h1).mono ?_; rintro e w' ⟨rfl, rfl⟩
        go_wp2_with fail
        refine (top_yes t _ h2 h3).mono ?_; rintro e w' ⟨rfl, rfl⟩
        go_wp2_with fail
        refine (HC.out _).mono ?_; rintro e w' ⟨rfl, n, rfl⟩
        go_wp2
        go_ret
        exact ⟨rfl, below_drewN b0 n⟩
theorem mul_in (t b : Int) (h0 : -1000000000 ≤ t) (h1 : t ≤ 1000000000) (h2 : 1 ≤ b) (h3 : b ≤ 100000000) : -100000000000000000 ≤ t * b ∧ t * b ≤ 100000000000000000 := by
  have a : t * b ≤ 1000000000 * b := Int.mul_le_mul_of_nonneg_right h1 (by omega)
  have c : -1000000000 * b ≤ t * b := Int.mul_le_mul_of_nonneg_right h0 (by omega)
  omega
theorem order_any (t b u c : Int) (w : World) (h : FracIn t b) (k : FracIn u c) :
    Calls Try.prog 78 #[.agg #[.int .i64 t, .int .i64 b], .agg #[.int .i64 u, .int .i64 c]] w fun e w' => e = .returned (.int .i64 (cmpI (t * c) (u * b))) ∧ Below w.heap.size w w' := by
  obtain ⟨h0, h1, h2, h3⟩ := h
  obtain ⟨k0, k1, k2, k3⟩ := k
  have m1 := mul_in t c h2 h3 k0 k1
  have m2 := mul_in u b k2 k3 h0 h1
  obtain ⟨m1, m3⟩ := m1
  obtain ⟨m2, m4⟩ := m2
  go_enter Try.func78, Try.ntmps78
  go_wp2_with fail
  refine (cmp_any _ _ _).mono ?_; rintro e w' ⟨rfl, rfl⟩
  go_wp2
  go_ret
  exact ⟨rfl, ((Below.refl _ _).alloc (Nat.le_refl _) _).alloc (by simp) _⟩
theorem of_in (t b vt vb : Int) (w : World) (h : FracIn t b) (ht : lowT t b = vt) (hb : lowB t b = vb) :
    Calls Try.prog 31 #[.int .i64 t, .int .i64 b] w fun e w' => e = .returned (.tuple #[.agg #[.int .i64 vt, .int .i64 vb], .nilIface]) ∧ Below w.heap.size w w' := by
  subst ht hb
  obtain ⟨h0, h1, h2, h3⟩ := h
  have HL := Lib.hid fun W => low_any t b W (by omega) (by omega) (by omega) (by omega)
  generalize lowT t b = vt at *
  generalize lowB t b = vb at *
  go_enter Try.func31, Try.ntmps31
  go_wp2_with fail
  refine (bottom_yes b _ h0 h1).mono ?_; rintro e w' ⟨rfl, rfl⟩
  go_wp2_with fail
  refine (top_yes t _ h2 h3).mono ?_; rintro e w' ⟨rfl, rfl⟩
  go_wp2_with fail
  refine (HL.out _).mono ?_; rintro e w2 ⟨rfl, hb2⟩
  have HP := Lib.hid ((Blk.new w 44 #[.int .i64 0, .int .i64 0]).below hb2 (by simp))
  obtain ⟨p0, p1, f0, f1, z0⟩ := HP.out.two
  have hbel := ((Below.refl w.heap.size w).alloc (Nat.le_refl _) (.cells #[.int .i64 0, .int .i64 0] 44)).trans (hb2.mono (by simp))
  have HBEL := Lib.hid hbel
  clear hbel hb2
  go_wp2
  refine bodyPost_ret (v := .tuple #[.agg #[.int .i64 vt, .int .i64 vb], .nilIface]) (by simp [results, Try.results31, go_sem, *]) rfl ⟨rfl, ?_⟩
  exact (HBEL.out.setCell (p := ⟨w.heap.size, 0, none⟩) (Nat.le_refl _) _).setCell (p := ⟨w.heap.size, 1, none⟩) (Nat.le_refl _) _
end Go.Proofs.Ythffjnfnfddpdaa
