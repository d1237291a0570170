import Derived.Test.YtkheobdkmmbjnaaMark
/- the walks of MarkEven and MarkAll. -/
namespace Go.Proofs.Ytkheobdkmmbjnaa
open Go.RowKit
attribute [local go_sem ↓] run_min_mn run_max_mx

theorem count_ex (f n m : Int) (w : World) (h0 : 0 ≤ f) (h1 : f ≤ 1000) (h2 : 0 ≤ n) (h3 : n ≤ 10000) (h4 : 0 ≤ m) (h5 : m ≤ 10000) :
    Calls Try.prog 19 #[.int .i64 f, .int .i64 n, .int .i64 m] w fun e w' => ∃ x, e = .returned (.tuple #[.int .i64 x, .nilIface]) ∧ Hid (x = (n + m) * f / 1000 - n * f / 1000) ∧ w = w' :=
  (count_yes f n m w h0 h1 h2 h3 h4 h5).mono fun _ _ ⟨he, hw⟩ => ⟨_, he, rfl, hw⟩
theorem even_law (f n m : Int) : f * m / 1000 ≤ (n + m) * f / 1000 - n * f / 1000 ∧ (n + m) * f / 1000 - n * f / 1000 ≤ f * m / 1000 + 1 := by
  have e : (n + m) * f = n * f + f * m := by rw [Int.add_mul, Int.mul_comm m f]
  rw [e]; omega
theorem even_all (f n : Int) : (n + 1000) * f / 1000 - n * f / 1000 = f := by
  rw [Int.add_mul]; omega
theorem even_mono (f g m : Int) (hm : 0 ≤ m) (h : f ≤ g) : (0 + m) * f / 1000 - 0 * f / 1000 ≤ (0 + m) * g / 1000 - 0 * g / 1000 := by
  have := Int.mul_le_mul_of_nonneg_left h hm
  simp; omega
theorem mul_bd (f m : Int) (h0 : 0 ≤ f) (h1 : f ≤ 1000) (h4 : 0 ≤ m) (h5 : m ≤ 10000) : 0 ≤ f * m ∧ f * m ≤ 10000000 :=
  ⟨Int.mul_nonneg h0 h4, Int.mul_le_mul h1 h5 h4 (by omega)⟩

set_option maxHeartbeats 1000000 in
theorem markEven_walk (f : Int) (_ : (Lit.int .i64 f).wf = true) (n : Int) (_ : (Lit.int .i64 n).wf = true) (m : Int) (_ : (Lit.int .i64 m).wf = true) (g : Int) (_ : (Lit.int .i64 g).wf = true) (w : World) :
    Calls Try.prog 3 #[.int .i64 f, .int .i64 n, .int .i64 m, .int .i64 g] w fun e w' => e = .returned (.bool true) ∧ Below w.heap.size w w' := by
  by_cases hv : f < 0 ∨ 1000 < f ∨ n < 0 ∨ 10000 < n ∨ m < 0 ∨ 10000 < m
  · go_enter Try.func3, Try.ntmps3
    go_wp2_with fail
    refine (count_yes _ _ _ _ (by omega) (by omega) (by omega) (by omega) (by omega) (by omega)).mono ?_; rintro e w' ⟨rfl, rfl⟩
    go_wp2_with fail
    refine (count_no _ _ _ _ hv).mono ?_; rintro e w' ⟨rfl, rfl⟩
    go_wp2
    go_ret
    exact ⟨rfl, Below.refl _ _⟩
  · have v0 : 0 ≤ f ∧ f ≤ 1000 ∧ 0 ≤ n ∧ n ≤ 10000 ∧ 0 ≤ m ∧ m ≤ 10000 := by omega
    obtain ⟨v0, v1, v2, v3, v4, v5⟩ := v0
    have hmb := mul_bd f m v0 v1 v4 v5
    go_enter Try.func3, Try.ntmps3
    go_wp2_with fail
    refine (count_yes _ _ _ _ (by omega) (by omega) (by omega) (by omega) (by omega) (by omega)).mono ?_; rintro e w' ⟨rfl, rfl⟩
    go_wp2_with fail
    refine (count_ex _ _ _ _ v0 v1 v2 v3 v4 v5).mono ?_; rintro e w' ⟨x, rfl, hx, rfl⟩
    have b1 := even_law f n m
    rw [← hx.out] at b1
    clear hx
    have b2 : x = f * m / 1000 ∨ x = f * m / 1000 + 1 := by omega
    clear b1
    rcases b2 with rfl | rfl
    all_goals
      go_wp2_with fail
      refine (count_ex _ _ _ _ v0 v1 v2 v3 (by omega) (by omega)).mono ?_; rintro e w' ⟨y, rfl, hy, rfl⟩
      obtain rfl : y = f := by rw [hy.out]; exact even_all _ _
      go_wp2_with fail
      refine (count_ex _ _ _ _ v0 v1 (by omega) (by omega) v4 v5).mono ?_; rintro e w' ⟨a, rfl, ha, rfl⟩
      go_wp2_with fail
      by_cases hg : g < 0 ∨ 1000 < g
      · refine (count_no _ _ _ _ (by omega)).mono ?_; rintro e w' ⟨rfl, rfl⟩
        go_wp2
        go_ret
        exact ⟨rfl, Below.refl _ _⟩
      · refine (count_ex _ _ _ _ (by omega) (by omega) (by omega) (by omega) v4 v5).mono ?_; rintro e w' ⟨b, rfl, hb, rfl⟩
        by_cases hfg : y ≤ g
        · have c1 : a ≤ b := by rw [ha.out, hb.out]; exact even_mono _ _ _ v4 hfg
          go_wp2
          go_ret
          exact ⟨rfl, Below.refl _ _⟩
        · have c1 : b ≤ a := by rw [ha.out, hb.out]; exact even_mono _ _ _ v4 (by omega)
          go_wp2
          go_ret
          exact ⟨rfl, Below.refl _ _⟩
end Go.Proofs.Ytkheobdkmmbjnaa
