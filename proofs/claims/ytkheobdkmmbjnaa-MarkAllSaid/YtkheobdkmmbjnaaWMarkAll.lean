/- The walk of MarkAll: it returns true for every input. -/
import Derived.Test.YtkheobdkmmbjnaaMark
namespace Go.Proofs.Ytkheobdkmmbjnaa
open Go.RowKit
attribute [local go_sem ↓] run_min_mn run_max_mx

theorem marked_zero (i : Int) : marked 0 i = false := by simp [marked]
theorem marked_all (i : Int) : marked 1000 i = true := by simp only [marked, decide_eq_true_eq]; omega
theorem is_zero (i : Int) (w : World) (h2 : 0 ≤ i) (h3 : i ≤ 1000000000) : Calls Try.prog 20 #[.int .i64 0, .int .i64 i] w fun e w' => e = .returned (.tuple #[.bool false, .nilIface]) ∧ w = w' :=
  (is_yes 0 i w (by omega) (by omega) h2 h3).mono fun _ _ ⟨he, hw⟩ => ⟨by rw [he, marked_zero], hw⟩
theorem is_all (i : Int) (w : World) (h2 : 0 ≤ i) (h3 : i ≤ 1000000000) : Calls Try.prog 20 #[.int .i64 1000, .int .i64 i] w fun e w' => e = .returned (.tuple #[.bool true, .nilIface]) ∧ w = w' :=
  (is_yes 1000 i w (by omega) (by omega) h2 h3).mono fun _ _ ⟨he, hw⟩ => ⟨by rw [he, marked_all], hw⟩
theorem list_four (w : World) : Calls Try.prog 21 #[.int .i64 500, .int .i64 4] w fun e w' => ∃ b off c, e = .returned (.tuple #[.slice (some ⟨b, off, none⟩) 4 c, .nilIface]) ∧
    w'.cell? ⟨b, off, none⟩ = some (.bool false) ∧ w'.cell? ⟨b, off + 1, none⟩ = some (.bool true) ∧ w'.cell? ⟨b, off + 2, none⟩ = some (.bool false) ∧ w'.cell? ⟨b, off + 3, none⟩ = some (.bool true) ∧ 4 ≤ c ∧ Below w.heap.size w w' := by
  refine (list_yes 500 4 w (by omega) (by omega) (by omega) (by omega)).mono ?_
  rintro e w' ⟨v, rfl, hown, hb⟩
  obtain ⟨A, c, rfl, hc, _, hr⟩ := owns_reads hown
  obtain ⟨b, off, rfl, _, hcell⟩ := hr.2 (by decide)
  exact ⟨b, off, c, rfl, hcell 0 _ rfl, hcell 1 _ rfl, hcell 2 _ rfl, hcell 3 _ rfl, hc, hb⟩

set_option maxHeartbeats 1000000 in
theorem markAll_walk (i : Int) (_ : (Lit.int .i64 i).wf = true) (w : World) :
    Calls Try.prog 4 #[.int .i64 i] w fun e w' => e = .returned (.bool true) ∧ Below w.heap.size w w' := by
  by_cases hv : i < 0 ∨ 1000000000 < i
  · go_enter Try.func4, Try.ntmps4
    go_wp2_with fail
    refine (is_no _ _ _ (by omega)).mono ?_; rintro e w' ⟨rfl, rfl⟩
    go_wp2_with fail
    refine (is_no _ _ _ (by omega)).mono ?_; rintro e w' ⟨rfl, rfl⟩
    rcases hv with hv | hv
    · go_wp2
      go_ret
      exact ⟨rfl, Below.refl _ _⟩
    · have h0 : decide (i < 0) = false := by simp; omega
      go_wp2
      go_ret
      exact ⟨rfl, Below.refl _ _⟩
  · go_enter Try.func4, Try.ntmps4
    go_wp2_with fail
    refine (is_zero _ _ (by omega) (by omega)).mono ?_; rintro e w' ⟨rfl, rfl⟩
    go_wp2_with fail
    refine (is_all _ _ (by omega) (by omega)).mono ?_; rintro e w' ⟨rfl, rfl⟩
    go_wp2_with fail
    refine (list_four _).mono ?_; rintro e w' ⟨b, off, c, rfl, h0, h1, h2, h3, hc, hb⟩
    go_wp2
    go_ret
    exact ⟨rfl, hb⟩
end Go.Proofs.Ytkheobdkmmbjnaa
