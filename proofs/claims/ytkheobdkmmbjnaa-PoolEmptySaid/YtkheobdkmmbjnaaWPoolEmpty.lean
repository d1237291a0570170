/- The walk of PoolEmpty: it returns true for every input. -/
import Derived.Test.YtkheobdkmmbjnaaPool
namespace Go.Proofs.Ytkheobdkmmbjnaa
open Go.RowKit
attribute [local go_sem ↓] run_min_mn run_max_mx
set_option maxHeartbeats 2000000 in
theorem poolEmpty_walk (r : Int) (_ : (Lit.int .i64 r).wf = true) (c : Int) (_ : (Lit.int .i64 c).wf = true) (n : Int) (_ : (Lit.int .i64 n).wf = true) (w : World) :
    Calls Try.prog 6 #[.int .i64 r, .int .i64 c, .int .i64 n] w fun e w' => e = .returned (.bool true) ∧ Below w.heap.size w w' := by
  by_cases hp : PoolOk r c 0
  · by_cases hn : n < 0 ∨ 10000 < n
    · have H := Lib.hid hp; clear hp
      go_enter Try.func6, Try.ntmps6
      go_wp2_with fail
      refine (ptick_bad r c 0 n _ H.out hn).mono ?_; rintro e w1 ⟨rfl, hb1⟩
      obtain ⟨p0, p1, p2, z0, z1, z2, z3⟩ := keep3 hb1 w.heap.size (by simp) (v0 := .int .i64 r) (v1 := .int .i64 c) (v2 := .int .i64 0) (by simp) (by simp) (by simp)
      go_wp2_with fail
      refine (pcheck_yes r c 0 _ H.out).mono ?_; rintro e w1 ⟨rfl, rfl⟩
      rcases hn with hn | hn
      · go_wp2
        go_ret
        exact ⟨rfl, ((((Below.refl _ _).alloc (Nat.le_refl _) _).trans (hb1.mono (by simp))).alloc (by omega) _ |>.alloc (by simp; omega) _).alloc (by simp; omega) _⟩
      · have h0 : decide (n < 0) = false := by simp; omega
        go_wp2
        go_ret
        exact ⟨rfl, ((((Below.refl _ _).alloc (Nat.le_refl _) _).trans (hb1.mono (by simp))).alloc (by omega) _ |>.alloc (by simp; omega) _).alloc (by simp; omega) _⟩
    · have hk := hp
      obtain ⟨h1, h2, h3, h4, h5, h8⟩ := hk
      have H := Lib.hid hp; clear hp
      have n0 : 0 ≤ n ∧ n ≤ 10000 := by omega
      obtain ⟨n0, n1⟩ := n0
      obtain ⟨s1, s2, s3, s4, s5, s6⟩ := step_bd r c 0 n h1 (by omega) (by omega) n0 (by omega) n1
      have e1 : c < n → PP.went c 0 n = c ∧ PP.lost r c 0 n + PP.left r c 0 n = n - c := fun h => by unfold PP.lost PP.left PP.went; omega
      have e2 : n ≤ c → PP.went c 0 n = n ∧ PP.lost r c 0 n = 0 ∧ PP.left r c 0 n = 0 := fun h => by unfold PP.lost PP.left PP.went; omega
      have E1 := Lib.hid e1; clear e1
      have E2 := Lib.hid e2; clear e2
      go_enter Try.func6, Try.ntmps6
      go_wp2_with fail
      refine (ptick_yes r c 0 n _ H.out n0 n1).mono ?_; rintro e w1 ⟨rfl, hb1⟩
      obtain ⟨p0, p1, p2, z0, z1, z2, z3⟩ := keep3 hb1 w.heap.size (by simp) (v0 := .int .i64 r) (v1 := .int .i64 c) (v2 := .int .i64 0) (by simp) (by simp) (by simp)
      by_cases hc : c < n
      · obtain ⟨g1, g2⟩ := E1.out hc
        rw [g1] at s1 s2 ⊢
        generalize PP.lost r c 0 n = a at *
        generalize PP.left r c 0 n = b at *
        obtain rfl : a = n - c - b := by omega
        clear g1 g2
        go_wp2
        go_ret
        exact ⟨by simp, (((Below.refl _ _).alloc (Nat.le_refl _) _).trans (hb1.mono (by simp))).alloc (by omega) _ |>.alloc (by simp; omega) _⟩
      · obtain ⟨g1, g2, g3⟩ := E2.out (by omega)
        rw [g1, g2, g3]
        clear g1 g2 g3 s1 s2 s3 s4 s5 s6
        go_wp2
        go_ret
        exact ⟨by simp, (((Below.refl _ _).alloc (Nat.le_refl _) _).trans (hb1.mono (by simp))).alloc (by omega) _ |>.alloc (by simp; omega) _⟩
  · have H := Lib.hid hp; clear hp
    go_enter Try.func6, Try.ntmps6
    go_wp2_with fail
    refine (ptick_no r c 0 n _ H.out).mono ?_; rintro e w1 ⟨rfl, hb1⟩
    obtain ⟨p0, p1, p2, z0, z1, z2, z3⟩ := keep3 hb1 w.heap.size (by simp) (v0 := .int .i64 r) (v1 := .int .i64 c) (v2 := .int .i64 0) (by simp) (by simp) (by simp)
    go_wp2_with fail
    refine (pcheck_no r c 0 _ H.out).mono ?_; rintro e w1 ⟨rfl, rfl⟩
    go_wp2
    go_ret
    exact ⟨rfl, ((((Below.refl _ _).alloc (Nat.le_refl _) _).trans (hb1.mono (by simp))).alloc (by omega) _ |>.alloc (by simp; omega) _).alloc (by simp; omega) _⟩
end Go.Proofs.Ytkheobdkmmbjnaa
