/- The walk of SourceOne: it returns true for every input. -/
import Derived.Test.YtkheobdkmmbjnaaDoorSource
import Derived.Test.YtkheobdkmmbjnaaDoorTold
namespace Go.Proofs.YtkheobdkmmbjnaaDoor
open Go.RowKit
attribute [local go_sem ↓] run_min_mn run_max_mx
set_option maxHeartbeats 4000000 in
set_option maxRecDepth 100000 in
theorem sourceOne_walk (W : Int) (_ : (Lit.int .i64 W).wf = true) (l : Int) (_ : (Lit.int .i64 l).wf = true) (w : World) (hg : Laid w) :
    Calls Tryd.prog 6 #[.int .i64 W, .int .i64 l] w fun e w' => e = .returned (.bool true) ∧ Below w.heap.size w w' := by
  have HG := Lib.hid hg; clear hg
  have b0 : Below w.heap.size w (w.alloc (.cells #[.int .i64 W, .int .i64 0, .int .i64 l, .int .i64 0] 56)) := (Below.refl _ _).alloc (Nat.le_refl _) _
  by_cases ok : SourceOk W 0 l 0
  · have H := Lib.hid ok
    obtain ⟨g1, g2, g3, g4, g5, g6, g7, g8⟩ := ok
    have hn : ∃ n, n = sentN W 0 l := ⟨_, rfl⟩
    obtain ⟨n, hn⟩ := hn
    have hn0 : 0 ≤ n ∧ n ≤ l ∧ n ≤ W ∧ (n = 0 ∧ l = 0 ∨ 1 ≤ n) := by rw [hn]; unfold sentN; omega
    obtain ⟨n0, n1, n2, n3⟩ := hn0
    go_enter Tryd.func6, Tryd.ntmps6
    go_wp2_with fail
    refine (send_yes W 0 l 0 _ H.out).mono ?_; rintro e w1 ⟨rfl, hb1⟩
    rw [← hn]
    clear hn
    have hw1 := b0.trans (hb1.mono b0.size)
    have HP1 := Lib.hid ((Blk.new w 56 #[.int .i64 W, .int .i64 0, .int .i64 l, .int .i64 0]).below hb1 (by simp))
    obtain ⟨p0, p1, p2, p3, f0, f1, f2, f3, z0⟩ := HP1.out.four
    have z1 : w.heap.size < w1.heap.size + 1 := by omega
    clear hb1 b0
    go_wp2_with fail
    refine (ack_low W l 0 true _ H.out).mono ?_; rintro e w2 ⟨rfl, hb2⟩
    have b1 := hw1.alloc hw1.size (.cells #[.int .i64 W, .int .i64 n, .int .i64 (l - n), .int .i64 0] 56)
    have hw2 := b1.trans (hb2.mono b1.size)
    have HX2 := Lib.hid ((Blk.new w1 56 #[.int .i64 W, .int .i64 n, .int .i64 (l - n), .int .i64 0]).below hb2 (by simp))
    clear p0 p1 p2 p3 f0 f1 f2 f3 z0 z1 hb2 b1 HP1
    go_wp2_with fail
    refine (same_err 8 8 _ ((HG.out.below hw2).alloc _)).mono ?_; rintro e w3 ⟨rfl, hb3⟩
    have b2 := hw2.alloc hw2.size (.cells #[.int .i64 0, .int .i64 0, .int .i64 0, .int .i64 0] 56)
    have hw3 := b2.trans (hb3.mono b2.size)
    have HX3 := Lib.hid ((HX2.out.alloc (.cells #[.int .i64 0, .int .i64 0, .int .i64 0, .int .i64 0] 56)).below hb3 (by have := HX2.out.lt; simp; omega))
    clear hb3 b2 HX2
    have ee : ((8 : Int) == 8) = true := rfl
    rw [ee]
    rcases n3 with ⟨rfl, rfl⟩ | n3
    · go_wp2
      go_ret
      exact ⟨rfl, hw3⟩
    · obtain ⟨x0, x1, x2, x3, fx0, fx1, fx2, fx3, zx⟩ := HX3.out.four
      have hnz : n ≠ 0 := by omega
      go_wp2_with fail
      refine (ack_yes W n (l - n) 0 true _ ⟨g1, g2, by omega, by omega, by omega, by omega, by omega, by omega⟩ hnz (by omega)).mono ?_; rintro e w4 ⟨rfl, hb4⟩
      have hw4 := hw3.trans (hb4.mono hw3.size)
      have HX4 := Lib.hid (HX3.out.below hb4 HX3.out.lt)
      clear x0 x1 x2 x3 fx0 fx1 fx2 fx3 hb4 HX3
      obtain ⟨x0, x1, x2, x3, fx0, fx1, fx2, fx3, zx'⟩ := HX4.out.four
      have zx2 : w1.heap.size < w4.heap.size + 1 := by omega
      have a1 : ackW W true = min 1000 (W + 1) := rfl
      rw [a1]
      go_wp2_with fail
      refine (lost_yes W n (l - n) 0 _ ⟨g1, g2, by omega, by omega, by omega, by omega, by omega, by omega⟩ hnz (by omega)).mono ?_; rintro e w5 ⟨rfl, hb5⟩
      have b4 := hw4.alloc hw4.size (.cells #[.int .i64 (min 1000 (W + 1)), .int .i64 (n - 1), .int .i64 (l - n), .int .i64 1] 56)
      have hw5 := b4.trans (hb5.mono b4.size)
      have HY5 := Lib.hid ((Blk.new w4 56 #[.int .i64 (min 1000 (W + 1)), .int .i64 (n - 1), .int .i64 (l - n), .int .i64 1]).below hb5 (by simp))
      clear x0 x1 x2 x3 fx0 fx1 fx2 fx3 hb5 HX4 b4 zx zx' zx2
      obtain ⟨y0, y1, y2, y3, fy0, fy1, fy2, fy3, zy⟩ := HY5.out.four
      have zy2 : w4.heap.size < w5.heap.size + 1 := by omega
      by_cases c1 : 1000 < W + 1
      · have m1 : min 1000 (W + 1) = 1000 := by omega
        rw [m1] at y0
        have c2 : ¬ W / 2 < 1 := by omega
        have m2 : max 1 (W / 2) = W / 2 := by omega
        rw [m2]
        go_wp2
        go_ret
        exact ⟨rfl, hw5.alloc hw5.size _⟩
      · have m1 : min 1000 (W + 1) = W + 1 := by omega
        rw [m1] at y0
        by_cases c2 : W / 2 < 1
        · have m2 : max 1 (W / 2) = 1 := by omega
          rw [m2]
          go_wp2
          go_ret
          exact ⟨rfl, hw5.alloc hw5.size _⟩
        · have m2 : max 1 (W / 2) = W / 2 := by omega
          rw [m2]
          go_wp2
          go_ret
          exact ⟨rfl, hw5.alloc hw5.size _⟩
  · have H := Lib.hid ok; clear ok
    go_enter Tryd.func6, Tryd.ntmps6
    go_wp2_with fail
    refine (send_no W 0 l 0 _ H.out).mono ?_; rintro e w1 ⟨rfl, hb1⟩
    have hw1 := b0.trans (hb1.mono b0.size)
    have HP1 := Lib.hid ((Blk.new w 56 #[.int .i64 W, .int .i64 0, .int .i64 l, .int .i64 0]).below hb1 (by simp))
    obtain ⟨p0, p1, p2, p3, f0, f1, f2, f3, z0⟩ := HP1.out.four
    have z1 : w.heap.size < w1.heap.size + 1 := by omega
    clear hb1 b0
    go_wp2_with fail
    refine (scheck_no W 0 l 0 _ H.out).mono ?_; rintro e w2 ⟨rfl, rfl⟩
    go_wp2
    go_ret
    exact ⟨rfl, (hw1.alloc hw1.size _).alloc (by simp; have := hw1.size; omega) _⟩
end Go.Proofs.YtkheobdkmmbjnaaDoor
