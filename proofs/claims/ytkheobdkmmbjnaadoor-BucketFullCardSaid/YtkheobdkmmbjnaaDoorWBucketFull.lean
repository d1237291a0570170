/- The walk of BucketFull: it returns true for every input. -/
import Derived.Test.YtkheobdkmmbjnaaDoorBucketTick
import Derived.Test.YtkheobdkmmbjnaaDoorTold
namespace Go.Proofs.YtkheobdkmmbjnaaDoor
open Go.RowKit
attribute [local go_sem ↓] run_min_mn run_max_mx
set_option maxHeartbeats 4000000 in
set_option maxRecDepth 100000 in
theorem bucketFull_walk (s : Int) (_ : (Lit.int .i64 s).wf = true) (r : Int) (_ : (Lit.int .i64 r).wf = true) (w : World) (hg : Laid w) :
    Calls Tryd.prog 4 #[.int .i64 s, .int .i64 r] w fun e w' => e = .returned (.bool true) ∧ Below w.heap.size w w' := by
  have HG := Lib.hid hg; clear hg
  by_cases ok : BucketOk s r s
  · have H := Lib.hid ok
    obtain ⟨g1, g2, g3, g4, g5, g6⟩ := ok
    have hmin : min s (s + r) = s := by omega
    have hmin2 : min s (0 + r) = r := by omega
    go_enter Tryd.func4, Tryd.ntmps4
    go_wp2_with fail
    refine (bTick_yes s r s _ H.out).mono ?_; rintro e w1 ⟨rfl, hb1⟩
    have b0 : Below w.heap.size w (w.alloc (.cells #[.int .i64 s, .int .i64 r, .int .i64 s] 35)) := (Below.refl _ _).alloc (Nat.le_refl _) _
    have hw1 := b0.trans (hb1.mono b0.size)
    have HP1 := Lib.hid ((Blk.new w 35 #[.int .i64 s, .int .i64 r, .int .i64 s]).below hb1 (by simp))
    rw [hmin]
    obtain ⟨p0, p1, p2, f0, f1, f2, z0⟩ := HP1.out.three
    have z1 : w.heap.size < w1.heap.size + 1 := by omega
    clear hmin hb1 b0
    go_wp2_with fail
    refine (take_yes s r s s _ H.out (by omega) (by omega) (Int.le_refl _)).mono ?_; rintro e w2 ⟨rfl, hb2⟩
    have hss : s - s = 0 := by omega
    rw [hss]
    have b1 := hw1.alloc hw1.size (.cells #[.int .i64 s, .int .i64 r, .int .i64 s] 35)
    have hw2 := b1.trans (hb2.mono b1.size)
    have HP2 := Lib.hid ((HP1.out.alloc (.cells #[.int .i64 s, .int .i64 r, .int .i64 s] 35)).below hb2 (by simp; omega))
    have HX2 := Lib.hid ((Blk.new w1 35 #[.int .i64 s, .int .i64 r, .int .i64 s]).below hb2 (by simp))
    clear p0 p1 p2 f0 f1 f2 z0 z1 hb2 b1 HP1 hss
    go_wp2_with fail
    refine (take_low s r 0 1 _ ⟨g1, g2, g3, g4, Int.le_refl _, by omega⟩ (by omega) (by omega) (by omega)).mono ?_; rintro e w3 ⟨rfl, hb3⟩
    have b2 := hw2.alloc hw2.size (.cells #[.int .i64 s, .int .i64 r, .int .i64 0] 35)
    have hw3 := b2.trans (hb3.mono b2.size)
    have HP3 := Lib.hid ((HP2.out.alloc (.cells #[.int .i64 s, .int .i64 r, .int .i64 0] 35)).below hb3 (by have := HP2.out.lt; simp; omega))
    have HX3 := Lib.hid ((HX2.out.alloc (.cells #[.int .i64 s, .int .i64 r, .int .i64 0] 35)).below hb3 (by have := HX2.out.lt; simp; omega))
    have HY3 := Lib.hid ((Blk.new w2 35 #[.int .i64 s, .int .i64 r, .int .i64 0]).below hb3 (by simp))
    clear hb3 b2 HP2 HX2
    obtain ⟨y0, y1, y2, fy0, fy1, fy2, zy⟩ := HY3.out.three
    have z3 : w2.heap.size < w3.heap.size + 1 := by omega
    go_wp2_with fail
    refine (bTick_yes s r 0 _ ⟨g1, g2, g3, g4, Int.le_refl _, by omega⟩).mono ?_; rintro e w4 ⟨rfl, hb4⟩
    rw [hmin2]
    have b3 := hw3.alloc hw3.size (.cells #[.int .i64 0, .int .i64 0, .int .i64 0] 35)
    have hw4 := b3.trans (hb4.mono b3.size)
    have HP4 := Lib.hid ((HP3.out.alloc (.cells #[.int .i64 0, .int .i64 0, .int .i64 0] 35)).below hb4 (by have := HP3.out.lt; simp; omega))
    have HX4 := Lib.hid ((HX3.out.alloc (.cells #[.int .i64 0, .int .i64 0, .int .i64 0] 35)).below hb4 (by have := HX3.out.lt; simp; omega))
    have HY4 := Lib.hid ((HY3.out.alloc (.cells #[.int .i64 0, .int .i64 0, .int .i64 0] 35)).below hb4 (by have := HY3.out.lt; simp; omega))
    clear y0 y1 y2 fy0 fy1 fy2 zy z3 hb4 b3 HP3 HX3 HY3 hmin2
    obtain ⟨p0, p1, p2, f0, f1, f2, z0⟩ := HP4.out.three
    obtain ⟨x0, x1, x2, fx0, fx1, fx2, zx⟩ := HX4.out.three
    obtain ⟨y0, y1, y2, fy0, fy1, fy2, zy⟩ := HY4.out.three
    have z1 : w.heap.size < w4.heap.size + 1 := by omega
    have z2 : w1.heap.size < w4.heap.size + 1 := by omega
    have z3 : w2.heap.size < w4.heap.size + 1 := by omega
    go_wp2_with fail
    refine (same_err 8 8 _ ((HG.out.below hw4).alloc _)).mono ?_; rintro e w5 ⟨rfl, hb5⟩
    have b4 := hw4.alloc hw4.size (.cells #[.int .i64 s, .int .i64 r, .int .i64 r] 35)
    have hw5 := b4.trans (hb5.mono b4.size)
    have HZ5 := Lib.hid ((Blk.new w4 35 #[.int .i64 s, .int .i64 r, .int .i64 r]).below hb5 (by simp))
    obtain ⟨q0, q1, q2, fq0, fq1, fq2, zq⟩ := HZ5.out.three
    have ee : ((8 : Int) == 8) = true := rfl
    rw [ee]
    go_wp2
    go_ret
    exact ⟨rfl, hw5⟩
  · have H := Lib.hid ok; clear ok
    go_enter Tryd.func4, Tryd.ntmps4
    go_wp2_with fail
    refine (bTick_no s r s _ H.out).mono ?_; rintro e w1 ⟨rfl, hb1⟩
    have b0 : Below w.heap.size w (w.alloc (.cells #[.int .i64 s, .int .i64 r, .int .i64 s] 35)) := (Below.refl _ _).alloc (Nat.le_refl _) _
    have hw1 := b0.trans (hb1.mono b0.size)
    have HP1 := Lib.hid ((Blk.new w 35 #[.int .i64 s, .int .i64 r, .int .i64 s]).below hb1 (by simp))
    obtain ⟨p0, p1, p2, f0, f1, f2, z0⟩ := HP1.out.three
    have z1 : w.heap.size < w1.heap.size + 1 := by omega
    clear hb1 b0
    go_wp2_with fail
    refine (bcheck_no s r s _ H.out).mono ?_; rintro e w2 ⟨rfl, rfl⟩
    go_wp2
    go_ret
    exact ⟨rfl, (hw1.alloc hw1.size _).alloc (by simp; have := hw1.size; omega) _⟩
end Go.Proofs.YtkheobdkmmbjnaaDoor
