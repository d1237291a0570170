/- FracSound, first half. -/
import Derived.Test.YthffjnfnfddpdaaFrac3
namespace Go.Proofs.Ythffjnfnfddpdaa
open Go.RowKit
attribute [local go_sem ↓] run_min_mn run_max_mx
theorem sound_of (w : World) : Calls Try.prog 31 #[.int .i64 (-6), .int .i64 4] w fun e w' => e = .returned (.tuple #[.agg #[.int .i64 (-3), .int .i64 2], .nilIface]) ∧ Below w.heap.size w w' :=
  of_in (-6) 4 (-3) 2 w (by decide) (by decide) (by decide)
theorem sound_add (w : World) : Calls Try.prog 28 #[.agg #[.int .i64 1, .int .i64 2], .agg #[.int .i64 1, .int .i64 3]] w fun e w' => e = .returned (.tuple #[.agg #[.int .i64 5, .int .i64 6], .nilIface]) ∧ Below w.heap.size w w' :=
  fadd_yes 1 2 1 3 5 6 0 w (by decide) (by decide) (by rw [show sumT 1 2 1 3 = 5 by decide, show sumB 1 2 1 3 = 6 by decide]; unfold fitV; rw [if_pos (by decide)]; rfl)
set_option maxHeartbeats 8000000 in
set_option maxRecDepth 100000 in
theorem fracSound_fail_add (t b u c x y n e1 e2 : Int) (w : World)
    (HBY : ∀ W : World, Calls Try.prog 32 #[.agg #[.int .i64 t, .int .i64 b], .int .i64 n] W fun e w' => e = .returned (.tuple #[.agg #[.int .i64 0, .int .i64 0], .iface 103 (.int .i64 e1)]) ∧ Below W.heap.size W w')
    (HADD : ∀ W : World, Calls Try.prog 28 #[.agg #[.int .i64 t, .int .i64 b], .agg #[.int .i64 u, .int .i64 c]] W fun e w' => e = .returned (.tuple #[.agg #[.int .i64 0, .int .i64 0], .iface 103 (.int .i64 e2)]) ∧ Below W.heap.size W w')
    : Calls Try.prog 6 #[.agg #[.int .i64 t, .int .i64 b], .agg #[.int .i64 u, .int .i64 c], .agg #[.int .i64 x, .int .i64 y], .int .i64 n] w fun e w' => e = .returned (.bool true) ∧ Below w.heap.size w w' := by
  replace HBY := Lib.hid HBY
  replace HADD := Lib.hid HADD
  have BEL : Hid (Below w.heap.size w w) := Lib.hid (Below.refl _ _)
  have yB : w.heap.size ≤ w.heap.size := Nat.le_refl _
  go_enter Try.func6, Try.ntmps6
  go_wp2_with fail
  refine (sound_of _).mono ?_; rintro e w1 ⟨rfl, hb1⟩
  have hk : Below w.heap.size w w1 := Below.trans (by repeat (first | with_reducible exact Below.refl _ _ | with_reducible apply Below.drew | with_reducible apply below_drewN | with_reducible apply Below.alloc | omega | (focus (simp; done)) | (simp; omega))) (hb1.mono (by first | omega | (simp; done) | (simp; omega)))
  have HA := Lib.hid (show Blk w1 (w.heap.size) 44 _ from Blk.go (by repeat (first | (with_reducible apply Blk.new'; first | with_reducible rfl | (focus (simp; done))) | with_reducible apply Blk.alloc | with_reducible apply Blk.drew | with_reducible apply Blk.drewN)) hb1)
  have HB := Lib.hid (show Blk w1 (w.heap.size + 1) 44 _ from Blk.go (by repeat (first | (with_reducible apply Blk.new'; first | with_reducible rfl | (focus (simp; done))) | with_reducible apply Blk.alloc | with_reducible apply Blk.drew | with_reducible apply Blk.drewN)) hb1)
  have HD := Lib.hid (show Blk w1 (w.heap.size + 1 + 1) 44 _ from Blk.go (by repeat (first | (with_reducible apply Blk.new'; first | with_reducible rfl | (focus (simp; done))) | with_reducible apply Blk.alloc | with_reducible apply Blk.drew | with_reducible apply Blk.drewN)) hb1)
  replace BEL : Hid (Below w.heap.size w w1) := Lib.hid (BEL.out.trans (hk.mono BEL.out.size))
  have z_w1 := hk.size; have y_w1 := BEL.out.size; clear hk hb1
  obtain ⟨pA0, pA1, fA0, fA1, zA, zA_1, zA_2, zA_3⟩ := HA.out.two'
  obtain ⟨pB0, pB1, fB0, fB1, zB, zB_1, zB_2, zB_3⟩ := HB.out.two'
  obtain ⟨pD0, pD1, fD0, fD1, zD, zD_1, zD_2, zD_3⟩ := HD.out.two'
  go_wp2_with fail
  refine (sound_add _).mono ?_; rintro e w2 ⟨rfl, hb2⟩
  have hk : Below w1.heap.size w1 w2 := Below.trans (by repeat (first | with_reducible exact Below.refl _ _ | with_reducible apply Below.drew | with_reducible apply below_drewN | with_reducible apply Below.alloc | omega | (focus (simp; done)) | (simp; omega))) (hb2.mono (by first | omega | (simp; done) | (simp; omega)))
  replace HA := Lib.hid (HA.out.go hk)
  replace HB := Lib.hid (HB.out.go hk)
  replace HD := Lib.hid (HD.out.go hk)
  have HF := Lib.hid (show Blk w2 (w1.heap.size) 44 _ from Blk.go (by repeat (first | (with_reducible apply Blk.new'; first | with_reducible rfl | (focus (simp; done))) | with_reducible apply Blk.alloc | with_reducible apply Blk.drew | with_reducible apply Blk.drewN)) hb2)
  replace BEL : Hid (Below w.heap.size w w2) := Lib.hid (BEL.out.trans (hk.mono BEL.out.size))
  have z_w2 := hk.size; have y_w2 := BEL.out.size; clear hk hb2
  clear pA0 pA1 fA0 fA1 zA zA_1 zA_2 zA_3 pB0 pB1 fB0 fB1 zB zB_1 zB_2 zB_3 pD0 pD1 fD0 fD1 zD zD_1 zD_2 zD_3
  obtain ⟨pA0, pA1, fA0, fA1, zA, zA_1, zA_2, zA_3⟩ := HA.out.two'
  obtain ⟨pB0, pB1, fB0, fB1, zB, zB_1, zB_2, zB_3⟩ := HB.out.two'
  obtain ⟨pD0, pD1, fD0, fD1, zD, zD_1, zD_2, zD_3⟩ := HD.out.two'
  obtain ⟨pF0, pF1, fF0, fF1, zF, zF_1, zF_2, zF_3⟩ := HF.out.two'
  go_wp2_with fail
  refine (HBY.out _).mono ?_; rintro e w3 ⟨rfl, hb3⟩
  have hk : Below w2.heap.size w2 w3 := Below.trans (by repeat (first | with_reducible exact Below.refl _ _ | with_reducible apply Below.drew | with_reducible apply below_drewN | with_reducible apply Below.alloc | omega | (focus (simp; done)) | (simp; omega))) (hb3.mono (by first | omega | (simp; done) | (simp; omega)))
  replace HA := Lib.hid (HA.out.go hk)
  replace HB := Lib.hid (HB.out.go hk)
  replace HD := Lib.hid (HD.out.go hk)
  replace HF := Lib.hid (HF.out.go hk)
  have HG := Lib.hid (show Blk w3 (w2.heap.size) 44 _ from Blk.go (by repeat (first | (with_reducible apply Blk.new'; first | with_reducible rfl | (focus (simp; done))) | with_reducible apply Blk.alloc | with_reducible apply Blk.drew | with_reducible apply Blk.drewN)) hb3)
  replace BEL : Hid (Below w.heap.size w w3) := Lib.hid (BEL.out.trans (hk.mono BEL.out.size))
  have z_w3 := hk.size; have y_w3 := BEL.out.size; clear hk hb3
  clear pA0 pA1 fA0 fA1 zA zA_1 zA_2 zA_3 pB0 pB1 fB0 fB1 zB zB_1 zB_2 zB_3 pD0 pD1 fD0 fD1 zD zD_1 zD_2 zD_3 pF0 pF1 fF0 fF1 zF zF_1 zF_2 zF_3
  obtain ⟨pA0, pA1, fA0, fA1, zA, zA_1, zA_2, zA_3⟩ := HA.out.two'
  obtain ⟨pB0, pB1, fB0, fB1, zB, zB_1, zB_2, zB_3⟩ := HB.out.two'
  obtain ⟨pD0, pD1, fD0, fD1, zD, zD_1, zD_2, zD_3⟩ := HD.out.two'
  obtain ⟨pF0, pF1, fF0, fF1, zF, zF_1, zF_2, zF_3⟩ := HF.out.two'
  obtain ⟨pG0, pG1, fG0, fG1, zG, zG_1, zG_2, zG_3⟩ := HG.out.two'
  go_wp2_with fail
  refine (HADD.out _).mono ?_; rintro e w4 ⟨rfl, hb4⟩
  clear HF
  clear HG
  have hk : Below w3.heap.size w3 w4 := Below.trans (by repeat (first | with_reducible exact Below.refl _ _ | with_reducible apply Below.drew | with_reducible apply below_drewN | with_reducible apply Below.alloc | omega | (focus (simp; done)) | (simp; omega))) (hb4.mono (by first | omega | (simp; done) | (simp; omega)))
  replace HA := Lib.hid (HA.out.go hk)
  replace HB := Lib.hid (HB.out.go hk)
  replace HD := Lib.hid (HD.out.go hk)
  have HY := Lib.hid (show Blk w4 (w3.heap.size) 44 _ from Blk.go (by repeat (first | (with_reducible apply Blk.new'; first | with_reducible rfl | (focus (simp; done))) | with_reducible apply Blk.alloc | with_reducible apply Blk.drew | with_reducible apply Blk.drewN)) hb4)
  replace BEL : Hid (Below w.heap.size w w4) := Lib.hid (BEL.out.trans (hk.mono BEL.out.size))
  have z_w4 := hk.size; have y_w4 := BEL.out.size; clear hk hb4
  clear pA0 pA1 fA0 fA1 zA zA_1 zA_2 zA_3 pB0 pB1 fB0 fB1 zB zB_1 zB_2 zB_3 pD0 pD1 fD0 fD1 zD zD_1 zD_2 zD_3 pF0 pF1 fF0 fF1 zF zF_1 zF_2 zF_3 pG0 pG1 fG0 fG1 zG zG_1 zG_2 zG_3
  obtain ⟨pA0, pA1, fA0, fA1, zA, zA_1, zA_2, zA_3⟩ := HA.out.two'
  obtain ⟨pB0, pB1, fB0, fB1, zB, zB_1, zB_2, zB_3⟩ := HB.out.two'
  obtain ⟨pD0, pD1, fD0, fD1, zD, zD_1, zD_2, zD_3⟩ := HD.out.two'
  obtain ⟨pY0, pY1, fY0, fY1, zY, zY_1, zY_2, zY_3⟩ := HY.out.two'
  go_wp2
  go_ret
  exact ⟨rfl, (by repeat (first | with_reducible exact BEL.out | with_reducible apply Below.alloc | with_reducible apply Below.setCell | with_reducible apply Below.drew | with_reducible apply below_drewN | (first | omega | (focus (simp; done)) | (focus (simp; omega)) | (focus (simp [World.setCell]; omega)))))⟩
set_option maxHeartbeats 8000000 in
set_option maxRecDepth 100000 in
theorem fracSound_fail_p (t b u c x y n s1 s2 m1 m2 p1 p2 q1 q2 e1 e3 : Int) (w : World)
    (HBY : ∀ W : World, Calls Try.prog 32 #[.agg #[.int .i64 t, .int .i64 b], .int .i64 n] W fun e w' => e = .returned (.tuple #[.agg #[.int .i64 0, .int .i64 0], .iface 103 (.int .i64 e1)]) ∧ Below W.heap.size W w')
    (HADD : ∀ W : World, Calls Try.prog 28 #[.agg #[.int .i64 t, .int .i64 b], .agg #[.int .i64 u, .int .i64 c]] W fun e w' => e = .returned (.tuple #[.agg #[.int .i64 s1, .int .i64 s2], .nilIface]) ∧ Below W.heap.size W w')
    (HADD2 : ∀ W : World, Calls Try.prog 28 #[.agg #[.int .i64 u, .int .i64 c], .agg #[.int .i64 t, .int .i64 b]] W fun e w' => e = .returned (.tuple #[.agg #[.int .i64 s1, .int .i64 s2], .nilIface]) ∧ Below W.heap.size W w')
    (HM : ∀ W : World, Calls Try.prog 29 #[.agg #[.int .i64 u, .int .i64 c], .int .i64 (-1)] W fun e w' => e = .returned (.tuple #[.agg #[.int .i64 m1, .int .i64 m2], .nilIface]) ∧ Below W.heap.size W w')
    (HCK : ∀ W : World, Calls Try.prog 30 #[.agg #[.int .i64 s1, .int .i64 s2]] W fun e w' => e = .returned (.nilIface) ∧ Below W.heap.size W w')
    (HBACK : ∀ W : World, Calls Try.prog 28 #[.agg #[.int .i64 s1, .int .i64 s2], .agg #[.int .i64 m1, .int .i64 m2]] W fun e w' => e = .returned (.tuple #[.agg #[.int .i64 t, .int .i64 b], .nilIface]) ∧ Below W.heap.size W w')
    (HP : ∀ W : World, Calls Try.prog 28 #[.agg #[.int .i64 t, .int .i64 b], .agg #[.int .i64 x, .int .i64 y]] W fun e w' => e = .returned (.tuple #[.agg #[.int .i64 p1, .int .i64 p2], .iface 103 (.int .i64 e3)]) ∧ Below W.heap.size W w')
    (HQ : ∀ W : World, Calls Try.prog 28 #[.agg #[.int .i64 u, .int .i64 c], .agg #[.int .i64 x, .int .i64 y]] W fun e w' => e = .returned (.tuple #[.agg #[.int .i64 q1, .int .i64 q2], .nilIface]) ∧ Below W.heap.size W w')
    : Calls Try.prog 6 #[.agg #[.int .i64 t, .int .i64 b], .agg #[.int .i64 u, .int .i64 c], .agg #[.int .i64 x, .int .i64 y], .int .i64 n] w fun e w' => e = .returned (.bool true) ∧ Below w.heap.size w w' := by
  replace HBY := Lib.hid HBY
  replace HADD := Lib.hid HADD
  replace HADD2 := Lib.hid HADD2
  replace HM := Lib.hid HM
  replace HCK := Lib.hid HCK
  replace HBACK := Lib.hid HBACK
  replace HP := Lib.hid HP
  replace HQ := Lib.hid HQ
  have BEL : Hid (Below w.heap.size w w) := Lib.hid (Below.refl _ _)
  have yB : w.heap.size ≤ w.heap.size := Nat.le_refl _
  go_enter Try.func6, Try.ntmps6
  go_wp2_with fail
  refine (sound_of _).mono ?_; rintro e w1 ⟨rfl, hb1⟩
  have hk : Below w.heap.size w w1 := Below.trans (by repeat (first | with_reducible exact Below.refl _ _ | with_reducible apply Below.drew | with_reducible apply below_drewN | with_reducible apply Below.alloc | omega | (focus (simp; done)) | (simp; omega))) (hb1.mono (by first | omega | (simp; done) | (simp; omega)))
  have HA := Lib.hid (show Blk w1 (w.heap.size) 44 _ from Blk.go (by repeat (first | (with_reducible apply Blk.new'; first | with_reducible rfl | (focus (simp; done))) | with_reducible apply Blk.alloc | with_reducible apply Blk.drew | with_reducible apply Blk.drewN)) hb1)
  have HB := Lib.hid (show Blk w1 (w.heap.size + 1) 44 _ from Blk.go (by repeat (first | (with_reducible apply Blk.new'; first | with_reducible rfl | (focus (simp; done))) | with_reducible apply Blk.alloc | with_reducible apply Blk.drew | with_reducible apply Blk.drewN)) hb1)
  have HD := Lib.hid (show Blk w1 (w.heap.size + 1 + 1) 44 _ from Blk.go (by repeat (first | (with_reducible apply Blk.new'; first | with_reducible rfl | (focus (simp; done))) | with_reducible apply Blk.alloc | with_reducible apply Blk.drew | with_reducible apply Blk.drewN)) hb1)
  replace BEL : Hid (Below w.heap.size w w1) := Lib.hid (BEL.out.trans (hk.mono BEL.out.size))
  have z_w1 := hk.size; have y_w1 := BEL.out.size; clear hk hb1
  obtain ⟨pA0, pA1, fA0, fA1, zA, zA_1, zA_2, zA_3⟩ := HA.out.two'
  obtain ⟨pB0, pB1, fB0, fB1, zB, zB_1, zB_2, zB_3⟩ := HB.out.two'
  obtain ⟨pD0, pD1, fD0, fD1, zD, zD_1, zD_2, zD_3⟩ := HD.out.two'
  go_wp2_with fail
  refine (sound_add _).mono ?_; rintro e w2 ⟨rfl, hb2⟩
  have hk : Below w1.heap.size w1 w2 := Below.trans (by repeat (first | with_reducible exact Below.refl _ _ | with_reducible apply Below.drew | with_reducible apply below_drewN | with_reducible apply Below.alloc | omega | (focus (simp; done)) | (simp; omega))) (hb2.mono (by first | omega | (simp; done) | (simp; omega)))
  replace HA := Lib.hid (HA.out.go hk)
  replace HB := Lib.hid (HB.out.go hk)
  replace HD := Lib.hid (HD.out.go hk)
  have HF := Lib.hid (show Blk w2 (w1.heap.size) 44 _ from Blk.go (by repeat (first | (with_reducible apply Blk.new'; first | with_reducible rfl | (focus (simp; done))) | with_reducible apply Blk.alloc | with_reducible apply Blk.drew | with_reducible apply Blk.drewN)) hb2)
  replace BEL : Hid (Below w.heap.size w w2) := Lib.hid (BEL.out.trans (hk.mono BEL.out.size))
  have z_w2 := hk.size; have y_w2 := BEL.out.size; clear hk hb2
  clear pA0 pA1 fA0 fA1 zA zA_1 zA_2 zA_3 pB0 pB1 fB0 fB1 zB zB_1 zB_2 zB_3 pD0 pD1 fD0 fD1 zD zD_1 zD_2 zD_3
  obtain ⟨pA0, pA1, fA0, fA1, zA, zA_1, zA_2, zA_3⟩ := HA.out.two'
  obtain ⟨pB0, pB1, fB0, fB1, zB, zB_1, zB_2, zB_3⟩ := HB.out.two'
  obtain ⟨pD0, pD1, fD0, fD1, zD, zD_1, zD_2, zD_3⟩ := HD.out.two'
  obtain ⟨pF0, pF1, fF0, fF1, zF, zF_1, zF_2, zF_3⟩ := HF.out.two'
  go_wp2_with fail
  refine (HBY.out _).mono ?_; rintro e w3 ⟨rfl, hb3⟩
  have hk : Below w2.heap.size w2 w3 := Below.trans (by repeat (first | with_reducible exact Below.refl _ _ | with_reducible apply Below.drew | with_reducible apply below_drewN | with_reducible apply Below.alloc | omega | (focus (simp; done)) | (simp; omega))) (hb3.mono (by first | omega | (simp; done) | (simp; omega)))
  replace HA := Lib.hid (HA.out.go hk)
  replace HB := Lib.hid (HB.out.go hk)
  replace HD := Lib.hid (HD.out.go hk)
  replace HF := Lib.hid (HF.out.go hk)
  have HG := Lib.hid (show Blk w3 (w2.heap.size) 44 _ from Blk.go (by repeat (first | (with_reducible apply Blk.new'; first | with_reducible rfl | (focus (simp; done))) | with_reducible apply Blk.alloc | with_reducible apply Blk.drew | with_reducible apply Blk.drewN)) hb3)
  replace BEL : Hid (Below w.heap.size w w3) := Lib.hid (BEL.out.trans (hk.mono BEL.out.size))
  have z_w3 := hk.size; have y_w3 := BEL.out.size; clear hk hb3
  clear pA0 pA1 fA0 fA1 zA zA_1 zA_2 zA_3 pB0 pB1 fB0 fB1 zB zB_1 zB_2 zB_3 pD0 pD1 fD0 fD1 zD zD_1 zD_2 zD_3 pF0 pF1 fF0 fF1 zF zF_1 zF_2 zF_3
  obtain ⟨pA0, pA1, fA0, fA1, zA, zA_1, zA_2, zA_3⟩ := HA.out.two'
  obtain ⟨pB0, pB1, fB0, fB1, zB, zB_1, zB_2, zB_3⟩ := HB.out.two'
  obtain ⟨pD0, pD1, fD0, fD1, zD, zD_1, zD_2, zD_3⟩ := HD.out.two'
  obtain ⟨pF0, pF1, fF0, fF1, zF, zF_1, zF_2, zF_3⟩ := HF.out.two'
  obtain ⟨pG0, pG1, fG0, fG1, zG, zG_1, zG_2, zG_3⟩ := HG.out.two'
  go_wp2_with fail
  refine (HADD.out _).mono ?_; rintro e w4 ⟨rfl, hb4⟩
  clear HF
  clear HG
  have hk : Below w3.heap.size w3 w4 := Below.trans (by repeat (first | with_reducible exact Below.refl _ _ | with_reducible apply Below.drew | with_reducible apply below_drewN | with_reducible apply Below.alloc | omega | (focus (simp; done)) | (simp; omega))) (hb4.mono (by first | omega | (simp; done) | (simp; omega)))
  replace HA := Lib.hid (HA.out.go hk)
  replace HB := Lib.hid (HB.out.go hk)
  replace HD := Lib.hid (HD.out.go hk)
  have HY := Lib.hid (show Blk w4 (w3.heap.size) 44 _ from Blk.go (by repeat (first | (with_reducible apply Blk.new'; first | with_reducible rfl | (focus (simp; done))) | with_reducible apply Blk.alloc | with_reducible apply Blk.drew | with_reducible apply Blk.drewN)) hb4)
  replace BEL : Hid (Below w.heap.size w w4) := Lib.hid (BEL.out.trans (hk.mono BEL.out.size))
  have z_w4 := hk.size; have y_w4 := BEL.out.size; clear hk hb4
  clear pA0 pA1 fA0 fA1 zA zA_1 zA_2 zA_3 pB0 pB1 fB0 fB1 zB zB_1 zB_2 zB_3 pD0 pD1 fD0 fD1 zD zD_1 zD_2 zD_3 pF0 pF1 fF0 fF1 zF zF_1 zF_2 zF_3 pG0 pG1 fG0 fG1 zG zG_1 zG_2 zG_3
  obtain ⟨pA0, pA1, fA0, fA1, zA, zA_1, zA_2, zA_3⟩ := HA.out.two'
  obtain ⟨pB0, pB1, fB0, fB1, zB, zB_1, zB_2, zB_3⟩ := HB.out.two'
  obtain ⟨pD0, pD1, fD0, fD1, zD, zD_1, zD_2, zD_3⟩ := HD.out.two'
  obtain ⟨pY0, pY1, fY0, fY1, zY, zY_1, zY_2, zY_3⟩ := HY.out.two'
  go_wp2_with fail
  refine (HADD2.out _).mono ?_; rintro e w5 ⟨rfl, hb5⟩
  have hk : Below w4.heap.size w4 w5 := Below.trans (by repeat (first | with_reducible exact Below.refl _ _ | with_reducible apply Below.drew | with_reducible apply below_drewN | with_reducible apply Below.alloc | omega | (focus (simp; done)) | (simp; omega))) (hb5.mono (by first | omega | (simp; done) | (simp; omega)))
  replace HA := Lib.hid (HA.out.go hk)
  replace HB := Lib.hid (HB.out.go hk)
  replace HD := Lib.hid (HD.out.go hk)
  replace HY := Lib.hid (HY.out.go hk)
  have HS := Lib.hid (show Blk w5 (w4.heap.size) 44 _ from Blk.go (by repeat (first | (with_reducible apply Blk.new'; first | with_reducible rfl | (focus (simp; done))) | with_reducible apply Blk.alloc | with_reducible apply Blk.drew | with_reducible apply Blk.drewN)) hb5)
  replace BEL : Hid (Below w.heap.size w w5) := Lib.hid (BEL.out.trans (hk.mono BEL.out.size))
  have z_w5 := hk.size; have y_w5 := BEL.out.size; clear hk hb5
  clear pA0 pA1 fA0 fA1 zA zA_1 zA_2 zA_3 pB0 pB1 fB0 fB1 zB zB_1 zB_2 zB_3 pD0 pD1 fD0 fD1 zD zD_1 zD_2 zD_3 pY0 pY1 fY0 fY1 zY zY_1 zY_2 zY_3
  obtain ⟨pA0, pA1, fA0, fA1, zA, zA_1, zA_2, zA_3⟩ := HA.out.two'
  obtain ⟨pB0, pB1, fB0, fB1, zB, zB_1, zB_2, zB_3⟩ := HB.out.two'
  obtain ⟨pD0, pD1, fD0, fD1, zD, zD_1, zD_2, zD_3⟩ := HD.out.two'
  obtain ⟨pY0, pY1, fY0, fY1, zY, zY_1, zY_2, zY_3⟩ := HY.out.two'
  obtain ⟨pS0, pS1, fS0, fS1, zS, zS_1, zS_2, zS_3⟩ := HS.out.two'
  go_wp2_with fail
  refine (HM.out _).mono ?_; rintro e w6 ⟨rfl, hb6⟩
  have hk : Below w5.heap.size w5 w6 := Below.trans (by repeat (first | with_reducible exact Below.refl _ _ | with_reducible apply Below.drew | with_reducible apply below_drewN | with_reducible apply Below.alloc | omega | (focus (simp; done)) | (simp; omega))) (hb6.mono (by first | omega | (simp; done) | (simp; omega)))
  replace HA := Lib.hid (HA.out.go hk)
  replace HB := Lib.hid (HB.out.go hk)
  replace HD := Lib.hid (HD.out.go hk)
  replace HY := Lib.hid (HY.out.go hk)
  replace HS := Lib.hid (HS.out.go hk)
  have HT := Lib.hid (show Blk w6 (w5.heap.size) 44 _ from Blk.go (by repeat (first | (with_reducible apply Blk.new'; first | with_reducible rfl | (focus (simp; done))) | with_reducible apply Blk.alloc | with_reducible apply Blk.drew | with_reducible apply Blk.drewN)) hb6)
  replace BEL : Hid (Below w.heap.size w w6) := Lib.hid (BEL.out.trans (hk.mono BEL.out.size))
  have z_w6 := hk.size; have y_w6 := BEL.out.size; clear hk hb6
  clear pA0 pA1 fA0 fA1 zA zA_1 zA_2 zA_3 pB0 pB1 fB0 fB1 zB zB_1 zB_2 zB_3 pD0 pD1 fD0 fD1 zD zD_1 zD_2 zD_3 pY0 pY1 fY0 fY1 zY zY_1 zY_2 zY_3 pS0 pS1 fS0 fS1 zS zS_1 zS_2 zS_3
  obtain ⟨pA0, pA1, fA0, fA1, zA, zA_1, zA_2, zA_3⟩ := HA.out.two'
  obtain ⟨pB0, pB1, fB0, fB1, zB, zB_1, zB_2, zB_3⟩ := HB.out.two'
  obtain ⟨pD0, pD1, fD0, fD1, zD, zD_1, zD_2, zD_3⟩ := HD.out.two'
  obtain ⟨pY0, pY1, fY0, fY1, zY, zY_1, zY_2, zY_3⟩ := HY.out.two'
  obtain ⟨pS0, pS1, fS0, fS1, zS, zS_1, zS_2, zS_3⟩ := HS.out.two'
  obtain ⟨pT0, pT1, fT0, fT1, zT, zT_1, zT_2, zT_3⟩ := HT.out.two'
  go_wp2_with fail
  refine (HCK.out _).mono ?_; rintro e w7 ⟨rfl, hb7⟩
  have hk : Below w6.heap.size w6 w7 := Below.trans (by repeat (first | with_reducible exact Below.refl _ _ | with_reducible apply Below.drew | with_reducible apply below_drewN | with_reducible apply Below.alloc | omega | (focus (simp; done)) | (simp; omega))) (hb7.mono (by first | omega | (simp; done) | (simp; omega)))
  replace HA := Lib.hid (HA.out.go hk)
  replace HB := Lib.hid (HB.out.go hk)
  replace HD := Lib.hid (HD.out.go hk)
  replace HY := Lib.hid (HY.out.go hk)
  replace HS := Lib.hid (HS.out.go hk)
  replace HT := Lib.hid (HT.out.go hk)
  have HM := Lib.hid (show Blk w7 (w6.heap.size) 44 _ from Blk.go (by repeat (first | (with_reducible apply Blk.new'; first | with_reducible rfl | (focus (simp; done))) | with_reducible apply Blk.alloc | with_reducible apply Blk.drew | with_reducible apply Blk.drewN)) hb7)
  replace BEL : Hid (Below w.heap.size w w7) := Lib.hid (BEL.out.trans (hk.mono BEL.out.size))
  have z_w7 := hk.size; have y_w7 := BEL.out.size; clear hk hb7
  clear pA0 pA1 fA0 fA1 zA zA_1 zA_2 zA_3 pB0 pB1 fB0 fB1 zB zB_1 zB_2 zB_3 pD0 pD1 fD0 fD1 zD zD_1 zD_2 zD_3 pY0 pY1 fY0 fY1 zY zY_1 zY_2 zY_3 pS0 pS1 fS0 fS1 zS zS_1 zS_2 zS_3 pT0 pT1 fT0 fT1 zT zT_1 zT_2 zT_3
  obtain ⟨pA0, pA1, fA0, fA1, zA, zA_1, zA_2, zA_3⟩ := HA.out.two'
  obtain ⟨pB0, pB1, fB0, fB1, zB, zB_1, zB_2, zB_3⟩ := HB.out.two'
  obtain ⟨pD0, pD1, fD0, fD1, zD, zD_1, zD_2, zD_3⟩ := HD.out.two'
  obtain ⟨pY0, pY1, fY0, fY1, zY, zY_1, zY_2, zY_3⟩ := HY.out.two'
  obtain ⟨pS0, pS1, fS0, fS1, zS, zS_1, zS_2, zS_3⟩ := HS.out.two'
  obtain ⟨pT0, pT1, fT0, fT1, zT, zT_1, zT_2, zT_3⟩ := HT.out.two'
  obtain ⟨pM0, pM1, fM0, fM1, zM, zM_1, zM_2, zM_3⟩ := HM.out.two'
  go_wp2_with fail
  refine (HBACK.out _).mono ?_; rintro e w8 ⟨rfl, hb8⟩
  have hk : Below w7.heap.size w7 w8 := Below.trans (by repeat (first | with_reducible exact Below.refl _ _ | with_reducible apply Below.drew | with_reducible apply below_drewN | with_reducible apply Below.alloc | omega | (focus (simp; done)) | (simp; omega))) (hb8.mono (by first | omega | (simp; done) | (simp; omega)))
  replace HA := Lib.hid (HA.out.go hk)
  replace HB := Lib.hid (HB.out.go hk)
  replace HD := Lib.hid (HD.out.go hk)
  replace HY := Lib.hid (HY.out.go hk)
  replace HS := Lib.hid (HS.out.go hk)
  replace HT := Lib.hid (HT.out.go hk)
  replace HM := Lib.hid (HM.out.go hk)
  replace BEL : Hid (Below w.heap.size w w8) := Lib.hid (BEL.out.trans (hk.mono BEL.out.size))
  have z_w8 := hk.size; have y_w8 := BEL.out.size; clear hk hb8
  clear pA0 pA1 fA0 fA1 zA zA_1 zA_2 zA_3 pB0 pB1 fB0 fB1 zB zB_1 zB_2 zB_3 pD0 pD1 fD0 fD1 zD zD_1 zD_2 zD_3 pY0 pY1 fY0 fY1 zY zY_1 zY_2 zY_3 pS0 pS1 fS0 fS1 zS zS_1 zS_2 zS_3 pT0 pT1 fT0 fT1 zT zT_1 zT_2 zT_3 pM0 pM1 fM0 fM1 zM zM_1 zM_2 zM_3
  obtain ⟨pA0, pA1, fA0, fA1, zA, zA_1, zA_2, zA_3⟩ := HA.out.two'
  obtain ⟨pB0, pB1, fB0, fB1, zB, zB_1, zB_2, zB_3⟩ := HB.out.two'
  obtain ⟨pD0, pD1, fD0, fD1, zD, zD_1, zD_2, zD_3⟩ := HD.out.two'
  obtain ⟨pY0, pY1, fY0, fY1, zY, zY_1, zY_2, zY_3⟩ := HY.out.two'
  obtain ⟨pS0, pS1, fS0, fS1, zS, zS_1, zS_2, zS_3⟩ := HS.out.two'
  obtain ⟨pT0, pT1, fT0, fT1, zT, zT_1, zT_2, zT_3⟩ := HT.out.two'
  obtain ⟨pM0, pM1, fM0, fM1, zM, zM_1, zM_2, zM_3⟩ := HM.out.two'
  go_wp2_with fail
  refine (HP.out _).mono ?_; rintro e w9 ⟨rfl, hb9⟩
  have hk : Below w8.heap.size w8 w9 := Below.trans (by repeat (first | with_reducible exact Below.refl _ _ | with_reducible apply Below.drew | with_reducible apply below_drewN | with_reducible apply Below.alloc | omega | (focus (simp; done)) | (simp; omega))) (hb9.mono (by first | omega | (simp; done) | (simp; omega)))
  replace HA := Lib.hid (HA.out.go hk)
  replace HB := Lib.hid (HB.out.go hk)
  replace HD := Lib.hid (HD.out.go hk)
  replace HY := Lib.hid (HY.out.go hk)
  replace HS := Lib.hid (HS.out.go hk)
  replace HT := Lib.hid (HT.out.go hk)
  replace HM := Lib.hid (HM.out.go hk)
  have HKA := Lib.hid (show Blk w9 (w8.heap.size) 44 _ from Blk.go (by repeat (first | (with_reducible apply Blk.new'; first | with_reducible rfl | (focus (simp; done))) | with_reducible apply Blk.alloc | with_reducible apply Blk.drew | with_reducible apply Blk.drewN)) hb9)
  replace BEL : Hid (Below w.heap.size w w9) := Lib.hid (BEL.out.trans (hk.mono BEL.out.size))
  have z_w9 := hk.size; have y_w9 := BEL.out.size; clear hk hb9
  clear pA0 pA1 fA0 fA1 zA zA_1 zA_2 zA_3 pB0 pB1 fB0 fB1 zB zB_1 zB_2 zB_3 pD0 pD1 fD0 fD1 zD zD_1 zD_2 zD_3 pY0 pY1 fY0 fY1 zY zY_1 zY_2 zY_3 pS0 pS1 fS0 fS1 zS zS_1 zS_2 zS_3 pT0 pT1 fT0 fT1 zT zT_1 zT_2 zT_3 pM0 pM1 fM0 fM1 zM zM_1 zM_2 zM_3
  obtain ⟨pA0, pA1, fA0, fA1, zA, zA_1, zA_2, zA_3⟩ := HA.out.two'
  obtain ⟨pB0, pB1, fB0, fB1, zB, zB_1, zB_2, zB_3⟩ := HB.out.two'
  obtain ⟨pD0, pD1, fD0, fD1, zD, zD_1, zD_2, zD_3⟩ := HD.out.two'
  obtain ⟨pY0, pY1, fY0, fY1, zY, zY_1, zY_2, zY_3⟩ := HY.out.two'
  obtain ⟨pS0, pS1, fS0, fS1, zS, zS_1, zS_2, zS_3⟩ := HS.out.two'
  obtain ⟨pT0, pT1, fT0, fT1, zT, zT_1, zT_2, zT_3⟩ := HT.out.two'
  obtain ⟨pM0, pM1, fM0, fM1, zM, zM_1, zM_2, zM_3⟩ := HM.out.two'
  obtain ⟨pKA0, pKA1, fKA0, fKA1, zKA, zKA_1, zKA_2, zKA_3⟩ := HKA.out.two'
  go_wp2_with fail
  refine (HQ.out _).mono ?_; rintro e w10 ⟨rfl, hb10⟩
  have hk : Below w9.heap.size w9 w10 := Below.trans (by repeat (first | with_reducible exact Below.refl _ _ | with_reducible apply Below.drew | with_reducible apply below_drewN | with_reducible apply Below.alloc | omega | (focus (simp; done)) | (simp; omega))) (hb10.mono (by first | omega | (simp; done) | (simp; omega)))
  replace HA := Lib.hid (HA.out.go hk)
  replace HB := Lib.hid (HB.out.go hk)
  replace HD := Lib.hid (HD.out.go hk)
  replace HY := Lib.hid (HY.out.go hk)
  replace HS := Lib.hid (HS.out.go hk)
  replace HT := Lib.hid (HT.out.go hk)
  replace HM := Lib.hid (HM.out.go hk)
  replace HKA := Lib.hid (HKA.out.go hk)
  have HPA := Lib.hid (show Blk w10 (w9.heap.size) 44 _ from Blk.go (by repeat (first | (with_reducible apply Blk.new'; first | with_reducible rfl | (focus (simp; done))) | with_reducible apply Blk.alloc | with_reducible apply Blk.drew | with_reducible apply Blk.drewN)) hb10)
  replace BEL : Hid (Below w.heap.size w w10) := Lib.hid (BEL.out.trans (hk.mono BEL.out.size))
  have z_w10 := hk.size; have y_w10 := BEL.out.size; clear hk hb10
  clear pA0 pA1 fA0 fA1 zA zA_1 zA_2 zA_3 pB0 pB1 fB0 fB1 zB zB_1 zB_2 zB_3 pD0 pD1 fD0 fD1 zD zD_1 zD_2 zD_3 pY0 pY1 fY0 fY1 zY zY_1 zY_2 zY_3 pS0 pS1 fS0 fS1 zS zS_1 zS_2 zS_3 pT0 pT1 fT0 fT1 zT zT_1 zT_2 zT_3 pM0 pM1 fM0 fM1 zM zM_1 zM_2 zM_3 pKA0 pKA1 fKA0 fKA1 zKA zKA_1 zKA_2 zKA_3
  obtain ⟨pA0, pA1, fA0, fA1, zA, zA_1, zA_2, zA_3⟩ := HA.out.two'
  obtain ⟨pB0, pB1, fB0, fB1, zB, zB_1, zB_2, zB_3⟩ := HB.out.two'
  obtain ⟨pD0, pD1, fD0, fD1, zD, zD_1, zD_2, zD_3⟩ := HD.out.two'
  obtain ⟨pY0, pY1, fY0, fY1, zY, zY_1, zY_2, zY_3⟩ := HY.out.two'
  obtain ⟨pS0, pS1, fS0, fS1, zS, zS_1, zS_2, zS_3⟩ := HS.out.two'
  obtain ⟨pT0, pT1, fT0, fT1, zT, zT_1, zT_2, zT_3⟩ := HT.out.two'
  obtain ⟨pM0, pM1, fM0, fM1, zM, zM_1, zM_2, zM_3⟩ := HM.out.two'
  obtain ⟨pKA0, pKA1, fKA0, fKA1, zKA, zKA_1, zKA_2, zKA_3⟩ := HKA.out.two'
  obtain ⟨pPA0, pPA1, fPA0, fPA1, zPA, zPA_1, zPA_2, zPA_3⟩ := HPA.out.two'
  go_wp2
  go_ret
  exact ⟨rfl, (by repeat (first | with_reducible exact BEL.out | with_reducible apply Below.alloc | with_reducible apply Below.setCell | with_reducible apply Below.drew | with_reducible apply below_drewN | (first | omega | (focus (simp; done)) | (focus (simp; omega)) | (focus (simp [World.setCell]; omega)))))⟩
set_option maxHeartbeats 8000000 in
set_option maxRecDepth 100000 in
theorem fracSound_fail_q (t b u c x y n s1 s2 m1 m2 p1 p2 q1 q2 e1 e4 : Int) (w : World)
    (HBY : ∀ W : World, Calls Try.prog 32 #[.agg #[.int .i64 t, .int .i64 b], .int .i64 n] W fun e w' => e = .returned (.tuple #[.agg #[.int .i64 0, .int .i64 0], .iface 103 (.int .i64 e1)]) ∧ Below W.heap.size W w')
    (HADD : ∀ W : World, Calls Try.prog 28 #[.agg #[.int .i64 t, .int .i64 b], .agg #[.int .i64 u, .int .i64 c]] W fun e w' => e = .returned (.tuple #[.agg #[.int .i64 s1, .int .i64 s2], .nilIface]) ∧ Below W.heap.size W w')
    (HADD2 : ∀ W : World, Calls Try.prog 28 #[.agg #[.int .i64 u, .int .i64 c], .agg #[.int .i64 t, .int .i64 b]] W fun e w' => e = .returned (.tuple #[.agg #[.int .i64 s1, .int .i64 s2], .nilIface]) ∧ Below W.heap.size W w')
    (HM : ∀ W : World, Calls Try.prog 29 #[.agg #[.int .i64 u, .int .i64 c], .int .i64 (-1)] W fun e w' => e = .returned (.tuple #[.agg #[.int .i64 m1, .int .i64 m2], .nilIface]) ∧ Below W.heap.size W w')
    (HCK : ∀ W : World, Calls Try.prog 30 #[.agg #[.int .i64 s1, .int .i64 s2]] W fun e w' => e = .returned (.nilIface) ∧ Below W.heap.size W w')
    (HBACK : ∀ W : World, Calls Try.prog 28 #[.agg #[.int .i64 s1, .int .i64 s2], .agg #[.int .i64 m1, .int .i64 m2]] W fun e w' => e = .returned (.tuple #[.agg #[.int .i64 t, .int .i64 b], .nilIface]) ∧ Below W.heap.size W w')
    (HP : ∀ W : World, Calls Try.prog 28 #[.agg #[.int .i64 t, .int .i64 b], .agg #[.int .i64 x, .int .i64 y]] W fun e w' => e = .returned (.tuple #[.agg #[.int .i64 p1, .int .i64 p2], .nilIface]) ∧ Below W.heap.size W w')
    (HQ : ∀ W : World, Calls Try.prog 28 #[.agg #[.int .i64 u, .int .i64 c], .agg #[.int .i64 x, .int .i64 y]] W fun e w' => e = .returned (.tuple #[.agg #[.int .i64 q1, .int .i64 q2], .iface 103 (.int .i64 e4)]) ∧ Below W.heap.size W w')
    : Calls Try.prog 6 #[.agg #[.int .i64 t, .int .i64 b], .agg #[.int .i64 u, .int .i64 c], .agg #[.int .i64 x, .int .i64 y], .int .i64 n] w fun e w' => e = .returned (.bool true) ∧ Below w.heap.size w w' := by
  replace HBY := Lib.hid HBY
  replace HADD := Lib.hid HADD
  replace HADD2 := Lib.hid HADD2
  replace HM := Lib.hid HM
  replace HCK := Lib.hid HCK
  replace HBACK := Lib.hid HBACK
  replace HP := Lib.hid HP
  replace HQ := Lib.hid HQ
  have BEL : Hid (Below w.heap.size w w) := Lib.hid (Below.refl _ _)
  have yB : w.heap.size ≤ w.heap.size := Nat.le_refl _
  go_enter Try.func6, Try.ntmps6
  go_wp2_with fail
  refine (sound_of _).mono ?_; rintro e w1 ⟨rfl, hb1⟩
  have hk : Below w.heap.size w w1 := Below.trans (by repeat (first | with_reducible exact Below.refl _ _ | with_reducible apply Below.drew | with_reducible apply below_drewN | with_reducible apply Below.alloc | omega | (focus (simp; done)) | (simp; omega))) (hb1.mono (by first | omega | (simp; done) | (simp; omega)))
  have HA := Lib.hid (show Blk w1 (w.heap.size) 44 _ from Blk.go (by repeat (first | (with_reducible apply Blk.new'; first | with_reducible rfl | (focus (simp; done))) | with_reducible apply Blk.alloc | with_reducible apply Blk.drew | with_reducible apply Blk.drewN)) hb1)
  have HB := Lib.hid (show Blk w1 (w.heap.size + 1) 44 _ from Blk.go (by repeat (first | (with_reducible apply Blk.new'; first | with_reducible rfl | (focus (simp; done))) | with_reducible apply Blk.alloc | with_reducible apply Blk.drew | with_reducible apply Blk.drewN)) hb1)
  have HD := Lib.hid (show Blk w1 (w.heap.size + 1 + 1) 44 _ from Blk.go (by repeat (first | (with_reducible apply Blk.new'; first | with_reducible rfl | (focus (simp; done))) | with_reducible apply Blk.alloc | with_reducible apply Blk.drew | with_reducible apply Blk.drewN)) hb1)
  replace BEL : Hid (Below w.heap.size w w1) := Lib.hid (BEL.out.trans (hk.mono BEL.out.size))
  have z_w1 := hk.size; have y_w1 := BEL.out.size; clear hk hb1
  obtain ⟨pA0, pA1, fA0, fA1, zA, zA_1, zA_2, zA_3⟩ := HA.out.two'
  obtain ⟨pB0, pB1, fB0, fB1, zB, zB_1, zB_2, zB_3⟩ := HB.out.two'
  obtain ⟨pD0, pD1, fD0, fD1, zD, zD_1, zD_2, zD_3⟩ := HD.out.two'
  go_wp2_with fail
  refine (sound_add _).mono ?_; rintro e w2 ⟨rfl, hb2⟩
  have hk : Below w1.heap.size w1 w2 := Below.trans (by repeat (first | with_reducible exact Below.refl _ _ | with_reducible apply Below.drew | with_reducible apply below_drewN | with_reducible apply Below.alloc | omega | (focus (simp; done)) | (simp; omega))) (hb2.mono (by first | omega | (simp; done) | (simp; omega)))
  replace HA := Lib.hid (HA.out.go hk)
  replace HB := Lib.hid (HB.out.go hk)
  replace HD := Lib.hid (HD.out.go hk)
  have HF := Lib.hid (show Blk w2 (w1.heap.size) 44 _ from Blk.go (by repeat (first | (with_reducible apply Blk.new'; first | with_reducible rfl | (focus (simp; done))) | with_reducible apply Blk.alloc | with_reducible apply Blk.drew | with_reducible apply Blk.drewN)) hb2)
  replace BEL : Hid (Below w.heap.size w w2) := Lib.hid (BEL.out.trans (hk.mono BEL.out.size))
  have z_w2 := hk.size; have y_w2 := BEL.out.size; clear hk hb2
  clear pA0 pA1 fA0 fA1 zA zA_1 zA_2 zA_3 pB0 pB1 fB0 fB1 zB zB_1 zB_2 zB_3 pD0 pD1 fD0 fD1 zD zD_1 zD_2 zD_3
  obtain ⟨pA0, pA1, fA0, fA1, zA, zA_1, zA_2, zA_3⟩ := HA.out.two'
  obtain ⟨pB0, pB1, fB0, fB1, zB, zB_1, zB_2, zB_3⟩ := HB.out.two'
  obtain ⟨pD0, pD1, fD0, fD1, zD, zD_1, zD_2, zD_3⟩ := HD.out.two'
  obtain ⟨pF0, pF1, fF0, fF1, zF, zF_1, zF_2, zF_3⟩ := HF.out.two'
  go_wp2_with fail
  refine (HBY.out _).mono ?_; rintro e w3 ⟨rfl, hb3⟩
  have hk : Below w2.heap.size w2 w3 := Below.trans (by repeat (first | with_reducible exact Below.refl _ _ | with_reducible apply Below.drew | with_reducible apply below_drewN | with_reducible apply Below.alloc | omega | (focus (simp; done)) | (simp; omega))) (hb3.mono (by first | omega | (simp; done) | (simp; omega)))
  replace HA := Lib.hid (HA.out.go hk)
  replace HB := Lib.hid (HB.out.go hk)
  replace HD := Lib.hid (HD.out.go hk)
  replace HF := Lib.hid (HF.out.go hk)
  have HG := Lib.hid (show Blk w3 (w2.heap.size) 44 _ from Blk.go (by repeat (first | (with_reducible apply Blk.new'; first | with_reducible rfl | (focus (simp; done))) | with_reducible apply Blk.alloc | with_reducible apply Blk.drew | with_reducible apply Blk.drewN)) hb3)
  replace BEL : Hid (Below w.heap.size w w3) := Lib.hid (BEL.out.trans (hk.mono BEL.out.size))
  have z_w3 := hk.size; have y_w3 := BEL.out.size; clear hk hb3
  clear pA0 pA1 fA0 fA1 zA zA_1 zA_2 zA_3 pB0 pB1 fB0 fB1 zB zB_1 zB_2 zB_3 pD0 pD1 fD0 fD1 zD zD_1 zD_2 zD_3 pF0 pF1 fF0 fF1 zF zF_1 zF_2 zF_3
  obtain ⟨pA0, pA1, fA0, fA1, zA, zA_1, zA_2, zA_3⟩ := HA.out.two'
  obtain ⟨pB0, pB1, fB0, fB1, zB, zB_1, zB_2, zB_3⟩ := HB.out.two'
  obtain ⟨pD0, pD1, fD0, fD1, zD, zD_1, zD_2, zD_3⟩ := HD.out.two'
  obtain ⟨pF0, pF1, fF0, fF1, zF, zF_1, zF_2, zF_3⟩ := HF.out.two'
  obtain ⟨pG0, pG1, fG0, fG1, zG, zG_1, zG_2, zG_3⟩ := HG.out.two'
  go_wp2_with fail
  refine (HADD.out _).mono ?_; rintro e w4 ⟨rfl, hb4⟩
  clear HF
  clear HG
  have hk : Below w3.heap.size w3 w4 := Below.trans (by repeat (first | with_reducible exact Below.refl _ _ | with_reducible apply Below.drew | with_reducible apply below_drewN | with_reducible apply Below.alloc | omega | (focus (simp; done)) | (simp; omega))) (hb4.mono (by first | omega | (simp; done) | (simp; omega)))
  replace HA := Lib.hid (HA.out.go hk)
  replace HB := Lib.hid (HB.out.go hk)
  replace HD := Lib.hid (HD.out.go hk)
  have HY := Lib.hid (show Blk w4 (w3.heap.size) 44 _ from Blk.go (by repeat (first | (with_reducible apply Blk.new'; first | with_reducible rfl | (focus (simp; done))) | with_reducible apply Blk.alloc | with_reducible apply Blk.drew | with_reducible apply Blk.drewN)) hb4)
  replace BEL : Hid (Below w.heap.size w w4) := Lib.hid (BEL.out.trans (hk.mono BEL.out.size))
  have z_w4 := hk.size; have y_w4 := BEL.out.size; clear hk hb4
  clear pA0 pA1 fA0 fA1 zA zA_1 zA_2 zA_3 pB0 pB1 fB0 fB1 zB zB_1 zB_2 zB_3 pD0 pD1 fD0 fD1 zD zD_1 zD_2 zD_3 pF0 pF1 fF0 fF1 zF zF_1 zF_2 zF_3 pG0 pG1 fG0 fG1 zG zG_1 zG_2 zG_3
  obtain ⟨pA0, pA1, fA0, fA1, zA, zA_1, zA_2, zA_3⟩ := HA.out.two'
  obtain ⟨pB0, pB1, fB0, fB1, zB, zB_1, zB_2, zB_3⟩ := HB.out.two'
  obtain ⟨pD0, pD1, fD0, fD1, zD, zD_1, zD_2, zD_3⟩ := HD.out.two'
  obtain ⟨pY0, pY1, fY0, fY1, zY, zY_1, zY_2, zY_3⟩ := HY.out.two'
  go_wp2_with fail
  refine (HADD2.out _).mono ?_; rintro e w5 ⟨rfl, hb5⟩
  have hk : Below w4.heap.size w4 w5 := Below.trans (by repeat (first | with_reducible exact Below.refl _ _ | with_reducible apply Below.drew | with_reducible apply below_drewN | with_reducible apply Below.alloc | omega | (focus (simp; done)) | (simp; omega))) (hb5.mono (by first | omega | (simp; done) | (simp; omega)))
  replace HA := Lib.hid (HA.out.go hk)
  replace HB := Lib.hid (HB.out.go hk)
  replace HD := Lib.hid (HD.out.go hk)
  replace HY := Lib.hid (HY.out.go hk)
  have HS := Lib.hid (show Blk w5 (w4.heap.size) 44 _ from Blk.go (by repeat (first | (with_reducible apply Blk.new'; first | with_reducible rfl | (focus (simp; done))) | with_reducible apply Blk.alloc | with_reducible apply Blk.drew | with_reducible apply Blk.drewN)) hb5)
  replace BEL : Hid (Below w.heap.size w w5) := Lib.hid (BEL.out.trans (hk.mono BEL.out.size))
  have z_w5 := hk.size; have y_w5 := BEL.out.size; clear hk hb5
  clear pA0 pA1 fA0 fA1 zA zA_1 zA_2 zA_3 pB0 pB1 fB0 fB1 zB zB_1 zB_2 zB_3 pD0 pD1 fD0 fD1 zD zD_1 zD_2 zD_3 pY0 pY1 fY0 fY1 zY zY_1 zY_2 zY_3
  obtain ⟨pA0, pA1, fA0, fA1, zA, zA_1, zA_2, zA_3⟩ := HA.out.two'
  obtain ⟨pB0, pB1, fB0, fB1, zB, zB_1, zB_2, zB_3⟩ := HB.out.two'
  obtain ⟨pD0, pD1, fD0, fD1, zD, zD_1, zD_2, zD_3⟩ := HD.out.two'
  obtain ⟨pY0, pY1, fY0, fY1, zY, zY_1, zY_2, zY_3⟩ := HY.out.two'
  obtain ⟨pS0, pS1, fS0, fS1, zS, zS_1, zS_2, zS_3⟩ := HS.out.two'
  go_wp2_with fail
  refine (HM.out _).mono ?_; rintro e w6 ⟨rfl, hb6⟩
  have hk : Below w5.heap.size w5 w6 := Below.trans (by repeat (first | with_reducible exact Below.refl _ _ | with_reducible apply Below.drew | with_reducible apply below_drewN | with_reducible apply Below.alloc | omega | (focus (simp; done)) | (simp; omega))) (hb6.mono (by first | omega | (simp; done) | (simp; omega)))
  replace HA := Lib.hid (HA.out.go hk)
  replace HB := Lib.hid (HB.out.go hk)
  replace HD := Lib.hid (HD.out.go hk)
  replace HY := Lib.hid (HY.out.go hk)
  replace HS := Lib.hid (HS.out.go hk)
  have HT := Lib.hid (show Blk w6 (w5.heap.size) 44 _ from Blk.go (by repeat (first | (with_reducible apply Blk.new'; first | with_reducible rfl | (focus (simp; done))) | with_reducible apply Blk.alloc | with_reducible apply Blk.drew | with_reducible apply Blk.drewN)) hb6)
  replace BEL : Hid (Below w.heap.size w w6) := Lib.hid (BEL.out.trans (hk.mono BEL.out.size))
  have z_w6 := hk.size; have y_w6 := BEL.out.size; clear hk hb6
  clear pA0 pA1 fA0 fA1 zA zA_1 zA_2 zA_3 pB0 pB1 fB0 fB1 zB zB_1 zB_2 zB_3 pD0 pD1 fD0 fD1 zD zD_1 zD_2 zD_3 pY0 pY1 fY0 fY1 zY zY_1 zY_2 zY_3 pS0 pS1 fS0 fS1 zS zS_1 zS_2 zS_3
  obtain ⟨pA0, pA1, fA0, fA1, zA, zA_1, zA_2, zA_3⟩ := HA.out.two'
  obtain ⟨pB0, pB1, fB0, fB1, zB, zB_1, zB_2, zB_3⟩ := HB.out.two'
  obtain ⟨pD0, pD1, fD0, fD1, zD, zD_1, zD_2, zD_3⟩ := HD.out.two'
  obtain ⟨pY0, pY1, fY0, fY1, zY, zY_1, zY_2, zY_3⟩ := HY.out.two'
  obtain ⟨pS0, pS1, fS0, fS1, zS, zS_1, zS_2, zS_3⟩ := HS.out.two'
  obtain ⟨pT0, pT1, fT0, fT1, zT, zT_1, zT_2, zT_3⟩ := HT.out.two'
  go_wp2_with fail
  refine (HCK.out _).mono ?_; rintro e w7 ⟨rfl, hb7⟩
  have hk : Below w6.heap.size w6 w7 := Below.trans (by repeat (first | with_reducible exact Below.refl _ _ | with_reducible apply Below.drew | with_reducible apply below_drewN | with_reducible apply Below.alloc | omega | (focus (simp; done)) | (simp; omega))) (hb7.mono (by first | omega | (simp; done) | (simp; omega)))
  replace HA := Lib.hid (HA.out.go hk)
  replace HB := Lib.hid (HB.out.go hk)
  replace HD := Lib.hid (HD.out.go hk)
  replace HY := Lib.hid (HY.out.go hk)
  replace HS := Lib.hid (HS.out.go hk)
  replace HT := Lib.hid (HT.out.go hk)
  have HM := Lib.hid (show Blk w7 (w6.heap.size) 44 _ from Blk.go (by repeat (first | (with_reducible apply Blk.new'; first | with_reducible rfl | (focus (simp; done))) | with_reducible apply Blk.alloc | with_reducible apply Blk.drew | with_reducible apply Blk.drewN)) hb7)
  replace BEL : Hid (Below w.heap.size w w7) := Lib.hid (BEL.out.trans (hk.mono BEL.out.size))
  have z_w7 := hk.size; have y_w7 := BEL.out.size; clear hk hb7
  clear pA0 pA1 fA0 fA1 zA zA_1 zA_2 zA_3 pB0 pB1 fB0 fB1 zB zB_1 zB_2 zB_3 pD0 pD1 fD0 fD1 zD zD_1 zD_2 zD_3 pY0 pY1 fY0 fY1 zY zY_1 zY_2 zY_3 pS0 pS1 fS0 fS1 zS zS_1 zS_2 zS_3 pT0 pT1 fT0 fT1 zT zT_1 zT_2 zT_3
  obtain ⟨pA0, pA1, fA0, fA1, zA, zA_1, zA_2, zA_3⟩ := HA.out.two'
  obtain ⟨pB0, pB1, fB0, fB1, zB, zB_1, zB_2, zB_3⟩ := HB.out.two'
  obtain ⟨pD0, pD1, fD0, fD1, zD, zD_1, zD_2, zD_3⟩ := HD.out.two'
  obtain ⟨pY0, pY1, fY0, fY1, zY, zY_1, zY_2, zY_3⟩ := HY.out.two'
  obtain ⟨pS0, pS1, fS0, fS1, zS, zS_1, zS_2, zS_3⟩ := HS.out.two'
  obtain ⟨pT0, pT1, fT0, fT1, zT, zT_1, zT_2, zT_3⟩ := HT.out.two'
  obtain ⟨pM0, pM1, fM0, fM1, zM, zM_1, zM_2, zM_3⟩ := HM.out.two'
  go_wp2_with fail
  refine (HBACK.out _).mono ?_; rintro e w8 ⟨rfl, hb8⟩
  have hk : Below w7.heap.size w7 w8 := Below.trans (by repeat (first | with_reducible exact Below.refl _ _ | with_reducible apply Below.drew | with_reducible apply below_drewN | with_reducible apply Below.alloc | omega | (focus (simp; done)) | (simp; omega))) (hb8.mono (by first | omega | (simp; done) | (simp; omega)))
  replace HA := Lib.hid (HA.out.go hk)
  replace HB := Lib.hid (HB.out.go hk)
  replace HD := Lib.hid (HD.out.go hk)
  replace HY := Lib.hid (HY.out.go hk)
  replace HS := Lib.hid (HS.out.go hk)
  replace HT := Lib.hid (HT.out.go hk)
  replace HM := Lib.hid (HM.out.go hk)
  replace BEL : Hid (Below w.heap.size w w8) := Lib.hid (BEL.out.trans (hk.mono BEL.out.size))
  have z_w8 := hk.size; have y_w8 := BEL.out.size; clear hk hb8
  clear pA0 pA1 fA0 fA1 zA zA_1 zA_2 zA_3 pB0 pB1 fB0 fB1 zB zB_1 zB_2 zB_3 pD0 pD1 fD0 fD1 zD zD_1 zD_2 zD_3 pY0 pY1 fY0 fY1 zY zY_1 zY_2 zY_3 pS0 pS1 fS0 fS1 zS zS_1 zS_2 zS_3 pT0 pT1 fT0 fT1 zT zT_1 zT_2 zT_3 pM0 pM1 fM0 fM1 zM zM_1 zM_2 zM_3
  obtain ⟨pA0, pA1, fA0, fA1, zA, zA_1, zA_2, zA_3⟩ := HA.out.two'
  obtain ⟨pB0, pB1, fB0, fB1, zB, zB_1, zB_2, zB_3⟩ := HB.out.two'
  obtain ⟨pD0, pD1, fD0, fD1, zD, zD_1, zD_2, zD_3⟩ := HD.out.two'
  obtain ⟨pY0, pY1, fY0, fY1, zY, zY_1, zY_2, zY_3⟩ := HY.out.two'
  obtain ⟨pS0, pS1, fS0, fS1, zS, zS_1, zS_2, zS_3⟩ := HS.out.two'
  obtain ⟨pT0, pT1, fT0, fT1, zT, zT_1, zT_2, zT_3⟩ := HT.out.two'
  obtain ⟨pM0, pM1, fM0, fM1, zM, zM_1, zM_2, zM_3⟩ := HM.out.two'
  go_wp2_with fail
  refine (HP.out _).mono ?_; rintro e w9 ⟨rfl, hb9⟩
  have hk : Below w8.heap.size w8 w9 := Below.trans (by repeat (first | with_reducible exact Below.refl _ _ | with_reducible apply Below.drew | with_reducible apply below_drewN | with_reducible apply Below.alloc | omega | (focus (simp; done)) | (simp; omega))) (hb9.mono (by first | omega | (simp; done) | (simp; omega)))
  replace HA := Lib.hid (HA.out.go hk)
  replace HB := Lib.hid (HB.out.go hk)
  replace HD := Lib.hid (HD.out.go hk)
  replace HY := Lib.hid (HY.out.go hk)
  replace HS := Lib.hid (HS.out.go hk)
  replace HT := Lib.hid (HT.out.go hk)
  replace HM := Lib.hid (HM.out.go hk)
  have HKA := Lib.hid (show Blk w9 (w8.heap.size) 44 _ from Blk.go (by repeat (first | (with_reducible apply Blk.new'; first | with_reducible rfl | (focus (simp; done))) | with_reducible apply Blk.alloc | with_reducible apply Blk.drew | with_reducible apply Blk.drewN)) hb9)
  replace BEL : Hid (Below w.heap.size w w9) := Lib.hid (BEL.out.trans (hk.mono BEL.out.size))
  have z_w9 := hk.size; have y_w9 := BEL.out.size; clear hk hb9
  clear pA0 pA1 fA0 fA1 zA zA_1 zA_2 zA_3 pB0 pB1 fB0 fB1 zB zB_1 zB_2 zB_3 pD0 pD1 fD0 fD1 zD zD_1 zD_2 zD_3 pY0 pY1 fY0 fY1 zY zY_1 zY_2 zY_3 pS0 pS1 fS0 fS1 zS zS_1 zS_2 zS_3 pT0 pT1 fT0 fT1 zT zT_1 zT_2 zT_3 pM0 pM1 fM0 fM1 zM zM_1 zM_2 zM_3
  obtain ⟨pA0, pA1, fA0, fA1, zA, zA_1, zA_2, zA_3⟩ := HA.out.two'
  obtain ⟨pB0, pB1, fB0, fB1, zB, zB_1, zB_2, zB_3⟩ := HB.out.two'
  obtain ⟨pD0, pD1, fD0, fD1, zD, zD_1, zD_2, zD_3⟩ := HD.out.two'
  obtain ⟨pY0, pY1, fY0, fY1, zY, zY_1, zY_2, zY_3⟩ := HY.out.two'
  obtain ⟨pS0, pS1, fS0, fS1, zS, zS_1, zS_2, zS_3⟩ := HS.out.two'
  obtain ⟨pT0, pT1, fT0, fT1, zT, zT_1, zT_2, zT_3⟩ := HT.out.two'
  obtain ⟨pM0, pM1, fM0, fM1, zM, zM_1, zM_2, zM_3⟩ := HM.out.two'
  obtain ⟨pKA0, pKA1, fKA0, fKA1, zKA, zKA_1, zKA_2, zKA_3⟩ := HKA.out.two'
  go_wp2_with fail
  refine (HQ.out _).mono ?_; rintro e w10 ⟨rfl, hb10⟩
  have hk : Below w9.heap.size w9 w10 := Below.trans (by repeat (first | with_reducible exact Below.refl _ _ | with_reducible apply Below.drew | with_reducible apply below_drewN | with_reducible apply Below.alloc | omega | (focus (simp; done)) | (simp; omega))) (hb10.mono (by first | omega | (simp; done) | (simp; omega)))
  replace HA := Lib.hid (HA.out.go hk)
  replace HB := Lib.hid (HB.out.go hk)
  replace HD := Lib.hid (HD.out.go hk)
  replace HY := Lib.hid (HY.out.go hk)
  replace HS := Lib.hid (HS.out.go hk)
  replace HT := Lib.hid (HT.out.go hk)
  replace HM := Lib.hid (HM.out.go hk)
  replace HKA := Lib.hid (HKA.out.go hk)
  have HPA := Lib.hid (show Blk w10 (w9.heap.size) 44 _ from Blk.go (by repeat (first | (with_reducible apply Blk.new'; first | with_reducible rfl | (focus (simp; done))) | with_reducible apply Blk.alloc | with_reducible apply Blk.drew | with_reducible apply Blk.drewN)) hb10)
  replace BEL : Hid (Below w.heap.size w w10) := Lib.hid (BEL.out.trans (hk.mono BEL.out.size))
  have z_w10 := hk.size; have y_w10 := BEL.out.size; clear hk hb10
  clear pA0 pA1 fA0 fA1 zA zA_1 zA_2 zA_3 pB0 pB1 fB0 fB1 zB zB_1 zB_2 zB_3 pD0 pD1 fD0 fD1 zD zD_1 zD_2 zD_3 pY0 pY1 fY0 fY1 zY zY_1 zY_2 zY_3 pS0 pS1 fS0 fS1 zS zS_1 zS_2 zS_3 pT0 pT1 fT0 fT1 zT zT_1 zT_2 zT_3 pM0 pM1 fM0 fM1 zM zM_1 zM_2 zM_3 pKA0 pKA1 fKA0 fKA1 zKA zKA_1 zKA_2 zKA_3
  obtain ⟨pA0, pA1, fA0, fA1, zA, zA_1, zA_2, zA_3⟩ := HA.out.two'
  obtain ⟨pB0, pB1, fB0, fB1, zB, zB_1, zB_2, zB_3⟩ := HB.out.two'
  obtain ⟨pD0, pD1, fD0, fD1, zD, zD_1, zD_2, zD_3⟩ := HD.out.two'
  obtain ⟨pY0, pY1, fY0, fY1, zY, zY_1, zY_2, zY_3⟩ := HY.out.two'
  obtain ⟨pS0, pS1, fS0, fS1, zS, zS_1, zS_2, zS_3⟩ := HS.out.two'
  obtain ⟨pT0, pT1, fT0, fT1, zT, zT_1, zT_2, zT_3⟩ := HT.out.two'
  obtain ⟨pM0, pM1, fM0, fM1, zM, zM_1, zM_2, zM_3⟩ := HM.out.two'
  obtain ⟨pKA0, pKA1, fKA0, fKA1, zKA, zKA_1, zKA_2, zKA_3⟩ := HKA.out.two'
  obtain ⟨pPA0, pPA1, fPA0, fPA1, zPA, zPA_1, zPA_2, zPA_3⟩ := HPA.out.two'
  go_wp2
  go_ret
  exact ⟨rfl, (by repeat (first | with_reducible exact BEL.out | with_reducible apply Below.alloc | with_reducible apply Below.setCell | with_reducible apply Below.drew | with_reducible apply below_drewN | (first | omega | (focus (simp; done)) | (focus (simp; omega)) | (focus (simp [World.setCell]; omega)))))⟩
set_option maxHeartbeats 8000000 in
set_option maxRecDepth 100000 in
theorem fracSound_fail_none (t b u c x y n s1 s2 m1 m2 p1 p2 q1 q2 e1 e3 e4 : Int) (w : World)
    (HBY : ∀ W : World, Calls Try.prog 32 #[.agg #[.int .i64 t, .int .i64 b], .int .i64 n] W fun e w' => e = .returned (.tuple #[.agg #[.int .i64 0, .int .i64 0], .iface 103 (.int .i64 e1)]) ∧ Below W.heap.size W w')
    (HADD : ∀ W : World, Calls Try.prog 28 #[.agg #[.int .i64 t, .int .i64 b], .agg #[.int .i64 u, .int .i64 c]] W fun e w' => e = .returned (.tuple #[.agg #[.int .i64 s1, .int .i64 s2], .nilIface]) ∧ Below W.heap.size W w')
    (HADD2 : ∀ W : World, Calls Try.prog 28 #[.agg #[.int .i64 u, .int .i64 c], .agg #[.int .i64 t, .int .i64 b]] W fun e w' => e = .returned (.tuple #[.agg #[.int .i64 s1, .int .i64 s2], .nilIface]) ∧ Below W.heap.size W w')
    (HM : ∀ W : World, Calls Try.prog 29 #[.agg #[.int .i64 u, .int .i64 c], .int .i64 (-1)] W fun e w' => e = .returned (.tuple #[.agg #[.int .i64 m1, .int .i64 m2], .nilIface]) ∧ Below W.heap.size W w')
    (HCK : ∀ W : World, Calls Try.prog 30 #[.agg #[.int .i64 s1, .int .i64 s2]] W fun e w' => e = .returned (.nilIface) ∧ Below W.heap.size W w')
    (HBACK : ∀ W : World, Calls Try.prog 28 #[.agg #[.int .i64 s1, .int .i64 s2], .agg #[.int .i64 m1, .int .i64 m2]] W fun e w' => e = .returned (.tuple #[.agg #[.int .i64 t, .int .i64 b], .nilIface]) ∧ Below W.heap.size W w')
    (HP : ∀ W : World, Calls Try.prog 28 #[.agg #[.int .i64 t, .int .i64 b], .agg #[.int .i64 x, .int .i64 y]] W fun e w' => e = .returned (.tuple #[.agg #[.int .i64 p1, .int .i64 p2], .iface 103 (.int .i64 e3)]) ∧ Below W.heap.size W w')
    (HQ : ∀ W : World, Calls Try.prog 28 #[.agg #[.int .i64 u, .int .i64 c], .agg #[.int .i64 x, .int .i64 y]] W fun e w' => e = .returned (.tuple #[.agg #[.int .i64 q1, .int .i64 q2], .iface 103 (.int .i64 e4)]) ∧ Below W.heap.size W w')
    : Calls Try.prog 6 #[.agg #[.int .i64 t, .int .i64 b], .agg #[.int .i64 u, .int .i64 c], .agg #[.int .i64 x, .int .i64 y], .int .i64 n] w fun e w' => e = .returned (.bool true) ∧ Below w.heap.size w w' := by
  replace HBY := Lib.hid HBY
  replace HADD := Lib.hid HADD
  replace HADD2 := Lib.hid HADD2
  replace HM := Lib.hid HM
  replace HCK := Lib.hid HCK
  replace HBACK := Lib.hid HBACK
  replace HP := Lib.hid HP
  replace HQ := Lib.hid HQ
  have BEL : Hid (Below w.heap.size w w) := Lib.hid (Below.refl _ _)
  have yB : w.heap.size ≤ w.heap.size := Nat.le_refl _
  go_enter Try.func6, Try.ntmps6
  go_wp2_with fail
  refine (sound_of _).mono ?_; rintro e w1 ⟨rfl, hb1⟩
  have hk : Below w.heap.size w w1 := Below.trans (by repeat (first | with_reducible exact Below.refl _ _ | with_reducible apply Below.drew | with_reducible apply below_drewN | with_reducible apply Below.alloc | omega | (focus (simp; done)) | (simp; omega))) (hb1.mono (by first | omega | (simp; done) | (simp; omega)))
  have HA := Lib.hid (show Blk w1 (w.heap.size) 44 _ from Blk.go (by repeat (first | (with_reducible apply Blk.new'; first | with_reducible rfl | (focus (simp; done))) | with_reducible apply Blk.alloc | with_reducible apply Blk.drew | with_reducible apply Blk.drewN)) hb1)
  have HB := Lib.hid (show Blk w1 (w.heap.size + 1) 44 _ from Blk.go (by repeat (first | (with_reducible apply Blk.new'; first | with_reducible rfl | (focus (simp; done))) | with_reducible apply Blk.alloc | with_reducible apply Blk.drew | with_reducible apply Blk.drewN)) hb1)
  have HD := Lib.hid (show Blk w1 (w.heap.size + 1 + 1) 44 _ from Blk.go (by repeat (first | (with_reducible apply Blk.new'; first | with_reducible rfl | (focus (simp; done))) | with_reducible apply Blk.alloc | with_reducible apply Blk.drew | with_reducible apply Blk.drewN)) hb1)
  replace BEL : Hid (Below w.heap.size w w1) := Lib.hid (BEL.out.trans (hk.mono BEL.out.size))
  have z_w1 := hk.size; have y_w1 := BEL.out.size; clear hk hb1
  obtain ⟨pA0, pA1, fA0, fA1, zA, zA_1, zA_2, zA_3⟩ := HA.out.two'
  obtain ⟨pB0, pB1, fB0, fB1, zB, zB_1, zB_2, zB_3⟩ := HB.out.two'
  obtain ⟨pD0, pD1, fD0, fD1, zD, zD_1, zD_2, zD_3⟩ := HD.out.two'
  go_wp2_with fail
  refine (sound_add _).mono ?_; rintro e w2 ⟨rfl, hb2⟩
  have hk : Below w1.heap.size w1 w2 := Below.trans (by repeat (first | with_reducible exact Below.refl _ _ | with_reducible apply Below.drew | with_reducible apply below_drewN | with_reducible apply Below.alloc | omega | (focus (simp; done)) | (simp; omega))) (hb2.mono (by first | omega | (simp; done) | (simp; omega)))
  replace HA := Lib.hid (HA.out.go hk)
  replace HB := Lib.hid (HB.out.go hk)
  replace HD := Lib.hid (HD.out.go hk)
  have HF := Lib.hid (show Blk w2 (w1.heap.size) 44 _ from Blk.go (by repeat (first | (with_reducible apply Blk.new'; first | with_reducible rfl | (focus (simp; done))) | with_reducible apply Blk.alloc | with_reducible apply Blk.drew | with_reducible apply Blk.drewN)) hb2)
  replace BEL : Hid (Below w.heap.size w w2) := Lib.hid (BEL.out.trans (hk.mono BEL.out.size))
  have z_w2 := hk.size; have y_w2 := BEL.out.size; clear hk hb2
  clear pA0 pA1 fA0 fA1 zA zA_1 zA_2 zA_3 pB0 pB1 fB0 fB1 zB zB_1 zB_2 zB_3 pD0 pD1 fD0 fD1 zD zD_1 zD_2 zD_3
  obtain ⟨pA0, pA1, fA0, fA1, zA, zA_1, zA_2, zA_3⟩ := HA.out.two'
  obtain ⟨pB0, pB1, fB0, fB1, zB, zB_1, zB_2, zB_3⟩ := HB.out.two'
  obtain ⟨pD0, pD1, fD0, fD1, zD, zD_1, zD_2, zD_3⟩ := HD.out.two'
  obtain ⟨pF0, pF1, fF0, fF1, zF, zF_1, zF_2, zF_3⟩ := HF.out.two'
  go_wp2_with fail
  refine (HBY.out _).mono ?_; rintro e w3 ⟨rfl, hb3⟩
  have hk : Below w2.heap.size w2 w3 := Below.trans (by repeat (first | with_reducible exact Below.refl _ _ | with_reducible apply Below.drew | with_reducible apply below_drewN | with_reducible apply Below.alloc | omega | (focus (simp; done)) | (simp; omega))) (hb3.mono (by first | omega | (simp; done) | (simp; omega)))
  replace HA := Lib.hid (HA.out.go hk)
  replace HB := Lib.hid (HB.out.go hk)
  replace HD := Lib.hid (HD.out.go hk)
  replace HF := Lib.hid (HF.out.go hk)
  have HG := Lib.hid (show Blk w3 (w2.heap.size) 44 _ from Blk.go (by repeat (first | (with_reducible apply Blk.new'; first | with_reducible rfl | (focus (simp; done))) | with_reducible apply Blk.alloc | with_reducible apply Blk.drew | with_reducible apply Blk.drewN)) hb3)
  replace BEL : Hid (Below w.heap.size w w3) := Lib.hid (BEL.out.trans (hk.mono BEL.out.size))
  have z_w3 := hk.size; have y_w3 := BEL.out.size; clear hk hb3
  clear pA0 pA1 fA0 fA1 zA zA_1 zA_2 zA_3 pB0 pB1 fB0 fB1 zB zB_1 zB_2 zB_3 pD0 pD1 fD0 fD1 zD zD_1 zD_2 zD_3 pF0 pF1 fF0 fF1 zF zF_1 zF_2 zF_3
  obtain ⟨pA0, pA1, fA0, fA1, zA, zA_1, zA_2, zA_3⟩ := HA.out.two'
  obtain ⟨pB0, pB1, fB0, fB1, zB, zB_1, zB_2, zB_3⟩ := HB.out.two'
  obtain ⟨pD0, pD1, fD0, fD1, zD, zD_1, zD_2, zD_3⟩ := HD.out.two'
  obtain ⟨pF0, pF1, fF0, fF1, zF, zF_1, zF_2, zF_3⟩ := HF.out.two'
  obtain ⟨pG0, pG1, fG0, fG1, zG, zG_1, zG_2, zG_3⟩ := HG.out.two'
  go_wp2_with fail
  refine (HADD.out _).mono ?_; rintro e w4 ⟨rfl, hb4⟩
  clear HF
  clear HG
  have hk : Below w3.heap.size w3 w4 := Below.trans (by repeat (first | with_reducible exact Below.refl _ _ | with_reducible apply Below.drew | with_reducible apply below_drewN | with_reducible apply Below.alloc | omega | (focus (simp; done)) | (simp; omega))) (hb4.mono (by first | omega | (simp; done) | (simp; omega)))
  replace HA := Lib.hid (HA.out.go hk)
  replace HB := Lib.hid (HB.out.go hk)
  replace HD := Lib.hid (HD.out.go hk)
  have HY := Lib.hid (show Blk w4 (w3.heap.size) 44 _ from Blk.go (by repeat (first | (with_reducible apply Blk.new'; first | with_reducible rfl | (focus (simp; done))) | with_reducible apply Blk.alloc | with_reducible apply Blk.drew | with_reducible apply Blk.drewN)) hb4)
  replace BEL : Hid (Below w.heap.size w w4) := Lib.hid (BEL.out.trans (hk.mono BEL.out.size))
  have z_w4 := hk.size; have y_w4 := BEL.out.size; clear hk hb4
  clear pA0 pA1 fA0 fA1 zA zA_1 zA_2 zA_3 pB0 pB1 fB0 fB1 zB zB_1 zB_2 zB_3 pD0 pD1 fD0 fD1 zD zD_1 zD_2 zD_3 pF0 pF1 fF0 fF1 zF zF_1 zF_2 zF_3 pG0 pG1 fG0 fG1 zG zG_1 zG_2 zG_3
  obtain ⟨pA0, pA1, fA0, fA1, zA, zA_1, zA_2, zA_3⟩ := HA.out.two'
  obtain ⟨pB0, pB1, fB0, fB1, zB, zB_1, zB_2, zB_3⟩ := HB.out.two'
  obtain ⟨pD0, pD1, fD0, fD1, zD, zD_1, zD_2, zD_3⟩ := HD.out.two'
  obtain ⟨pY0, pY1, fY0, fY1, zY, zY_1, zY_2, zY_3⟩ := HY.out.two'
  go_wp2_with fail
  refine (HADD2.out _).mono ?_; rintro e w5 ⟨rfl, hb5⟩
  have hk : Below w4.heap.size w4 w5 := Below.trans (by repeat (first | with_reducible exact Below.refl _ _ | with_reducible apply Below.drew | with_reducible apply below_drewN | with_reducible apply Below.alloc | omega | (focus (simp; done)) | (simp; omega))) (hb5.mono (by first | omega | (simp; done) | (simp; omega)))
  replace HA := Lib.hid (HA.out.go hk)
  replace HB := Lib.hid (HB.out.go hk)
  replace HD := Lib.hid (HD.out.go hk)
  replace HY := Lib.hid (HY.out.go hk)
  have HS := Lib.hid (show Blk w5 (w4.heap.size) 44 _ from Blk.go (by repeat (first | (with_reducible apply Blk.new'; first | with_reducible rfl | (focus (simp; done))) | with_reducible apply Blk.alloc | with_reducible apply Blk.drew | with_reducible apply Blk.drewN)) hb5)
  replace BEL : Hid (Below w.heap.size w w5) := Lib.hid (BEL.out.trans (hk.mono BEL.out.size))
  have z_w5 := hk.size; have y_w5 := BEL.out.size; clear hk hb5
  clear pA0 pA1 fA0 fA1 zA zA_1 zA_2 zA_3 pB0 pB1 fB0 fB1 zB zB_1 zB_2 zB_3 pD0 pD1 fD0 fD1 zD zD_1 zD_2 zD_3 pY0 pY1 fY0 fY1 zY zY_1 zY_2 zY_3
  obtain ⟨pA0, pA1, fA0, fA1, zA, zA_1, zA_2, zA_3⟩ := HA.out.two'
  obtain ⟨pB0, pB1, fB0, fB1, zB, zB_1, zB_2, zB_3⟩ := HB.out.two'
  obtain ⟨pD0, pD1, fD0, fD1, zD, zD_1, zD_2, zD_3⟩ := HD.out.two'
  obtain ⟨pY0, pY1, fY0, fY1, zY, zY_1, zY_2, zY_3⟩ := HY.out.two'
  obtain ⟨pS0, pS1, fS0, fS1, zS, zS_1, zS_2, zS_3⟩ := HS.out.two'
  go_wp2_with fail
  refine (HM.out _).mono ?_; rintro e w6 ⟨rfl, hb6⟩
  have hk : Below w5.heap.size w5 w6 := Below.trans (by repeat (first | with_reducible exact Below.refl _ _ | with_reducible apply Below.drew | with_reducible apply below_drewN | with_reducible apply Below.alloc | omega | (focus (simp; done)) | (simp; omega))) (hb6.mono (by first | omega | (simp; done) | (simp; omega)))
  replace HA := Lib.hid (HA.out.go hk)
  replace HB := Lib.hid (HB.out.go hk)
  replace HD := Lib.hid (HD.out.go hk)
  replace HY := Lib.hid (HY.out.go hk)
  replace HS := Lib.hid (HS.out.go hk)
  have HT := Lib.hid (show Blk w6 (w5.heap.size) 44 _ from Blk.go (by repeat (first | (with_reducible apply Blk.new'; first | with_reducible rfl | (focus (simp; done))) | with_reducible apply Blk.alloc | with_reducible apply Blk.drew | with_reducible apply Blk.drewN)) hb6)
  replace BEL : Hid (Below w.heap.size w w6) := Lib.hid (BEL.out.trans (hk.mono BEL.out.size))
  have z_w6 := hk.size; have y_w6 := BEL.out.size; clear hk hb6
  clear pA0 pA1 fA0 fA1 zA zA_1 zA_2 zA_3 pB0 pB1 fB0 fB1 zB zB_1 zB_2 zB_3 pD0 pD1 fD0 fD1 zD zD_1 zD_2 zD_3 pY0 pY1 fY0 fY1 zY zY_1 zY_2 zY_3 pS0 pS1 fS0 fS1 zS zS_1 zS_2 zS_3
  obtain ⟨pA0, pA1, fA0, fA1, zA, zA_1, zA_2, zA_3⟩ := HA.out.two'
  obtain ⟨pB0, pB1, fB0, fB1, zB, zB_1, zB_2, zB_3⟩ := HB.out.two'
  obtain ⟨pD0, pD1, fD0, fD1, zD, zD_1, zD_2, zD_3⟩ := HD.out.two'
  obtain ⟨pY0, pY1, fY0, fY1, zY, zY_1, zY_2, zY_3⟩ := HY.out.two'
  obtain ⟨pS0, pS1, fS0, fS1, zS, zS_1, zS_2, zS_3⟩ := HS.out.two'
  obtain ⟨pT0, pT1, fT0, fT1, zT, zT_1, zT_2, zT_3⟩ := HT.out.two'
  go_wp2_with fail
  refine (HCK.out _).mono ?_; rintro e w7 ⟨rfl, hb7⟩
  have hk : Below w6.heap.size w6 w7 := Below.trans (by repeat (first | with_reducible exact Below.refl _ _ | with_reducible apply Below.drew | with_reducible apply below_drewN | with_reducible apply Below.alloc | omega | (focus (simp; done)) | (simp; omega))) (hb7.mono (by first | omega | (simp; done) | (simp; omega)))
  replace HA := Lib.hid (HA.out.go hk)
  replace HB := Lib.hid (HB.out.go hk)
  replace HD := Lib.hid (HD.out.go hk)
  replace HY := Lib.hid (HY.out.go hk)
  replace HS := Lib.hid (HS.out.go hk)
  replace HT := Lib.hid (HT.out.go hk)
  have HM := Lib.hid (show Blk w7 (w6.heap.size) 44 _ from Blk.go (by repeat (first | (with_reducible apply Blk.new'; first | with_reducible rfl | (focus (simp; done))) | with_reducible apply Blk.alloc | with_reducible apply Blk.drew | with_reducible apply Blk.drewN)) hb7)
  replace BEL : Hid (Below w.heap.size w w7) := Lib.hid (BEL.out.trans (hk.mono BEL.out.size))
  have z_w7 := hk.size; have y_w7 := BEL.out.size; clear hk hb7
  clear pA0 pA1 fA0 fA1 zA zA_1 zA_2 zA_3 pB0 pB1 fB0 fB1 zB zB_1 zB_2 zB_3 pD0 pD1 fD0 fD1 zD zD_1 zD_2 zD_3 pY0 pY1 fY0 fY1 zY zY_1 zY_2 zY_3 pS0 pS1 fS0 fS1 zS zS_1 zS_2 zS_3 pT0 pT1 fT0 fT1 zT zT_1 zT_2 zT_3
  obtain ⟨pA0, pA1, fA0, fA1, zA, zA_1, zA_2, zA_3⟩ := HA.out.two'
  obtain ⟨pB0, pB1, fB0, fB1, zB, zB_1, zB_2, zB_3⟩ := HB.out.two'
  obtain ⟨pD0, pD1, fD0, fD1, zD, zD_1, zD_2, zD_3⟩ := HD.out.two'
  obtain ⟨pY0, pY1, fY0, fY1, zY, zY_1, zY_2, zY_3⟩ := HY.out.two'
  obtain ⟨pS0, pS1, fS0, fS1, zS, zS_1, zS_2, zS_3⟩ := HS.out.two'
  obtain ⟨pT0, pT1, fT0, fT1, zT, zT_1, zT_2, zT_3⟩ := HT.out.two'
  obtain ⟨pM0, pM1, fM0, fM1, zM, zM_1, zM_2, zM_3⟩ := HM.out.two'
  go_wp2_with fail
  refine (HBACK.out _).mono ?_; rintro e w8 ⟨rfl, hb8⟩
  have hk : Below w7.heap.size w7 w8 := Below.trans (by repeat (first | with_reducible exact Below.refl _ _ | with_reducible apply Below.drew | with_reducible apply below_drewN | with_reducible apply Below.alloc | omega | (focus (simp; done)) | (simp; omega))) (hb8.mono (by first | omega | (simp; done) | (simp; omega)))
  replace HA := Lib.hid (HA.out.go hk)
  replace HB := Lib.hid (HB.out.go hk)
  replace HD := Lib.hid (HD.out.go hk)
  replace HY := Lib.hid (HY.out.go hk)
  replace HS := Lib.hid (HS.out.go hk)
  replace HT := Lib.hid (HT.out.go hk)
  replace HM := Lib.hid (HM.out.go hk)
  replace BEL : Hid (Below w.heap.size w w8) := Lib.hid (BEL.out.trans (hk.mono BEL.out.size))
  have z_w8 := hk.size; have y_w8 := BEL.out.size; clear hk hb8
  clear pA0 pA1 fA0 fA1 zA zA_1 zA_2 zA_3 pB0 pB1 fB0 fB1 zB zB_1 zB_2 zB_3 pD0 pD1 fD0 fD1 zD zD_1 zD_2 zD_3 pY0 pY1 fY0 fY1 zY zY_1 zY_2 zY_3 pS0 pS1 fS0 fS1 zS zS_1 zS_2 zS_3 pT0 pT1 fT0 fT1 zT zT_1 zT_2 zT_3 pM0 pM1 fM0 fM1 zM zM_1 zM_2 zM_3
  obtain ⟨pA0, pA1, fA0, fA1, zA, zA_1, zA_2, zA_3⟩ := HA.out.two'
  obtain ⟨pB0, pB1, fB0, fB1, zB, zB_1, zB_2, zB_3⟩ := HB.out.two'
  obtain ⟨pD0, pD1, fD0, fD1, zD, zD_1, zD_2, zD_3⟩ := HD.out.two'
  obtain ⟨pY0, pY1, fY0, fY1, zY, zY_1, zY_2, zY_3⟩ := HY.out.two'
  obtain ⟨pS0, pS1, fS0, fS1, zS, zS_1, zS_2, zS_3⟩ := HS.out.two'
  obtain ⟨pT0, pT1, fT0, fT1, zT, zT_1, zT_2, zT_3⟩ := HT.out.two'
  obtain ⟨pM0, pM1, fM0, fM1, zM, zM_1, zM_2, zM_3⟩ := HM.out.two'
  go_wp2_with fail
  refine (HP.out _).mono ?_; rintro e w9 ⟨rfl, hb9⟩
  have hk : Below w8.heap.size w8 w9 := Below.trans (by repeat (first | with_reducible exact Below.refl _ _ | with_reducible apply Below.drew | with_reducible apply below_drewN | with_reducible apply Below.alloc | omega | (focus (simp; done)) | (simp; omega))) (hb9.mono (by first | omega | (simp; done) | (simp; omega)))
  replace HA := Lib.hid (HA.out.go hk)
  replace HB := Lib.hid (HB.out.go hk)
  replace HD := Lib.hid (HD.out.go hk)
  replace HY := Lib.hid (HY.out.go hk)
  replace HS := Lib.hid (HS.out.go hk)
  replace HT := Lib.hid (HT.out.go hk)
  replace HM := Lib.hid (HM.out.go hk)
  have HKA := Lib.hid (show Blk w9 (w8.heap.size) 44 _ from Blk.go (by repeat (first | (with_reducible apply Blk.new'; first | with_reducible rfl | (focus (simp; done))) | with_reducible apply Blk.alloc | with_reducible apply Blk.drew | with_reducible apply Blk.drewN)) hb9)
  replace BEL : Hid (Below w.heap.size w w9) := Lib.hid (BEL.out.trans (hk.mono BEL.out.size))
  have z_w9 := hk.size; have y_w9 := BEL.out.size; clear hk hb9
  clear pA0 pA1 fA0 fA1 zA zA_1 zA_2 zA_3 pB0 pB1 fB0 fB1 zB zB_1 zB_2 zB_3 pD0 pD1 fD0 fD1 zD zD_1 zD_2 zD_3 pY0 pY1 fY0 fY1 zY zY_1 zY_2 zY_3 pS0 pS1 fS0 fS1 zS zS_1 zS_2 zS_3 pT0 pT1 fT0 fT1 zT zT_1 zT_2 zT_3 pM0 pM1 fM0 fM1 zM zM_1 zM_2 zM_3
  obtain ⟨pA0, pA1, fA0, fA1, zA, zA_1, zA_2, zA_3⟩ := HA.out.two'
  obtain ⟨pB0, pB1, fB0, fB1, zB, zB_1, zB_2, zB_3⟩ := HB.out.two'
  obtain ⟨pD0, pD1, fD0, fD1, zD, zD_1, zD_2, zD_3⟩ := HD.out.two'
  obtain ⟨pY0, pY1, fY0, fY1, zY, zY_1, zY_2, zY_3⟩ := HY.out.two'
  obtain ⟨pS0, pS1, fS0, fS1, zS, zS_1, zS_2, zS_3⟩ := HS.out.two'
  obtain ⟨pT0, pT1, fT0, fT1, zT, zT_1, zT_2, zT_3⟩ := HT.out.two'
  obtain ⟨pM0, pM1, fM0, fM1, zM, zM_1, zM_2, zM_3⟩ := HM.out.two'
  obtain ⟨pKA0, pKA1, fKA0, fKA1, zKA, zKA_1, zKA_2, zKA_3⟩ := HKA.out.two'
  go_wp2_with fail
  refine (HQ.out _).mono ?_; rintro e w10 ⟨rfl, hb10⟩
  have hk : Below w9.heap.size w9 w10 := Below.trans (by repeat (first | with_reducible exact Below.refl _ _ | with_reducible apply Below.drew | with_reducible apply below_drewN | with_reducible apply Below.alloc | omega | (focus (simp; done)) | (simp; omega))) (hb10.mono (by first | omega | (simp; done) | (simp; omega)))
  replace HA := Lib.hid (HA.out.go hk)
  replace HB := Lib.hid (HB.out.go hk)
  replace HD := Lib.hid (HD.out.go hk)
  replace HY := Lib.hid (HY.out.go hk)
  replace HS := Lib.hid (HS.out.go hk)
  replace HT := Lib.hid (HT.out.go hk)
  replace HM := Lib.hid (HM.out.go hk)
  replace HKA := Lib.hid (HKA.out.go hk)
  have HPA := Lib.hid (show Blk w10 (w9.heap.size) 44 _ from Blk.go (by repeat (first | (with_reducible apply Blk.new'; first | with_reducible rfl | (focus (simp; done))) | with_reducible apply Blk.alloc | with_reducible apply Blk.drew | with_reducible apply Blk.drewN)) hb10)
  replace BEL : Hid (Below w.heap.size w w10) := Lib.hid (BEL.out.trans (hk.mono BEL.out.size))
  have z_w10 := hk.size; have y_w10 := BEL.out.size; clear hk hb10
  clear pA0 pA1 fA0 fA1 zA zA_1 zA_2 zA_3 pB0 pB1 fB0 fB1 zB zB_1 zB_2 zB_3 pD0 pD1 fD0 fD1 zD zD_1 zD_2 zD_3 pY0 pY1 fY0 fY1 zY zY_1 zY_2 zY_3 pS0 pS1 fS0 fS1 zS zS_1 zS_2 zS_3 pT0 pT1 fT0 fT1 zT zT_1 zT_2 zT_3 pM0 pM1 fM0 fM1 zM zM_1 zM_2 zM_3 pKA0 pKA1 fKA0 fKA1 zKA zKA_1 zKA_2 zKA_3
  obtain ⟨pA0, pA1, fA0, fA1, zA, zA_1, zA_2, zA_3⟩ := HA.out.two'
  obtain ⟨pB0, pB1, fB0, fB1, zB, zB_1, zB_2, zB_3⟩ := HB.out.two'
  obtain ⟨pD0, pD1, fD0, fD1, zD, zD_1, zD_2, zD_3⟩ := HD.out.two'
  obtain ⟨pY0, pY1, fY0, fY1, zY, zY_1, zY_2, zY_3⟩ := HY.out.two'
  obtain ⟨pS0, pS1, fS0, fS1, zS, zS_1, zS_2, zS_3⟩ := HS.out.two'
  obtain ⟨pT0, pT1, fT0, fT1, zT, zT_1, zT_2, zT_3⟩ := HT.out.two'
  obtain ⟨pM0, pM1, fM0, fM1, zM, zM_1, zM_2, zM_3⟩ := HM.out.two'
  obtain ⟨pKA0, pKA1, fKA0, fKA1, zKA, zKA_1, zKA_2, zKA_3⟩ := HKA.out.two'
  obtain ⟨pPA0, pPA1, fPA0, fPA1, zPA, zPA_1, zPA_2, zPA_3⟩ := HPA.out.two'
  go_wp2
  go_ret
  exact ⟨rfl, (by repeat (first | with_reducible exact BEL.out | with_reducible apply Below.alloc | with_reducible apply Below.setCell | with_reducible apply Below.drew | with_reducible apply below_drewN | (first | omega | (focus (simp; done)) | (focus (simp; omega)) | (focus (simp [World.setCell]; omega)))))⟩
set_option maxHeartbeats 8000000 in
set_option maxRecDepth 100000 in
theorem fracSound_fail_eq (t b u c x y n s1 s2 m1 m2 p1 p2 q1 q2 e1 : Int) (w : World)
    (HBY : ∀ W : World, Calls Try.prog 32 #[.agg #[.int .i64 t, .int .i64 b], .int .i64 n] W fun e w' => e = .returned (.tuple #[.agg #[.int .i64 0, .int .i64 0], .iface 103 (.int .i64 e1)]) ∧ Below W.heap.size W w')
    (HADD : ∀ W : World, Calls Try.prog 28 #[.agg #[.int .i64 t, .int .i64 b], .agg #[.int .i64 u, .int .i64 c]] W fun e w' => e = .returned (.tuple #[.agg #[.int .i64 s1, .int .i64 s2], .nilIface]) ∧ Below W.heap.size W w')
    (HADD2 : ∀ W : World, Calls Try.prog 28 #[.agg #[.int .i64 u, .int .i64 c], .agg #[.int .i64 t, .int .i64 b]] W fun e w' => e = .returned (.tuple #[.agg #[.int .i64 s1, .int .i64 s2], .nilIface]) ∧ Below W.heap.size W w')
    (HM : ∀ W : World, Calls Try.prog 29 #[.agg #[.int .i64 u, .int .i64 c], .int .i64 (-1)] W fun e w' => e = .returned (.tuple #[.agg #[.int .i64 m1, .int .i64 m2], .nilIface]) ∧ Below W.heap.size W w')
    (HCK : ∀ W : World, Calls Try.prog 30 #[.agg #[.int .i64 s1, .int .i64 s2]] W fun e w' => e = .returned (.nilIface) ∧ Below W.heap.size W w')
    (HBACK : ∀ W : World, Calls Try.prog 28 #[.agg #[.int .i64 s1, .int .i64 s2], .agg #[.int .i64 m1, .int .i64 m2]] W fun e w' => e = .returned (.tuple #[.agg #[.int .i64 t, .int .i64 b], .nilIface]) ∧ Below W.heap.size W w')
    (HP : ∀ W : World, Calls Try.prog 28 #[.agg #[.int .i64 t, .int .i64 b], .agg #[.int .i64 x, .int .i64 y]] W fun e w' => e = .returned (.tuple #[.agg #[.int .i64 p1, .int .i64 p2], .nilIface]) ∧ Below W.heap.size W w')
    (HQ : ∀ W : World, Calls Try.prog 28 #[.agg #[.int .i64 u, .int .i64 c], .agg #[.int .i64 x, .int .i64 y]] W fun e w' => e = .returned (.tuple #[.agg #[.int .i64 q1, .int .i64 q2], .nilIface]) ∧ Below W.heap.size W w')
    (HO : ∀ W : World, Calls Try.prog 33 #[.agg #[.int .i64 t, .int .i64 b], .agg #[.int .i64 u, .int .i64 c]] W fun e w' => e = .returned (.tuple #[.int .i64 0, .nilIface]) ∧ Below W.heap.size W w')
    (HK : ∀ W : World, Calls Try.prog 33 #[.agg #[.int .i64 p1, .int .i64 p2], .agg #[.int .i64 q1, .int .i64 q2]] W fun e w' => e = .returned (.tuple #[.int .i64 0, .nilIface]) ∧ Below W.heap.size W w')
    (HR : ∀ W : World, Calls Try.prog 33 #[.agg #[.int .i64 u, .int .i64 c], .agg #[.int .i64 t, .int .i64 b]] W fun e w' => e = .returned (.tuple #[.int .i64 0, .nilIface]) ∧ Below W.heap.size W w')
    (HEQ : t = u ∧ b = c)
    : Calls Try.prog 6 #[.agg #[.int .i64 t, .int .i64 b], .agg #[.int .i64 u, .int .i64 c], .agg #[.int .i64 x, .int .i64 y], .int .i64 n] w fun e w' => e = .returned (.bool true) ∧ Below w.heap.size w w' := by
  replace HBY := Lib.hid HBY
  replace HADD := Lib.hid HADD
  replace HADD2 := Lib.hid HADD2
  replace HM := Lib.hid HM
  replace HCK := Lib.hid HCK
  replace HBACK := Lib.hid HBACK
  replace HP := Lib.hid HP
  replace HQ := Lib.hid HQ
  replace HO := Lib.hid HO
  replace HK := Lib.hid HK
  replace HR := Lib.hid HR
  have BEL : Hid (Below w.heap.size w w) := Lib.hid (Below.refl _ _)
  have yB : w.heap.size ≤ w.heap.size := Nat.le_refl _
  obtain ⟨rfl, rfl⟩ := HEQ
  go_enter Try.func6, Try.ntmps6
  go_wp2_with fail
  refine (sound_of _).mono ?_; rintro e w1 ⟨rfl, hb1⟩
  have hk : Below w.heap.size w w1 := Below.trans (by repeat (first | with_reducible exact Below.refl _ _ | with_reducible apply Below.drew | with_reducible apply below_drewN | with_reducible apply Below.alloc | omega | (focus (simp; done)) | (simp; omega))) (hb1.mono (by first | omega | (simp; done) | (simp; omega)))
  have HA := Lib.hid (show Blk w1 (w.heap.size) 44 _ from Blk.go (by repeat (first | (with_reducible apply Blk.new'; first | with_reducible rfl | (focus (simp; done))) | with_reducible apply Blk.alloc | with_reducible apply Blk.drew | with_reducible apply Blk.drewN)) hb1)
  have HB := Lib.hid (show Blk w1 (w.heap.size + 1) 44 _ from Blk.go (by repeat (first | (with_reducible apply Blk.new'; first | with_reducible rfl | (focus (simp; done))) | with_reducible apply Blk.alloc | with_reducible apply Blk.drew | with_reducible apply Blk.drewN)) hb1)
  have HD := Lib.hid (show Blk w1 (w.heap.size + 1 + 1) 44 _ from Blk.go (by repeat (first | (with_reducible apply Blk.new'; first | with_reducible rfl | (focus (simp; done))) | with_reducible apply Blk.alloc | with_reducible apply Blk.drew | with_reducible apply Blk.drewN)) hb1)
  replace BEL : Hid (Below w.heap.size w w1) := Lib.hid (BEL.out.trans (hk.mono BEL.out.size))
  have z_w1 := hk.size; have y_w1 := BEL.out.size; clear hk hb1
  obtain ⟨pA0, pA1, fA0, fA1, zA, zA_1, zA_2, zA_3⟩ := HA.out.two'
  obtain ⟨pB0, pB1, fB0, fB1, zB, zB_1, zB_2, zB_3⟩ := HB.out.two'
  obtain ⟨pD0, pD1, fD0, fD1, zD, zD_1, zD_2, zD_3⟩ := HD.out.two'
  go_wp2_with fail
  refine (sound_add _).mono ?_; rintro e w2 ⟨rfl, hb2⟩
  have hk : Below w1.heap.size w1 w2 := Below.trans (by repeat (first | with_reducible exact Below.refl _ _ | with_reducible apply Below.drew | with_reducible apply below_drewN | with_reducible apply Below.alloc | omega | (focus (simp; done)) | (simp; omega))) (hb2.mono (by first | omega | (simp; done) | (simp; omega)))
  replace HA := Lib.hid (HA.out.go hk)
  replace HB := Lib.hid (HB.out.go hk)
  replace HD := Lib.hid (HD.out.go hk)
  have HF := Lib.hid (show Blk w2 (w1.heap.size) 44 _ from Blk.go (by repeat (first | (with_reducible apply Blk.new'; first | with_reducible rfl | (focus (simp; done))) | with_reducible apply Blk.alloc | with_reducible apply Blk.drew | with_reducible apply Blk.drewN)) hb2)
  replace BEL : Hid (Below w.heap.size w w2) := Lib.hid (BEL.out.trans (hk.mono BEL.out.size))
  have z_w2 := hk.size; have y_w2 := BEL.out.size; clear hk hb2
  clear pA0 pA1 fA0 fA1 zA zA_1 zA_2 zA_3 pB0 pB1 fB0 fB1 zB zB_1 zB_2 zB_3 pD0 pD1 fD0 fD1 zD zD_1 zD_2 zD_3
  obtain ⟨pA0, pA1, fA0, fA1, zA, zA_1, zA_2, zA_3⟩ := HA.out.two'
  obtain ⟨pB0, pB1, fB0, fB1, zB, zB_1, zB_2, zB_3⟩ := HB.out.two'
  obtain ⟨pD0, pD1, fD0, fD1, zD, zD_1, zD_2, zD_3⟩ := HD.out.two'
  obtain ⟨pF0, pF1, fF0, fF1, zF, zF_1, zF_2, zF_3⟩ := HF.out.two'
  go_wp2_with fail
  refine (HBY.out _).mono ?_; rintro e w3 ⟨rfl, hb3⟩
  have hk : Below w2.heap.size w2 w3 := Below.trans (by repeat (first | with_reducible exact Below.refl _ _ | with_reducible apply Below.drew | with_reducible apply below_drewN | with_reducible apply Below.alloc | omega | (focus (simp; done)) | (simp; omega))) (hb3.mono (by first | omega | (simp; done) | (simp; omega)))
  replace HA := Lib.hid (HA.out.go hk)
  replace HB := Lib.hid (HB.out.go hk)
  replace HD := Lib.hid (HD.out.go hk)
  replace HF := Lib.hid (HF.out.go hk)
  have HG := Lib.hid (show Blk w3 (w2.heap.size) 44 _ from Blk.go (by repeat (first | (with_reducible apply Blk.new'; first | with_reducible rfl | (focus (simp; done))) | with_reducible apply Blk.alloc | with_reducible apply Blk.drew | with_reducible apply Blk.drewN)) hb3)
  replace BEL : Hid (Below w.heap.size w w3) := Lib.hid (BEL.out.trans (hk.mono BEL.out.size))
  have z_w3 := hk.size; have y_w3 := BEL.out.size; clear hk hb3
  clear pA0 pA1 fA0 fA1 zA zA_1 zA_2 zA_3 pB0 pB1 fB0 fB1 zB zB_1 zB_2 zB_3 pD0 pD1 fD0 fD1 zD zD_1 zD_2 zD_3 pF0 pF1 fF0 fF1 zF zF_1 zF_2 zF_3
  obtain ⟨pA0, pA1, fA0, fA1, zA, zA_1, zA_2, zA_3⟩ := HA.out.two'
  obtain ⟨pB0, pB1, fB0, fB1, zB, zB_1, zB_2, zB_3⟩ := HB.out.two'
  obtain ⟨pD0, pD1, fD0, fD1, zD, zD_1, zD_2, zD_3⟩ := HD.out.two'
  obtain ⟨pF0, pF1, fF0, fF1, zF, zF_1, zF_2, zF_3⟩ := HF.out.two'
  obtain ⟨pG0, pG1, fG0, fG1, zG, zG_1, zG_2, zG_3⟩ := HG.out.two'
  go_wp2_with fail
  refine (HADD.out _).mono ?_; rintro e w4 ⟨rfl, hb4⟩
  clear HF
  clear HG
  have hk : Below w3.heap.size w3 w4 := Below.trans (by repeat (first | with_reducible exact Below.refl _ _ | with_reducible apply Below.drew | with_reducible apply below_drewN | with_reducible apply Below.alloc | omega | (focus (simp; done)) | (simp; omega))) (hb4.mono (by first | omega | (simp; done) | (simp; omega)))
  replace HA := Lib.hid (HA.out.go hk)
  replace HB := Lib.hid (HB.out.go hk)
  replace HD := Lib.hid (HD.out.go hk)
  have HY := Lib.hid (show Blk w4 (w3.heap.size) 44 _ from Blk.go (by repeat (first | (with_reducible apply Blk.new'; first | with_reducible rfl | (focus (simp; done))) | with_reducible apply Blk.alloc | with_reducible apply Blk.drew | with_reducible apply Blk.drewN)) hb4)
  replace BEL : Hid (Below w.heap.size w w4) := Lib.hid (BEL.out.trans (hk.mono BEL.out.size))
  have z_w4 := hk.size; have y_w4 := BEL.out.size; clear hk hb4
  clear pA0 pA1 fA0 fA1 zA zA_1 zA_2 zA_3 pB0 pB1 fB0 fB1 zB zB_1 zB_2 zB_3 pD0 pD1 fD0 fD1 zD zD_1 zD_2 zD_3 pF0 pF1 fF0 fF1 zF zF_1 zF_2 zF_3 pG0 pG1 fG0 fG1 zG zG_1 zG_2 zG_3
  obtain ⟨pA0, pA1, fA0, fA1, zA, zA_1, zA_2, zA_3⟩ := HA.out.two'
  obtain ⟨pB0, pB1, fB0, fB1, zB, zB_1, zB_2, zB_3⟩ := HB.out.two'
  obtain ⟨pD0, pD1, fD0, fD1, zD, zD_1, zD_2, zD_3⟩ := HD.out.two'
  obtain ⟨pY0, pY1, fY0, fY1, zY, zY_1, zY_2, zY_3⟩ := HY.out.two'
  go_wp2_with fail
  refine (HADD2.out _).mono ?_; rintro e w5 ⟨rfl, hb5⟩
  have hk : Below w4.heap.size w4 w5 := Below.trans (by repeat (first | with_reducible exact Below.refl _ _ | with_reducible apply Below.drew | with_reducible apply below_drewN | with_reducible apply Below.alloc | omega | (focus (simp; done)) | (simp; omega))) (hb5.mono (by first | omega | (simp; done) | (simp; omega)))
  replace HA := Lib.hid (HA.out.go hk)
  replace HB := Lib.hid (HB.out.go hk)
  replace HD := Lib.hid (HD.out.go hk)
  replace HY := Lib.hid (HY.out.go hk)
  have HS := Lib.hid (show Blk w5 (w4.heap.size) 44 _ from Blk.go (by repeat (first | (with_reducible apply Blk.new'; first | with_reducible rfl | (focus (simp; done))) | with_reducible apply Blk.alloc | with_reducible apply Blk.drew | with_reducible apply Blk.drewN)) hb5)
  replace BEL : Hid (Below w.heap.size w w5) := Lib.hid (BEL.out.trans (hk.mono BEL.out.size))
  have z_w5 := hk.size; have y_w5 := BEL.out.size; clear hk hb5
  clear pA0 pA1 fA0 fA1 zA zA_1 zA_2 zA_3 pB0 pB1 fB0 fB1 zB zB_1 zB_2 zB_3 pD0 pD1 fD0 fD1 zD zD_1 zD_2 zD_3 pY0 pY1 fY0 fY1 zY zY_1 zY_2 zY_3
  obtain ⟨pA0, pA1, fA0, fA1, zA, zA_1, zA_2, zA_3⟩ := HA.out.two'
  obtain ⟨pB0, pB1, fB0, fB1, zB, zB_1, zB_2, zB_3⟩ := HB.out.two'
  obtain ⟨pD0, pD1, fD0, fD1, zD, zD_1, zD_2, zD_3⟩ := HD.out.two'
  obtain ⟨pY0, pY1, fY0, fY1, zY, zY_1, zY_2, zY_3⟩ := HY.out.two'
  obtain ⟨pS0, pS1, fS0, fS1, zS, zS_1, zS_2, zS_3⟩ := HS.out.two'
  go_wp2_with fail
  refine (HM.out _).mono ?_; rintro e w6 ⟨rfl, hb6⟩
  have hk : Below w5.heap.size w5 w6 := Below.trans (by repeat (first | with_reducible exact Below.refl _ _ | with_reducible apply Below.drew | with_reducible apply below_drewN | with_reducible apply Below.alloc | omega | (focus (simp; done)) | (simp; omega))) (hb6.mono (by first | omega | (simp; done) | (simp; omega)))
  replace HA := Lib.hid (HA.out.go hk)
  replace HB := Lib.hid (HB.out.go hk)
  replace HD := Lib.hid (HD.out.go hk)
  replace HY := Lib.hid (HY.out.go hk)
  replace HS := Lib.hid (HS.out.go hk)
  have HT := Lib.hid (show Blk w6 (w5.heap.size) 44 _ from Blk.go (by repeat (first | (with_reducible apply Blk.new'; first | with_reducible rfl | (focus (simp; done))) | with_reducible apply Blk.alloc | with_reducible apply Blk.drew | with_reducible apply Blk.drewN)) hb6)
  replace BEL : Hid (Below w.heap.size w w6) := Lib.hid (BEL.out.trans (hk.mono BEL.out.size))
  have z_w6 := hk.size; have y_w6 := BEL.out.size; clear hk hb6
  clear pA0 pA1 fA0 fA1 zA zA_1 zA_2 zA_3 pB0 pB1 fB0 fB1 zB zB_1 zB_2 zB_3 pD0 pD1 fD0 fD1 zD zD_1 zD_2 zD_3 pY0 pY1 fY0 fY1 zY zY_1 zY_2 zY_3 pS0 pS1 fS0 fS1 zS zS_1 zS_2 zS_3
  obtain ⟨pA0, pA1, fA0, fA1, zA, zA_1, zA_2, zA_3⟩ := HA.out.two'
  obtain ⟨pB0, pB1, fB0, fB1, zB, zB_1, zB_2, zB_3⟩ := HB.out.two'
  obtain ⟨pD0, pD1, fD0, fD1, zD, zD_1, zD_2, zD_3⟩ := HD.out.two'
  obtain ⟨pY0, pY1, fY0, fY1, zY, zY_1, zY_2, zY_3⟩ := HY.out.two'
  obtain ⟨pS0, pS1, fS0, fS1, zS, zS_1, zS_2, zS_3⟩ := HS.out.two'
  obtain ⟨pT0, pT1, fT0, fT1, zT, zT_1, zT_2, zT_3⟩ := HT.out.two'
  go_wp2_with fail
  refine (HCK.out _).mono ?_; rintro e w7 ⟨rfl, hb7⟩
  have hk : Below w6.heap.size w6 w7 := Below.trans (by repeat (first | with_reducible exact Below.refl _ _ | with_reducible apply Below.drew | with_reducible apply below_drewN | with_reducible apply Below.alloc | omega | (focus (simp; done)) | (simp; omega))) (hb7.mono (by first | omega | (simp; done) | (simp; omega)))
  replace HA := Lib.hid (HA.out.go hk)
  replace HB := Lib.hid (HB.out.go hk)
  replace HD := Lib.hid (HD.out.go hk)
  replace HY := Lib.hid (HY.out.go hk)
  replace HS := Lib.hid (HS.out.go hk)
  replace HT := Lib.hid (HT.out.go hk)
  have HM := Lib.hid (show Blk w7 (w6.heap.size) 44 _ from Blk.go (by repeat (first | (with_reducible apply Blk.new'; first | with_reducible rfl | (focus (simp; done))) | with_reducible apply Blk.alloc | with_reducible apply Blk.drew | with_reducible apply Blk.drewN)) hb7)
  replace BEL : Hid (Below w.heap.size w w7) := Lib.hid (BEL.out.trans (hk.mono BEL.out.size))
  have z_w7 := hk.size; have y_w7 := BEL.out.size; clear hk hb7
  clear pA0 pA1 fA0 fA1 zA zA_1 zA_2 zA_3 pB0 pB1 fB0 fB1 zB zB_1 zB_2 zB_3 pD0 pD1 fD0 fD1 zD zD_1 zD_2 zD_3 pY0 pY1 fY0 fY1 zY zY_1 zY_2 zY_3 pS0 pS1 fS0 fS1 zS zS_1 zS_2 zS_3 pT0 pT1 fT0 fT1 zT zT_1 zT_2 zT_3
  obtain ⟨pA0, pA1, fA0, fA1, zA, zA_1, zA_2, zA_3⟩ := HA.out.two'
  obtain ⟨pB0, pB1, fB0, fB1, zB, zB_1, zB_2, zB_3⟩ := HB.out.two'
  obtain ⟨pD0, pD1, fD0, fD1, zD, zD_1, zD_2, zD_3⟩ := HD.out.two'
  obtain ⟨pY0, pY1, fY0, fY1, zY, zY_1, zY_2, zY_3⟩ := HY.out.two'
  obtain ⟨pS0, pS1, fS0, fS1, zS, zS_1, zS_2, zS_3⟩ := HS.out.two'
  obtain ⟨pT0, pT1, fT0, fT1, zT, zT_1, zT_2, zT_3⟩ := HT.out.two'
  obtain ⟨pM0, pM1, fM0, fM1, zM, zM_1, zM_2, zM_3⟩ := HM.out.two'
  go_wp2_with fail
  refine (HBACK.out _).mono ?_; rintro e w8 ⟨rfl, hb8⟩
  have hk : Below w7.heap.size w7 w8 := Below.trans (by repeat (first | with_reducible exact Below.refl _ _ | with_reducible apply Below.drew | with_reducible apply below_drewN | with_reducible apply Below.alloc | omega | (focus (simp; done)) | (simp; omega))) (hb8.mono (by first | omega | (simp; done) | (simp; omega)))
  replace HA := Lib.hid (HA.out.go hk)
  replace HB := Lib.hid (HB.out.go hk)
  replace HD := Lib.hid (HD.out.go hk)
  replace HY := Lib.hid (HY.out.go hk)
  replace HS := Lib.hid (HS.out.go hk)
  replace HT := Lib.hid (HT.out.go hk)
  replace HM := Lib.hid (HM.out.go hk)
  replace BEL : Hid (Below w.heap.size w w8) := Lib.hid (BEL.out.trans (hk.mono BEL.out.size))
  have z_w8 := hk.size; have y_w8 := BEL.out.size; clear hk hb8
  clear pA0 pA1 fA0 fA1 zA zA_1 zA_2 zA_3 pB0 pB1 fB0 fB1 zB zB_1 zB_2 zB_3 pD0 pD1 fD0 fD1 zD zD_1 zD_2 zD_3 pY0 pY1 fY0 fY1 zY zY_1 zY_2 zY_3 pS0 pS1 fS0 fS1 zS zS_1 zS_2 zS_3 pT0 pT1 fT0 fT1 zT zT_1 zT_2 zT_3 pM0 pM1 fM0 fM1 zM zM_1 zM_2 zM_3
  obtain ⟨pA0, pA1, fA0, fA1, zA, zA_1, zA_2, zA_3⟩ := HA.out.two'
  obtain ⟨pB0, pB1, fB0, fB1, zB, zB_1, zB_2, zB_3⟩ := HB.out.two'
  obtain ⟨pD0, pD1, fD0, fD1, zD, zD_1, zD_2, zD_3⟩ := HD.out.two'
  obtain ⟨pY0, pY1, fY0, fY1, zY, zY_1, zY_2, zY_3⟩ := HY.out.two'
  obtain ⟨pS0, pS1, fS0, fS1, zS, zS_1, zS_2, zS_3⟩ := HS.out.two'
  obtain ⟨pT0, pT1, fT0, fT1, zT, zT_1, zT_2, zT_3⟩ := HT.out.two'
  obtain ⟨pM0, pM1, fM0, fM1, zM, zM_1, zM_2, zM_3⟩ := HM.out.two'
  go_wp2_with fail
  refine (HP.out _).mono ?_; rintro e w9 ⟨rfl, hb9⟩
  have hk : Below w8.heap.size w8 w9 := Below.trans (by repeat (first | with_reducible exact Below.refl _ _ | with_reducible apply Below.drew | with_reducible apply below_drewN | with_reducible apply Below.alloc | omega | (focus (simp; done)) | (simp; omega))) (hb9.mono (by first | omega | (simp; done) | (simp; omega)))
  replace HA := Lib.hid (HA.out.go hk)
  replace HB := Lib.hid (HB.out.go hk)
  replace HD := Lib.hid (HD.out.go hk)
  replace HY := Lib.hid (HY.out.go hk)
  replace HS := Lib.hid (HS.out.go hk)
  replace HT := Lib.hid (HT.out.go hk)
  replace HM := Lib.hid (HM.out.go hk)
  have HKA := Lib.hid (show Blk w9 (w8.heap.size) 44 _ from Blk.go (by repeat (first | (with_reducible apply Blk.new'; first | with_reducible rfl | (focus (simp; done))) | with_reducible apply Blk.alloc | with_reducible apply Blk.drew | with_reducible apply Blk.drewN)) hb9)
  replace BEL : Hid (Below w.heap.size w w9) := Lib.hid (BEL.out.trans (hk.mono BEL.out.size))
  have z_w9 := hk.size; have y_w9 := BEL.out.size; clear hk hb9
  clear pA0 pA1 fA0 fA1 zA zA_1 zA_2 zA_3 pB0 pB1 fB0 fB1 zB zB_1 zB_2 zB_3 pD0 pD1 fD0 fD1 zD zD_1 zD_2 zD_3 pY0 pY1 fY0 fY1 zY zY_1 zY_2 zY_3 pS0 pS1 fS0 fS1 zS zS_1 zS_2 zS_3 pT0 pT1 fT0 fT1 zT zT_1 zT_2 zT_3 pM0 pM1 fM0 fM1 zM zM_1 zM_2 zM_3
  obtain ⟨pA0, pA1, fA0, fA1, zA, zA_1, zA_2, zA_3⟩ := HA.out.two'
  obtain ⟨pB0, pB1, fB0, fB1, zB, zB_1, zB_2, zB_3⟩ := HB.out.two'
  obtain ⟨pD0, pD1, fD0, fD1, zD, zD_1, zD_2, zD_3⟩ := HD.out.two'
  obtain ⟨pY0, pY1, fY0, fY1, zY, zY_1, zY_2, zY_3⟩ := HY.out.two'
  obtain ⟨pS0, pS1, fS0, fS1, zS, zS_1, zS_2, zS_3⟩ := HS.out.two'
  obtain ⟨pT0, pT1, fT0, fT1, zT, zT_1, zT_2, zT_3⟩ := HT.out.two'
  obtain ⟨pM0, pM1, fM0, fM1, zM, zM_1, zM_2, zM_3⟩ := HM.out.two'
  obtain ⟨pKA0, pKA1, fKA0, fKA1, zKA, zKA_1, zKA_2, zKA_3⟩ := HKA.out.two'
  go_wp2_with fail
  refine (HQ.out _).mono ?_; rintro e w10 ⟨rfl, hb10⟩
  have hk : Below w9.heap.size w9 w10 := Below.trans (by repeat (first | with_reducible exact Below.refl _ _ | with_reducible apply Below.drew | with_reducible apply below_drewN | with_reducible apply Below.alloc | omega | (focus (simp; done)) | (simp; omega))) (hb10.mono (by first | omega | (simp; done) | (simp; omega)))
  replace HA := Lib.hid (HA.out.go hk)
  replace HB := Lib.hid (HB.out.go hk)
  replace HD := Lib.hid (HD.out.go hk)
  replace HY := Lib.hid (HY.out.go hk)
  replace HS := Lib.hid (HS.out.go hk)
  replace HT := Lib.hid (HT.out.go hk)
  replace HM := Lib.hid (HM.out.go hk)
  replace HKA := Lib.hid (HKA.out.go hk)
  have HPA := Lib.hid (show Blk w10 (w9.heap.size) 44 _ from Blk.go (by repeat (first | (with_reducible apply Blk.new'; first | with_reducible rfl | (focus (simp; done))) | with_reducible apply Blk.alloc | with_reducible apply Blk.drew | with_reducible apply Blk.drewN)) hb10)
  replace BEL : Hid (Below w.heap.size w w10) := Lib.hid (BEL.out.trans (hk.mono BEL.out.size))
  have z_w10 := hk.size; have y_w10 := BEL.out.size; clear hk hb10
  clear pA0 pA1 fA0 fA1 zA zA_1 zA_2 zA_3 pB0 pB1 fB0 fB1 zB zB_1 zB_2 zB_3 pD0 pD1 fD0 fD1 zD zD_1 zD_2 zD_3 pY0 pY1 fY0 fY1 zY zY_1 zY_2 zY_3 pS0 pS1 fS0 fS1 zS zS_1 zS_2 zS_3 pT0 pT1 fT0 fT1 zT zT_1 zT_2 zT_3 pM0 pM1 fM0 fM1 zM zM_1 zM_2 zM_3 pKA0 pKA1 fKA0 fKA1 zKA zKA_1 zKA_2 zKA_3
  obtain ⟨pA0, pA1, fA0, fA1, zA, zA_1, zA_2, zA_3⟩ := HA.out.two'
  obtain ⟨pB0, pB1, fB0, fB1, zB, zB_1, zB_2, zB_3⟩ := HB.out.two'
  obtain ⟨pD0, pD1, fD0, fD1, zD, zD_1, zD_2, zD_3⟩ := HD.out.two'
  obtain ⟨pY0, pY1, fY0, fY1, zY, zY_1, zY_2, zY_3⟩ := HY.out.two'
  obtain ⟨pS0, pS1, fS0, fS1, zS, zS_1, zS_2, zS_3⟩ := HS.out.two'
  obtain ⟨pT0, pT1, fT0, fT1, zT, zT_1, zT_2, zT_3⟩ := HT.out.two'
  obtain ⟨pM0, pM1, fM0, fM1, zM, zM_1, zM_2, zM_3⟩ := HM.out.two'
  obtain ⟨pKA0, pKA1, fKA0, fKA1, zKA, zKA_1, zKA_2, zKA_3⟩ := HKA.out.two'
  obtain ⟨pPA0, pPA1, fPA0, fPA1, zPA, zPA_1, zPA_2, zPA_3⟩ := HPA.out.two'
  go_wp2_with fail
  refine (HO.out _).mono ?_; rintro e w11 ⟨rfl, hb11⟩
  have hk : Below w10.heap.size w10 w11 := Below.trans (by repeat (first | with_reducible exact Below.refl _ _ | with_reducible apply Below.drew | with_reducible apply below_drewN | with_reducible apply Below.alloc | omega | (focus (simp; done)) | (simp; omega))) (hb11.mono (by first | omega | (simp; done) | (simp; omega)))
  replace HA := Lib.hid (HA.out.go hk)
  replace HB := Lib.hid (HB.out.go hk)
  replace HD := Lib.hid (HD.out.go hk)
  replace HY := Lib.hid (HY.out.go hk)
  replace HS := Lib.hid (HS.out.go hk)
  replace HT := Lib.hid (HT.out.go hk)
  replace HM := Lib.hid (HM.out.go hk)
  replace HKA := Lib.hid (HKA.out.go hk)
  replace HPA := Lib.hid (HPA.out.go hk)
  have HQA := Lib.hid (show Blk w11 (w10.heap.size) 44 _ from Blk.go (by repeat (first | (with_reducible apply Blk.new'; first | with_reducible rfl | (focus (simp; done))) | with_reducible apply Blk.alloc | with_reducible apply Blk.drew | with_reducible apply Blk.drewN)) hb11)
  replace BEL : Hid (Below w.heap.size w w11) := Lib.hid (BEL.out.trans (hk.mono BEL.out.size))
  have z_w11 := hk.size; have y_w11 := BEL.out.size; clear hk hb11
  clear pA0 pA1 fA0 fA1 zA zA_1 zA_2 zA_3 pB0 pB1 fB0 fB1 zB zB_1 zB_2 zB_3 pD0 pD1 fD0 fD1 zD zD_1 zD_2 zD_3 pY0 pY1 fY0 fY1 zY zY_1 zY_2 zY_3 pS0 pS1 fS0 fS1 zS zS_1 zS_2 zS_3 pT0 pT1 fT0 fT1 zT zT_1 zT_2 zT_3 pM0 pM1 fM0 fM1 zM zM_1 zM_2 zM_3 pKA0 pKA1 fKA0 fKA1 zKA zKA_1 zKA_2 zKA_3 pPA0 pPA1 fPA0 fPA1 zPA zPA_1 zPA_2 zPA_3
  obtain ⟨pA0, pA1, fA0, fA1, zA, zA_1, zA_2, zA_3⟩ := HA.out.two'
  obtain ⟨pB0, pB1, fB0, fB1, zB, zB_1, zB_2, zB_3⟩ := HB.out.two'
  obtain ⟨pD0, pD1, fD0, fD1, zD, zD_1, zD_2, zD_3⟩ := HD.out.two'
  obtain ⟨pY0, pY1, fY0, fY1, zY, zY_1, zY_2, zY_3⟩ := HY.out.two'
  obtain ⟨pS0, pS1, fS0, fS1, zS, zS_1, zS_2, zS_3⟩ := HS.out.two'
  obtain ⟨pT0, pT1, fT0, fT1, zT, zT_1, zT_2, zT_3⟩ := HT.out.two'
  obtain ⟨pM0, pM1, fM0, fM1, zM, zM_1, zM_2, zM_3⟩ := HM.out.two'
  obtain ⟨pKA0, pKA1, fKA0, fKA1, zKA, zKA_1, zKA_2, zKA_3⟩ := HKA.out.two'
  obtain ⟨pPA0, pPA1, fPA0, fPA1, zPA, zPA_1, zPA_2, zPA_3⟩ := HPA.out.two'
  obtain ⟨pQA0, pQA1, fQA0, fQA1, zQA, zQA_1, zQA_2, zQA_3⟩ := HQA.out.two'
  go_wp2_with fail
  refine (HK.out _).mono ?_; rintro e w12 ⟨rfl, hb12⟩
  have hk : Below w11.heap.size w11 w12 := Below.trans (by repeat (first | with_reducible exact Below.refl _ _ | with_reducible apply Below.drew | with_reducible apply below_drewN | with_reducible apply Below.alloc | omega | (focus (simp; done)) | (simp; omega))) (hb12.mono (by first | omega | (simp; done) | (simp; omega)))
  replace HA := Lib.hid (HA.out.go hk)
  replace HB := Lib.hid (HB.out.go hk)
  replace HD := Lib.hid (HD.out.go hk)
  replace HY := Lib.hid (HY.out.go hk)
  replace HS := Lib.hid (HS.out.go hk)
  replace HT := Lib.hid (HT.out.go hk)
  replace HM := Lib.hid (HM.out.go hk)
  replace HKA := Lib.hid (HKA.out.go hk)
  replace HPA := Lib.hid (HPA.out.go hk)
  replace HQA := Lib.hid (HQA.out.go hk)
  replace BEL : Hid (Below w.heap.size w w12) := Lib.hid (BEL.out.trans (hk.mono BEL.out.size))
  have z_w12 := hk.size; have y_w12 := BEL.out.size; clear hk hb12
  clear pA0 pA1 fA0 fA1 zA zA_1 zA_2 zA_3 pB0 pB1 fB0 fB1 zB zB_1 zB_2 zB_3 pD0 pD1 fD0 fD1 zD zD_1 zD_2 zD_3 pY0 pY1 fY0 fY1 zY zY_1 zY_2 zY_3 pS0 pS1 fS0 fS1 zS zS_1 zS_2 zS_3 pT0 pT1 fT0 fT1 zT zT_1 zT_2 zT_3 pM0 pM1 fM0 fM1 zM zM_1 zM_2 zM_3 pKA0 pKA1 fKA0 fKA1 zKA zKA_1 zKA_2 zKA_3 pPA0 pPA1 fPA0 fPA1 zPA zPA_1 zPA_2 zPA_3 pQA0 pQA1 fQA0 fQA1 zQA zQA_1 zQA_2 zQA_3
  obtain ⟨pA0, pA1, fA0, fA1, zA, zA_1, zA_2, zA_3⟩ := HA.out.two'
  obtain ⟨pB0, pB1, fB0, fB1, zB, zB_1, zB_2, zB_3⟩ := HB.out.two'
  obtain ⟨pD0, pD1, fD0, fD1, zD, zD_1, zD_2, zD_3⟩ := HD.out.two'
  obtain ⟨pY0, pY1, fY0, fY1, zY, zY_1, zY_2, zY_3⟩ := HY.out.two'
  obtain ⟨pS0, pS1, fS0, fS1, zS, zS_1, zS_2, zS_3⟩ := HS.out.two'
  obtain ⟨pT0, pT1, fT0, fT1, zT, zT_1, zT_2, zT_3⟩ := HT.out.two'
  obtain ⟨pM0, pM1, fM0, fM1, zM, zM_1, zM_2, zM_3⟩ := HM.out.two'
  obtain ⟨pKA0, pKA1, fKA0, fKA1, zKA, zKA_1, zKA_2, zKA_3⟩ := HKA.out.two'
  obtain ⟨pPA0, pPA1, fPA0, fPA1, zPA, zPA_1, zPA_2, zPA_3⟩ := HPA.out.two'
  obtain ⟨pQA0, pQA1, fQA0, fQA1, zQA, zQA_1, zQA_2, zQA_3⟩ := HQA.out.two'
  go_wp2_with fail
  refine (HR.out _).mono ?_; rintro e w13 ⟨rfl, hb13⟩
  have hk : Below w12.heap.size w12 w13 := Below.trans (by repeat (first | with_reducible exact Below.refl _ _ | with_reducible apply Below.drew | with_reducible apply below_drewN | with_reducible apply Below.alloc | omega | (focus (simp; done)) | (simp; omega))) (hb13.mono (by first | omega | (simp; done) | (simp; omega)))
  replace HA := Lib.hid (HA.out.go hk)
  replace HB := Lib.hid (HB.out.go hk)
  replace HD := Lib.hid (HD.out.go hk)
  replace HY := Lib.hid (HY.out.go hk)
  replace HS := Lib.hid (HS.out.go hk)
  replace HT := Lib.hid (HT.out.go hk)
  replace HM := Lib.hid (HM.out.go hk)
  replace HKA := Lib.hid (HKA.out.go hk)
  replace HPA := Lib.hid (HPA.out.go hk)
  replace HQA := Lib.hid (HQA.out.go hk)
  replace BEL : Hid (Below w.heap.size w w13) := Lib.hid (BEL.out.trans (hk.mono BEL.out.size))
  have z_w13 := hk.size; have y_w13 := BEL.out.size; clear hk hb13
  clear pA0 pA1 fA0 fA1 zA zA_1 zA_2 zA_3 pB0 pB1 fB0 fB1 zB zB_1 zB_2 zB_3 pD0 pD1 fD0 fD1 zD zD_1 zD_2 zD_3 pY0 pY1 fY0 fY1 zY zY_1 zY_2 zY_3 pS0 pS1 fS0 fS1 zS zS_1 zS_2 zS_3 pT0 pT1 fT0 fT1 zT zT_1 zT_2 zT_3 pM0 pM1 fM0 fM1 zM zM_1 zM_2 zM_3 pKA0 pKA1 fKA0 fKA1 zKA zKA_1 zKA_2 zKA_3 pPA0 pPA1 fPA0 fPA1 zPA zPA_1 zPA_2 zPA_3 pQA0 pQA1 fQA0 fQA1 zQA zQA_1 zQA_2 zQA_3
  obtain ⟨pA0, pA1, fA0, fA1, zA, zA_1, zA_2, zA_3⟩ := HA.out.two'
  obtain ⟨pB0, pB1, fB0, fB1, zB, zB_1, zB_2, zB_3⟩ := HB.out.two'
  obtain ⟨pD0, pD1, fD0, fD1, zD, zD_1, zD_2, zD_3⟩ := HD.out.two'
  obtain ⟨pY0, pY1, fY0, fY1, zY, zY_1, zY_2, zY_3⟩ := HY.out.two'
  obtain ⟨pS0, pS1, fS0, fS1, zS, zS_1, zS_2, zS_3⟩ := HS.out.two'
  obtain ⟨pT0, pT1, fT0, fT1, zT, zT_1, zT_2, zT_3⟩ := HT.out.two'
  obtain ⟨pM0, pM1, fM0, fM1, zM, zM_1, zM_2, zM_3⟩ := HM.out.two'
  obtain ⟨pKA0, pKA1, fKA0, fKA1, zKA, zKA_1, zKA_2, zKA_3⟩ := HKA.out.two'
  obtain ⟨pPA0, pPA1, fPA0, fPA1, zPA, zPA_1, zPA_2, zPA_3⟩ := HPA.out.two'
  obtain ⟨pQA0, pQA1, fQA0, fQA1, zQA, zQA_1, zQA_2, zQA_3⟩ := HQA.out.two'
  go_wp2
  go_ret
  exact ⟨rfl, (by repeat (first | with_reducible exact BEL.out | with_reducible apply Below.alloc | with_reducible apply Below.setCell | with_reducible apply Below.drew | with_reducible apply below_drewN | (first | omega | (focus (simp; done)) | (focus (simp; omega)) | (focus (simp [World.setCell]; omega)))))⟩
set_option maxHeartbeats 8000000 in
set_option maxRecDepth 100000 in
theorem fracSound_fail_lt (t b u c x y n s1 s2 m1 m2 p1 p2 q1 q2 e1 : Int) (w : World)
    (HBY : ∀ W : World, Calls Try.prog 32 #[.agg #[.int .i64 t, .int .i64 b], .int .i64 n] W fun e w' => e = .returned (.tuple #[.agg #[.int .i64 0, .int .i64 0], .iface 103 (.int .i64 e1)]) ∧ Below W.heap.size W w')
    (HADD : ∀ W : World, Calls Try.prog 28 #[.agg #[.int .i64 t, .int .i64 b], .agg #[.int .i64 u, .int .i64 c]] W fun e w' => e = .returned (.tuple #[.agg #[.int .i64 s1, .int .i64 s2], .nilIface]) ∧ Below W.heap.size W w')
    (HADD2 : ∀ W : World, Calls Try.prog 28 #[.agg #[.int .i64 u, .int .i64 c], .agg #[.int .i64 t, .int .i64 b]] W fun e w' => e = .returned (.tuple #[.agg #[.int .i64 s1, .int .i64 s2], .nilIface]) ∧ Below W.heap.size W w')
    (HM : ∀ W : World, Calls Try.prog 29 #[.agg #[.int .i64 u, .int .i64 c], .int .i64 (-1)] W fun e w' => e = .returned (.tuple #[.agg #[.int .i64 m1, .int .i64 m2], .nilIface]) ∧ Below W.heap.size W w')
    (HCK : ∀ W : World, Calls Try.prog 30 #[.agg #[.int .i64 s1, .int .i64 s2]] W fun e w' => e = .returned (.nilIface) ∧ Below W.heap.size W w')
    (HBACK : ∀ W : World, Calls Try.prog 28 #[.agg #[.int .i64 s1, .int .i64 s2], .agg #[.int .i64 m1, .int .i64 m2]] W fun e w' => e = .returned (.tuple #[.agg #[.int .i64 t, .int .i64 b], .nilIface]) ∧ Below W.heap.size W w')
    (HP : ∀ W : World, Calls Try.prog 28 #[.agg #[.int .i64 t, .int .i64 b], .agg #[.int .i64 x, .int .i64 y]] W fun e w' => e = .returned (.tuple #[.agg #[.int .i64 p1, .int .i64 p2], .nilIface]) ∧ Below W.heap.size W w')
    (HQ : ∀ W : World, Calls Try.prog 28 #[.agg #[.int .i64 u, .int .i64 c], .agg #[.int .i64 x, .int .i64 y]] W fun e w' => e = .returned (.tuple #[.agg #[.int .i64 q1, .int .i64 q2], .nilIface]) ∧ Below W.heap.size W w')
    (HO : ∀ W : World, Calls Try.prog 33 #[.agg #[.int .i64 t, .int .i64 b], .agg #[.int .i64 u, .int .i64 c]] W fun e w' => e = .returned (.tuple #[.int .i64 (-1), .nilIface]) ∧ Below W.heap.size W w')
    (HK : ∀ W : World, Calls Try.prog 33 #[.agg #[.int .i64 p1, .int .i64 p2], .agg #[.int .i64 q1, .int .i64 q2]] W fun e w' => e = .returned (.tuple #[.int .i64 (-1), .nilIface]) ∧ Below W.heap.size W w')
    (HR : ∀ W : World, Calls Try.prog 33 #[.agg #[.int .i64 u, .int .i64 c], .agg #[.int .i64 t, .int .i64 b]] W fun e w' => e = .returned (.tuple #[.int .i64 1, .nilIface]) ∧ Below W.heap.size W w')
    (HEQ : ((t == u) && (b == c)) = false)
    : Calls Try.prog 6 #[.agg #[.int .i64 t, .int .i64 b], .agg #[.int .i64 u, .int .i64 c], .agg #[.int .i64 x, .int .i64 y], .int .i64 n] w fun e w' => e = .returned (.bool true) ∧ Below w.heap.size w w' := by
  replace HBY := Lib.hid HBY
  replace HADD := Lib.hid HADD
  replace HADD2 := Lib.hid HADD2
  replace HM := Lib.hid HM
  replace HCK := Lib.hid HCK
  replace HBACK := Lib.hid HBACK
  replace HP := Lib.hid HP
  replace HQ := Lib.hid HQ
  replace HO := Lib.hid HO
  replace HK := Lib.hid HK
  replace HR := Lib.hid HR
  have BEL : Hid (Below w.heap.size w w) := Lib.hid (Below.refl _ _)
  have yB : w.heap.size ≤ w.heap.size := Nat.le_refl _
  go_enter Try.func6, Try.ntmps6
  go_wp2_with fail
  refine (sound_of _).mono ?_; rintro e w1 ⟨rfl, hb1⟩
  have hk : Below w.heap.size w w1 := Below.trans (by repeat (first | with_reducible exact Below.refl _ _ | with_reducible apply Below.drew | with_reducible apply below_drewN | with_reducible apply Below.alloc | omega | (focus (simp; done)) | (simp; omega))) (hb1.mono (by first | omega | (simp; done) | (simp; omega)))
  have HA := Lib.hid (show Blk w1 (w.heap.size) 44 _ from Blk.go (by repeat (first | (with_reducible apply Blk.new'; first | with_reducible rfl | (focus (simp; done))) | with_reducible apply Blk.alloc | with_reducible apply Blk.drew | with_reducible apply Blk.drewN)) hb1)
  have HB := Lib.hid (show Blk w1 (w.heap.size + 1) 44 _ from Blk.go (by repeat (first | (with_reducible apply Blk.new'; first | with_reducible rfl | (focus (simp; done))) | with_reducible apply Blk.alloc | with_reducible apply Blk.drew | with_reducible apply Blk.drewN)) hb1)
  have HD := Lib.hid (show Blk w1 (w.heap.size + 1 + 1) 44 _ from Blk.go (by repeat (first | (with_reducible apply Blk.new'; first | with_reducible rfl | (focus (simp; done))) | with_reducible apply Blk.alloc | with_reducible apply Blk.drew | with_reducible apply Blk.drewN)) hb1)
  replace BEL : Hid (Below w.heap.size w w1) := Lib.hid (BEL.out.trans (hk.mono BEL.out.size))
  have z_w1 := hk.size; have y_w1 := BEL.out.size; clear hk hb1
  obtain ⟨pA0, pA1, fA0, fA1, zA, zA_1, zA_2, zA_3⟩ := HA.out.two'
  obtain ⟨pB0, pB1, fB0, fB1, zB, zB_1, zB_2, zB_3⟩ := HB.out.two'
  obtain ⟨pD0, pD1, fD0, fD1, zD, zD_1, zD_2, zD_3⟩ := HD.out.two'
  go_wp2_with fail
  refine (sound_add _).mono ?_; rintro e w2 ⟨rfl, hb2⟩
  have hk : Below w1.heap.size w1 w2 := Below.trans (by repeat (first | with_reducible exact Below.refl _ _ | with_reducible apply Below.drew | with_reducible apply below_drewN | with_reducible apply Below.alloc | omega | (focus (simp; done)) | (simp; omega))) (hb2.mono (by first | omega | (simp; done) | (simp; omega)))
  replace HA := Lib.hid (HA.out.go hk)
  replace HB := Lib.hid (HB.out.go hk)
  replace HD := Lib.hid (HD.out.go hk)
  have HF := Lib.hid (show Blk w2 (w1.heap.size) 44 _ from Blk.go (by repeat (first | (with_reducible apply Blk.new'; first | with_reducible rfl | (focus (simp; done))) | with_reducible apply Blk.alloc | with_reducible apply Blk.drew | with_reducible apply Blk.drewN)) hb2)
  replace BEL : Hid (Below w.heap.size w w2) := Lib.hid (BEL.out.trans (hk.mono BEL.out.size))
  have z_w2 := hk.size; have y_w2 := BEL.out.size; clear hk hb2
  clear pA0 pA1 fA0 fA1 zA zA_1 zA_2 zA_3 pB0 pB1 fB0 fB1 zB zB_1 zB_2 zB_3 pD0 pD1 fD0 fD1 zD zD_1 zD_2 zD_3
  obtain ⟨pA0, pA1, fA0, fA1, zA, zA_1, zA_2, zA_3⟩ := HA.out.two'
  obtain ⟨pB0, pB1, fB0, fB1, zB, zB_1, zB_2, zB_3⟩ := HB.out.two'
  obtain ⟨pD0, pD1, fD0, fD1, zD, zD_1, zD_2, zD_3⟩ := HD.out.two'
  obtain ⟨pF0, pF1, fF0, fF1, zF, zF_1, zF_2, zF_3⟩ := HF.out.two'
  go_wp2_with fail
  refine (HBY.out _).mono ?_; rintro e w3 ⟨rfl, hb3⟩
  have hk : Below w2.heap.size w2 w3 := Below.trans (by repeat (first | with_reducible exact Below.refl _ _ | with_reducible apply Below.drew | with_reducible apply below_drewN | with_reducible apply Below.alloc | omega | (focus (simp; done)) | (simp; omega))) (hb3.mono (by first | omega | (simp; done) | (simp; omega)))
  replace HA := Lib.hid (HA.out.go hk)
  replace HB := Lib.hid (HB.out.go hk)
  replace HD := Lib.hid (HD.out.go hk)
  replace HF := Lib.hid (HF.out.go hk)
  have HG := Lib.hid (show Blk w3 (w2.heap.size) 44 _ from Blk.go (by repeat (first | (with_reducible apply Blk.new'; first | with_reducible rfl | (focus (simp; done))) | with_reducible apply Blk.alloc | with_reducible apply Blk.drew | with_reducible apply Blk.drewN)) hb3)
  replace BEL : Hid (Below w.heap.size w w3) := Lib.hid (BEL.out.trans (hk.mono BEL.out.size))
  have z_w3 := hk.size; have y_w3 := BEL.out.size; clear hk hb3
  clear pA0 pA1 fA0 fA1 zA zA_1 zA_2 zA_3 pB0 pB1 fB0 fB1 zB zB_1 zB_2 zB_3 pD0 pD1 fD0 fD1 zD zD_1 zD_2 zD_3 pF0 pF1 fF0 fF1 zF zF_1 zF_2 zF_3
  obtain ⟨pA0, pA1, fA0, fA1, zA, zA_1, zA_2, zA_3⟩ := HA.out.two'
  obtain ⟨pB0, pB1, fB0, fB1, zB, zB_1, zB_2, zB_3⟩ := HB.out.two'
  obtain ⟨pD0, pD1, fD0, fD1, zD, zD_1, zD_2, zD_3⟩ := HD.out.two'
  obtain ⟨pF0, pF1, fF0, fF1, zF, zF_1, zF_2, zF_3⟩ := HF.out.two'
  obtain ⟨pG0, pG1, fG0, fG1, zG, zG_1, zG_2, zG_3⟩ := HG.out.two'
  go_wp2_with fail
  refine (HADD.out _).mono ?_; rintro e w4 ⟨rfl, hb4⟩
  clear HF
  clear HG
  have hk : Below w3.heap.size w3 w4 := Below.trans (by repeat (first | with_reducible exact Below.refl _ _ | with_reducible apply Below.drew | with_reducible apply below_drewN | with_reducible apply Below.alloc | omega | (focus (simp; done)) | (simp; omega))) (hb4.mono (by first | omega | (simp; done) | (simp; omega)))
  replace HA := Lib.hid (HA.out.go hk)
  replace HB := Lib.hid (HB.out.go hk)
  replace HD := Lib.hid (HD.out.go hk)
  have HY := Lib.hid (show Blk w4 (w3.heap.size) 44 _ from Blk.go (by repeat (first | (with_reducible apply Blk.new'; first | with_reducible rfl | (focus (simp; done))) | with_reducible apply Blk.alloc | with_reducible apply Blk.drew | with_reducible apply Blk.drewN)) hb4)
  replace BEL : Hid (Below w.heap.size w w4) := Lib.hid (BEL.out.trans (hk.mono BEL.out.size))
  have z_w4 := hk.size; have y_w4 := BEL.out.size; clear hk hb4
  clear pA0 pA1 fA0 fA1 zA zA_1 zA_2 zA_3 pB0 pB1 fB0 fB1 zB zB_1 zB_2 zB_3 pD0 pD1 fD0 fD1 zD zD_1 zD_2 zD_3 pF0 pF1 fF0 fF1 zF zF_1 zF_2 zF_3 pG0 pG1 fG0 fG1 zG zG_1 zG_2 zG_3
  obtain ⟨pA0, pA1, fA0, fA1, zA, zA_1, zA_2, zA_3⟩ := HA.out.two'
  obtain ⟨pB0, pB1, fB0, fB1, zB, zB_1, zB_2, zB_3⟩ := HB.out.two'
  obtain ⟨pD0, pD1, fD0, fD1, zD, zD_1, zD_2, zD_3⟩ := HD.out.two'
  obtain ⟨pY0, pY1, fY0, fY1, zY, zY_1, zY_2, zY_3⟩ := HY.out.two'
  go_wp2_with fail
  refine (HADD2.out _).mono ?_; rintro e w5 ⟨rfl, hb5⟩
  have hk : Below w4.heap.size w4 w5 := Below.trans (by repeat (first | with_reducible exact Below.refl _ _ | with_reducible apply Below.drew | with_reducible apply below_drewN | with_reducible apply Below.alloc | omega | (focus (simp; done)) | (simp; omega))) (hb5.mono (by first | omega | (simp; done) | (simp; omega)))
  replace HA := Lib.hid (HA.out.go hk)
  replace HB := Lib.hid (HB.out.go hk)
  replace HD := Lib.hid (HD.out.go hk)
  replace HY := Lib.hid (HY.out.go hk)
  have HS := Lib.hid (show Blk w5 (w4.heap.size) 44 _ from Blk.go (by repeat (first | (with_reducible apply Blk.new'; first | with_reducible rfl | (focus (simp; done))) | with_reducible apply Blk.alloc | with_reducible apply Blk.drew | with_reducible apply Blk.drewN)) hb5)
  replace BEL : Hid (Below w.heap.size w w5) := Lib.hid (BEL.out.trans (hk.mono BEL.out.size))
  have z_w5 := hk.size; have y_w5 := BEL.out.size; clear hk hb5
  clear pA0 pA1 fA0 fA1 zA zA_1 zA_2 zA_3 pB0 pB1 fB0 fB1 zB zB_1 zB_2 zB_3 pD0 pD1 fD0 fD1 zD zD_1 zD_2 zD_3 pY0 pY1 fY0 fY1 zY zY_1 zY_2 zY_3
  obtain ⟨pA0, pA1, fA0, fA1, zA, zA_1, zA_2, zA_3⟩ := HA.out.two'
  obtain ⟨pB0, pB1, fB0, fB1, zB, zB_1, zB_2, zB_3⟩ := HB.out.two'
  obtain ⟨pD0, pD1, fD0, fD1, zD, zD_1, zD_2, zD_3⟩ := HD.out.two'
  obtain ⟨pY0, pY1, fY0, fY1, zY, zY_1, zY_2, zY_3⟩ := HY.out.two'
  obtain ⟨pS0, pS1, fS0, fS1, zS, zS_1, zS_2, zS_3⟩ := HS.out.two'
  go_wp2_with fail
  refine (HM.out _).mono ?_; rintro e w6 ⟨rfl, hb6⟩
  have hk : Below w5.heap.size w5 w6 := Below.trans (by repeat (first | with_reducible exact Below.refl _ _ | with_reducible apply Below.drew | with_reducible apply below_drewN | with_reducible apply Below.alloc | omega | (focus (simp; done)) | (simp; omega))) (hb6.mono (by first | omega | (simp; done) | (simp; omega)))
  replace HA := Lib.hid (HA.out.go hk)
  replace HB := Lib.hid (HB.out.go hk)
  replace HD := Lib.hid (HD.out.go hk)
  replace HY := Lib.hid (HY.out.go hk)
  replace HS := Lib.hid (HS.out.go hk)
  have HT := Lib.hid (show Blk w6 (w5.heap.size) 44 _ from Blk.go (by repeat (first | (with_reducible apply Blk.new'; first | with_reducible rfl | (focus (simp; done))) | with_reducible apply Blk.alloc | with_reducible apply Blk.drew | with_reducible apply Blk.drewN)) hb6)
  replace BEL : Hid (Below w.heap.size w w6) := Lib.hid (BEL.out.trans (hk.mono BEL.out.size))
  have z_w6 := hk.size; have y_w6 := BEL.out.size; clear hk hb6
  clear pA0 pA1 fA0 fA1 zA zA_1 zA_2 zA_3 pB0 pB1 fB0 fB1 zB zB_1 zB_2 zB_3 pD0 pD1 fD0 fD1 zD zD_1 zD_2 zD_3 pY0 pY1 fY0 fY1 zY zY_1 zY_2 zY_3 pS0 pS1 fS0 fS1 zS zS_1 zS_2 zS_3
  obtain ⟨pA0, pA1, fA0, fA1, zA, zA_1, zA_2, zA_3⟩ := HA.out.two'
  obtain ⟨pB0, pB1, fB0, fB1, zB, zB_1, zB_2, zB_3⟩ := HB.out.two'
  obtain ⟨pD0, pD1, fD0, fD1, zD, zD_1, zD_2, zD_3⟩ := HD.out.two'
  obtain ⟨pY0, pY1, fY0, fY1, zY, zY_1, zY_2, zY_3⟩ := HY.out.two'
  obtain ⟨pS0, pS1, fS0, fS1, zS, zS_1, zS_2, zS_3⟩ := HS.out.two'
  obtain ⟨pT0, pT1, fT0, fT1, zT, zT_1, zT_2, zT_3⟩ := HT.out.two'
  go_wp2_with fail
  refine (HCK.out _).mono ?_; rintro e w7 ⟨rfl, hb7⟩
  have hk : Below w6.heap.size w6 w7 := Below.trans (by repeat (first | with_reducible exact Below.refl _ _ | with_reducible apply Below.drew | with_reducible apply below_drewN | with_reducible apply Below.alloc | omega | (focus (simp; done)) | (simp; omega))) (hb7.mono (by first | omega | (simp; done) | (simp; omega)))
  replace HA := Lib.hid (HA.out.go hk)
  replace HB := Lib.hid (HB.out.go hk)
  replace HD := Lib.hid (HD.out.go hk)
  replace HY := Lib.hid (HY.out.go hk)
  replace HS := Lib.hid (HS.out.go hk)
  replace HT := Lib.hid (HT.out.go hk)
  have HM := Lib.hid (show Blk w7 (w6.heap.size) 44 _ from Blk.go (by repeat (first | (with_reducible apply Blk.new'; first | with_reducible rfl | (focus (simp; done))) | with_reducible apply Blk.alloc | with_reducible apply Blk.drew | with_reducible apply Blk.drewN)) hb7)
  replace BEL : Hid (Below w.heap.size w w7) := Lib.hid (BEL.out.trans (hk.mono BEL.out.size))
  have z_w7 := hk.size; have y_w7 := BEL.out.size; clear hk hb7
  clear pA0 pA1 fA0 fA1 zA zA_1 zA_2 zA_3 pB0 pB1 fB0 fB1 zB zB_1 zB_2 zB_3 pD0 pD1 fD0 fD1 zD zD_1 zD_2 zD_3 pY0 pY1 fY0 fY1 zY zY_1 zY_2 zY_3 pS0 pS1 fS0 fS1 zS zS_1 zS_2 zS_3 pT0 pT1 fT0 fT1 zT zT_1 zT_2 zT_3
  obtain ⟨pA0, pA1, fA0, fA1, zA, zA_1, zA_2, zA_3⟩ := HA.out.two'
  obtain ⟨pB0, pB1, fB0, fB1, zB, zB_1, zB_2, zB_3⟩ := HB.out.two'
  obtain ⟨pD0, pD1, fD0, fD1, zD, zD_1, zD_2, zD_3⟩ := HD.out.two'
  obtain ⟨pY0, pY1, fY0, fY1, zY, zY_1, zY_2, zY_3⟩ := HY.out.two'
  obtain ⟨pS0, pS1, fS0, fS1, zS, zS_1, zS_2, zS_3⟩ := HS.out.two'
  obtain ⟨pT0, pT1, fT0, fT1, zT, zT_1, zT_2, zT_3⟩ := HT.out.two'
  obtain ⟨pM0, pM1, fM0, fM1, zM, zM_1, zM_2, zM_3⟩ := HM.out.two'
  go_wp2_with fail
  refine (HBACK.out _).mono ?_; rintro e w8 ⟨rfl, hb8⟩
  have hk : Below w7.heap.size w7 w8 := Below.trans (by repeat (first | with_reducible exact Below.refl _ _ | with_reducible apply Below.drew | with_reducible apply below_drewN | with_reducible apply Below.alloc | omega | (focus (simp; done)) | (simp; omega))) (hb8.mono (by first | omega | (simp; done) | (simp; omega)))
  replace HA := Lib.hid (HA.out.go hk)
  replace HB := Lib.hid (HB.out.go hk)
  replace HD := Lib.hid (HD.out.go hk)
  replace HY := Lib.hid (HY.out.go hk)
  replace HS := Lib.hid (HS.out.go hk)
  replace HT := Lib.hid (HT.out.go hk)
  replace HM := Lib.hid (HM.out.go hk)
  replace BEL : Hid (Below w.heap.size w w8) := Lib.hid (BEL.out.trans (hk.mono BEL.out.size))
  have z_w8 := hk.size; have y_w8 := BEL.out.size; clear hk hb8
  clear pA0 pA1 fA0 fA1 zA zA_1 zA_2 zA_3 pB0 pB1 fB0 fB1 zB zB_1 zB_2 zB_3 pD0 pD1 fD0 fD1 zD zD_1 zD_2 zD_3 pY0 pY1 fY0 fY1 zY zY_1 zY_2 zY_3 pS0 pS1 fS0 fS1 zS zS_1 zS_2 zS_3 pT0 pT1 fT0 fT1 zT zT_1 zT_2 zT_3 pM0 pM1 fM0 fM1 zM zM_1 zM_2 zM_3
  obtain ⟨pA0, pA1, fA0, fA1, zA, zA_1, zA_2, zA_3⟩ := HA.out.two'
  obtain ⟨pB0, pB1, fB0, fB1, zB, zB_1, zB_2, zB_3⟩ := HB.out.two'
  obtain ⟨pD0, pD1, fD0, fD1, zD, zD_1, zD_2, zD_3⟩ := HD.out.two'
  obtain ⟨pY0, pY1, fY0, fY1, zY, zY_1, zY_2, zY_3⟩ := HY.out.two'
  obtain ⟨pS0, pS1, fS0, fS1, zS, zS_1, zS_2, zS_3⟩ := HS.out.two'
  obtain ⟨pT0, pT1, fT0, fT1, zT, zT_1, zT_2, zT_3⟩ := HT.out.two'
  obtain ⟨pM0, pM1, fM0, fM1, zM, zM_1, zM_2, zM_3⟩ := HM.out.two'
  go_wp2_with fail
  refine (HP.out _).mono ?_; rintro e w9 ⟨rfl, hb9⟩
  have hk : Below w8.heap.size w8 w9 := Below.trans (by repeat (first | with_reducible exact Below.refl _ _ | with_reducible apply Below.drew | with_reducible apply below_drewN | with_reducible apply Below.alloc | omega | (focus (simp; done)) | (simp; omega))) (hb9.mono (by first | omega | (simp; done) | (simp; omega)))
  replace HA := Lib.hid (HA.out.go hk)
  replace HB := Lib.hid (HB.out.go hk)
  replace HD := Lib.hid (HD.out.go hk)
  replace HY := Lib.hid (HY.out.go hk)
  replace HS := Lib.hid (HS.out.go hk)
  replace HT := Lib.hid (HT.out.go hk)
  replace HM := Lib.hid (HM.out.go hk)
  have HKA := Lib.hid (show Blk w9 (w8.heap.size) 44 _ from Blk.go (by repeat (first | (with_reducible apply Blk.new'; first | with_reducible rfl | (focus (simp; done))) | with_reducible apply Blk.alloc | with_reducible apply Blk.drew | with_reducible apply Blk.drewN)) hb9)
  replace BEL : Hid (Below w.heap.size w w9) := Lib.hid (BEL.out.trans (hk.mono BEL.out.size))
  have z_w9 := hk.size; have y_w9 := BEL.out.size; clear hk hb9
  clear pA0 pA1 fA0 fA1 zA zA_1 zA_2 zA_3 pB0 pB1 fB0 fB1 zB zB_1 zB_2 zB_3 pD0 pD1 fD0 fD1 zD zD_1 zD_2 zD_3 pY0 pY1 fY0 fY1 zY zY_1 zY_2 zY_3 pS0 pS1 fS0 fS1 zS zS_1 zS_2 zS_3 pT0 pT1 fT0 fT1 zT zT_1 zT_2 zT_3 pM0 pM1 fM0 fM1 zM zM_1 zM_2 zM_3
  obtain ⟨pA0, pA1, fA0, fA1, zA, zA_1, zA_2, zA_3⟩ := HA.out.two'
  obtain ⟨pB0, pB1, fB0, fB1, zB, zB_1, zB_2, zB_3⟩ := HB.out.two'
  obtain ⟨pD0, pD1, fD0, fD1, zD, zD_1, zD_2, zD_3⟩ := HD.out.two'
  obtain ⟨pY0, pY1, fY0, fY1, zY, zY_1, zY_2, zY_3⟩ := HY.out.two'
  obtain ⟨pS0, pS1, fS0, fS1, zS, zS_1, zS_2, zS_3⟩ := HS.out.two'
  obtain ⟨pT0, pT1, fT0, fT1, zT, zT_1, zT_2, zT_3⟩ := HT.out.two'
  obtain ⟨pM0, pM1, fM0, fM1, zM, zM_1, zM_2, zM_3⟩ := HM.out.two'
  obtain ⟨pKA0, pKA1, fKA0, fKA1, zKA, zKA_1, zKA_2, zKA_3⟩ := HKA.out.two'
  go_wp2_with fail
  refine (HQ.out _).mono ?_; rintro e w10 ⟨rfl, hb10⟩
  have hk : Below w9.heap.size w9 w10 := Below.trans (by repeat (first | with_reducible exact Below.refl _ _ | with_reducible apply Below.drew | with_reducible apply below_drewN | with_reducible apply Below.alloc | omega | (focus (simp; done)) | (simp; omega))) (hb10.mono (by first | omega | (simp; done) | (simp; omega)))
  replace HA := Lib.hid (HA.out.go hk)
  replace HB := Lib.hid (HB.out.go hk)
  replace HD := Lib.hid (HD.out.go hk)
  replace HY := Lib.hid (HY.out.go hk)
  replace HS := Lib.hid (HS.out.go hk)
  replace HT := Lib.hid (HT.out.go hk)
  replace HM := Lib.hid (HM.out.go hk)
  replace HKA := Lib.hid (HKA.out.go hk)
  have HPA := Lib.hid (show Blk w10 (w9.heap.size) 44 _ from Blk.go (by repeat (first | (with_reducible apply Blk.new'; first | with_reducible rfl | (focus (simp; done))) | with_reducible apply Blk.alloc | with_reducible apply Blk.drew | with_reducible apply Blk.drewN)) hb10)
  replace BEL : Hid (Below w.heap.size w w10) := Lib.hid (BEL.out.trans (hk.mono BEL.out.size))
  have z_w10 := hk.size; have y_w10 := BEL.out.size; clear hk hb10
  clear pA0 pA1 fA0 fA1 zA zA_1 zA_2 zA_3 pB0 pB1 fB0 fB1 zB zB_1 zB_2 zB_3 pD0 pD1 fD0 fD1 zD zD_1 zD_2 zD_3 pY0 pY1 fY0 fY1 zY zY_1 zY_2 zY_3 pS0 pS1 fS0 fS1 zS zS_1 zS_2 zS_3 pT0 pT1 fT0 fT1 zT zT_1 zT_2 zT_3 pM0 pM1 fM0 fM1 zM zM_1 zM_2 zM_3 pKA0 pKA1 fKA0 fKA1 zKA zKA_1 zKA_2 zKA_3
  obtain ⟨pA0, pA1, fA0, fA1, zA, zA_1, zA_2, zA_3⟩ := HA.out.two'
  obtain ⟨pB0, pB1, fB0, fB1, zB, zB_1, zB_2, zB_3⟩ := HB.out.two'
  obtain ⟨pD0, pD1, fD0, fD1, zD, zD_1, zD_2, zD_3⟩ := HD.out.two'
  obtain ⟨pY0, pY1, fY0, fY1, zY, zY_1, zY_2, zY_3⟩ := HY.out.two'
  obtain ⟨pS0, pS1, fS0, fS1, zS, zS_1, zS_2, zS_3⟩ := HS.out.two'
  obtain ⟨pT0, pT1, fT0, fT1, zT, zT_1, zT_2, zT_3⟩ := HT.out.two'
  obtain ⟨pM0, pM1, fM0, fM1, zM, zM_1, zM_2, zM_3⟩ := HM.out.two'
  obtain ⟨pKA0, pKA1, fKA0, fKA1, zKA, zKA_1, zKA_2, zKA_3⟩ := HKA.out.two'
  obtain ⟨pPA0, pPA1, fPA0, fPA1, zPA, zPA_1, zPA_2, zPA_3⟩ := HPA.out.two'
  go_wp2_with fail
  refine (HO.out _).mono ?_; rintro e w11 ⟨rfl, hb11⟩
  have hk : Below w10.heap.size w10 w11 := Below.trans (by repeat (first | with_reducible exact Below.refl _ _ | with_reducible apply Below.drew | with_reducible apply below_drewN | with_reducible apply Below.alloc | omega | (focus (simp; done)) | (simp; omega))) (hb11.mono (by first | omega | (simp; done) | (simp; omega)))
  replace HA := Lib.hid (HA.out.go hk)
  replace HB := Lib.hid (HB.out.go hk)
  replace HD := Lib.hid (HD.out.go hk)
  replace HY := Lib.hid (HY.out.go hk)
  replace HS := Lib.hid (HS.out.go hk)
  replace HT := Lib.hid (HT.out.go hk)
  replace HM := Lib.hid (HM.out.go hk)
  replace HKA := Lib.hid (HKA.out.go hk)
  replace HPA := Lib.hid (HPA.out.go hk)
  have HQA := Lib.hid (show Blk w11 (w10.heap.size) 44 _ from Blk.go (by repeat (first | (with_reducible apply Blk.new'; first | with_reducible rfl | (focus (simp; done))) | with_reducible apply Blk.alloc | with_reducible apply Blk.drew | with_reducible apply Blk.drewN)) hb11)
  replace BEL : Hid (Below w.heap.size w w11) := Lib.hid (BEL.out.trans (hk.mono BEL.out.size))
  have z_w11 := hk.size; have y_w11 := BEL.out.size; clear hk hb11
  clear pA0 pA1 fA0 fA1 zA zA_1 zA_2 zA_3 pB0 pB1 fB0 fB1 zB zB_1 zB_2 zB_3 pD0 pD1 fD0 fD1 zD zD_1 zD_2 zD_3 pY0 pY1 fY0 fY1 zY zY_1 zY_2 zY_3 pS0 pS1 fS0 fS1 zS zS_1 zS_2 zS_3 pT0 pT1 fT0 fT1 zT zT_1 zT_2 zT_3 pM0 pM1 fM0 fM1 zM zM_1 zM_2 zM_3 pKA0 pKA1 fKA0 fKA1 zKA zKA_1 zKA_2 zKA_3 pPA0 pPA1 fPA0 fPA1 zPA zPA_1 zPA_2 zPA_3
  obtain ⟨pA0, pA1, fA0, fA1, zA, zA_1, zA_2, zA_3⟩ := HA.out.two'
  obtain ⟨pB0, pB1, fB0, fB1, zB, zB_1, zB_2, zB_3⟩ := HB.out.two'
  obtain ⟨pD0, pD1, fD0, fD1, zD, zD_1, zD_2, zD_3⟩ := HD.out.two'
  obtain ⟨pY0, pY1, fY0, fY1, zY, zY_1, zY_2, zY_3⟩ := HY.out.two'
  obtain ⟨pS0, pS1, fS0, fS1, zS, zS_1, zS_2, zS_3⟩ := HS.out.two'
  obtain ⟨pT0, pT1, fT0, fT1, zT, zT_1, zT_2, zT_3⟩ := HT.out.two'
  obtain ⟨pM0, pM1, fM0, fM1, zM, zM_1, zM_2, zM_3⟩ := HM.out.two'
  obtain ⟨pKA0, pKA1, fKA0, fKA1, zKA, zKA_1, zKA_2, zKA_3⟩ := HKA.out.two'
  obtain ⟨pPA0, pPA1, fPA0, fPA1, zPA, zPA_1, zPA_2, zPA_3⟩ := HPA.out.two'
  obtain ⟨pQA0, pQA1, fQA0, fQA1, zQA, zQA_1, zQA_2, zQA_3⟩ := HQA.out.two'
  go_wp2_with fail
  refine (HK.out _).mono ?_; rintro e w12 ⟨rfl, hb12⟩
  have hk : Below w11.heap.size w11 w12 := Below.trans (by repeat (first | with_reducible exact Below.refl _ _ | with_reducible apply Below.drew | with_reducible apply below_drewN | with_reducible apply Below.alloc | omega | (focus (simp; done)) | (simp; omega))) (hb12.mono (by first | omega | (simp; done) | (simp; omega)))
  replace HA := Lib.hid (HA.out.go hk)
  replace HB := Lib.hid (HB.out.go hk)
  replace HD := Lib.hid (HD.out.go hk)
  replace HY := Lib.hid (HY.out.go hk)
  replace HS := Lib.hid (HS.out.go hk)
  replace HT := Lib.hid (HT.out.go hk)
  replace HM := Lib.hid (HM.out.go hk)
  replace HKA := Lib.hid (HKA.out.go hk)
  replace HPA := Lib.hid (HPA.out.go hk)
  replace HQA := Lib.hid (HQA.out.go hk)
  replace BEL : Hid (Below w.heap.size w w12) := Lib.hid (BEL.out.trans (hk.mono BEL.out.size))
  have z_w12 := hk.size; have y_w12 := BEL.out.size; clear hk hb12
  clear pA0 pA1 fA0 fA1 zA zA_1 zA_2 zA_3 pB0 pB1 fB0 fB1 zB zB_1 zB_2 zB_3 pD0 pD1 fD0 fD1 zD zD_1 zD_2 zD_3 pY0 pY1 fY0 fY1 zY zY_1 zY_2 zY_3 pS0 pS1 fS0 fS1 zS zS_1 zS_2 zS_3 pT0 pT1 fT0 fT1 zT zT_1 zT_2 zT_3 pM0 pM1 fM0 fM1 zM zM_1 zM_2 zM_3 pKA0 pKA1 fKA0 fKA1 zKA zKA_1 zKA_2 zKA_3 pPA0 pPA1 fPA0 fPA1 zPA zPA_1 zPA_2 zPA_3 pQA0 pQA1 fQA0 fQA1 zQA zQA_1 zQA_2 zQA_3
  obtain ⟨pA0, pA1, fA0, fA1, zA, zA_1, zA_2, zA_3⟩ := HA.out.two'
  obtain ⟨pB0, pB1, fB0, fB1, zB, zB_1, zB_2, zB_3⟩ := HB.out.two'
  obtain ⟨pD0, pD1, fD0, fD1, zD, zD_1, zD_2, zD_3⟩ := HD.out.two'
  obtain ⟨pY0, pY1, fY0, fY1, zY, zY_1, zY_2, zY_3⟩ := HY.out.two'
  obtain ⟨pS0, pS1, fS0, fS1, zS, zS_1, zS_2, zS_3⟩ := HS.out.two'
  obtain ⟨pT0, pT1, fT0, fT1, zT, zT_1, zT_2, zT_3⟩ := HT.out.two'
  obtain ⟨pM0, pM1, fM0, fM1, zM, zM_1, zM_2, zM_3⟩ := HM.out.two'
  obtain ⟨pKA0, pKA1, fKA0, fKA1, zKA, zKA_1, zKA_2, zKA_3⟩ := HKA.out.two'
  obtain ⟨pPA0, pPA1, fPA0, fPA1, zPA, zPA_1, zPA_2, zPA_3⟩ := HPA.out.two'
  obtain ⟨pQA0, pQA1, fQA0, fQA1, zQA, zQA_1, zQA_2, zQA_3⟩ := HQA.out.two'
  go_wp2_with fail
  refine (HR.out _).mono ?_; rintro e w13 ⟨rfl, hb13⟩
  have hk : Below w12.heap.size w12 w13 := Below.trans (by repeat (first | with_reducible exact Below.refl _ _ | with_reducible apply Below.drew | with_reducible apply below_drewN | with_reducible apply Below.alloc | omega | (focus (simp; done)) | (simp; omega))) (hb13.mono (by first | omega | (simp; done) | (simp; omega)))
  replace HA := Lib.hid (HA.out.go hk)
  replace HB := Lib.hid (HB.out.go hk)
  replace HD := Lib.hid (HD.out.go hk)
  replace HY := Lib.hid (HY.out.go hk)
  replace HS := Lib.hid (HS.out.go hk)
  replace HT := Lib.hid (HT.out.go hk)
  replace HM := Lib.hid (HM.out.go hk)
  replace HKA := Lib.hid (HKA.out.go hk)
  replace HPA := Lib.hid (HPA.out.go hk)
  replace HQA := Lib.hid (HQA.out.go hk)
  replace BEL : Hid (Below w.heap.size w w13) := Lib.hid (BEL.out.trans (hk.mono BEL.out.size))
  have z_w13 := hk.size; have y_w13 := BEL.out.size; clear hk hb13
  clear pA0 pA1 fA0 fA1 zA zA_1 zA_2 zA_3 pB0 pB1 fB0 fB1 zB zB_1 zB_2 zB_3 pD0 pD1 fD0 fD1 zD zD_1 zD_2 zD_3 pY0 pY1 fY0 fY1 zY zY_1 zY_2 zY_3 pS0 pS1 fS0 fS1 zS zS_1 zS_2 zS_3 pT0 pT1 fT0 fT1 zT zT_1 zT_2 zT_3 pM0 pM1 fM0 fM1 zM zM_1 zM_2 zM_3 pKA0 pKA1 fKA0 fKA1 zKA zKA_1 zKA_2 zKA_3 pPA0 pPA1 fPA0 fPA1 zPA zPA_1 zPA_2 zPA_3 pQA0 pQA1 fQA0 fQA1 zQA zQA_1 zQA_2 zQA_3
  obtain ⟨pA0, pA1, fA0, fA1, zA, zA_1, zA_2, zA_3⟩ := HA.out.two'
  obtain ⟨pB0, pB1, fB0, fB1, zB, zB_1, zB_2, zB_3⟩ := HB.out.two'
  obtain ⟨pD0, pD1, fD0, fD1, zD, zD_1, zD_2, zD_3⟩ := HD.out.two'
  obtain ⟨pY0, pY1, fY0, fY1, zY, zY_1, zY_2, zY_3⟩ := HY.out.two'
  obtain ⟨pS0, pS1, fS0, fS1, zS, zS_1, zS_2, zS_3⟩ := HS.out.two'
  obtain ⟨pT0, pT1, fT0, fT1, zT, zT_1, zT_2, zT_3⟩ := HT.out.two'
  obtain ⟨pM0, pM1, fM0, fM1, zM, zM_1, zM_2, zM_3⟩ := HM.out.two'
  obtain ⟨pKA0, pKA1, fKA0, fKA1, zKA, zKA_1, zKA_2, zKA_3⟩ := HKA.out.two'
  obtain ⟨pPA0, pPA1, fPA0, fPA1, zPA, zPA_1, zPA_2, zPA_3⟩ := HPA.out.two'
  obtain ⟨pQA0, pQA1, fQA0, fQA1, zQA, zQA_1, zQA_2, zQA_3⟩ := HQA.out.two'
  go_wp2
  all_goals
    go_ret
    refine ⟨?_, (by repeat (first | with_reducible exact BEL.out | with_reducible apply Below.alloc | with_reducible apply Below.setCell | with_reducible apply Below.drew | with_reducible apply below_drewN | (first | omega | (focus (simp; done)) | (focus (simp; omega)) | (focus (simp [World.setCell]; omega)))))⟩
    first | rfl | (simp at HEQ; exact absurd ‹b = c› (HEQ ‹t = u›))
set_option maxHeartbeats 8000000 in
set_option maxRecDepth 100000 in
theorem fracSound_fail_gt (t b u c x y n s1 s2 m1 m2 p1 p2 q1 q2 e1 : Int) (w : World)
    (HBY : ∀ W : World, Calls Try.prog 32 #[.agg #[.int .i64 t, .int .i64 b], .int .i64 n] W fun e w' => e = .returned (.tuple #[.agg #[.int .i64 0, .int .i64 0], .iface 103 (.int .i64 e1)]) ∧ Below W.heap.size W w')
    (HADD : ∀ W : World, Calls Try.prog 28 #[.agg #[.int .i64 t, .int .i64 b], .agg #[.int .i64 u, .int .i64 c]] W fun e w' => e = .returned (.tuple #[.agg #[.int .i64 s1, .int .i64 s2], .nilIface]) ∧ Below W.heap.size W w')
    (HADD2 : ∀ W : World, Calls Try.prog 28 #[.agg #[.int .i64 u, .int .i64 c], .agg #[.int .i64 t, .int .i64 b]] W fun e w' => e = .returned (.tuple #[.agg #[.int .i64 s1, .int .i64 s2], .nilIface]) ∧ Below W.heap.size W w')
    (HM : ∀ W : World, Calls Try.prog 29 #[.agg #[.int .i64 u, .int .i64 c], .int .i64 (-1)] W fun e w' => e = .returned (.tuple #[.agg #[.int .i64 m1, .int .i64 m2], .nilIface]) ∧ Below W.heap.size W w')
    (HCK : ∀ W : World, Calls Try.prog 30 #[.agg #[.int .i64 s1, .int .i64 s2]] W fun e w' => e = .returned (.nilIface) ∧ Below W.heap.size W w')
    (HBACK : ∀ W : World, Calls Try.prog 28 #[.agg #[.int .i64 s1, .int .i64 s2], .agg #[.int .i64 m1, .int .i64 m2]] W fun e w' => e = .returned (.tuple #[.agg #[.int .i64 t, .int .i64 b], .nilIface]) ∧ Below W.heap.size W w')
    (HP : ∀ W : World, Calls Try.prog 28 #[.agg #[.int .i64 t, .int .i64 b], .agg #[.int .i64 x, .int .i64 y]] W fun e w' => e = .returned (.tuple #[.agg #[.int .i64 p1, .int .i64 p2], .nilIface]) ∧ Below W.heap.size W w')
    (HQ : ∀ W : World, Calls Try.prog 28 #[.agg #[.int .i64 u, .int .i64 c], .agg #[.int .i64 x, .int .i64 y]] W fun e w' => e = .returned (.tuple #[.agg #[.int .i64 q1, .int .i64 q2], .nilIface]) ∧ Below W.heap.size W w')
    (HO : ∀ W : World, Calls Try.prog 33 #[.agg #[.int .i64 t, .int .i64 b], .agg #[.int .i64 u, .int .i64 c]] W fun e w' => e = .returned (.tuple #[.int .i64 1, .nilIface]) ∧ Below W.heap.size W w')
    (HK : ∀ W : World, Calls Try.prog 33 #[.agg #[.int .i64 p1, .int .i64 p2], .agg #[.int .i64 q1, .int .i64 q2]] W fun e w' => e = .returned (.tuple #[.int .i64 1, .nilIface]) ∧ Below W.heap.size W w')
    (HR : ∀ W : World, Calls Try.prog 33 #[.agg #[.int .i64 u, .int .i64 c], .agg #[.int .i64 t, .int .i64 b]] W fun e w' => e = .returned (.tuple #[.int .i64 (-1), .nilIface]) ∧ Below W.heap.size W w')
    (HEQ : ((t == u) && (b == c)) = false)
    : Calls Try.prog 6 #[.agg #[.int .i64 t, .int .i64 b], .agg #[.int .i64 u, .int .i64 c], .agg #[.int .i64 x, .int .i64 y], .int .i64 n] w fun e w' => e = .returned (.bool true) ∧ Below w.heap.size w w' := by
  replace HBY := Lib.hid HBY
  replace HADD := Lib.hid HADD
  replace HADD2 := Lib.hid HADD2
  replace HM := Lib.hid HM
  replace HCK := Lib.hid HCK
  replace HBACK := Lib.hid HBACK
  replace HP := Lib.hid HP
  replace HQ := Lib.hid HQ
  replace HO := Lib.hid HO
  replace HK := Lib.hid HK
  replace HR := Lib.hid HR
  have BEL : Hid (Below w.heap.size w w) := Lib.hid (Below.refl _ _)
  have yB : w.heap.size ≤ w.heap.size := Nat.le_refl _
  go_enter Try.func6, Try.ntmps6
  go_wp2_with fail
  refine (sound_of _).mono ?_; rintro e w1 ⟨rfl, hb1⟩
  have hk : Below w.heap.size w w1 := Below.trans (by repeat (first | with_reducible exact Below.refl _ _ | with_reducible apply Below.drew | with_reducible apply below_drewN | with_reducible apply Below.alloc | omega | (focus (simp; done)) | (simp; omega))) (hb1.mono (by first | omega | (simp; done) | (simp; omega)))
  have HA := Lib.hid (show Blk w1 (w.heap.size) 44 _ from Blk.go (by repeat (first | (with_reducible apply Blk.new'; first | with_reducible rfl | (focus (simp; done))) | with_reducible apply Blk.alloc | with_reducible apply Blk.drew | with_reducible apply Blk.drewN)) hb1)
  have HB := Lib.hid (show Blk w1 (w.heap.size + 1) 44 _ from Blk.go (by repeat (first | (with_reducible apply Blk.new'; first | with_reducible rfl | (focus (simp; done))) | with_reducible apply Blk.alloc | with_reducible apply Blk.drew | with_reducible apply Blk.drewN)) hb1)
  have HD := Lib.hid (show Blk w1 (w.heap.size + 1 + 1) 44 _ from Blk.go (by repeat (first | (with_reducible apply Blk.new'; first | with_reducible rfl | (focus (simp; done))) | with_reducible apply Blk.alloc | with_reducible apply Blk.drew | with_reducible apply Blk.drewN)) hb1)
  replace BEL : Hid (Below w.heap.size w w1) := Lib.hid (BEL.out.trans (hk.mono BEL.out.size))
  have z_w1 := hk.size; have y_w1 := BEL.out.size; clear hk hb1
  obtain ⟨pA0, pA1, fA0, fA1, zA, zA_1, zA_2, zA_3⟩ := HA.out.two'
  obtain ⟨pB0, pB1, fB0, fB1, zB, zB_1, zB_2, zB_3⟩ := HB.out.two'
  obtain ⟨pD0, pD1, fD0, fD1, zD, zD_1, zD_2, zD_3⟩ := HD.out.two'
  go_wp2_with fail
  refine (sound_add _).mono ?_; rintro e w2 ⟨rfl, hb2⟩
  have hk : Below w1.heap.size w1 w2 := Below.trans (by repeat (first | with_reducible exact Below.refl _ _ | with_reducible apply Below.drew | with_reducible apply below_drewN | with_reducible apply Below.alloc | omega | (focus (simp; done)) | (simp; omega))) (hb2.mono (by first | omega | (simp; done) | (simp; omega)))
  replace HA := Lib.hid (HA.out.go hk)
  replace HB := Lib.hid (HB.out.go hk)
  replace HD := Lib.hid (HD.out.go hk)
  have HF := Lib.hid (show Blk w2 (w1.heap.size) 44 _ from Blk.go (by repeat (first | (with_reducible apply Blk.new'; first | with_reducible rfl | (focus (simp; done))) | with_reducible apply Blk.alloc | with_reducible apply Blk.drew | with_reducible apply Blk.drewN)) hb2)
  replace BEL : Hid (Below w.heap.size w w2) := Lib.hid (BEL.out.trans (hk.mono BEL.out.size))
  have z_w2 := hk.size; have y_w2 := BEL.out.size; clear hk hb2
  clear pA0 pA1 fA0 fA1 zA zA_1 zA_2 zA_3 pB0 pB1 fB0 fB1 zB zB_1 zB_2 zB_3 pD0 pD1 fD0 fD1 zD zD_1 zD_2 zD_3
  obtain ⟨pA0, pA1, fA0, fA1, zA, zA_1, zA_2, zA_3⟩ := HA.out.two'
  obtain ⟨pB0, pB1, fB0, fB1, zB, zB_1, zB_2, zB_3⟩ := HB.out.two'
  obtain ⟨pD0, pD1, fD0, fD1, zD, zD_1, zD_2, zD_3⟩ := HD.out.two'
  obtain ⟨pF0, pF1, fF0, fF1, zF, zF_1, zF_2, zF_3⟩ := HF.out.two'
  go_wp2_with fail
  refine (HBY.out _).mono ?_; rintro e w3 ⟨rfl, hb3⟩
  have hk : Below w2.heap.size w2 w3 := Below.trans (by repeat (first | with_reducible exact Below.refl _ _ | with_reducible apply Below.drew | with_reducible apply below_drewN | with_reducible apply Below.alloc | omega | (focus (simp; done)) | (simp; omega))) (hb3.mono (by first | omega | (simp; done) | (simp; omega)))
  replace HA := Lib.hid (HA.out.go hk)
  replace HB := Lib.hid (HB.out.go hk)
  replace HD := Lib.hid (HD.out.go hk)
  replace HF := Lib.hid (HF.out.go hk)
  have HG := Lib.hid (show Blk w3 (w2.heap.size) 44 _ from Blk.go (by repeat (first | (with_reducible apply Blk.new'; first | with_reducible rfl | (focus (simp; done))) | with_reducible apply Blk.alloc | with_reducible apply Blk.drew | with_reducible apply Blk.drewN)) hb3)
  replace BEL : Hid (Below w.heap.size w w3) := Lib.hid (BEL.out.trans (hk.mono BEL.out.size))
  have z_w3 := hk.size; have y_w3 := BEL.out.size; clear hk hb3
  clear pA0 pA1 fA0 fA1 zA zA_1 zA_2 zA_3 pB0 pB1 fB0 fB1 zB zB_1 zB_2 zB_3 pD0 pD1 fD0 fD1 zD zD_1 zD_2 zD_3 pF0 pF1 fF0 fF1 zF zF_1 zF_2 zF_3
  obtain ⟨pA0, pA1, fA0, fA1, zA, zA_1, zA_2, zA_3⟩ := HA.out.two'
  obtain ⟨pB0, pB1, fB0, fB1, zB, zB_1, zB_2, zB_3⟩ := HB.out.two'
  obtain ⟨pD0, pD1, fD0, fD1, zD, zD_1, zD_2, zD_3⟩ := HD.out.two'
  obtain ⟨pF0, pF1, fF0, fF1, zF, zF_1, zF_2, zF_3⟩ := HF.out.two'
  obtain ⟨pG0, pG1, fG0, fG1, zG, zG_1, zG_2, zG_3⟩ := HG.out.two'
  go_wp2_with fail
  refine (HADD.out _).mono ?_; rintro e w4 ⟨rfl, hb4⟩
  clear HF
  clear HG
  have hk : Below w3.heap.size w3 w4 := Below.trans (by repeat (first | with_reducible exact Below.refl _ _ | with_reducible apply Below.drew | with_reducible apply below_drewN | with_reducible apply Below.alloc | omega | (focus (simp; done)) | (simp; omega))) (hb4.mono (by first | omega | (simp; done) | (simp; omega)))
  replace HA := Lib.hid (HA.out.go hk)
  replace HB := Lib.hid (HB.out.go hk)
  replace HD := Lib.hid (HD.out.go hk)
  have HY := Lib.hid (show Blk w4 (w3.heap.size) 44 _ from Blk.go (by repeat (first | (with_reducible apply Blk.new'; first | with_reducible rfl | (focus (simp; done))) | with_reducible apply Blk.alloc | with_reducible apply Blk.drew | with_reducible apply Blk.drewN)) hb4)
  replace BEL : Hid (Below w.heap.size w w4) := Lib.hid (BEL.out.trans (hk.mono BEL.out.size))
  have z_w4 := hk.size; have y_w4 := BEL.out.size; clear hk hb4
  clear pA0 pA1 fA0 fA1 zA zA_1 zA_2 zA_3 pB0 pB1 fB0 fB1 zB zB_1 zB_2 zB_3 pD0 pD1 fD0 fD1 zD zD_1 zD_2 zD_3 pF0 pF1 fF0 fF1 zF zF_1 zF_2 zF_3 pG0 pG1 fG0 fG1 zG zG_1 zG_2 zG_3
  obtain ⟨pA0, pA1, fA0, fA1, zA, zA_1, zA_2, zA_3⟩ := HA.out.two'
  obtain ⟨pB0, pB1, fB0, fB1, zB, zB_1, zB_2, zB_3⟩ := HB.out.two'
  obtain ⟨pD0, pD1, fD0, fD1, zD, zD_1, zD_2, zD_3⟩ := HD.out.two'
  obtain ⟨pY0, pY1, fY0, fY1, zY, zY_1, zY_2, zY_3⟩ := HY.out.two'
  go_wp2_with fail
  refine (HADD2.out _).mono ?_; rintro e w5 ⟨rfl, hb5⟩
  have hk : Below w4.heap.size w4 w5 := Below.trans (by repeat (first | with_reducible exact Below.refl _ _ | with_reducible apply Below.drew | with_reducible apply below_drewN | with_reducible apply Below.alloc | omega | (focus (simp; done)) | (simp; omega))) (hb5.mono (by first | omega | (simp; done) | (simp; omega)))
  replace HA := Lib.hid (HA.out.go hk)
  replace HB := Lib.hid (HB.out.go hk)
  replace HD := Lib.hid (HD.out.go hk)
  replace HY := Lib.hid (HY.out.go hk)
  have HS := Lib.hid (show Blk w5 (w4.heap.size) 44 _ from Blk.go (by repeat (first | (with_reducible apply Blk.new'; first | with_reducible rfl | (focus (simp; done))) | with_reducible apply Blk.alloc | with_reducible apply Blk.drew | with_reducible apply Blk.drewN)) hb5)
  replace BEL : Hid (Below w.heap.size w w5) := Lib.hid (BEL.out.trans (hk.mono BEL.out.size))
  have z_w5 := hk.size; have y_w5 := BEL.out.size; clear hk hb5
  clear pA0 pA1 fA0 fA1 zA zA_1 zA_2 zA_3 pB0 pB1 fB0 fB1 zB zB_1 zB_2 zB_3 pD0 pD1 fD0 fD1 zD zD_1 zD_2 zD_3 pY0 pY1 fY0 fY1 zY zY_1 zY_2 zY_3
  obtain ⟨pA0, pA1, fA0, fA1, zA, zA_1, zA_2, zA_3⟩ := HA.out.two'
  obtain ⟨pB0, pB1, fB0, fB1, zB, zB_1, zB_2, zB_3⟩ := HB.out.two'
  obtain ⟨pD0, pD1, fD0, fD1, zD, zD_1, zD_2, zD_3⟩ := HD.out.two'
  obtain ⟨pY0, pY1, fY0, fY1, zY, zY_1, zY_2, zY_3⟩ := HY.out.two'
  obtain ⟨pS0, pS1, fS0, fS1, zS, zS_1, zS_2, zS_3⟩ := HS.out.two'
  go_wp2_with fail
  refine (HM.out _).mono ?_; rintro e w6 ⟨rfl, hb6⟩
  have hk : Below w5.heap.size w5 w6 := Below.trans (by repeat (first | with_reducible exact Below.refl _ _ | with_reducible apply Below.drew | with_reducible apply below_drewN | with_reducible apply Below.alloc | omega | (focus (simp; done)) | (simp; omega))) (hb6.mono (by first | omega | (simp; done) | (simp; omega)))
  replace HA := Lib.hid (HA.out.go hk)
  replace HB := Lib.hid (HB.out.go hk)
  replace HD := Lib.hid (HD.out.go hk)
  replace HY := Lib.hid (HY.out.go hk)
  replace HS := Lib.hid (HS.out.go hk)
  have HT := Lib.hid (show Blk w6 (w5.heap.size) 44 _ from Blk.go (by repeat (first | (with_reducible apply Blk.new'; first | with_reducible rfl | (focus (simp; done))) | with_reducible apply Blk.alloc | with_reducible apply Blk.drew | with_reducible apply Blk.drewN)) hb6)
  replace BEL : Hid (Below w.heap.size w w6) := Lib.hid (BEL.out.trans (hk.mono BEL.out.size))
  have z_w6 := hk.size; have y_w6 := BEL.out.size; clear hk hb6
  clear pA0 pA1 fA0 fA1 zA zA_1 zA_2 zA_3 pB0 pB1 fB0 fB1 zB zB_1 zB_2 zB_3 pD0 pD1 fD0 fD1 zD zD_1 zD_2 zD_3 pY0 pY1 fY0 fY1 zY zY_1 zY_2 zY_3 pS0 pS1 fS0 fS1 zS zS_1 zS_2 zS_3
  obtain ⟨pA0, pA1, fA0, fA1, zA, zA_1, zA_2, zA_3⟩ := HA.out.two'
  obtain ⟨pB0, pB1, fB0, fB1, zB, zB_1, zB_2, zB_3⟩ := HB.out.two'
  obtain ⟨pD0, pD1, fD0, fD1, zD, zD_1, zD_2, zD_3⟩ := HD.out.two'
  obtain ⟨pY0, pY1, fY0, fY1, zY, zY_1, zY_2, zY_3⟩ := HY.out.two'
  obtain ⟨pS0, pS1, fS0, fS1, zS, zS_1, zS_2, zS_3⟩ := HS.out.two'
  obtain ⟨pT0, pT1, fT0, fT1, zT, zT_1, zT_2, zT_3⟩ := HT.out.two'
  go_wp2_with fail
  refine (HCK.out _).mono ?_; rintro e w7 ⟨rfl, hb7⟩
  have hk : Below w6.heap.size w6 w7 := Below.trans (by repeat (first | with_reducible exact Below.refl _ _ | with_reducible apply Below.drew | with_reducible apply below_drewN | with_reducible apply Below.alloc | omega | (focus (simp; done)) | (simp; omega))) (hb7.mono (by first | omega | (simp; done) | (simp; omega)))
  replace HA := Lib.hid (HA.out.go hk)
  replace HB := Lib.hid (HB.out.go hk)
  replace HD := Lib.hid (HD.out.go hk)
  replace HY := Lib.hid (HY.out.go hk)
  replace HS := Lib.hid (HS.out.go hk)
  replace HT := Lib.hid (HT.out.go hk)
  have HM := Lib.hid (show Blk w7 (w6.heap.size) 44 _ from Blk.go (by repeat (first | (with_reducible apply Blk.new'; first | with_reducible rfl | (focus (simp; done))) | with_reducible apply Blk.alloc | with_reducible apply Blk.drew | with_reducible apply Blk.drewN)) hb7)
  replace BEL : Hid (Below w.heap.size w w7) := Lib.hid (BEL.out.trans (hk.mono BEL.out.size))
  have z_w7 := hk.size; have y_w7 := BEL.out.size; clear hk hb7
  clear pA0 pA1 fA0 fA1 zA zA_1 zA_2 zA_3 pB0 pB1 fB0 fB1 zB zB_1 zB_2 zB_3 pD0 pD1 fD0 fD1 zD zD_1 zD_2 zD_3 pY0 pY1 fY0 fY1 zY zY_1 zY_2 zY_3 pS0 pS1 fS0 fS1 zS zS_1 zS_2 zS_3 pT0 pT1 fT0 fT1 zT zT_1 zT_2 zT_3
  obtain ⟨pA0, pA1, fA0, fA1, zA, zA_1, zA_2, zA_3⟩ := HA.out.two'
  obtain ⟨pB0, pB1, fB0, fB1, zB, zB_1, zB_2, zB_3⟩ := HB.out.two'
  obtain ⟨pD0, pD1, fD0, fD1, zD, zD_1, zD_2, zD_3⟩ := HD.out.two'
  obtain ⟨pY0, pY1, fY0, fY1, zY, zY_1, zY_2, zY_3⟩ := HY.out.two'
  obtain ⟨pS0, pS1, fS0, fS1, zS, zS_1, zS_2, zS_3⟩ := HS.out.two'
  obtain ⟨pT0, pT1, fT0, fT1, zT, zT_1, zT_2, zT_3⟩ := HT.out.two'
  obtain ⟨pM0, pM1, fM0, fM1, zM, zM_1, zM_2, zM_3⟩ := HM.out.two'
  go_wp2_with fail
  refine (HBACK.out _).mono ?_; rintro e w8 ⟨rfl, hb8⟩
  have hk : Below w7.heap.size w7 w8 := Below.trans (by repeat (first | with_reducible exact Below.refl _ _ | with_reducible apply Below.drew | with_reducible apply below_drewN | with_reducible apply Below.alloc | omega | (focus (simp; done)) | (simp; omega))) (hb8.mono (by first | omega | (simp; done) | (simp; omega)))
  replace HA := Lib.hid (HA.out.go hk)
  replace HB := Lib.hid (HB.out.go hk)
  replace HD := Lib.hid (HD.out.go hk)
  replace HY := Lib.hid (HY.out.go hk)
  replace HS := Lib.hid (HS.out.go hk)
  replace HT := Lib.hid (HT.out.go hk)
  replace HM := Lib.hid (HM.out.go hk)
  replace BEL : Hid (Below w.heap.size w w8) := Lib.hid (BEL.out.trans (hk.mono BEL.out.size))
  have z_w8 := hk.size; have y_w8 := BEL.out.size; clear hk hb8
  clear pA0 pA1 fA0 fA1 zA zA_1 zA_2 zA_3 pB0 pB1 fB0 fB1 zB zB_1 zB_2 zB_3 pD0 pD1 fD0 fD1 zD zD_1 zD_2 zD_3 pY0 pY1 fY0 fY1 zY zY_1 zY_2 zY_3 pS0 pS1 fS0 fS1 zS zS_1 zS_2 zS_3 pT0 pT1 fT0 fT1 zT zT_1 zT_2 zT_3 pM0 pM1 fM0 fM1 zM zM_1 zM_2 zM_3
  obtain ⟨pA0, pA1, fA0, fA1, zA, zA_1, zA_2, zA_3⟩ := HA.out.two'
  obtain ⟨pB0, pB1, fB0, fB1, zB, zB_1, zB_2, zB_3⟩ := HB.out.two'
  obtain ⟨pD0, pD1, fD0, fD1, zD, zD_1, zD_2, zD_3⟩ := HD.out.two'
  obtain ⟨pY0, pY1, fY0, fY1, zY, zY_1, zY_2, zY_3⟩ := HY.out.two'
  obtain ⟨pS0, pS1, fS0, fS1, zS, zS_1, zS_2, zS_3⟩ := HS.out.two'
  obtain ⟨pT0, pT1, fT0, fT1, zT, zT_1, zT_2, zT_3⟩ := HT.out.two'
  obtain ⟨pM0, pM1, fM0, fM1, zM, zM_1, zM_2, zM_3⟩ := HM.out.two'
  go_wp2_with fail
  refine (HP.out _).mono ?_; rintro e w9 ⟨rfl, hb9⟩
  have hk : Below w8.heap.size w8 w9 := Below.trans (by repeat (first | with_reducible exact Below.refl _ _ | with_reducible apply Below.drew | with_reducible apply below_drewN | with_reducible apply Below.alloc | omega | (focus (simp; done)) | (simp; omega))) (hb9.mono (by first | omega | (simp; done) | (simp; omega)))
  replace HA := Lib.hid (HA.out.go hk)
  replace HB := Lib.hid (HB.out.go hk)
  replace HD := Lib.hid (HD.out.go hk)
  replace HY := Lib.hid (HY.out.go hk)
  replace HS := Lib.hid (HS.out.go hk)
  replace HT := Lib.hid (HT.out.go hk)
  replace HM := Lib.hid (HM.out.go hk)
  have HKA := Lib.hid (show Blk w9 (w8.heap.size) 44 _ from Blk.go (by repeat (first | (with_reducible apply Blk.new'; first | with_reducible rfl | (focus (simp; done))) | with_reducible apply Blk.alloc | with_reducible apply Blk.drew | with_reducible apply Blk.drewN)) hb9)
  replace BEL : Hid (Below w.heap.size w w9) := Lib.hid (BEL.out.trans (hk.mono BEL.out.size))
  have z_w9 := hk.size; have y_w9 := BEL.out.size; clear hk hb9
  clear pA0 pA1 fA0 fA1 zA zA_1 zA_2 zA_3 pB0 pB1 fB0 fB1 zB zB_1 zB_2 zB_3 pD0 pD1 fD0 fD1 zD zD_1 zD_2 zD_3 pY0 pY1 fY0 fY1 zY zY_1 zY_2 zY_3 pS0 pS1 fS0 fS1 zS zS_1 zS_2 zS_3 pT0 pT1 fT0 fT1 zT zT_1 zT_2 zT_3 pM0 pM1 fM0 fM1 zM zM_1 zM_2 zM_3
  obtain ⟨pA0, pA1, fA0, fA1, zA, zA_1, zA_2, zA_3⟩ := HA.out.two'
  obtain ⟨pB0, pB1, fB0, fB1, zB, zB_1, zB_2, zB_3⟩ := HB.out.two'
  obtain ⟨pD0, pD1, fD0, fD1, zD, zD_1, zD_2, zD_3⟩ := HD.out.two'
  obtain ⟨pY0, pY1, fY0, fY1, zY, zY_1, zY_2, zY_3⟩ := HY.out.two'
  obtain ⟨pS0, pS1, fS0, fS1, zS, zS_1, zS_2, zS_3⟩ := HS.out.two'
  obtain ⟨pT0, pT1, fT0, fT1, zT, zT_1, zT_2, zT_3⟩ := HT.out.two'
  obtain ⟨pM0, pM1, fM0, fM1, zM, zM_1, zM_2, zM_3⟩ := HM.out.two'
  obtain ⟨pKA0, pKA1, fKA0, fKA1, zKA, zKA_1, zKA_2, zKA_3⟩ := HKA.out.two'
  go_wp2_with fail
  refine (HQ.out _).mono ?_; rintro e w10 ⟨rfl, hb10⟩
  have hk : Below w9.heap.size w9 w10 := Below.trans (by repeat (first | with_reducible exact Below.refl _ _ | with_reducible apply Below.drew | with_reducible apply below_drewN | with_reducible apply Below.alloc | omega | (focus (simp; done)) | (simp; omega))) (hb10.mono (by first | omega | (simp; done) | (simp; omega)))
  replace HA := Lib.hid (HA.out.go hk)
  replace HB := Lib.hid (HB.out.go hk)
  replace HD := Lib.hid (HD.out.go hk)
  replace HY := Lib.hid (HY.out.go hk)
  replace HS := Lib.hid (HS.out.go hk)
  replace HT := Lib.hid (HT.out.go hk)
  replace HM := Lib.hid (HM.out.go hk)
  replace HKA := Lib.hid (HKA.out.go hk)
  have HPA := Lib.hid (show Blk w10 (w9.heap.size) 44 _ from Blk.go (by repeat (first | (with_reducible apply Blk.new'; first | with_reducible rfl | (focus (simp; done))) | with_reducible apply Blk.alloc | with_reducible apply Blk.drew | with_reducible apply Blk.drewN)) hb10)
  replace BEL : Hid (Below w.heap.size w w10) := Lib.hid (BEL.out.trans (hk.mono BEL.out.size))
  have z_w10 := hk.size; have y_w10 := BEL.out.size; clear hk hb10
  clear pA0 pA1 fA0 fA1 zA zA_1 zA_2 zA_3 pB0 pB1 fB0 fB1 zB zB_1 zB_2 zB_3 pD0 pD1 fD0 fD1 zD zD_1 zD_2 zD_3 pY0 pY1 fY0 fY1 zY zY_1 zY_2 zY_3 pS0 pS1 fS0 fS1 zS zS_1 zS_2 zS_3 pT0 pT1 fT0 fT1 zT zT_1 zT_2 zT_3 pM0 pM1 fM0 fM1 zM zM_1 zM_2 zM_3 pKA0 pKA1 fKA0 fKA1 zKA zKA_1 zKA_2 zKA_3
  obtain ⟨pA0, pA1, fA0, fA1, zA, zA_1, zA_2, zA_3⟩ := HA.out.two'
  obtain ⟨pB0, pB1, fB0, fB1, zB, zB_1, zB_2, zB_3⟩ := HB.out.two'
  obtain ⟨pD0, pD1, fD0, fD1, zD, zD_1, zD_2, zD_3⟩ := HD.out.two'
  obtain ⟨pY0, pY1, fY0, fY1, zY, zY_1, zY_2, zY_3⟩ := HY.out.two'
  obtain ⟨pS0, pS1, fS0, fS1, zS, zS_1, zS_2, zS_3⟩ := HS.out.two'
  obtain ⟨pT0, pT1, fT0, fT1, zT, zT_1, zT_2, zT_3⟩ := HT.out.two'
  obtain ⟨pM0, pM1, fM0, fM1, zM, zM_1, zM_2, zM_3⟩ := HM.out.two'
  obtain ⟨pKA0, pKA1, fKA0, fKA1, zKA, zKA_1, zKA_2, zKA_3⟩ := HKA.out.two'
  obtain ⟨pPA0, pPA1, fPA0, fPA1, zPA, zPA_1, zPA_2, zPA_3⟩ := HPA.out.two'
  go_wp2_with fail
  refine (HO.out _).mono ?_; rintro e w11 ⟨rfl, hb11⟩
  have hk : Below w10.heap.size w10 w11 := Below.trans (by repeat (first | with_reducible exact Below.refl _ _ | with_reducible apply Below.drew | with_reducible apply below_drewN | with_reducible apply Below.alloc | omega | (focus (simp; done)) | (simp; omega))) (hb11.mono (by first | omega | (simp; done) | (simp; omega)))
  replace HA := Lib.hid (HA.out.go hk)
  replace HB := Lib.hid (HB.out.go hk)
  replace HD := Lib.hid (HD.out.go hk)
  replace HY := Lib.hid (HY.out.go hk)
  replace HS := Lib.hid (HS.out.go hk)
  replace HT := Lib.hid (HT.out.go hk)
  replace HM := Lib.hid (HM.out.go hk)
  replace HKA := Lib.hid (HKA.out.go hk)
  replace HPA := Lib.hid (HPA.out.go hk)
  have HQA := Lib.hid (show Blk w11 (w10.heap.size) 44 _ from Blk.go (by repeat (first | (with_reducible apply Blk.new'; first | with_reducible rfl | (focus (simp; done))) | with_reducible apply Blk.alloc | with_reducible apply Blk.drew | with_reducible apply Blk.drewN)) hb11)
  replace BEL : Hid (Below w.heap.size w w11) := Lib.hid (BEL.out.trans (hk.mono BEL.out.size))
  have z_w11 := hk.size; have y_w11 := BEL.out.size; clear hk hb11
  clear pA0 pA1 fA0 fA1 zA zA_1 zA_2 zA_3 pB0 pB1 fB0 fB1 zB zB_1 zB_2 zB_3 pD0 pD1 fD0 fD1 zD zD_1 zD_2 zD_3 pY0 pY1 fY0 fY1 zY zY_1 zY_2 zY_3 pS0 pS1 fS0 fS1 zS zS_1 zS_2 zS_3 pT0 pT1 fT0 fT1 zT zT_1 zT_2 zT_3 pM0 pM1 fM0 fM1 zM zM_1 zM_2 zM_3 pKA0 pKA1 fKA0 fKA1 zKA zKA_1 zKA_2 zKA_3 pPA0 pPA1 fPA0 fPA1 zPA zPA_1 zPA_2 zPA_3
  obtain ⟨pA0, pA1, fA0, fA1, zA, zA_1, zA_2, zA_3⟩ := HA.out.two'
  obtain ⟨pB0, pB1, fB0, fB1, zB, zB_1, zB_2, zB_3⟩ := HB.out.two'
  obtain ⟨pD0, pD1, fD0, fD1, zD, zD_1, zD_2, zD_3⟩ := HD.out.two'
  obtain ⟨pY0, pY1, fY0, fY1, zY, zY_1, zY_2, zY_3⟩ := HY.out.two'
  obtain ⟨pS0, pS1, fS0, fS1, zS, zS_1, zS_2, zS_3⟩ := HS.out.two'
  obtain ⟨pT0, pT1, fT0, fT1, zT, zT_1, zT_2, zT_3⟩ := HT.out.two'
  obtain ⟨pM0, pM1, fM0, fM1, zM, zM_1, zM_2, zM_3⟩ := HM.out.two'
  obtain ⟨pKA0, pKA1, fKA0, fKA1, zKA, zKA_1, zKA_2, zKA_3⟩ := HKA.out.two'
  obtain ⟨pPA0, pPA1, fPA0, fPA1, zPA, zPA_1, zPA_2, zPA_3⟩ := HPA.out.two'
  obtain ⟨pQA0, pQA1, fQA0, fQA1, zQA, zQA_1, zQA_2, zQA_3⟩ := HQA.out.two'
  go_wp2_with fail
  refine (HK.out _).mono ?_; rintro e w12 ⟨rfl, hb12⟩
  have hk : Below w11.heap.size w11 w12 := Below.trans (by repeat (first | with_reducible exact Below.refl _ _ | with_reducible apply Below.drew | with_reducible apply below_drewN | with_reducible apply Below.alloc | omega | (focus (simp; done)) | (simp; omega))) (hb12.mono (by first | omega | (simp; done) | (simp; omega)))
  replace HA := Lib.hid (HA.out.go hk)
  replace HB := Lib.hid (HB.out.go hk)
  replace HD := Lib.hid (HD.out.go hk)
  replace HY := Lib.hid (HY.out.go hk)
  replace HS := Lib.hid (HS.out.go hk)
  replace HT := Lib.hid (HT.out.go hk)
  replace HM := Lib.hid (HM.out.go hk)
  replace HKA := Lib.hid (HKA.out.go hk)
  replace HPA := Lib.hid (HPA.out.go hk)
  replace HQA := Lib.hid (HQA.out.go hk)
  replace BEL : Hid (Below w.heap.size w w12) := Lib.hid (BEL.out.trans (hk.mono BEL.out.size))
  have z_w12 := hk.size; have y_w12 := BEL.out.size; clear hk hb12
  clear pA0 pA1 fA0 fA1 zA zA_1 zA_2 zA_3 pB0 pB1 fB0 fB1 zB zB_1 zB_2 zB_3 pD0 pD1 fD0 fD1 zD zD_1 zD_2 zD_3 pY0 pY1 fY0 fY1 zY zY_1 zY_2 zY_3 pS0 pS1 fS0 fS1 zS zS_1 zS_2 zS_3 pT0 pT1 fT0 fT1 zT zT_1 zT_2 zT_3 pM0 pM1 fM0 fM1 zM zM_1 zM_2 zM_3 pKA0 pKA1 fKA0 fKA1 zKA zKA_1 zKA_2 zKA_3 pPA0 pPA1 fPA0 fPA1 zPA zPA_1 zPA_2 zPA_3 pQA0 pQA1 fQA0 fQA1 zQA zQA_1 zQA_2 zQA_3
  obtain ⟨pA0, pA1, fA0, fA1, zA, zA_1, zA_2, zA_3⟩ := HA.out.two'
  obtain ⟨pB0, pB1, fB0, fB1, zB, zB_1, zB_2, zB_3⟩ := HB.out.two'
  obtain ⟨pD0, pD1, fD0, fD1, zD, zD_1, zD_2, zD_3⟩ := HD.out.two'
  obtain ⟨pY0, pY1, fY0, fY1, zY, zY_1, zY_2, zY_3⟩ := HY.out.two'
  obtain ⟨pS0, pS1, fS0, fS1, zS, zS_1, zS_2, zS_3⟩ := HS.out.two'
  obtain ⟨pT0, pT1, fT0, fT1, zT, zT_1, zT_2, zT_3⟩ := HT.out.two'
  obtain ⟨pM0, pM1, fM0, fM1, zM, zM_1, zM_2, zM_3⟩ := HM.out.two'
  obtain ⟨pKA0, pKA1, fKA0, fKA1, zKA, zKA_1, zKA_2, zKA_3⟩ := HKA.out.two'
  obtain ⟨pPA0, pPA1, fPA0, fPA1, zPA, zPA_1, zPA_2, zPA_3⟩ := HPA.out.two'
  obtain ⟨pQA0, pQA1, fQA0, fQA1, zQA, zQA_1, zQA_2, zQA_3⟩ := HQA.out.two'
  go_wp2_with fail
  refine (HR.out _).mono ?_; rintro e w13 ⟨rfl, hb13⟩
  have hk : Below w12.heap.size w12 w13 := Below.trans (by repeat (first | with_reducible exact Below.refl _ _ | with_reducible apply Below.drew | with_reducible apply below_drewN | with_reducible apply Below.alloc | omega | (focus (simp; done)) | (simp; omega))) (hb13.mono (by first | omega | (simp; done) | (simp; omega)))
  replace HA := Lib.hid (HA.out.go hk)
  replace HB := Lib.hid (HB.out.go hk)
  replace HD := Lib.hid (HD.out.go hk)
  replace HY := Lib.hid (HY.out.go hk)
  replace HS := Lib.hid (HS.out.go hk)
  replace HT := Lib.hid (HT.out.go hk)
  replace HM := Lib.hid (HM.out.go hk)
  replace HKA := Lib.hid (HKA.out.go hk)
  replace HPA := Lib.hid (HPA.out.go hk)
  replace HQA := Lib.hid (HQA.out.go hk)
  replace BEL : Hid (Below w.heap.size w w13) := Lib.hid (BEL.out.trans (hk.mono BEL.out.size))
  have z_w13 := hk.size; have y_w13 := BEL.out.size; clear hk hb13
  clear pA0 pA1 fA0 fA1 zA zA_1 zA_2 zA_3 pB0 pB1 fB0 fB1 zB zB_1 zB_2 zB_3 pD0 pD1 fD0 fD1 zD zD_1 zD_2 zD_3 pY0 pY1 fY0 fY1 zY zY_1 zY_2 zY_3 pS0 pS1 fS0 fS1 zS zS_1 zS_2 zS_3 pT0 pT1 fT0 fT1 zT zT_1 zT_2 zT_3 pM0 pM1 fM0 fM1 zM zM_1 zM_2 zM_3 pKA0 pKA1 fKA0 fKA1 zKA zKA_1 zKA_2 zKA_3 pPA0 pPA1 fPA0 fPA1 zPA zPA_1 zPA_2 zPA_3 pQA0 pQA1 fQA0 fQA1 zQA zQA_1 zQA_2 zQA_3
  obtain ⟨pA0, pA1, fA0, fA1, zA, zA_1, zA_2, zA_3⟩ := HA.out.two'
  obtain ⟨pB0, pB1, fB0, fB1, zB, zB_1, zB_2, zB_3⟩ := HB.out.two'
  obtain ⟨pD0, pD1, fD0, fD1, zD, zD_1, zD_2, zD_3⟩ := HD.out.two'
  obtain ⟨pY0, pY1, fY0, fY1, zY, zY_1, zY_2, zY_3⟩ := HY.out.two'
  obtain ⟨pS0, pS1, fS0, fS1, zS, zS_1, zS_2, zS_3⟩ := HS.out.two'
  obtain ⟨pT0, pT1, fT0, fT1, zT, zT_1, zT_2, zT_3⟩ := HT.out.two'
  obtain ⟨pM0, pM1, fM0, fM1, zM, zM_1, zM_2, zM_3⟩ := HM.out.two'
  obtain ⟨pKA0, pKA1, fKA0, fKA1, zKA, zKA_1, zKA_2, zKA_3⟩ := HKA.out.two'
  obtain ⟨pPA0, pPA1, fPA0, fPA1, zPA, zPA_1, zPA_2, zPA_3⟩ := HPA.out.two'
  obtain ⟨pQA0, pQA1, fQA0, fQA1, zQA, zQA_1, zQA_2, zQA_3⟩ := HQA.out.two'
  go_wp2
  all_goals
    go_ret
    refine ⟨?_, (by repeat (first | with_reducible exact BEL.out | with_reducible apply Below.alloc | with_reducible apply Below.setCell | with_reducible apply Below.drew | with_reducible apply below_drewN | (first | omega | (focus (simp; done)) | (focus (simp; omega)) | (focus (simp [World.setCell]; omega)))))⟩
    first | rfl | (simp at HEQ; exact absurd ‹b = c› (HEQ ‹t = u›))
end Go.Proofs.Ythffjnfnfddpdaa
