/- The walk of FracZero: it returns true for every input. -/
import Derived.Test.YthffjnfnfddpdaaFrac3
namespace Go.Proofs.Ythffjnfnfddpdaa
open Go.RowKit
attribute [local go_sem ↓] run_min_mn run_max_mx
theorem QIn.zero : QIn 0 := by decide
theorem fadd_zero (q : Rat) (w : World) (hq : QIn q) :
    Calls Try.prog 28 #[.agg #[.int .i64 q.num, .int .i64 q.den], .agg #[.int .i64 0, .int .i64 1]] w fun e w' => e = .returned (.tuple #[.agg #[.int .i64 q.num, .int .i64 q.den], .nilIface]) ∧ Below w.heap.size w w' :=
  fadd_q q 0 q w hq QIn.zero (by grind) hq
theorem times_zero (q : Rat) (w : World) (hq : QIn q) :
    Calls Try.prog 29 #[.agg #[.int .i64 q.num, .int .i64 q.den], .int .i64 0] w fun e w' => e = .returned (.tuple #[.agg #[.int .i64 0, .int .i64 1], .nilIface]) ∧ Below w.heap.size w w' :=
  times_q q 0 0 w hq (by omega) (by omega) (by grind) QIn.zero
theorem fadd_left (t b u c : Int) (w : World) (h : fracErr t b ≠ 0) :
    Calls Try.prog 28 #[.agg #[.int .i64 t, .int .i64 b], .agg #[.int .i64 u, .int .i64 c]] w fun e w' => e = .returned (.tuple #[.agg #[.int .i64 0, .int .i64 0], .iface 103 (.int .i64 (fracErr t b))]) ∧ Below w.heap.size w w' :=
  fadd_no t b u c _ w (by unfold fracs2; rw [if_pos h]) h
set_option maxHeartbeats 4000000 in
set_option maxRecDepth 100000 in
theorem fracZero_yes (q : Rat) (w : World) (hq : QIn q) :
    Calls Try.prog 5 #[.agg #[.int .i64 q.num, .int .i64 q.den]] w fun e w' => e = .returned (.bool true) ∧ Below w.heap.size w w' := by
  have BEL : Hid (Below w.heap.size w w) := Lib.hid (Below.refl _ _)
  have yB : w.heap.size ≤ w.heap.size := Nat.le_refl _
  have HQ := Lib.hid hq; clear hq
  go_enter Try.func5, Try.ntmps5
  go_wp2_with fail
  refine (fadd_zero q _ HQ.out).mono ?_; rintro e w1 ⟨rfl, hb1⟩
  have z_w1 : w.heap.size ≤ w1.heap.size := Nat.le_trans (by first | with_reducible exact Nat.le_refl _ | (simp; done) | (simp; omega) | (simp [World.setCell]; done)) hb1.size
  have HP := Lib.hid (show Blk w1 (w.heap.size) 44 _ from by (with_reducible apply Blk.below (hb := hb1); (repeat (first | (with_reducible apply Blk.new'; first | with_reducible rfl | (focus (simp; done)) | (focus (simp; omega))) | with_reducible apply Blk.s3_0 | with_reducible apply Blk.s3_1 | with_reducible apply Blk.s3_2 | with_reducible apply Blk.s2_0 | with_reducible apply Blk.s2_1 | with_reducible apply Blk.s4_0 | with_reducible apply Blk.s4_1 | with_reducible apply Blk.s4_2 | with_reducible apply Blk.s4_3 | with_reducible apply Blk.s1_0 | with_reducible apply Blk.set_ | with_reducible apply Blk.far | with_reducible apply Blk.alloc | with_reducible apply Blk.drew | with_reducible apply Blk.drewN | (first | omega | (focus (simp; done)) | (focus (simp; omega)) | (focus (simp [World.setCell]; omega)))))))
  have HZ := Lib.hid (show Blk w1 (w.heap.size + 1) 44 _ from by (with_reducible apply Blk.below (hb := hb1); (repeat (first | (with_reducible apply Blk.new'; first | with_reducible rfl | (focus (simp; done)) | (focus (simp; omega))) | with_reducible apply Blk.s3_0 | with_reducible apply Blk.s3_1 | with_reducible apply Blk.s3_2 | with_reducible apply Blk.s2_0 | with_reducible apply Blk.s2_1 | with_reducible apply Blk.s4_0 | with_reducible apply Blk.s4_1 | with_reducible apply Blk.s4_2 | with_reducible apply Blk.s4_3 | with_reducible apply Blk.s1_0 | with_reducible apply Blk.set_ | with_reducible apply Blk.far | with_reducible apply Blk.alloc | with_reducible apply Blk.drew | with_reducible apply Blk.drewN | (first | omega | (focus (simp; done)) | (focus (simp; omega)) | (focus (simp [World.setCell]; omega)))))))
  have q_P_w1 : w.heap.size < w1.heap.size := HP.out.lt
  have q_Z_w1 : w.heap.size + 1 < w1.heap.size := HZ.out.lt
  replace BEL : Hid (Below w.heap.size w w1) := Lib.hid (Below.trans (by repeat (first | with_reducible exact BEL.out | with_reducible apply Below.alloc | with_reducible apply Below.setCell | with_reducible apply Below.drew | with_reducible apply below_drewN | (first | omega | (focus (simp; done)) | (focus (simp; omega)) | (focus (simp [World.setCell]; omega))))) (hb1.mono (by (first | omega | (focus (simp; done)) | (focus (simp; omega)) | (focus (simp [World.setCell]; omega))))))
  have y_w1 : w.heap.size ≤ w1.heap.size := BEL.out.size
  clear hb1
  obtain ⟨pP0, pP1, fP0, fP1, zP⟩ := HP.out.two
  have zP_1 : w.heap.size < w1.heap.size + 1 := by omega
  have zP_2 : w.heap.size < w1.heap.size + 1 + 1 := by omega
  have zP_3 : w.heap.size < w1.heap.size + 1 + 1 + 1 := by omega
  obtain ⟨pZ0, pZ1, fZ0, fZ1, zZ⟩ := HZ.out.two
  have zZ_1 : w.heap.size + 1 < w1.heap.size + 1 := by omega
  have zZ_2 : w.heap.size + 1 < w1.heap.size + 1 + 1 := by omega
  have zZ_3 : w.heap.size + 1 < w1.heap.size + 1 + 1 + 1 := by omega
  go_wp2_with fail
  refine (times_zero q _ HQ.out).mono ?_; rintro e w2 ⟨rfl, hb2⟩
  have z_w2 : w1.heap.size ≤ w2.heap.size := Nat.le_trans (by first | with_reducible exact Nat.le_refl _ | (simp; done) | (simp; omega) | (simp [World.setCell]; done)) hb2.size
  have HX := Lib.hid (show Blk w2 (w1.heap.size) 44 _ from by (with_reducible apply Blk.below (hb := hb2); (repeat (first | (with_reducible apply Blk.new'; first | with_reducible rfl | (focus (simp; done)) | (focus (simp; omega))) | with_reducible apply Blk.s3_0 | with_reducible apply Blk.s3_1 | with_reducible apply Blk.s3_2 | with_reducible apply Blk.s2_0 | with_reducible apply Blk.s2_1 | with_reducible apply Blk.s4_0 | with_reducible apply Blk.s4_1 | with_reducible apply Blk.s4_2 | with_reducible apply Blk.s4_3 | with_reducible apply Blk.s1_0 | with_reducible apply Blk.set_ | with_reducible apply Blk.far | with_reducible apply Blk.alloc | with_reducible apply Blk.drew | with_reducible apply Blk.drewN | (first | omega | (focus (simp; done)) | (focus (simp; omega)) | (focus (simp [World.setCell]; omega)))))))
  replace HP := Lib.hid (show Blk w2 (w.heap.size) 44 _ from by (with_reducible apply Blk.below (hb := hb2); (repeat (first | with_reducible exact HP.out | (with_reducible apply Blk.new'; first | with_reducible rfl | (focus (simp; done)) | (focus (simp; omega))) | with_reducible apply Blk.s3_0 | with_reducible apply Blk.s3_1 | with_reducible apply Blk.s3_2 | with_reducible apply Blk.s2_0 | with_reducible apply Blk.s2_1 | with_reducible apply Blk.s4_0 | with_reducible apply Blk.s4_1 | with_reducible apply Blk.s4_2 | with_reducible apply Blk.s4_3 | with_reducible apply Blk.s1_0 | with_reducible apply Blk.set_ | with_reducible apply Blk.far | with_reducible apply Blk.alloc | with_reducible apply Blk.drew | with_reducible apply Blk.drewN | (first | omega | (focus (simp; done)) | (focus (simp; omega)) | (focus (simp [World.setCell]; omega)))))))
  replace HZ := Lib.hid (show Blk w2 (w.heap.size + 1) 44 _ from by (with_reducible apply Blk.below (hb := hb2); (repeat (first | with_reducible exact HZ.out | (with_reducible apply Blk.new'; first | with_reducible rfl | (focus (simp; done)) | (focus (simp; omega))) | with_reducible apply Blk.s3_0 | with_reducible apply Blk.s3_1 | with_reducible apply Blk.s3_2 | with_reducible apply Blk.s2_0 | with_reducible apply Blk.s2_1 | with_reducible apply Blk.s4_0 | with_reducible apply Blk.s4_1 | with_reducible apply Blk.s4_2 | with_reducible apply Blk.s4_3 | with_reducible apply Blk.s1_0 | with_reducible apply Blk.set_ | with_reducible apply Blk.far | with_reducible apply Blk.alloc | with_reducible apply Blk.drew | with_reducible apply Blk.drewN | (first | omega | (focus (simp; done)) | (focus (simp; omega)) | (focus (simp [World.setCell]; omega)))))))
  have q_X_w2 : w1.heap.size < w2.heap.size := HX.out.lt
  replace BEL : Hid (Below w.heap.size w w2) := Lib.hid (Below.trans (by repeat (first | with_reducible exact BEL.out | with_reducible apply Below.alloc | with_reducible apply Below.setCell | with_reducible apply Below.drew | with_reducible apply below_drewN | (first | omega | (focus (simp; done)) | (focus (simp; omega)) | (focus (simp [World.setCell]; omega))))) (hb2.mono (by (first | omega | (focus (simp; done)) | (focus (simp; omega)) | (focus (simp [World.setCell]; omega))))))
  have y_w2 : w.heap.size ≤ w2.heap.size := BEL.out.size
  clear hb2
  clear pP0 pP1 fP0 fP1 zP zP_1 zP_2 zP_3 pZ0 pZ1 fZ0 fZ1 zZ zZ_1 zZ_2 zZ_3
  obtain ⟨pP0, pP1, fP0, fP1, zP⟩ := HP.out.two
  have zP_1 : w.heap.size < w2.heap.size + 1 := by omega
  have zP_2 : w.heap.size < w2.heap.size + 1 + 1 := by omega
  have zP_3 : w.heap.size < w2.heap.size + 1 + 1 + 1 := by omega
  obtain ⟨pZ0, pZ1, fZ0, fZ1, zZ⟩ := HZ.out.two
  have zZ_1 : w.heap.size + 1 < w2.heap.size + 1 := by omega
  have zZ_2 : w.heap.size + 1 < w2.heap.size + 1 + 1 := by omega
  have zZ_3 : w.heap.size + 1 < w2.heap.size + 1 + 1 + 1 := by omega
  obtain ⟨pX0, pX1, fX0, fX1, zX⟩ := HX.out.two
  have zX_1 : w1.heap.size < w2.heap.size + 1 := by omega
  have zX_2 : w1.heap.size < w2.heap.size + 1 + 1 := by omega
  have zX_3 : w1.heap.size < w2.heap.size + 1 + 1 + 1 := by omega
  go_wp2
  go_ret
  exact ⟨rfl, (by repeat (first | with_reducible exact BEL.out | with_reducible apply Below.alloc | with_reducible apply Below.setCell | with_reducible apply Below.drew | with_reducible apply below_drewN | (first | omega | (focus (simp; done)) | (focus (simp; omega)) | (focus (simp [World.setCell]; omega)))))⟩
set_option maxHeartbeats 4000000 in
set_option maxRecDepth 100000 in
theorem fracZero_no (t b er : Int) (w : World) (h : fracErr t b = er) (hp : er ≠ 0) :
    Calls Try.prog 5 #[.agg #[.int .i64 t, .int .i64 b]] w fun e w' => e = .returned (.bool true) ∧ Below w.heap.size w w' := by
  have BEL : Hid (Below w.heap.size w w) := Lib.hid (Below.refl _ _)
  have yB : w.heap.size ≤ w.heap.size := Nat.le_refl _
  have H1 := Lib.hid h; have H2 := Lib.hid hp; have H3 := Lib.hid (fun (u c : Int) (W : World) => fadd_left t b u c W (by rw [h]; exact hp)); rw [h] at H3; clear h hp
  go_enter Try.func5, Try.ntmps5
  go_wp2_with fail
  refine (H3.out 0 1 _).mono ?_; rintro e w1 ⟨rfl, hb1⟩
  have z_w1 : w.heap.size ≤ w1.heap.size := Nat.le_trans (by first | with_reducible exact Nat.le_refl _ | (simp; done) | (simp; omega) | (simp [World.setCell]; done)) hb1.size
  have HP := Lib.hid (show Blk w1 (w.heap.size) 44 _ from by (with_reducible apply Blk.below (hb := hb1); (repeat (first | (with_reducible apply Blk.new'; first | with_reducible rfl | (focus (simp; done)) | (focus (simp; omega))) | with_reducible apply Blk.s3_0 | with_reducible apply Blk.s3_1 | with_reducible apply Blk.s3_2 | with_reducible apply Blk.s2_0 | with_reducible apply Blk.s2_1 | with_reducible apply Blk.s4_0 | with_reducible apply Blk.s4_1 | with_reducible apply Blk.s4_2 | with_reducible apply Blk.s4_3 | with_reducible apply Blk.s1_0 | with_reducible apply Blk.set_ | with_reducible apply Blk.far | with_reducible apply Blk.alloc | with_reducible apply Blk.drew | with_reducible apply Blk.drewN | (first | omega | (focus (simp; done)) | (focus (simp; omega)) | (focus (simp [World.setCell]; omega)))))))
  have HZ := Lib.hid (show Blk w1 (w.heap.size + 1) 44 _ from by (with_reducible apply Blk.below (hb := hb1); (repeat (first | (with_reducible apply Blk.new'; first | with_reducible rfl | (focus (simp; done)) | (focus (simp; omega))) | with_reducible apply Blk.s3_0 | with_reducible apply Blk.s3_1 | with_reducible apply Blk.s3_2 | with_reducible apply Blk.s2_0 | with_reducible apply Blk.s2_1 | with_reducible apply Blk.s4_0 | with_reducible apply Blk.s4_1 | with_reducible apply Blk.s4_2 | with_reducible apply Blk.s4_3 | with_reducible apply Blk.s1_0 | with_reducible apply Blk.set_ | with_reducible apply Blk.far | with_reducible apply Blk.alloc | with_reducible apply Blk.drew | with_reducible apply Blk.drewN | (first | omega | (focus (simp; done)) | (focus (simp; omega)) | (focus (simp [World.setCell]; omega)))))))
  have q_P_w1 : w.heap.size < w1.heap.size := HP.out.lt
  have q_Z_w1 : w.heap.size + 1 < w1.heap.size := HZ.out.lt
  replace BEL : Hid (Below w.heap.size w w1) := Lib.hid (Below.trans (by repeat (first | with_reducible exact BEL.out | with_reducible apply Below.alloc | with_reducible apply Below.setCell | with_reducible apply Below.drew | with_reducible apply below_drewN | (first | omega | (focus (simp; done)) | (focus (simp; omega)) | (focus (simp [World.setCell]; omega))))) (hb1.mono (by (first | omega | (focus (simp; done)) | (focus (simp; omega)) | (focus (simp [World.setCell]; omega))))))
  have y_w1 : w.heap.size ≤ w1.heap.size := BEL.out.size
  clear hb1
  obtain ⟨pP0, pP1, fP0, fP1, zP⟩ := HP.out.two
  have zP_1 : w.heap.size < w1.heap.size + 1 := by omega
  have zP_2 : w.heap.size < w1.heap.size + 1 + 1 := by omega
  have zP_3 : w.heap.size < w1.heap.size + 1 + 1 + 1 := by omega
  obtain ⟨pZ0, pZ1, fZ0, fZ1, zZ⟩ := HZ.out.two
  have zZ_1 : w.heap.size + 1 < w1.heap.size + 1 := by omega
  have zZ_2 : w.heap.size + 1 < w1.heap.size + 1 + 1 := by omega
  have zZ_3 : w.heap.size + 1 < w1.heap.size + 1 + 1 + 1 := by omega
  go_wp2_with fail
  refine (times_bad t b 0 er _ H1.out H2.out).mono ?_; rintro e w2 ⟨rfl, hb2⟩
  have z_w2 : w1.heap.size ≤ w2.heap.size := Nat.le_trans (by first | with_reducible exact Nat.le_refl _ | (simp; done) | (simp; omega) | (simp [World.setCell]; done)) hb2.size
  have HX := Lib.hid (show Blk w2 (w1.heap.size) 44 _ from by (with_reducible apply Blk.below (hb := hb2); (repeat (first | (with_reducible apply Blk.new'; first | with_reducible rfl | (focus (simp; done)) | (focus (simp; omega))) | with_reducible apply Blk.s3_0 | with_reducible apply Blk.s3_1 | with_reducible apply Blk.s3_2 | with_reducible apply Blk.s2_0 | with_reducible apply Blk.s2_1 | with_reducible apply Blk.s4_0 | with_reducible apply Blk.s4_1 | with_reducible apply Blk.s4_2 | with_reducible apply Blk.s4_3 | with_reducible apply Blk.s1_0 | with_reducible apply Blk.set_ | with_reducible apply Blk.far | with_reducible apply Blk.alloc | with_reducible apply Blk.drew | with_reducible apply Blk.drewN | (first | omega | (focus (simp; done)) | (focus (simp; omega)) | (focus (simp [World.setCell]; omega)))))))
  replace HP := Lib.hid (show Blk w2 (w.heap.size) 44 _ from by (with_reducible apply Blk.below (hb := hb2); (repeat (first | with_reducible exact HP.out | (with_reducible apply Blk.new'; first | with_reducible rfl | (focus (simp; done)) | (focus (simp; omega))) | with_reducible apply Blk.s3_0 | with_reducible apply Blk.s3_1 | with_reducible apply Blk.s3_2 | with_reducible apply Blk.s2_0 | with_reducible apply Blk.s2_1 | with_reducible apply Blk.s4_0 | with_reducible apply Blk.s4_1 | with_reducible apply Blk.s4_2 | with_reducible apply Blk.s4_3 | with_reducible apply Blk.s1_0 | with_reducible apply Blk.set_ | with_reducible apply Blk.far | with_reducible apply Blk.alloc | with_reducible apply Blk.drew | with_reducible apply Blk.drewN | (first | omega | (focus (simp; done)) | (focus (simp; omega)) | (focus (simp [World.setCell]; omega)))))))
  replace HZ := Lib.hid (show Blk w2 (w.heap.size + 1) 44 _ from by (with_reducible apply Blk.below (hb := hb2); (repeat (first | with_reducible exact HZ.out | (with_reducible apply Blk.new'; first | with_reducible rfl | (focus (simp; done)) | (focus (simp; omega))) | with_reducible apply Blk.s3_0 | with_reducible apply Blk.s3_1 | with_reducible apply Blk.s3_2 | with_reducible apply Blk.s2_0 | with_reducible apply Blk.s2_1 | with_reducible apply Blk.s4_0 | with_reducible apply Blk.s4_1 | with_reducible apply Blk.s4_2 | with_reducible apply Blk.s4_3 | with_reducible apply Blk.s1_0 | with_reducible apply Blk.set_ | with_reducible apply Blk.far | with_reducible apply Blk.alloc | with_reducible apply Blk.drew | with_reducible apply Blk.drewN | (first | omega | (focus (simp; done)) | (focus (simp; omega)) | (focus (simp [World.setCell]; omega)))))))
  have q_X_w2 : w1.heap.size < w2.heap.size := HX.out.lt
  replace BEL : Hid (Below w.heap.size w w2) := Lib.hid (Below.trans (by repeat (first | with_reducible exact BEL.out | with_reducible apply Below.alloc | with_reducible apply Below.setCell | with_reducible apply Below.drew | with_reducible apply below_drewN | (first | omega | (focus (simp; done)) | (focus (simp; omega)) | (focus (simp [World.setCell]; omega))))) (hb2.mono (by (first | omega | (focus (simp; done)) | (focus (simp; omega)) | (focus (simp [World.setCell]; omega))))))
  have y_w2 : w.heap.size ≤ w2.heap.size := BEL.out.size
  clear hb2
  clear pP0 pP1 fP0 fP1 zP zP_1 zP_2 zP_3 pZ0 pZ1 fZ0 fZ1 zZ zZ_1 zZ_2 zZ_3
  obtain ⟨pP0, pP1, fP0, fP1, zP⟩ := HP.out.two
  have zP_1 : w.heap.size < w2.heap.size + 1 := by omega
  have zP_2 : w.heap.size < w2.heap.size + 1 + 1 := by omega
  have zP_3 : w.heap.size < w2.heap.size + 1 + 1 + 1 := by omega
  obtain ⟨pZ0, pZ1, fZ0, fZ1, zZ⟩ := HZ.out.two
  have zZ_1 : w.heap.size + 1 < w2.heap.size + 1 := by omega
  have zZ_2 : w.heap.size + 1 < w2.heap.size + 1 + 1 := by omega
  have zZ_3 : w.heap.size + 1 < w2.heap.size + 1 + 1 + 1 := by omega
  obtain ⟨pX0, pX1, fX0, fX1, zX⟩ := HX.out.two
  have zX_1 : w1.heap.size < w2.heap.size + 1 := by omega
  have zX_2 : w1.heap.size < w2.heap.size + 1 + 1 := by omega
  have zX_3 : w1.heap.size < w2.heap.size + 1 + 1 + 1 := by omega
  go_wp2_with fail
  refine (fcheck_no t b er _ H1.out H2.out).mono ?_; rintro e w3 ⟨rfl, hb3⟩
  have z_w3 : w2.heap.size ≤ w3.heap.size := Nat.le_trans (by first | with_reducible exact Nat.le_refl _ | (simp; done) | (simp; omega) | (simp [World.setCell]; done)) hb3.size
  replace HP := Lib.hid (show Blk w3 (w.heap.size) 44 _ from by (with_reducible apply Blk.below (hb := hb3); (repeat (first | with_reducible exact HP.out | (with_reducible apply Blk.new'; first | with_reducible rfl | (focus (simp; done)) | (focus (simp; omega))) | with_reducible apply Blk.s3_0 | with_reducible apply Blk.s3_1 | with_reducible apply Blk.s3_2 | with_reducible apply Blk.s2_0 | with_reducible apply Blk.s2_1 | with_reducible apply Blk.s4_0 | with_reducible apply Blk.s4_1 | with_reducible apply Blk.s4_2 | with_reducible apply Blk.s4_3 | with_reducible apply Blk.s1_0 | with_reducible apply Blk.set_ | with_reducible apply Blk.far | with_reducible apply Blk.alloc | with_reducible apply Blk.drew | with_reducible apply Blk.drewN | (first | omega | (focus (simp; done)) | (focus (simp; omega)) | (focus (simp [World.setCell]; omega)))))))
  replace HZ := Lib.hid (show Blk w3 (w.heap.size + 1) 44 _ from by (with_reducible apply Blk.below (hb := hb3); (repeat (first | with_reducible exact HZ.out | (with_reducible apply Blk.new'; first | with_reducible rfl | (focus (simp; done)) | (focus (simp; omega))) | with_reducible apply Blk.s3_0 | with_reducible apply Blk.s3_1 | with_reducible apply Blk.s3_2 | with_reducible apply Blk.s2_0 | with_reducible apply Blk.s2_1 | with_reducible apply Blk.s4_0 | with_reducible apply Blk.s4_1 | with_reducible apply Blk.s4_2 | with_reducible apply Blk.s4_3 | with_reducible apply Blk.s1_0 | with_reducible apply Blk.set_ | with_reducible apply Blk.far | with_reducible apply Blk.alloc | with_reducible apply Blk.drew | with_reducible apply Blk.drewN | (first | omega | (focus (simp; done)) | (focus (simp; omega)) | (focus (simp [World.setCell]; omega)))))))
  replace HX := Lib.hid (show Blk w3 (w1.heap.size) 44 _ from by (with_reducible apply Blk.below (hb := hb3); (repeat (first | with_reducible exact HX.out | (with_reducible apply Blk.new'; first | with_reducible rfl | (focus (simp; done)) | (focus (simp; omega))) | with_reducible apply Blk.s3_0 | with_reducible apply Blk.s3_1 | with_reducible apply Blk.s3_2 | with_reducible apply Blk.s2_0 | with_reducible apply Blk.s2_1 | with_reducible apply Blk.s4_0 | with_reducible apply Blk.s4_1 | with_reducible apply Blk.s4_2 | with_reducible apply Blk.s4_3 | with_reducible apply Blk.s1_0 | with_reducible apply Blk.set_ | with_reducible apply Blk.far | with_reducible apply Blk.alloc | with_reducible apply Blk.drew | with_reducible apply Blk.drewN | (first | omega | (focus (simp; done)) | (focus (simp; omega)) | (focus (simp [World.setCell]; omega)))))))
  replace BEL : Hid (Below w.heap.size w w3) := Lib.hid (Below.trans (by repeat (first | with_reducible exact BEL.out | with_reducible apply Below.alloc | with_reducible apply Below.setCell | with_reducible apply Below.drew | with_reducible apply below_drewN | (first | omega | (focus (simp; done)) | (focus (simp; omega)) | (focus (simp [World.setCell]; omega))))) (hb3.mono (by (first | omega | (focus (simp; done)) | (focus (simp; omega)) | (focus (simp [World.setCell]; omega))))))
  have y_w3 : w.heap.size ≤ w3.heap.size := BEL.out.size
  clear hb3
  clear pP0 pP1 fP0 fP1 zP zP_1 zP_2 zP_3 pZ0 pZ1 fZ0 fZ1 zZ zZ_1 zZ_2 zZ_3 pX0 pX1 fX0 fX1 zX zX_1 zX_2 zX_3
  obtain ⟨pP0, pP1, fP0, fP1, zP⟩ := HP.out.two
  have zP_1 : w.heap.size < w3.heap.size + 1 := by omega
  have zP_2 : w.heap.size < w3.heap.size + 1 + 1 := by omega
  have zP_3 : w.heap.size < w3.heap.size + 1 + 1 + 1 := by omega
  obtain ⟨pZ0, pZ1, fZ0, fZ1, zZ⟩ := HZ.out.two
  have zZ_1 : w.heap.size + 1 < w3.heap.size + 1 := by omega
  have zZ_2 : w.heap.size + 1 < w3.heap.size + 1 + 1 := by omega
  have zZ_3 : w.heap.size + 1 < w3.heap.size + 1 + 1 + 1 := by omega
  obtain ⟨pX0, pX1, fX0, fX1, zX⟩ := HX.out.two
  have zX_1 : w1.heap.size < w3.heap.size + 1 := by omega
  have zX_2 : w1.heap.size < w3.heap.size + 1 + 1 := by omega
  have zX_3 : w1.heap.size < w3.heap.size + 1 + 1 + 1 := by omega
  go_wp2
  go_ret
  exact ⟨rfl, (by repeat (first | with_reducible exact BEL.out | with_reducible apply Below.alloc | with_reducible apply Below.setCell | with_reducible apply Below.drew | with_reducible apply below_drewN | (first | omega | (focus (simp; done)) | (focus (simp; omega)) | (focus (simp [World.setCell]; omega)))))⟩
theorem fracZero_walk (t b : Int) (_ : (Lit.int .i64 t).wf = true) (_ : (Lit.int .i64 b).wf = true) (w : World) :
    Calls Try.prog 5 #[.agg #[.int .i64 t, .int .i64 b]] w fun e w' => e = .returned (.bool true) ∧ Below w.heap.size w w' := by
  by_cases h : fracErr t b = 0
  · obtain ⟨q, rfl, rfl, hq⟩ := frac_rat h
    exact fracZero_yes q w hq
  · exact fracZero_no t b _ w rfl h
end Go.Proofs.Ythffjnfnfddpdaa
