/- The walk of MeterTells: it returns true for every input. -/
import Derived.Test.YtkheobdkmmbjnaaDoorMeterRef
import Derived.Test.YtkheobdkmmbjnaaDoorMeterRunNo
import Derived.Deep.DeepCutAuto
import Derived.Deep.CutBlock
namespace Go.Proofs.YtkheobdkmmbjnaaDoor
open Go.RowKit
attribute [local go_sem ↓] run_min_mn run_max_mx
theorem below_of_eq {B : Nat} {w w' : World} (h : w = w') : Below B w w' := h ▸ Below.refl _ _
set_option maxHeartbeats 8000000 in
set_option maxRecDepth 100000 in
theorem meterTells_no (c a k r : Int) (A : Option Addr) (cp : Nat) (l : List Int) (w : World) (hi : Ints w w.heap.size A cp l) (hg : Laid w) (no : ¬ MeterOk c a k) :
    Calls Tryd.prog 9 #[.agg #[.int .i64 c, .int .i64 a, .int .i64 k], .int .i64 r, .slice A l.length cp] w fun e w' => e = .returned (.bool true) ∧ Below w.heap.size w w' := by
  have LAID := Lib.hid hg; clear hg
  have HI := Lib.hid hi; clear hi
  have H := Lib.hid no; clear no
  have HNN : Hid (¬ (MeterOk c a k ∧ 1 ≤ r ∧ r ≤ 1000)) := Lib.hid fun h => H.out h.1
  have BEL : Hid (Below w.heap.size w w) := Lib.hid (Below.refl _ _)
  have yB : w.heap.size ≤ w.heap.size := Nat.le_refl _
  go_enter Tryd.func9, Tryd.ntmps9
  go_wp2_with fail
  refine (refMeter_no c a k _ H.out).mono ?_; rintro e w1 ⟨rfl, hb1⟩
  have z_w1 : w.heap.size ≤ w1.heap.size := Nat.le_trans (by first | with_reducible exact Nat.le_refl _ | (simp; done) | (simp; omega) | (simp [World.setCell]; done)) hb1.size
  have HP := Lib.hid (show Blk w1 (w.heap.size) 77 _ from by (with_reducible apply Blk.below (hb := hb1); (repeat (first | (with_reducible apply Blk.new'; first | with_reducible rfl | (focus (simp; done)) | (focus (simp; omega))) | with_reducible apply Blk.set_ | with_reducible apply Blk.far | with_reducible apply Blk.alloc | with_reducible apply Blk.drew | with_reducible apply Blk.drewN | (first | omega | (focus (simp; done)) | (focus (simp; omega)) | (focus (simp [World.setCell]; omega)))))))
  have q_P_w1 : w.heap.size < w1.heap.size := HP.out.lt
  replace BEL : Hid (Below w.heap.size w w1) := Lib.hid (Below.trans (by repeat (first | with_reducible exact BEL.out | with_reducible apply Below.alloc | with_reducible apply Below.setCell | with_reducible apply Below.drew | with_reducible apply below_drewN | (first | omega | (focus (simp; done)) | (focus (simp; omega)) | (focus (simp [World.setCell]; omega))))) (hb1.mono (by (first | omega | (focus (simp; done)) | (focus (simp; omega)) | (focus (simp [World.setCell]; omega))))))
  have y_w1 : w.heap.size ≤ w1.heap.size := BEL.out.size
  clear hb1
  obtain ⟨pP0, pP1, pP2, fP0, fP1, fP2, zP⟩ := HP.out.three
  have zP_1 : w.heap.size < w1.heap.size + 1 := by omega
  have zP_2 : w.heap.size < w1.heap.size + 1 + 1 := by omega
  have zP_3 : w.heap.size < w1.heap.size + 1 + 1 + 1 := by omega
  go_wp2_with fail
  refine (mcheck_no c a k _ H.out).mono ?_; rintro e w' ⟨rfl, rfl⟩
  go_wp2_with fail
  refine (same_hit 1 _ (LAID.out.below (by repeat (first | with_reducible exact BEL.out | with_reducible apply Below.alloc | with_reducible apply Below.setCell | with_reducible apply Below.drew | with_reducible apply below_drewN | (first | omega | (focus (simp; done)) | (focus (simp; omega)) | (focus (simp [World.setCell]; omega))))))).mono ?_; rintro e w2 ⟨rfl, hb2⟩
  have z_w2 : w1.heap.size ≤ w2.heap.size := Nat.le_trans (by first | with_reducible exact Nat.le_refl _ | (simp; done) | (simp; omega) | (simp [World.setCell]; done)) hb2.size
  replace HP := Lib.hid (show Blk w2 (w.heap.size) 77 _ from by (with_reducible apply Blk.below (hb := hb2); (repeat (first | with_reducible exact HP.out | (with_reducible apply Blk.new'; first | with_reducible rfl | (focus (simp; done)) | (focus (simp; omega))) | with_reducible apply Blk.set_ | with_reducible apply Blk.far | with_reducible apply Blk.alloc | with_reducible apply Blk.drew | with_reducible apply Blk.drewN | (first | omega | (focus (simp; done)) | (focus (simp; omega)) | (focus (simp [World.setCell]; omega)))))))
  replace BEL : Hid (Below w.heap.size w w2) := Lib.hid (Below.trans (by repeat (first | with_reducible exact BEL.out | with_reducible apply Below.alloc | with_reducible apply Below.setCell | with_reducible apply Below.drew | with_reducible apply below_drewN | (first | omega | (focus (simp; done)) | (focus (simp; omega)) | (focus (simp [World.setCell]; omega))))) (hb2.mono (by (first | omega | (focus (simp; done)) | (focus (simp; omega)) | (focus (simp [World.setCell]; omega))))))
  have y_w2 : w.heap.size ≤ w2.heap.size := BEL.out.size
  clear hb2
  clear pP0 pP1 pP2 fP0 fP1 fP2 zP zP_1 zP_2 zP_3
  obtain ⟨pP0, pP1, pP2, fP0, fP1, fP2, zP⟩ := HP.out.three
  have zP_1 : w.heap.size < w2.heap.size + 1 := by omega
  have zP_2 : w.heap.size < w2.heap.size + 1 + 1 := by omega
  have zP_3 : w.heap.size < w2.heap.size + 1 + 1 + 1 := by omega
  go_wp2_with fail
  refine (mnext_no c a k r _ HNN.out).mono ?_; rintro e w3 ⟨rfl, hb3⟩
  have z_w3 : w2.heap.size ≤ w3.heap.size := Nat.le_trans (by first | with_reducible exact Nat.le_refl _ | (simp; done) | (simp; omega) | (simp [World.setCell]; done)) hb3.size
  replace HP := Lib.hid (show Blk w3 (w.heap.size) 77 _ from by (with_reducible apply Blk.below (hb := hb3); (repeat (first | with_reducible exact HP.out | (with_reducible apply Blk.new'; first | with_reducible rfl | (focus (simp; done)) | (focus (simp; omega))) | with_reducible apply Blk.set_ | with_reducible apply Blk.far | with_reducible apply Blk.alloc | with_reducible apply Blk.drew | with_reducible apply Blk.drewN | (first | omega | (focus (simp; done)) | (focus (simp; omega)) | (focus (simp [World.setCell]; omega)))))))
  replace BEL : Hid (Below w.heap.size w w3) := Lib.hid (Below.trans (by repeat (first | with_reducible exact BEL.out | with_reducible apply Below.alloc | with_reducible apply Below.setCell | with_reducible apply Below.drew | with_reducible apply below_drewN | (first | omega | (focus (simp; done)) | (focus (simp; omega)) | (focus (simp [World.setCell]; omega))))) (hb3.mono (by (first | omega | (focus (simp; done)) | (focus (simp; omega)) | (focus (simp [World.setCell]; omega))))))
  have y_w3 : w.heap.size ≤ w3.heap.size := BEL.out.size
  clear hb3
  clear pP0 pP1 pP2 fP0 fP1 fP2 zP zP_1 zP_2 zP_3
  obtain ⟨pP0, pP1, pP2, fP0, fP1, fP2, zP⟩ := HP.out.three
  have zP_1 : w.heap.size < w3.heap.size + 1 := by omega
  have zP_2 : w.heap.size < w3.heap.size + 1 + 1 := by omega
  have zP_3 : w.heap.size < w3.heap.size + 1 + 1 + 1 := by omega
  go_wp2_with fail
  refine (same_hit 1 _ (LAID.out.below (by repeat (first | with_reducible exact BEL.out | with_reducible apply Below.alloc | with_reducible apply Below.setCell | with_reducible apply Below.drew | with_reducible apply below_drewN | (first | omega | (focus (simp; done)) | (focus (simp; omega)) | (focus (simp [World.setCell]; omega))))))).mono ?_; rintro e w4 ⟨rfl, hb4⟩
  have z_w4 : w3.heap.size ≤ w4.heap.size := Nat.le_trans (by first | with_reducible exact Nat.le_refl _ | (simp; done) | (simp; omega) | (simp [World.setCell]; done)) hb4.size
  replace HP := Lib.hid (show Blk w4 (w.heap.size) 77 _ from by (with_reducible apply Blk.below (hb := hb4); (repeat (first | with_reducible exact HP.out | (with_reducible apply Blk.new'; first | with_reducible rfl | (focus (simp; done)) | (focus (simp; omega))) | with_reducible apply Blk.set_ | with_reducible apply Blk.far | with_reducible apply Blk.alloc | with_reducible apply Blk.drew | with_reducible apply Blk.drewN | (first | omega | (focus (simp; done)) | (focus (simp; omega)) | (focus (simp [World.setCell]; omega)))))))
  replace BEL : Hid (Below w.heap.size w w4) := Lib.hid (Below.trans (by repeat (first | with_reducible exact BEL.out | with_reducible apply Below.alloc | with_reducible apply Below.setCell | with_reducible apply Below.drew | with_reducible apply below_drewN | (first | omega | (focus (simp; done)) | (focus (simp; omega)) | (focus (simp [World.setCell]; omega))))) (hb4.mono (by (first | omega | (focus (simp; done)) | (focus (simp; omega)) | (focus (simp [World.setCell]; omega))))))
  have y_w4 : w.heap.size ≤ w4.heap.size := BEL.out.size
  clear hb4
  clear pP0 pP1 pP2 fP0 fP1 fP2 zP zP_1 zP_2 zP_3
  obtain ⟨pP0, pP1, pP2, fP0, fP1, fP2, zP⟩ := HP.out.three
  have zP_1 : w.heap.size < w4.heap.size + 1 := by omega
  have zP_2 : w.heap.size < w4.heap.size + 1 + 1 := by omega
  have zP_3 : w.heap.size < w4.heap.size + 1 + 1 + 1 := by omega
  by_cases h0 : 0 < l.length
  · go_wp2_with fail
    refine wp_loop_rounds 1 ?_
    rw [rounds_succ]
    go_wp2_with fail
    refine (mrun_no c a k r A cp l.length _ HNN.out).mono ?_; rintro e w5 ⟨rfl, hb5⟩
    have z_w5 : w4.heap.size ≤ w5.heap.size := Nat.le_trans (by first | with_reducible exact Nat.le_refl _ | (simp; done) | (simp; omega) | (simp [World.setCell]; done)) hb5.size
    replace HP := Lib.hid (show Blk w5 (w.heap.size) 77 _ from by (with_reducible apply Blk.below (hb := hb5); (repeat (first | with_reducible exact HP.out | (with_reducible apply Blk.new'; first | with_reducible rfl | (focus (simp; done)) | (focus (simp; omega))) | with_reducible apply Blk.set_ | with_reducible apply Blk.far | with_reducible apply Blk.alloc | with_reducible apply Blk.drew | with_reducible apply Blk.drewN | (first | omega | (focus (simp; done)) | (focus (simp; omega)) | (focus (simp [World.setCell]; omega)))))))
    replace BEL : Hid (Below w.heap.size w w5) := Lib.hid (Below.trans (by repeat (first | with_reducible exact BEL.out | with_reducible apply Below.alloc | with_reducible apply Below.setCell | with_reducible apply Below.drew | with_reducible apply below_drewN | (first | omega | (focus (simp; done)) | (focus (simp; omega)) | (focus (simp [World.setCell]; omega))))) (hb5.mono (by (first | omega | (focus (simp; done)) | (focus (simp; omega)) | (focus (simp [World.setCell]; omega))))))
    have y_w5 : w.heap.size ≤ w5.heap.size := BEL.out.size
    clear hb5
    clear pP0 pP1 pP2 fP0 fP1 fP2 zP zP_1 zP_2 zP_3
    obtain ⟨pP0, pP1, pP2, fP0, fP1, fP2, zP⟩ := HP.out.three
    have zP_1 : w.heap.size < w5.heap.size + 1 := by omega
    have zP_2 : w.heap.size < w5.heap.size + 1 + 1 := by omega
    have zP_3 : w.heap.size < w5.heap.size + 1 + 1 + 1 := by omega
    go_wp2_with fail
    refine (same_hit 1 _ (LAID.out.below (by repeat (first | with_reducible exact BEL.out | with_reducible apply Below.alloc | with_reducible apply Below.setCell | with_reducible apply Below.drew | with_reducible apply below_drewN | (first | omega | (focus (simp; done)) | (focus (simp; omega)) | (focus (simp [World.setCell]; omega))))))).mono ?_; rintro e w6 ⟨rfl, hb6⟩
    have z_w6 : w5.heap.size ≤ w6.heap.size := Nat.le_trans (by first | with_reducible exact Nat.le_refl _ | (simp; done) | (simp; omega) | (simp [World.setCell]; done)) hb6.size
    replace HP := Lib.hid (show Blk w6 (w.heap.size) 77 _ from by (with_reducible apply Blk.below (hb := hb6); (repeat (first | with_reducible exact HP.out | (with_reducible apply Blk.new'; first | with_reducible rfl | (focus (simp; done)) | (focus (simp; omega))) | with_reducible apply Blk.set_ | with_reducible apply Blk.far | with_reducible apply Blk.alloc | with_reducible apply Blk.drew | with_reducible apply Blk.drewN | (first | omega | (focus (simp; done)) | (focus (simp; omega)) | (focus (simp [World.setCell]; omega)))))))
    replace BEL : Hid (Below w.heap.size w w6) := Lib.hid (Below.trans (by repeat (first | with_reducible exact BEL.out | with_reducible apply Below.alloc | with_reducible apply Below.setCell | with_reducible apply Below.drew | with_reducible apply below_drewN | (first | omega | (focus (simp; done)) | (focus (simp; omega)) | (focus (simp [World.setCell]; omega))))) (hb6.mono (by (first | omega | (focus (simp; done)) | (focus (simp; omega)) | (focus (simp [World.setCell]; omega))))))
    have y_w6 : w.heap.size ≤ w6.heap.size := BEL.out.size
    clear hb6
    clear pP0 pP1 pP2 fP0 fP1 fP2 zP zP_1 zP_2 zP_3
    obtain ⟨pP0, pP1, pP2, fP0, fP1, fP2, zP⟩ := HP.out.three
    have zP_1 : w.heap.size < w6.heap.size + 1 := by omega
    have zP_2 : w.heap.size < w6.heap.size + 1 + 1 := by omega
    have zP_3 : w.heap.size < w6.heap.size + 1 + 1 + 1 := by omega
    go_wp2_with fail
    refine (sameInts_nil _).mono ?_; rintro e w7 ⟨rfl, hb7⟩
    have z_w7 : w6.heap.size ≤ w7.heap.size := Nat.le_trans (by first | with_reducible exact Nat.le_refl _ | (simp; done) | (simp; omega) | (simp [World.setCell]; done)) hb7.size
    replace HP := Lib.hid (show Blk w7 (w.heap.size) 77 _ from by (with_reducible apply Blk.below (hb := hb7); (repeat (first | with_reducible exact HP.out | (with_reducible apply Blk.new'; first | with_reducible rfl | (focus (simp; done)) | (focus (simp; omega))) | with_reducible apply Blk.set_ | with_reducible apply Blk.far | with_reducible apply Blk.alloc | with_reducible apply Blk.drew | with_reducible apply Blk.drewN | (first | omega | (focus (simp; done)) | (focus (simp; omega)) | (focus (simp [World.setCell]; omega)))))))
    replace BEL : Hid (Below w.heap.size w w7) := Lib.hid (Below.trans (by repeat (first | with_reducible exact BEL.out | with_reducible apply Below.alloc | with_reducible apply Below.setCell | with_reducible apply Below.drew | with_reducible apply below_drewN | (first | omega | (focus (simp; done)) | (focus (simp; omega)) | (focus (simp [World.setCell]; omega))))) (hb7.mono (by (first | omega | (focus (simp; done)) | (focus (simp; omega)) | (focus (simp [World.setCell]; omega))))))
    have y_w7 : w.heap.size ≤ w7.heap.size := BEL.out.size
    clear hb7
    clear pP0 pP1 pP2 fP0 fP1 fP2 zP zP_1 zP_2 zP_3
    obtain ⟨pP0, pP1, pP2, fP0, fP1, fP2, zP⟩ := HP.out.three
    have zP_1 : w.heap.size < w7.heap.size + 1 := by omega
    have zP_2 : w.heap.size < w7.heap.size + 1 + 1 := by omega
    have zP_3 : w.heap.size < w7.heap.size + 1 + 1 + 1 := by omega
    go_wp2
    go_ret
    exact ⟨rfl, (by repeat (first | with_reducible exact BEL.out | with_reducible apply Below.alloc | with_reducible apply Below.setCell | with_reducible apply Below.drew | with_reducible apply below_drewN | (first | omega | (focus (simp; done)) | (focus (simp; omega)) | (focus (simp [World.setCell]; omega)))))⟩
  · go_wp2_with fail
    refine wp_loop_rounds 1 ?_
    rw [rounds_succ]
    go_wp2_with fail
    refine (mrun_no c a k r A cp l.length _ HNN.out).mono ?_; rintro e w5 ⟨rfl, hb5⟩
    have z_w5 : w4.heap.size ≤ w5.heap.size := Nat.le_trans (by first | with_reducible exact Nat.le_refl _ | (simp; done) | (simp; omega) | (simp [World.setCell]; done)) hb5.size
    replace HP := Lib.hid (show Blk w5 (w.heap.size) 77 _ from by (with_reducible apply Blk.below (hb := hb5); (repeat (first | with_reducible exact HP.out | (with_reducible apply Blk.new'; first | with_reducible rfl | (focus (simp; done)) | (focus (simp; omega))) | with_reducible apply Blk.set_ | with_reducible apply Blk.far | with_reducible apply Blk.alloc | with_reducible apply Blk.drew | with_reducible apply Blk.drewN | (first | omega | (focus (simp; done)) | (focus (simp; omega)) | (focus (simp [World.setCell]; omega)))))))
    replace BEL : Hid (Below w.heap.size w w5) := Lib.hid (Below.trans (by repeat (first | with_reducible exact BEL.out | with_reducible apply Below.alloc | with_reducible apply Below.setCell | with_reducible apply Below.drew | with_reducible apply below_drewN | (first | omega | (focus (simp; done)) | (focus (simp; omega)) | (focus (simp [World.setCell]; omega))))) (hb5.mono (by (first | omega | (focus (simp; done)) | (focus (simp; omega)) | (focus (simp [World.setCell]; omega))))))
    have y_w5 : w.heap.size ≤ w5.heap.size := BEL.out.size
    clear hb5
    clear pP0 pP1 pP2 fP0 fP1 fP2 zP zP_1 zP_2 zP_3
    obtain ⟨pP0, pP1, pP2, fP0, fP1, fP2, zP⟩ := HP.out.three
    have zP_1 : w.heap.size < w5.heap.size + 1 := by omega
    have zP_2 : w.heap.size < w5.heap.size + 1 + 1 := by omega
    have zP_3 : w.heap.size < w5.heap.size + 1 + 1 + 1 := by omega
    go_wp2_with fail
    refine (same_hit 1 _ (LAID.out.below (by repeat (first | with_reducible exact BEL.out | with_reducible apply Below.alloc | with_reducible apply Below.setCell | with_reducible apply Below.drew | with_reducible apply below_drewN | (first | omega | (focus (simp; done)) | (focus (simp; omega)) | (focus (simp [World.setCell]; omega))))))).mono ?_; rintro e w6 ⟨rfl, hb6⟩
    have z_w6 : w5.heap.size ≤ w6.heap.size := Nat.le_trans (by first | with_reducible exact Nat.le_refl _ | (simp; done) | (simp; omega) | (simp [World.setCell]; done)) hb6.size
    replace HP := Lib.hid (show Blk w6 (w.heap.size) 77 _ from by (with_reducible apply Blk.below (hb := hb6); (repeat (first | with_reducible exact HP.out | (with_reducible apply Blk.new'; first | with_reducible rfl | (focus (simp; done)) | (focus (simp; omega))) | with_reducible apply Blk.set_ | with_reducible apply Blk.far | with_reducible apply Blk.alloc | with_reducible apply Blk.drew | with_reducible apply Blk.drewN | (first | omega | (focus (simp; done)) | (focus (simp; omega)) | (focus (simp [World.setCell]; omega)))))))
    replace BEL : Hid (Below w.heap.size w w6) := Lib.hid (Below.trans (by repeat (first | with_reducible exact BEL.out | with_reducible apply Below.alloc | with_reducible apply Below.setCell | with_reducible apply Below.drew | with_reducible apply below_drewN | (first | omega | (focus (simp; done)) | (focus (simp; omega)) | (focus (simp [World.setCell]; omega))))) (hb6.mono (by (first | omega | (focus (simp; done)) | (focus (simp; omega)) | (focus (simp [World.setCell]; omega))))))
    have y_w6 : w.heap.size ≤ w6.heap.size := BEL.out.size
    clear hb6
    clear pP0 pP1 pP2 fP0 fP1 fP2 zP zP_1 zP_2 zP_3
    obtain ⟨pP0, pP1, pP2, fP0, fP1, fP2, zP⟩ := HP.out.three
    have zP_1 : w.heap.size < w6.heap.size + 1 := by omega
    have zP_2 : w.heap.size < w6.heap.size + 1 + 1 := by omega
    have zP_3 : w.heap.size < w6.heap.size + 1 + 1 + 1 := by omega
    go_wp2_with fail
    refine (sameInts_nil _).mono ?_; rintro e w7 ⟨rfl, hb7⟩
    have z_w7 : w6.heap.size ≤ w7.heap.size := Nat.le_trans (by first | with_reducible exact Nat.le_refl _ | (simp; done) | (simp; omega) | (simp [World.setCell]; done)) hb7.size
    replace HP := Lib.hid (show Blk w7 (w.heap.size) 77 _ from by (with_reducible apply Blk.below (hb := hb7); (repeat (first | with_reducible exact HP.out | (with_reducible apply Blk.new'; first | with_reducible rfl | (focus (simp; done)) | (focus (simp; omega))) | with_reducible apply Blk.set_ | with_reducible apply Blk.far | with_reducible apply Blk.alloc | with_reducible apply Blk.drew | with_reducible apply Blk.drewN | (first | omega | (focus (simp; done)) | (focus (simp; omega)) | (focus (simp [World.setCell]; omega)))))))
    replace BEL : Hid (Below w.heap.size w w7) := Lib.hid (Below.trans (by repeat (first | with_reducible exact BEL.out | with_reducible apply Below.alloc | with_reducible apply Below.setCell | with_reducible apply Below.drew | with_reducible apply below_drewN | (first | omega | (focus (simp; done)) | (focus (simp; omega)) | (focus (simp [World.setCell]; omega))))) (hb7.mono (by (first | omega | (focus (simp; done)) | (focus (simp; omega)) | (focus (simp [World.setCell]; omega))))))
    have y_w7 : w.heap.size ≤ w7.heap.size := BEL.out.size
    clear hb7
    clear pP0 pP1 pP2 fP0 fP1 fP2 zP zP_1 zP_2 zP_3
    obtain ⟨pP0, pP1, pP2, fP0, fP1, fP2, zP⟩ := HP.out.three
    have zP_1 : w.heap.size < w7.heap.size + 1 := by omega
    have zP_2 : w.heap.size < w7.heap.size + 1 + 1 := by omega
    have zP_3 : w.heap.size < w7.heap.size + 1 + 1 + 1 := by omega
    go_wp2
    go_ret
    exact ⟨rfl, (by repeat (first | with_reducible exact BEL.out | with_reducible apply Below.alloc | with_reducible apply Below.setCell | with_reducible apply Below.drew | with_reducible apply below_drewN | (first | omega | (focus (simp; done)) | (focus (simp; omega)) | (focus (simp [World.setCell]; omega)))))⟩
set_option maxHeartbeats 8000000 in
set_option maxRecDepth 100000 in
theorem meterTells_lo (c a k r : Int) (A : Option Addr) (cp : Nat) (l : List Int) (w : World) (hi : Ints w w.heap.size A cp l) (hg : Laid w) (ok : MeterOk c a k) (hr : r < 1) :
    Calls Tryd.prog 9 #[.agg #[.int .i64 c, .int .i64 a, .int .i64 k], .int .i64 r, .slice A l.length cp] w fun e w' => e = .returned (.bool true) ∧ Below w.heap.size w w' := by
  have LAID := Lib.hid hg; clear hg
  have HI := Lib.hid hi; clear hi
  have H := Lib.hid ok; clear ok
  have HNN : Hid (¬ (MeterOk c a k ∧ 1 ≤ r ∧ r ≤ 1000)) := Lib.hid fun h => by omega
  have BEL : Hid (Below w.heap.size w w) := Lib.hid (Below.refl _ _)
  have yB : w.heap.size ≤ w.heap.size := Nat.le_refl _
  go_enter Tryd.func9, Tryd.ntmps9
  go_wp2_with fail
  refine (refMeter_yes c a k _ H.out).mono ?_; rintro e w1 ⟨rfl, hb1⟩
  have z_w1 : w.heap.size ≤ w1.heap.size := Nat.le_trans (by first | with_reducible exact Nat.le_refl _ | (simp; done) | (simp; omega) | (simp [World.setCell]; done)) hb1.size
  have HP := Lib.hid (show Blk w1 (w.heap.size) 77 _ from by (with_reducible apply Blk.below (hb := hb1); (repeat (first | (with_reducible apply Blk.new'; first | with_reducible rfl | (focus (simp; done)) | (focus (simp; omega))) | with_reducible apply Blk.set_ | with_reducible apply Blk.far | with_reducible apply Blk.alloc | with_reducible apply Blk.drew | with_reducible apply Blk.drewN | (first | omega | (focus (simp; done)) | (focus (simp; omega)) | (focus (simp [World.setCell]; omega)))))))
  have q_P_w1 : w.heap.size < w1.heap.size := HP.out.lt
  replace BEL : Hid (Below w.heap.size w w1) := Lib.hid (Below.trans (by repeat (first | with_reducible exact BEL.out | with_reducible apply Below.alloc | with_reducible apply Below.setCell | with_reducible apply Below.drew | with_reducible apply below_drewN | (first | omega | (focus (simp; done)) | (focus (simp; omega)) | (focus (simp [World.setCell]; omega))))) (hb1.mono (by (first | omega | (focus (simp; done)) | (focus (simp; omega)) | (focus (simp [World.setCell]; omega))))))
  have y_w1 : w.heap.size ≤ w1.heap.size := BEL.out.size
  clear hb1
  obtain ⟨pP0, pP1, pP2, fP0, fP1, fP2, zP⟩ := HP.out.three
  have zP_1 : w.heap.size < w1.heap.size + 1 := by omega
  have zP_2 : w.heap.size < w1.heap.size + 1 + 1 := by omega
  have zP_3 : w.heap.size < w1.heap.size + 1 + 1 + 1 := by omega
  go_wp2_with fail
  refine (mcheck_yes c a k _ H.out).mono ?_; rintro e w' ⟨rfl, rfl⟩
  go_wp2_with fail
  refine (same_ok _).mono ?_; rintro e w2 ⟨rfl, hb2⟩
  have z_w2 : w1.heap.size ≤ w2.heap.size := Nat.le_trans (by first | with_reducible exact Nat.le_refl _ | (simp; done) | (simp; omega) | (simp [World.setCell]; done)) hb2.size
  replace HP := Lib.hid (show Blk w2 (w.heap.size) 77 _ from by (with_reducible apply Blk.below (hb := hb2); (repeat (first | with_reducible exact HP.out | (with_reducible apply Blk.new'; first | with_reducible rfl | (focus (simp; done)) | (focus (simp; omega))) | with_reducible apply Blk.set_ | with_reducible apply Blk.far | with_reducible apply Blk.alloc | with_reducible apply Blk.drew | with_reducible apply Blk.drewN | (first | omega | (focus (simp; done)) | (focus (simp; omega)) | (focus (simp [World.setCell]; omega)))))))
  replace BEL : Hid (Below w.heap.size w w2) := Lib.hid (Below.trans (by repeat (first | with_reducible exact BEL.out | with_reducible apply Below.alloc | with_reducible apply Below.setCell | with_reducible apply Below.drew | with_reducible apply below_drewN | (first | omega | (focus (simp; done)) | (focus (simp; omega)) | (focus (simp [World.setCell]; omega))))) (hb2.mono (by (first | omega | (focus (simp; done)) | (focus (simp; omega)) | (focus (simp [World.setCell]; omega))))))
  have y_w2 : w.heap.size ≤ w2.heap.size := BEL.out.size
  clear hb2
  clear pP0 pP1 pP2 fP0 fP1 fP2 zP zP_1 zP_2 zP_3
  obtain ⟨pP0, pP1, pP2, fP0, fP1, fP2, zP⟩ := HP.out.three
  have zP_1 : w.heap.size < w2.heap.size + 1 := by omega
  have zP_2 : w.heap.size < w2.heap.size + 1 + 1 := by omega
  have zP_3 : w.heap.size < w2.heap.size + 1 + 1 + 1 := by omega
  go_wp2_with fail
  refine (mnext_no c a k r _ HNN.out).mono ?_; rintro e w3 ⟨rfl, hb3⟩
  have z_w3 : w2.heap.size ≤ w3.heap.size := Nat.le_trans (by first | with_reducible exact Nat.le_refl _ | (simp; done) | (simp; omega) | (simp [World.setCell]; done)) hb3.size
  replace HP := Lib.hid (show Blk w3 (w.heap.size) 77 _ from by (with_reducible apply Blk.below (hb := hb3); (repeat (first | with_reducible exact HP.out | (with_reducible apply Blk.new'; first | with_reducible rfl | (focus (simp; done)) | (focus (simp; omega))) | with_reducible apply Blk.set_ | with_reducible apply Blk.far | with_reducible apply Blk.alloc | with_reducible apply Blk.drew | with_reducible apply Blk.drewN | (first | omega | (focus (simp; done)) | (focus (simp; omega)) | (focus (simp [World.setCell]; omega)))))))
  replace BEL : Hid (Below w.heap.size w w3) := Lib.hid (Below.trans (by repeat (first | with_reducible exact BEL.out | with_reducible apply Below.alloc | with_reducible apply Below.setCell | with_reducible apply Below.drew | with_reducible apply below_drewN | (first | omega | (focus (simp; done)) | (focus (simp; omega)) | (focus (simp [World.setCell]; omega))))) (hb3.mono (by (first | omega | (focus (simp; done)) | (focus (simp; omega)) | (focus (simp [World.setCell]; omega))))))
  have y_w3 : w.heap.size ≤ w3.heap.size := BEL.out.size
  clear hb3
  clear pP0 pP1 pP2 fP0 fP1 fP2 zP zP_1 zP_2 zP_3
  obtain ⟨pP0, pP1, pP2, fP0, fP1, fP2, zP⟩ := HP.out.three
  have zP_1 : w.heap.size < w3.heap.size + 1 := by omega
  have zP_2 : w.heap.size < w3.heap.size + 1 + 1 := by omega
  have zP_3 : w.heap.size < w3.heap.size + 1 + 1 + 1 := by omega
  go_wp2_with fail
  refine (same_hit 1 _ (LAID.out.below (by repeat (first | with_reducible exact BEL.out | with_reducible apply Below.alloc | with_reducible apply Below.setCell | with_reducible apply Below.drew | with_reducible apply below_drewN | (first | omega | (focus (simp; done)) | (focus (simp; omega)) | (focus (simp [World.setCell]; omega))))))).mono ?_; rintro e w4 ⟨rfl, hb4⟩
  have z_w4 : w3.heap.size ≤ w4.heap.size := Nat.le_trans (by first | with_reducible exact Nat.le_refl _ | (simp; done) | (simp; omega) | (simp [World.setCell]; done)) hb4.size
  replace HP := Lib.hid (show Blk w4 (w.heap.size) 77 _ from by (with_reducible apply Blk.below (hb := hb4); (repeat (first | with_reducible exact HP.out | (with_reducible apply Blk.new'; first | with_reducible rfl | (focus (simp; done)) | (focus (simp; omega))) | with_reducible apply Blk.set_ | with_reducible apply Blk.far | with_reducible apply Blk.alloc | with_reducible apply Blk.drew | with_reducible apply Blk.drewN | (first | omega | (focus (simp; done)) | (focus (simp; omega)) | (focus (simp [World.setCell]; omega)))))))
  replace BEL : Hid (Below w.heap.size w w4) := Lib.hid (Below.trans (by repeat (first | with_reducible exact BEL.out | with_reducible apply Below.alloc | with_reducible apply Below.setCell | with_reducible apply Below.drew | with_reducible apply below_drewN | (first | omega | (focus (simp; done)) | (focus (simp; omega)) | (focus (simp [World.setCell]; omega))))) (hb4.mono (by (first | omega | (focus (simp; done)) | (focus (simp; omega)) | (focus (simp [World.setCell]; omega))))))
  have y_w4 : w.heap.size ≤ w4.heap.size := BEL.out.size
  clear hb4
  clear pP0 pP1 pP2 fP0 fP1 fP2 zP zP_1 zP_2 zP_3
  obtain ⟨pP0, pP1, pP2, fP0, fP1, fP2, zP⟩ := HP.out.three
  have zP_1 : w.heap.size < w4.heap.size + 1 := by omega
  have zP_2 : w.heap.size < w4.heap.size + 1 + 1 := by omega
  have zP_3 : w.heap.size < w4.heap.size + 1 + 1 + 1 := by omega
  by_cases h0 : 0 < l.length
  · go_wp2_with fail
    refine wp_loop_rounds 1 ?_
    rw [rounds_succ]
    go_wp2_with fail
    refine (mrun_no c a k r A cp l.length _ HNN.out).mono ?_; rintro e w5 ⟨rfl, hb5⟩
    have z_w5 : w4.heap.size ≤ w5.heap.size := Nat.le_trans (by first | with_reducible exact Nat.le_refl _ | (simp; done) | (simp; omega) | (simp [World.setCell]; done)) hb5.size
    replace HP := Lib.hid (show Blk w5 (w.heap.size) 77 _ from by (with_reducible apply Blk.below (hb := hb5); (repeat (first | with_reducible exact HP.out | (with_reducible apply Blk.new'; first | with_reducible rfl | (focus (simp; done)) | (focus (simp; omega))) | with_reducible apply Blk.set_ | with_reducible apply Blk.far | with_reducible apply Blk.alloc | with_reducible apply Blk.drew | with_reducible apply Blk.drewN | (first | omega | (focus (simp; done)) | (focus (simp; omega)) | (focus (simp [World.setCell]; omega)))))))
    replace BEL : Hid (Below w.heap.size w w5) := Lib.hid (Below.trans (by repeat (first | with_reducible exact BEL.out | with_reducible apply Below.alloc | with_reducible apply Below.setCell | with_reducible apply Below.drew | with_reducible apply below_drewN | (first | omega | (focus (simp; done)) | (focus (simp; omega)) | (focus (simp [World.setCell]; omega))))) (hb5.mono (by (first | omega | (focus (simp; done)) | (focus (simp; omega)) | (focus (simp [World.setCell]; omega))))))
    have y_w5 : w.heap.size ≤ w5.heap.size := BEL.out.size
    clear hb5
    clear pP0 pP1 pP2 fP0 fP1 fP2 zP zP_1 zP_2 zP_3
    obtain ⟨pP0, pP1, pP2, fP0, fP1, fP2, zP⟩ := HP.out.three
    have zP_1 : w.heap.size < w5.heap.size + 1 := by omega
    have zP_2 : w.heap.size < w5.heap.size + 1 + 1 := by omega
    have zP_3 : w.heap.size < w5.heap.size + 1 + 1 + 1 := by omega
    go_wp2_with fail
    refine (same_hit 1 _ (LAID.out.below (by repeat (first | with_reducible exact BEL.out | with_reducible apply Below.alloc | with_reducible apply Below.setCell | with_reducible apply Below.drew | with_reducible apply below_drewN | (first | omega | (focus (simp; done)) | (focus (simp; omega)) | (focus (simp [World.setCell]; omega))))))).mono ?_; rintro e w6 ⟨rfl, hb6⟩
    have z_w6 : w5.heap.size ≤ w6.heap.size := Nat.le_trans (by first | with_reducible exact Nat.le_refl _ | (simp; done) | (simp; omega) | (simp [World.setCell]; done)) hb6.size
    replace HP := Lib.hid (show Blk w6 (w.heap.size) 77 _ from by (with_reducible apply Blk.below (hb := hb6); (repeat (first | with_reducible exact HP.out | (with_reducible apply Blk.new'; first | with_reducible rfl | (focus (simp; done)) | (focus (simp; omega))) | with_reducible apply Blk.set_ | with_reducible apply Blk.far | with_reducible apply Blk.alloc | with_reducible apply Blk.drew | with_reducible apply Blk.drewN | (first | omega | (focus (simp; done)) | (focus (simp; omega)) | (focus (simp [World.setCell]; omega)))))))
    replace BEL : Hid (Below w.heap.size w w6) := Lib.hid (Below.trans (by repeat (first | with_reducible exact BEL.out | with_reducible apply Below.alloc | with_reducible apply Below.setCell | with_reducible apply Below.drew | with_reducible apply below_drewN | (first | omega | (focus (simp; done)) | (focus (simp; omega)) | (focus (simp [World.setCell]; omega))))) (hb6.mono (by (first | omega | (focus (simp; done)) | (focus (simp; omega)) | (focus (simp [World.setCell]; omega))))))
    have y_w6 : w.heap.size ≤ w6.heap.size := BEL.out.size
    clear hb6
    clear pP0 pP1 pP2 fP0 fP1 fP2 zP zP_1 zP_2 zP_3
    obtain ⟨pP0, pP1, pP2, fP0, fP1, fP2, zP⟩ := HP.out.three
    have zP_1 : w.heap.size < w6.heap.size + 1 := by omega
    have zP_2 : w.heap.size < w6.heap.size + 1 + 1 := by omega
    have zP_3 : w.heap.size < w6.heap.size + 1 + 1 + 1 := by omega
    go_wp2_with fail
    refine (sameInts_nil _).mono ?_; rintro e w7 ⟨rfl, hb7⟩
    have z_w7 : w6.heap.size ≤ w7.heap.size := Nat.le_trans (by first | with_reducible exact Nat.le_refl _ | (simp; done) | (simp; omega) | (simp [World.setCell]; done)) hb7.size
    replace HP := Lib.hid (show Blk w7 (w.heap.size) 77 _ from by (with_reducible apply Blk.below (hb := hb7); (repeat (first | with_reducible exact HP.out | (with_reducible apply Blk.new'; first | with_reducible rfl | (focus (simp; done)) | (focus (simp; omega))) | with_reducible apply Blk.set_ | with_reducible apply Blk.far | with_reducible apply Blk.alloc | with_reducible apply Blk.drew | with_reducible apply Blk.drewN | (first | omega | (focus (simp; done)) | (focus (simp; omega)) | (focus (simp [World.setCell]; omega)))))))
    replace BEL : Hid (Below w.heap.size w w7) := Lib.hid (Below.trans (by repeat (first | with_reducible exact BEL.out | with_reducible apply Below.alloc | with_reducible apply Below.setCell | with_reducible apply Below.drew | with_reducible apply below_drewN | (first | omega | (focus (simp; done)) | (focus (simp; omega)) | (focus (simp [World.setCell]; omega))))) (hb7.mono (by (first | omega | (focus (simp; done)) | (focus (simp; omega)) | (focus (simp [World.setCell]; omega))))))
    have y_w7 : w.heap.size ≤ w7.heap.size := BEL.out.size
    clear hb7
    clear pP0 pP1 pP2 fP0 fP1 fP2 zP zP_1 zP_2 zP_3
    obtain ⟨pP0, pP1, pP2, fP0, fP1, fP2, zP⟩ := HP.out.three
    have zP_1 : w.heap.size < w7.heap.size + 1 := by omega
    have zP_2 : w.heap.size < w7.heap.size + 1 + 1 := by omega
    have zP_3 : w.heap.size < w7.heap.size + 1 + 1 + 1 := by omega
    go_wp2
    go_ret
    exact ⟨rfl, (by repeat (first | with_reducible exact BEL.out | with_reducible apply Below.alloc | with_reducible apply Below.setCell | with_reducible apply Below.drew | with_reducible apply below_drewN | (first | omega | (focus (simp; done)) | (focus (simp; omega)) | (focus (simp [World.setCell]; omega)))))⟩
  · go_wp2_with fail
    refine wp_loop_rounds 1 ?_
    rw [rounds_succ]
    go_wp2_with fail
    refine (mrun_no c a k r A cp l.length _ HNN.out).mono ?_; rintro e w5 ⟨rfl, hb5⟩
    have z_w5 : w4.heap.size ≤ w5.heap.size := Nat.le_trans (by first | with_reducible exact Nat.le_refl _ | (simp; done) | (simp; omega) | (simp [World.setCell]; done)) hb5.size
    replace HP := Lib.hid (show Blk w5 (w.heap.size) 77 _ from by (with_reducible apply Blk.below (hb := hb5); (repeat (first | with_reducible exact HP.out | (with_reducible apply Blk.new'; first | with_reducible rfl | (focus (simp; done)) | (focus (simp; omega))) | with_reducible apply Blk.set_ | with_reducible apply Blk.far | with_reducible apply Blk.alloc | with_reducible apply Blk.drew | with_reducible apply Blk.drewN | (first | omega | (focus (simp; done)) | (focus (simp; omega)) | (focus (simp [World.setCell]; omega)))))))
    replace BEL : Hid (Below w.heap.size w w5) := Lib.hid (Below.trans (by repeat (first | with_reducible exact BEL.out | with_reducible apply Below.alloc | with_reducible apply Below.setCell | with_reducible apply Below.drew | with_reducible apply below_drewN | (first | omega | (focus (simp; done)) | (focus (simp; omega)) | (focus (simp [World.setCell]; omega))))) (hb5.mono (by (first | omega | (focus (simp; done)) | (focus (simp; omega)) | (focus (simp [World.setCell]; omega))))))
    have y_w5 : w.heap.size ≤ w5.heap.size := BEL.out.size
    clear hb5
    clear pP0 pP1 pP2 fP0 fP1 fP2 zP zP_1 zP_2 zP_3
    obtain ⟨pP0, pP1, pP2, fP0, fP1, fP2, zP⟩ := HP.out.three
    have zP_1 : w.heap.size < w5.heap.size + 1 := by omega
    have zP_2 : w.heap.size < w5.heap.size + 1 + 1 := by omega
    have zP_3 : w.heap.size < w5.heap.size + 1 + 1 + 1 := by omega
    go_wp2_with fail
    refine (same_hit 1 _ (LAID.out.below (by repeat (first | with_reducible exact BEL.out | with_reducible apply Below.alloc | with_reducible apply Below.setCell | with_reducible apply Below.drew | with_reducible apply below_drewN | (first | omega | (focus (simp; done)) | (focus (simp; omega)) | (focus (simp [World.setCell]; omega))))))).mono ?_; rintro e w6 ⟨rfl, hb6⟩
    have z_w6 : w5.heap.size ≤ w6.heap.size := Nat.le_trans (by first | with_reducible exact Nat.le_refl _ | (simp; done) | (simp; omega) | (simp [World.setCell]; done)) hb6.size
    replace HP := Lib.hid (show Blk w6 (w.heap.size) 77 _ from by (with_reducible apply Blk.below (hb := hb6); (repeat (first | with_reducible exact HP.out | (with_reducible apply Blk.new'; first | with_reducible rfl | (focus (simp; done)) | (focus (simp; omega))) | with_reducible apply Blk.set_ | with_reducible apply Blk.far | with_reducible apply Blk.alloc | with_reducible apply Blk.drew | with_reducible apply Blk.drewN | (first | omega | (focus (simp; done)) | (focus (simp; omega)) | (focus (simp [World.setCell]; omega)))))))
    replace BEL : Hid (Below w.heap.size w w6) := Lib.hid (Below.trans (by repeat (first | with_reducible exact BEL.out | with_reducible apply Below.alloc | with_reducible apply Below.setCell | with_reducible apply Below.drew | with_reducible apply below_drewN | (first | omega | (focus (simp; done)) | (focus (simp; omega)) | (focus (simp [World.setCell]; omega))))) (hb6.mono (by (first | omega | (focus (simp; done)) | (focus (simp; omega)) | (focus (simp [World.setCell]; omega))))))
    have y_w6 : w.heap.size ≤ w6.heap.size := BEL.out.size
    clear hb6
    clear pP0 pP1 pP2 fP0 fP1 fP2 zP zP_1 zP_2 zP_3
    obtain ⟨pP0, pP1, pP2, fP0, fP1, fP2, zP⟩ := HP.out.three
    have zP_1 : w.heap.size < w6.heap.size + 1 := by omega
    have zP_2 : w.heap.size < w6.heap.size + 1 + 1 := by omega
    have zP_3 : w.heap.size < w6.heap.size + 1 + 1 + 1 := by omega
    go_wp2_with fail
    refine (sameInts_nil _).mono ?_; rintro e w7 ⟨rfl, hb7⟩
    have z_w7 : w6.heap.size ≤ w7.heap.size := Nat.le_trans (by first | with_reducible exact Nat.le_refl _ | (simp; done) | (simp; omega) | (simp [World.setCell]; done)) hb7.size
    replace HP := Lib.hid (show Blk w7 (w.heap.size) 77 _ from by (with_reducible apply Blk.below (hb := hb7); (repeat (first | with_reducible exact HP.out | (with_reducible apply Blk.new'; first | with_reducible rfl | (focus (simp; done)) | (focus (simp; omega))) | with_reducible apply Blk.set_ | with_reducible apply Blk.far | with_reducible apply Blk.alloc | with_reducible apply Blk.drew | with_reducible apply Blk.drewN | (first | omega | (focus (simp; done)) | (focus (simp; omega)) | (focus (simp [World.setCell]; omega)))))))
    replace BEL : Hid (Below w.heap.size w w7) := Lib.hid (Below.trans (by repeat (first | with_reducible exact BEL.out | with_reducible apply Below.alloc | with_reducible apply Below.setCell | with_reducible apply Below.drew | with_reducible apply below_drewN | (first | omega | (focus (simp; done)) | (focus (simp; omega)) | (focus (simp [World.setCell]; omega))))) (hb7.mono (by (first | omega | (focus (simp; done)) | (focus (simp; omega)) | (focus (simp [World.setCell]; omega))))))
    have y_w7 : w.heap.size ≤ w7.heap.size := BEL.out.size
    clear hb7
    clear pP0 pP1 pP2 fP0 fP1 fP2 zP zP_1 zP_2 zP_3
    obtain ⟨pP0, pP1, pP2, fP0, fP1, fP2, zP⟩ := HP.out.three
    have zP_1 : w.heap.size < w7.heap.size + 1 := by omega
    have zP_2 : w.heap.size < w7.heap.size + 1 + 1 := by omega
    have zP_3 : w.heap.size < w7.heap.size + 1 + 1 + 1 := by omega
    go_wp2
    go_ret
    exact ⟨rfl, (by repeat (first | with_reducible exact BEL.out | with_reducible apply Below.alloc | with_reducible apply Below.setCell | with_reducible apply Below.drew | with_reducible apply below_drewN | (first | omega | (focus (simp; done)) | (focus (simp; omega)) | (focus (simp [World.setCell]; omega)))))⟩
set_option maxHeartbeats 8000000 in
set_option maxRecDepth 100000 in
theorem meterTells_hi (c a k r : Int) (A : Option Addr) (cp : Nat) (l : List Int) (w : World) (hi : Ints w w.heap.size A cp l) (hg : Laid w) (ok : MeterOk c a k) (hr0 : 1 ≤ r) (hr : 1000 < r) :
    Calls Tryd.prog 9 #[.agg #[.int .i64 c, .int .i64 a, .int .i64 k], .int .i64 r, .slice A l.length cp] w fun e w' => e = .returned (.bool true) ∧ Below w.heap.size w w' := by
  have LAID := Lib.hid hg; clear hg
  have HI := Lib.hid hi; clear hi
  have H := Lib.hid ok; clear ok
  have HNN : Hid (¬ (MeterOk c a k ∧ 1 ≤ r ∧ r ≤ 1000)) := Lib.hid fun h => by omega
  have BEL : Hid (Below w.heap.size w w) := Lib.hid (Below.refl _ _)
  have yB : w.heap.size ≤ w.heap.size := Nat.le_refl _
  go_enter Tryd.func9, Tryd.ntmps9
  go_wp2_with fail
  refine (refMeter_yes c a k _ H.out).mono ?_; rintro e w1 ⟨rfl, hb1⟩
  have z_w1 : w.heap.size ≤ w1.heap.size := Nat.le_trans (by first | with_reducible exact Nat.le_refl _ | (simp; done) | (simp; omega) | (simp [World.setCell]; done)) hb1.size
  have HP := Lib.hid (show Blk w1 (w.heap.size) 77 _ from by (with_reducible apply Blk.below (hb := hb1); (repeat (first | (with_reducible apply Blk.new'; first | with_reducible rfl | (focus (simp; done)) | (focus (simp; omega))) | with_reducible apply Blk.set_ | with_reducible apply Blk.far | with_reducible apply Blk.alloc | with_reducible apply Blk.drew | with_reducible apply Blk.drewN | (first | omega | (focus (simp; done)) | (focus (simp; omega)) | (focus (simp [World.setCell]; omega)))))))
  have q_P_w1 : w.heap.size < w1.heap.size := HP.out.lt
  replace BEL : Hid (Below w.heap.size w w1) := Lib.hid (Below.trans (by repeat (first | with_reducible exact BEL.out | with_reducible apply Below.alloc | with_reducible apply Below.setCell | with_reducible apply Below.drew | with_reducible apply below_drewN | (first | omega | (focus (simp; done)) | (focus (simp; omega)) | (focus (simp [World.setCell]; omega))))) (hb1.mono (by (first | omega | (focus (simp; done)) | (focus (simp; omega)) | (focus (simp [World.setCell]; omega))))))
  have y_w1 : w.heap.size ≤ w1.heap.size := BEL.out.size
  clear hb1
  obtain ⟨pP0, pP1, pP2, fP0, fP1, fP2, zP⟩ := HP.out.three
  have zP_1 : w.heap.size < w1.heap.size + 1 := by omega
  have zP_2 : w.heap.size < w1.heap.size + 1 + 1 := by omega
  have zP_3 : w.heap.size < w1.heap.size + 1 + 1 + 1 := by omega
  go_wp2_with fail
  refine (mcheck_yes c a k _ H.out).mono ?_; rintro e w' ⟨rfl, rfl⟩
  go_wp2_with fail
  refine (same_ok _).mono ?_; rintro e w2 ⟨rfl, hb2⟩
  have z_w2 : w1.heap.size ≤ w2.heap.size := Nat.le_trans (by first | with_reducible exact Nat.le_refl _ | (simp; done) | (simp; omega) | (simp [World.setCell]; done)) hb2.size
  replace HP := Lib.hid (show Blk w2 (w.heap.size) 77 _ from by (with_reducible apply Blk.below (hb := hb2); (repeat (first | with_reducible exact HP.out | (with_reducible apply Blk.new'; first | with_reducible rfl | (focus (simp; done)) | (focus (simp; omega))) | with_reducible apply Blk.set_ | with_reducible apply Blk.far | with_reducible apply Blk.alloc | with_reducible apply Blk.drew | with_reducible apply Blk.drewN | (first | omega | (focus (simp; done)) | (focus (simp; omega)) | (focus (simp [World.setCell]; omega)))))))
  replace BEL : Hid (Below w.heap.size w w2) := Lib.hid (Below.trans (by repeat (first | with_reducible exact BEL.out | with_reducible apply Below.alloc | with_reducible apply Below.setCell | with_reducible apply Below.drew | with_reducible apply below_drewN | (first | omega | (focus (simp; done)) | (focus (simp; omega)) | (focus (simp [World.setCell]; omega))))) (hb2.mono (by (first | omega | (focus (simp; done)) | (focus (simp; omega)) | (focus (simp [World.setCell]; omega))))))
  have y_w2 : w.heap.size ≤ w2.heap.size := BEL.out.size
  clear hb2
  clear pP0 pP1 pP2 fP0 fP1 fP2 zP zP_1 zP_2 zP_3
  obtain ⟨pP0, pP1, pP2, fP0, fP1, fP2, zP⟩ := HP.out.three
  have zP_1 : w.heap.size < w2.heap.size + 1 := by omega
  have zP_2 : w.heap.size < w2.heap.size + 1 + 1 := by omega
  have zP_3 : w.heap.size < w2.heap.size + 1 + 1 + 1 := by omega
  go_wp2_with fail
  refine (mnext_no c a k r _ HNN.out).mono ?_; rintro e w3 ⟨rfl, hb3⟩
  have z_w3 : w2.heap.size ≤ w3.heap.size := Nat.le_trans (by first | with_reducible exact Nat.le_refl _ | (simp; done) | (simp; omega) | (simp [World.setCell]; done)) hb3.size
  replace HP := Lib.hid (show Blk w3 (w.heap.size) 77 _ from by (with_reducible apply Blk.below (hb := hb3); (repeat (first | with_reducible exact HP.out | (with_reducible apply Blk.new'; first | with_reducible rfl | (focus (simp; done)) | (focus (simp; omega))) | with_reducible apply Blk.set_ | with_reducible apply Blk.far | with_reducible apply Blk.alloc | with_reducible apply Blk.drew | with_reducible apply Blk.drewN | (first | omega | (focus (simp; done)) | (focus (simp; omega)) | (focus (simp [World.setCell]; omega)))))))
  replace BEL : Hid (Below w.heap.size w w3) := Lib.hid (Below.trans (by repeat (first | with_reducible exact BEL.out | with_reducible apply Below.alloc | with_reducible apply Below.setCell | with_reducible apply Below.drew | with_reducible apply below_drewN | (first | omega | (focus (simp; done)) | (focus (simp; omega)) | (focus (simp [World.setCell]; omega))))) (hb3.mono (by (first | omega | (focus (simp; done)) | (focus (simp; omega)) | (focus (simp [World.setCell]; omega))))))
  have y_w3 : w.heap.size ≤ w3.heap.size := BEL.out.size
  clear hb3
  clear pP0 pP1 pP2 fP0 fP1 fP2 zP zP_1 zP_2 zP_3
  obtain ⟨pP0, pP1, pP2, fP0, fP1, fP2, zP⟩ := HP.out.three
  have zP_1 : w.heap.size < w3.heap.size + 1 := by omega
  have zP_2 : w.heap.size < w3.heap.size + 1 + 1 := by omega
  have zP_3 : w.heap.size < w3.heap.size + 1 + 1 + 1 := by omega
  go_wp2_with fail
  refine (same_hit 1 _ (LAID.out.below (by repeat (first | with_reducible exact BEL.out | with_reducible apply Below.alloc | with_reducible apply Below.setCell | with_reducible apply Below.drew | with_reducible apply below_drewN | (first | omega | (focus (simp; done)) | (focus (simp; omega)) | (focus (simp [World.setCell]; omega))))))).mono ?_; rintro e w4 ⟨rfl, hb4⟩
  have z_w4 : w3.heap.size ≤ w4.heap.size := Nat.le_trans (by first | with_reducible exact Nat.le_refl _ | (simp; done) | (simp; omega) | (simp [World.setCell]; done)) hb4.size
  replace HP := Lib.hid (show Blk w4 (w.heap.size) 77 _ from by (with_reducible apply Blk.below (hb := hb4); (repeat (first | with_reducible exact HP.out | (with_reducible apply Blk.new'; first | with_reducible rfl | (focus (simp; done)) | (focus (simp; omega))) | with_reducible apply Blk.set_ | with_reducible apply Blk.far | with_reducible apply Blk.alloc | with_reducible apply Blk.drew | with_reducible apply Blk.drewN | (first | omega | (focus (simp; done)) | (focus (simp; omega)) | (focus (simp [World.setCell]; omega)))))))
  replace BEL : Hid (Below w.heap.size w w4) := Lib.hid (Below.trans (by repeat (first | with_reducible exact BEL.out | with_reducible apply Below.alloc | with_reducible apply Below.setCell | with_reducible apply Below.drew | with_reducible apply below_drewN | (first | omega | (focus (simp; done)) | (focus (simp; omega)) | (focus (simp [World.setCell]; omega))))) (hb4.mono (by (first | omega | (focus (simp; done)) | (focus (simp; omega)) | (focus (simp [World.setCell]; omega))))))
  have y_w4 : w.heap.size ≤ w4.heap.size := BEL.out.size
  clear hb4
  clear pP0 pP1 pP2 fP0 fP1 fP2 zP zP_1 zP_2 zP_3
  obtain ⟨pP0, pP1, pP2, fP0, fP1, fP2, zP⟩ := HP.out.three
  have zP_1 : w.heap.size < w4.heap.size + 1 := by omega
  have zP_2 : w.heap.size < w4.heap.size + 1 + 1 := by omega
  have zP_3 : w.heap.size < w4.heap.size + 1 + 1 + 1 := by omega
  by_cases h0 : 0 < l.length
  · go_wp2_with fail
    refine wp_loop_rounds 1 ?_
    rw [rounds_succ]
    go_wp2_with fail
    refine (mrun_no c a k r A cp l.length _ HNN.out).mono ?_; rintro e w5 ⟨rfl, hb5⟩
    have z_w5 : w4.heap.size ≤ w5.heap.size := Nat.le_trans (by first | with_reducible exact Nat.le_refl _ | (simp; done) | (simp; omega) | (simp [World.setCell]; done)) hb5.size
    replace HP := Lib.hid (show Blk w5 (w.heap.size) 77 _ from by (with_reducible apply Blk.below (hb := hb5); (repeat (first | with_reducible exact HP.out | (with_reducible apply Blk.new'; first | with_reducible rfl | (focus (simp; done)) | (focus (simp; omega))) | with_reducible apply Blk.set_ | with_reducible apply Blk.far | with_reducible apply Blk.alloc | with_reducible apply Blk.drew | with_reducible apply Blk.drewN | (first | omega | (focus (simp; done)) | (focus (simp; omega)) | (focus (simp [World.setCell]; omega)))))))
    replace BEL : Hid (Below w.heap.size w w5) := Lib.hid (Below.trans (by repeat (first | with_reducible exact BEL.out | with_reducible apply Below.alloc | with_reducible apply Below.setCell | with_reducible apply Below.drew | with_reducible apply below_drewN | (first | omega | (focus (simp; done)) | (focus (simp; omega)) | (focus (simp [World.setCell]; omega))))) (hb5.mono (by (first | omega | (focus (simp; done)) | (focus (simp; omega)) | (focus (simp [World.setCell]; omega))))))
    have y_w5 : w.heap.size ≤ w5.heap.size := BEL.out.size
    clear hb5
    clear pP0 pP1 pP2 fP0 fP1 fP2 zP zP_1 zP_2 zP_3
    obtain ⟨pP0, pP1, pP2, fP0, fP1, fP2, zP⟩ := HP.out.three
    have zP_1 : w.heap.size < w5.heap.size + 1 := by omega
    have zP_2 : w.heap.size < w5.heap.size + 1 + 1 := by omega
    have zP_3 : w.heap.size < w5.heap.size + 1 + 1 + 1 := by omega
    go_wp2_with fail
    refine (same_hit 1 _ (LAID.out.below (by repeat (first | with_reducible exact BEL.out | with_reducible apply Below.alloc | with_reducible apply Below.setCell | with_reducible apply Below.drew | with_reducible apply below_drewN | (first | omega | (focus (simp; done)) | (focus (simp; omega)) | (focus (simp [World.setCell]; omega))))))).mono ?_; rintro e w6 ⟨rfl, hb6⟩
    have z_w6 : w5.heap.size ≤ w6.heap.size := Nat.le_trans (by first | with_reducible exact Nat.le_refl _ | (simp; done) | (simp; omega) | (simp [World.setCell]; done)) hb6.size
    replace HP := Lib.hid (show Blk w6 (w.heap.size) 77 _ from by (with_reducible apply Blk.below (hb := hb6); (repeat (first | with_reducible exact HP.out | (with_reducible apply Blk.new'; first | with_reducible rfl | (focus (simp; done)) | (focus (simp; omega))) | with_reducible apply Blk.set_ | with_reducible apply Blk.far | with_reducible apply Blk.alloc | with_reducible apply Blk.drew | with_reducible apply Blk.drewN | (first | omega | (focus (simp; done)) | (focus (simp; omega)) | (focus (simp [World.setCell]; omega)))))))
    replace BEL : Hid (Below w.heap.size w w6) := Lib.hid (Below.trans (by repeat (first | with_reducible exact BEL.out | with_reducible apply Below.alloc | with_reducible apply Below.setCell | with_reducible apply Below.drew | with_reducible apply below_drewN | (first | omega | (focus (simp; done)) | (focus (simp; omega)) | (focus (simp [World.setCell]; omega))))) (hb6.mono (by (first | omega | (focus (simp; done)) | (focus (simp; omega)) | (focus (simp [World.setCell]; omega))))))
    have y_w6 : w.heap.size ≤ w6.heap.size := BEL.out.size
    clear hb6
    clear pP0 pP1 pP2 fP0 fP1 fP2 zP zP_1 zP_2 zP_3
    obtain ⟨pP0, pP1, pP2, fP0, fP1, fP2, zP⟩ := HP.out.three
    have zP_1 : w.heap.size < w6.heap.size + 1 := by omega
    have zP_2 : w.heap.size < w6.heap.size + 1 + 1 := by omega
    have zP_3 : w.heap.size < w6.heap.size + 1 + 1 + 1 := by omega
    go_wp2_with fail
    refine (sameInts_nil _).mono ?_; rintro e w7 ⟨rfl, hb7⟩
    have z_w7 : w6.heap.size ≤ w7.heap.size := Nat.le_trans (by first | with_reducible exact Nat.le_refl _ | (simp; done) | (simp; omega) | (simp [World.setCell]; done)) hb7.size
    replace HP := Lib.hid (show Blk w7 (w.heap.size) 77 _ from by (with_reducible apply Blk.below (hb := hb7); (repeat (first | with_reducible exact HP.out | (with_reducible apply Blk.new'; first | with_reducible rfl | (focus (simp; done)) | (focus (simp; omega))) | with_reducible apply Blk.set_ | with_reducible apply Blk.far | with_reducible apply Blk.alloc | with_reducible apply Blk.drew | with_reducible apply Blk.drewN | (first | omega | (focus (simp; done)) | (focus (simp; omega)) | (focus (simp [World.setCell]; omega)))))))
    replace BEL : Hid (Below w.heap.size w w7) := Lib.hid (Below.trans (by repeat (first | with_reducible exact BEL.out | with_reducible apply Below.alloc | with_reducible apply Below.setCell | with_reducible apply Below.drew | with_reducible apply below_drewN | (first | omega | (focus (simp; done)) | (focus (simp; omega)) | (focus (simp [World.setCell]; omega))))) (hb7.mono (by (first | omega | (focus (simp; done)) | (focus (simp; omega)) | (focus (simp [World.setCell]; omega))))))
    have y_w7 : w.heap.size ≤ w7.heap.size := BEL.out.size
    clear hb7
    clear pP0 pP1 pP2 fP0 fP1 fP2 zP zP_1 zP_2 zP_3
    obtain ⟨pP0, pP1, pP2, fP0, fP1, fP2, zP⟩ := HP.out.three
    have zP_1 : w.heap.size < w7.heap.size + 1 := by omega
    have zP_2 : w.heap.size < w7.heap.size + 1 + 1 := by omega
    have zP_3 : w.heap.size < w7.heap.size + 1 + 1 + 1 := by omega
    go_wp2
    go_ret
    exact ⟨rfl, (by repeat (first | with_reducible exact BEL.out | with_reducible apply Below.alloc | with_reducible apply Below.setCell | with_reducible apply Below.drew | with_reducible apply below_drewN | (first | omega | (focus (simp; done)) | (focus (simp; omega)) | (focus (simp [World.setCell]; omega)))))⟩
  · go_wp2_with fail
    refine wp_loop_rounds 1 ?_
    rw [rounds_succ]
    go_wp2_with fail
    refine (mrun_no c a k r A cp l.length _ HNN.out).mono ?_; rintro e w5 ⟨rfl, hb5⟩
    have z_w5 : w4.heap.size ≤ w5.heap.size := Nat.le_trans (by first | with_reducible exact Nat.le_refl _ | (simp; done) | (simp; omega) | (simp [World.setCell]; done)) hb5.size
    replace HP := Lib.hid (show Blk w5 (w.heap.size) 77 _ from by (with_reducible apply Blk.below (hb := hb5); (repeat (first | with_reducible exact HP.out | (with_reducible apply Blk.new'; first | with_reducible rfl | (focus (simp; done)) | (focus (simp; omega))) | with_reducible apply Blk.set_ | with_reducible apply Blk.far | with_reducible apply Blk.alloc | with_reducible apply Blk.drew | with_reducible apply Blk.drewN | (first | omega | (focus (simp; done)) | (focus (simp; omega)) | (focus (simp [World.setCell]; omega)))))))
    replace BEL : Hid (Below w.heap.size w w5) := Lib.hid (Below.trans (by repeat (first | with_reducible exact BEL.out | with_reducible apply Below.alloc | with_reducible apply Below.setCell | with_reducible apply Below.drew | with_reducible apply below_drewN | (first | omega | (focus (simp; done)) | (focus (simp; omega)) | (focus (simp [World.setCell]; omega))))) (hb5.mono (by (first | omega | (focus (simp; done)) | (focus (simp; omega)) | (focus (simp [World.setCell]; omega))))))
    have y_w5 : w.heap.size ≤ w5.heap.size := BEL.out.size
    clear hb5
    clear pP0 pP1 pP2 fP0 fP1 fP2 zP zP_1 zP_2 zP_3
    obtain ⟨pP0, pP1, pP2, fP0, fP1, fP2, zP⟩ := HP.out.three
    have zP_1 : w.heap.size < w5.heap.size + 1 := by omega
    have zP_2 : w.heap.size < w5.heap.size + 1 + 1 := by omega
    have zP_3 : w.heap.size < w5.heap.size + 1 + 1 + 1 := by omega
    go_wp2_with fail
    refine (same_hit 1 _ (LAID.out.below (by repeat (first | with_reducible exact BEL.out | with_reducible apply Below.alloc | with_reducible apply Below.setCell | with_reducible apply Below.drew | with_reducible apply below_drewN | (first | omega | (focus (simp; done)) | (focus (simp; omega)) | (focus (simp [World.setCell]; omega))))))).mono ?_; rintro e w6 ⟨rfl, hb6⟩
    have z_w6 : w5.heap.size ≤ w6.heap.size := Nat.le_trans (by first | with_reducible exact Nat.le_refl _ | (simp; done) | (simp; omega) | (simp [World.setCell]; done)) hb6.size
    replace HP := Lib.hid (show Blk w6 (w.heap.size) 77 _ from by (with_reducible apply Blk.below (hb := hb6); (repeat (first | with_reducible exact HP.out | (with_reducible apply Blk.new'; first | with_reducible rfl | (focus (simp; done)) | (focus (simp; omega))) | with_reducible apply Blk.set_ | with_reducible apply Blk.far | with_reducible apply Blk.alloc | with_reducible apply Blk.drew | with_reducible apply Blk.drewN | (first | omega | (focus (simp; done)) | (focus (simp; omega)) | (focus (simp [World.setCell]; omega)))))))
    replace BEL : Hid (Below w.heap.size w w6) := Lib.hid (Below.trans (by repeat (first | with_reducible exact BEL.out | with_reducible apply Below.alloc | with_reducible apply Below.setCell | with_reducible apply Below.drew | with_reducible apply below_drewN | (first | omega | (focus (simp; done)) | (focus (simp; omega)) | (focus (simp [World.setCell]; omega))))) (hb6.mono (by (first | omega | (focus (simp; done)) | (focus (simp; omega)) | (focus (simp [World.setCell]; omega))))))
    have y_w6 : w.heap.size ≤ w6.heap.size := BEL.out.size
    clear hb6
    clear pP0 pP1 pP2 fP0 fP1 fP2 zP zP_1 zP_2 zP_3
    obtain ⟨pP0, pP1, pP2, fP0, fP1, fP2, zP⟩ := HP.out.three
    have zP_1 : w.heap.size < w6.heap.size + 1 := by omega
    have zP_2 : w.heap.size < w6.heap.size + 1 + 1 := by omega
    have zP_3 : w.heap.size < w6.heap.size + 1 + 1 + 1 := by omega
    go_wp2_with fail
    refine (sameInts_nil _).mono ?_; rintro e w7 ⟨rfl, hb7⟩
    have z_w7 : w6.heap.size ≤ w7.heap.size := Nat.le_trans (by first | with_reducible exact Nat.le_refl _ | (simp; done) | (simp; omega) | (simp [World.setCell]; done)) hb7.size
    replace HP := Lib.hid (show Blk w7 (w.heap.size) 77 _ from by (with_reducible apply Blk.below (hb := hb7); (repeat (first | with_reducible exact HP.out | (with_reducible apply Blk.new'; first | with_reducible rfl | (focus (simp; done)) | (focus (simp; omega))) | with_reducible apply Blk.set_ | with_reducible apply Blk.far | with_reducible apply Blk.alloc | with_reducible apply Blk.drew | with_reducible apply Blk.drewN | (first | omega | (focus (simp; done)) | (focus (simp; omega)) | (focus (simp [World.setCell]; omega)))))))
    replace BEL : Hid (Below w.heap.size w w7) := Lib.hid (Below.trans (by repeat (first | with_reducible exact BEL.out | with_reducible apply Below.alloc | with_reducible apply Below.setCell | with_reducible apply Below.drew | with_reducible apply below_drewN | (first | omega | (focus (simp; done)) | (focus (simp; omega)) | (focus (simp [World.setCell]; omega))))) (hb7.mono (by (first | omega | (focus (simp; done)) | (focus (simp; omega)) | (focus (simp [World.setCell]; omega))))))
    have y_w7 : w.heap.size ≤ w7.heap.size := BEL.out.size
    clear hb7
    clear pP0 pP1 pP2 fP0 fP1 fP2 zP zP_1 zP_2 zP_3
    obtain ⟨pP0, pP1, pP2, fP0, fP1, fP2, zP⟩ := HP.out.three
    have zP_1 : w.heap.size < w7.heap.size + 1 := by omega
    have zP_2 : w.heap.size < w7.heap.size + 1 + 1 := by omega
    have zP_3 : w.heap.size < w7.heap.size + 1 + 1 + 1 := by omega
    go_wp2
    go_ret
    exact ⟨rfl, (by repeat (first | with_reducible exact BEL.out | with_reducible apply Below.alloc | with_reducible apply Below.setCell | with_reducible apply Below.drew | with_reducible apply below_drewN | (first | omega | (focus (simp; done)) | (focus (simp; omega)) | (focus (simp [World.setCell]; omega)))))⟩
set_option maxHeartbeats 8000000 in
set_option maxRecDepth 100000 in
theorem meterTells_in_full (c a k r : Int) (A : Option Addr) (cp : Nat) (l : List Int) (w : World) (hi : Ints w w.heap.size A cp l) (hg : Laid w) (ok : MeterOk c a k) (r0 : 1 ≤ r) (r1 : r ≤ 1000) (hl : 60 < l.length) :
    Calls Tryd.prog 9 #[.agg #[.int .i64 c, .int .i64 a, .int .i64 k], .int .i64 r, .slice A l.length cp] w fun e w' => e = .returned (.bool true) ∧ Below w.heap.size w w' := by
  have LAID := Lib.hid hg; clear hg
  have HI := Lib.hid hi; clear hi
  have H := Lib.hid ok
  obtain ⟨vy, hvy⟩ : ∃ v, PM.nxt c a k r = v := ⟨_, rfl⟩
  have VY := Lib.hid hvy; clear hvy
  clear ok
  have hm := Nat.le_trans HI.out.le HI.out.cap
  have HT : Hid (ticksErr l = 4) := Lib.hid (by unfold ticksErr; rw [if_pos hl])
  have BEL : Hid (Below w.heap.size w w) := Lib.hid (Below.refl _ _)
  have yB : w.heap.size ≤ w.heap.size := Nat.le_refl _
  go_enter Tryd.func9, Tryd.ntmps9
  go_wp2_with fail
  refine (refMeter_yes c a k _ H.out).mono ?_; rintro e w1 ⟨rfl, hb1⟩
  have z_w1 : w.heap.size ≤ w1.heap.size := Nat.le_trans (by first | with_reducible exact Nat.le_refl _ | (simp; done) | (simp; omega) | (simp [World.setCell]; done)) hb1.size
  have HP := Lib.hid (show Blk w1 (w.heap.size) 77 _ from by (with_reducible apply Blk.below (hb := hb1); (repeat (first | (with_reducible apply Blk.new'; first | with_reducible rfl | (focus (simp; done)) | (focus (simp; omega))) | with_reducible apply Blk.set_ | with_reducible apply Blk.far | with_reducible apply Blk.alloc | with_reducible apply Blk.drew | with_reducible apply Blk.drewN | (first | omega | (focus (simp; done)) | (focus (simp; omega)) | (focus (simp [World.setCell]; omega)))))))
  have q_P_w1 : w.heap.size < w1.heap.size := HP.out.lt
  replace BEL : Hid (Below w.heap.size w w1) := Lib.hid (Below.trans (by repeat (first | with_reducible exact BEL.out | with_reducible apply Below.alloc | with_reducible apply Below.setCell | with_reducible apply Below.drew | with_reducible apply below_drewN | (first | omega | (focus (simp; done)) | (focus (simp; omega)) | (focus (simp [World.setCell]; omega))))) (hb1.mono (by (first | omega | (focus (simp; done)) | (focus (simp; omega)) | (focus (simp [World.setCell]; omega))))))
  have y_w1 : w.heap.size ≤ w1.heap.size := BEL.out.size
  clear hb1
  obtain ⟨pP0, pP1, pP2, fP0, fP1, fP2, zP⟩ := HP.out.three
  have zP_1 : w.heap.size < w1.heap.size + 1 := by omega
  have zP_2 : w.heap.size < w1.heap.size + 1 + 1 := by omega
  have zP_3 : w.heap.size < w1.heap.size + 1 + 1 + 1 := by omega
  go_wp2_with fail
  refine (mcheck_yes c a k _ H.out).mono ?_; rintro e w' ⟨rfl, rfl⟩
  go_wp2_with fail
  refine (same_ok _).mono ?_; rintro e w2 ⟨rfl, hb2⟩
  have z_w2 : w1.heap.size ≤ w2.heap.size := Nat.le_trans (by first | with_reducible exact Nat.le_refl _ | (simp; done) | (simp; omega) | (simp [World.setCell]; done)) hb2.size
  replace HP := Lib.hid (show Blk w2 (w.heap.size) 77 _ from by (with_reducible apply Blk.below (hb := hb2); (repeat (first | with_reducible exact HP.out | (with_reducible apply Blk.new'; first | with_reducible rfl | (focus (simp; done)) | (focus (simp; omega))) | with_reducible apply Blk.set_ | with_reducible apply Blk.far | with_reducible apply Blk.alloc | with_reducible apply Blk.drew | with_reducible apply Blk.drewN | (first | omega | (focus (simp; done)) | (focus (simp; omega)) | (focus (simp [World.setCell]; omega)))))))
  replace BEL : Hid (Below w.heap.size w w2) := Lib.hid (Below.trans (by repeat (first | with_reducible exact BEL.out | with_reducible apply Below.alloc | with_reducible apply Below.setCell | with_reducible apply Below.drew | with_reducible apply below_drewN | (first | omega | (focus (simp; done)) | (focus (simp; omega)) | (focus (simp [World.setCell]; omega))))) (hb2.mono (by (first | omega | (focus (simp; done)) | (focus (simp; omega)) | (focus (simp [World.setCell]; omega))))))
  have y_w2 : w.heap.size ≤ w2.heap.size := BEL.out.size
  clear hb2
  clear pP0 pP1 pP2 fP0 fP1 fP2 zP zP_1 zP_2 zP_3
  obtain ⟨pP0, pP1, pP2, fP0, fP1, fP2, zP⟩ := HP.out.three
  have zP_1 : w.heap.size < w2.heap.size + 1 := by omega
  have zP_2 : w.heap.size < w2.heap.size + 1 + 1 := by omega
  have zP_3 : w.heap.size < w2.heap.size + 1 + 1 + 1 := by omega
  go_wp2_with fail
  refine (refNext_is c a k r vy _ H.out r0 r1 VY.out).mono ?_; rintro e w3 ⟨rfl, hb3⟩
  have z_w3 : w2.heap.size ≤ w3.heap.size := Nat.le_trans (by first | with_reducible exact Nat.le_refl _ | (simp; done) | (simp; omega) | (simp [World.setCell]; done)) hb3.size
  replace HP := Lib.hid (show Blk w3 (w.heap.size) 77 _ from by (with_reducible apply Blk.below (hb := hb3); (repeat (first | with_reducible exact HP.out | (with_reducible apply Blk.new'; first | with_reducible rfl | (focus (simp; done)) | (focus (simp; omega))) | with_reducible apply Blk.set_ | with_reducible apply Blk.far | with_reducible apply Blk.alloc | with_reducible apply Blk.drew | with_reducible apply Blk.drewN | (first | omega | (focus (simp; done)) | (focus (simp; omega)) | (focus (simp [World.setCell]; omega)))))))
  replace BEL : Hid (Below w.heap.size w w3) := Lib.hid (Below.trans (by repeat (first | with_reducible exact BEL.out | with_reducible apply Below.alloc | with_reducible apply Below.setCell | with_reducible apply Below.drew | with_reducible apply below_drewN | (first | omega | (focus (simp; done)) | (focus (simp; omega)) | (focus (simp [World.setCell]; omega))))) (hb3.mono (by (first | omega | (focus (simp; done)) | (focus (simp; omega)) | (focus (simp [World.setCell]; omega))))))
  have y_w3 : w.heap.size ≤ w3.heap.size := BEL.out.size
  clear hb3
  clear pP0 pP1 pP2 fP0 fP1 fP2 zP zP_1 zP_2 zP_3
  obtain ⟨pP0, pP1, pP2, fP0, fP1, fP2, zP⟩ := HP.out.three
  have zP_1 : w.heap.size < w3.heap.size + 1 := by omega
  have zP_2 : w.heap.size < w3.heap.size + 1 + 1 := by omega
  have zP_3 : w.heap.size < w3.heap.size + 1 + 1 + 1 := by omega
  go_wp2_with fail
  refine (mnext_is c a k r vy _ H.out r0 r1 VY.out).mono ?_; rintro e w4 ⟨rfl, hb4⟩
  have z_w4 : w3.heap.size ≤ w4.heap.size := Nat.le_trans (by first | with_reducible exact Nat.le_refl _ | (simp; done) | (simp; omega) | (simp [World.setCell]; done)) hb4.size
  replace HP := Lib.hid (show Blk w4 (w.heap.size) 77 _ from by (with_reducible apply Blk.below (hb := hb4); (repeat (first | with_reducible exact HP.out | (with_reducible apply Blk.new'; first | with_reducible rfl | (focus (simp; done)) | (focus (simp; omega))) | with_reducible apply Blk.set_ | with_reducible apply Blk.far | with_reducible apply Blk.alloc | with_reducible apply Blk.drew | with_reducible apply Blk.drewN | (first | omega | (focus (simp; done)) | (focus (simp; omega)) | (focus (simp [World.setCell]; omega)))))))
  replace BEL : Hid (Below w.heap.size w w4) := Lib.hid (Below.trans (by repeat (first | with_reducible exact BEL.out | with_reducible apply Below.alloc | with_reducible apply Below.setCell | with_reducible apply Below.drew | with_reducible apply below_drewN | (first | omega | (focus (simp; done)) | (focus (simp; omega)) | (focus (simp [World.setCell]; omega))))) (hb4.mono (by (first | omega | (focus (simp; done)) | (focus (simp; omega)) | (focus (simp [World.setCell]; omega))))))
  have y_w4 : w.heap.size ≤ w4.heap.size := BEL.out.size
  clear hb4
  clear pP0 pP1 pP2 fP0 fP1 fP2 zP zP_1 zP_2 zP_3
  obtain ⟨pP0, pP1, pP2, fP0, fP1, fP2, zP⟩ := HP.out.three
  have zP_1 : w.heap.size < w4.heap.size + 1 := by omega
  have zP_2 : w.heap.size < w4.heap.size + 1 + 1 := by omega
  have zP_3 : w.heap.size < w4.heap.size + 1 + 1 + 1 := by omega
  go_wp2_with fail
  refine (same_ok _).mono ?_; rintro e w5 ⟨rfl, hb5⟩
  have z_w5 : w4.heap.size ≤ w5.heap.size := Nat.le_trans (by first | with_reducible exact Nat.le_refl _ | (simp; done) | (simp; omega) | (simp [World.setCell]; done)) hb5.size
  replace HP := Lib.hid (show Blk w5 (w.heap.size) 77 _ from by (with_reducible apply Blk.below (hb := hb5); (repeat (first | with_reducible exact HP.out | (with_reducible apply Blk.new'; first | with_reducible rfl | (focus (simp; done)) | (focus (simp; omega))) | with_reducible apply Blk.set_ | with_reducible apply Blk.far | with_reducible apply Blk.alloc | with_reducible apply Blk.drew | with_reducible apply Blk.drewN | (first | omega | (focus (simp; done)) | (focus (simp; omega)) | (focus (simp [World.setCell]; omega)))))))
  replace BEL : Hid (Below w.heap.size w w5) := Lib.hid (Below.trans (by repeat (first | with_reducible exact BEL.out | with_reducible apply Below.alloc | with_reducible apply Below.setCell | with_reducible apply Below.drew | with_reducible apply below_drewN | (first | omega | (focus (simp; done)) | (focus (simp; omega)) | (focus (simp [World.setCell]; omega))))) (hb5.mono (by (first | omega | (focus (simp; done)) | (focus (simp; omega)) | (focus (simp [World.setCell]; omega))))))
  have y_w5 : w.heap.size ≤ w5.heap.size := BEL.out.size
  clear hb5
  clear pP0 pP1 pP2 fP0 fP1 fP2 zP zP_1 zP_2 zP_3
  obtain ⟨pP0, pP1, pP2, fP0, fP1, fP2, zP⟩ := HP.out.three
  have zP_1 : w.heap.size < w5.heap.size + 1 := by omega
  have zP_2 : w.heap.size < w5.heap.size + 1 + 1 := by omega
  have zP_3 : w.heap.size < w5.heap.size + 1 + 1 + 1 := by omega
  go_wp2_with fail
  refine (refTicks_is A cp l w.heap.size _ (HI.out.below (by repeat (first | with_reducible exact BEL.out | with_reducible apply Below.alloc | with_reducible apply Below.setCell | with_reducible apply Below.drew | with_reducible apply below_drewN | (first | omega | (focus (simp; done)) | (focus (simp; omega)) | (focus (simp [World.setCell]; omega))))) (Nat.le_refl _)) 4 HT.out).mono ?_; rintro e w' ⟨rfl, rfl⟩
  have h0 : 0 < l.length := by omega
  go_wp2_with fail
  refine wp_loop_rounds 1 ?_
  rw [rounds_succ]
  go_wp2_with fail
  refine (mrun_full c a k r A cp l.length _ H.out r0 r1 hl hm).mono ?_; rintro e w6 ⟨rfl, hb6⟩
  have z_w6 : w5.heap.size ≤ w6.heap.size := Nat.le_trans (by first | with_reducible exact Nat.le_refl _ | (simp; done) | (simp; omega) | (simp [World.setCell]; done)) hb6.size
  replace HP := Lib.hid (show Blk w6 (w.heap.size) 77 _ from by (with_reducible apply Blk.below (hb := hb6); (repeat (first | with_reducible exact HP.out | (with_reducible apply Blk.new'; first | with_reducible rfl | (focus (simp; done)) | (focus (simp; omega))) | with_reducible apply Blk.set_ | with_reducible apply Blk.far | with_reducible apply Blk.alloc | with_reducible apply Blk.drew | with_reducible apply Blk.drewN | (first | omega | (focus (simp; done)) | (focus (simp; omega)) | (focus (simp [World.setCell]; omega)))))))
  replace BEL : Hid (Below w.heap.size w w6) := Lib.hid (Below.trans (by repeat (first | with_reducible exact BEL.out | with_reducible apply Below.alloc | with_reducible apply Below.setCell | with_reducible apply Below.drew | with_reducible apply below_drewN | (first | omega | (focus (simp; done)) | (focus (simp; omega)) | (focus (simp [World.setCell]; omega))))) (hb6.mono (by (first | omega | (focus (simp; done)) | (focus (simp; omega)) | (focus (simp [World.setCell]; omega))))))
  have y_w6 : w.heap.size ≤ w6.heap.size := BEL.out.size
  clear hb6
  clear pP0 pP1 pP2 fP0 fP1 fP2 zP zP_1 zP_2 zP_3
  obtain ⟨pP0, pP1, pP2, fP0, fP1, fP2, zP⟩ := HP.out.three
  have zP_1 : w.heap.size < w6.heap.size + 1 := by omega
  have zP_2 : w.heap.size < w6.heap.size + 1 + 1 := by omega
  have zP_3 : w.heap.size < w6.heap.size + 1 + 1 + 1 := by omega
  go_wp2_with fail
  refine (same_hit 4 _ (LAID.out.below (by repeat (first | with_reducible exact BEL.out | with_reducible apply Below.alloc | with_reducible apply Below.setCell | with_reducible apply Below.drew | with_reducible apply below_drewN | (first | omega | (focus (simp; done)) | (focus (simp; omega)) | (focus (simp [World.setCell]; omega))))))).mono ?_; rintro e w7 ⟨rfl, hb7⟩
  have z_w7 : w6.heap.size ≤ w7.heap.size := Nat.le_trans (by first | with_reducible exact Nat.le_refl _ | (simp; done) | (simp; omega) | (simp [World.setCell]; done)) hb7.size
  replace HP := Lib.hid (show Blk w7 (w.heap.size) 77 _ from by (with_reducible apply Blk.below (hb := hb7); (repeat (first | with_reducible exact HP.out | (with_reducible apply Blk.new'; first | with_reducible rfl | (focus (simp; done)) | (focus (simp; omega))) | with_reducible apply Blk.set_ | with_reducible apply Blk.far | with_reducible apply Blk.alloc | with_reducible apply Blk.drew | with_reducible apply Blk.drewN | (first | omega | (focus (simp; done)) | (focus (simp; omega)) | (focus (simp [World.setCell]; omega)))))))
  replace BEL : Hid (Below w.heap.size w w7) := Lib.hid (Below.trans (by repeat (first | with_reducible exact BEL.out | with_reducible apply Below.alloc | with_reducible apply Below.setCell | with_reducible apply Below.drew | with_reducible apply below_drewN | (first | omega | (focus (simp; done)) | (focus (simp; omega)) | (focus (simp [World.setCell]; omega))))) (hb7.mono (by (first | omega | (focus (simp; done)) | (focus (simp; omega)) | (focus (simp [World.setCell]; omega))))))
  have y_w7 : w.heap.size ≤ w7.heap.size := BEL.out.size
  clear hb7
  clear pP0 pP1 pP2 fP0 fP1 fP2 zP zP_1 zP_2 zP_3
  obtain ⟨pP0, pP1, pP2, fP0, fP1, fP2, zP⟩ := HP.out.three
  have zP_1 : w.heap.size < w7.heap.size + 1 := by omega
  have zP_2 : w.heap.size < w7.heap.size + 1 + 1 := by omega
  have zP_3 : w.heap.size < w7.heap.size + 1 + 1 + 1 := by omega
  go_wp2_with fail
  refine (sameInts_nil _).mono ?_; rintro e w8 ⟨rfl, hb8⟩
  have z_w8 : w7.heap.size ≤ w8.heap.size := Nat.le_trans (by first | with_reducible exact Nat.le_refl _ | (simp; done) | (simp; omega) | (simp [World.setCell]; done)) hb8.size
  replace HP := Lib.hid (show Blk w8 (w.heap.size) 77 _ from by (with_reducible apply Blk.below (hb := hb8); (repeat (first | with_reducible exact HP.out | (with_reducible apply Blk.new'; first | with_reducible rfl | (focus (simp; done)) | (focus (simp; omega))) | with_reducible apply Blk.set_ | with_reducible apply Blk.far | with_reducible apply Blk.alloc | with_reducible apply Blk.drew | with_reducible apply Blk.drewN | (first | omega | (focus (simp; done)) | (focus (simp; omega)) | (focus (simp [World.setCell]; omega)))))))
  replace BEL : Hid (Below w.heap.size w w8) := Lib.hid (Below.trans (by repeat (first | with_reducible exact BEL.out | with_reducible apply Below.alloc | with_reducible apply Below.setCell | with_reducible apply Below.drew | with_reducible apply below_drewN | (first | omega | (focus (simp; done)) | (focus (simp; omega)) | (focus (simp [World.setCell]; omega))))) (hb8.mono (by (first | omega | (focus (simp; done)) | (focus (simp; omega)) | (focus (simp [World.setCell]; omega))))))
  have y_w8 : w.heap.size ≤ w8.heap.size := BEL.out.size
  clear hb8
  clear pP0 pP1 pP2 fP0 fP1 fP2 zP zP_1 zP_2 zP_3
  obtain ⟨pP0, pP1, pP2, fP0, fP1, fP2, zP⟩ := HP.out.three
  have zP_1 : w.heap.size < w8.heap.size + 1 := by omega
  have zP_2 : w.heap.size < w8.heap.size + 1 + 1 := by omega
  have zP_3 : w.heap.size < w8.heap.size + 1 + 1 + 1 := by omega
  go_wp2
  go_ret
  exact ⟨rfl, (by repeat (first | with_reducible exact BEL.out | with_reducible apply Below.alloc | with_reducible apply Below.setCell | with_reducible apply Below.drew | with_reducible apply below_drewN | (first | omega | (focus (simp; done)) | (focus (simp; omega)) | (focus (simp [World.setCell]; omega)))))⟩
set_option maxHeartbeats 8000000 in
set_option maxRecDepth 100000 in
theorem meterTells_in_bad (c a k r : Int) (A : Option Addr) (cp : Nat) (l : List Int) (w : World) (hi : Ints w w.heap.size A cp l) (hg : Laid w) (ok : MeterOk c a k) (r0 : 1 ≤ r) (r1 : r ≤ 1000) (hl : l.length ≤ 60) (hb : l.any badRate = true) :
    Calls Tryd.prog 9 #[.agg #[.int .i64 c, .int .i64 a, .int .i64 k], .int .i64 r, .slice A l.length cp] w fun e w' => e = .returned (.bool true) ∧ Below w.heap.size w w' := by
  have LAID := Lib.hid hg; clear hg
  have HI := Lib.hid hi; clear hi
  have H := Lib.hid ok
  obtain ⟨vy, hvy⟩ : ∃ v, PM.nxt c a k r = v := ⟨_, rfl⟩
  have VY := Lib.hid hvy; clear hvy
  clear ok
  have HB := Lib.hid hb; clear hb
  have HT : Hid (ticksErr l = 1) := Lib.hid (by unfold ticksErr; rw [if_neg (by omega), HB.out]; rfl)
  have BEL : Hid (Below w.heap.size w w) := Lib.hid (Below.refl _ _)
  have yB : w.heap.size ≤ w.heap.size := Nat.le_refl _
  go_enter Tryd.func9, Tryd.ntmps9
  go_wp2_with fail
  refine (refMeter_yes c a k _ H.out).mono ?_; rintro e w1 ⟨rfl, hb1⟩
  have z_w1 : w.heap.size ≤ w1.heap.size := Nat.le_trans (by first | with_reducible exact Nat.le_refl _ | (simp; done) | (simp; omega) | (simp [World.setCell]; done)) hb1.size
  have HP := Lib.hid (show Blk w1 (w.heap.size) 77 _ from by (with_reducible apply Blk.below (hb := hb1); (repeat (first | (with_reducible apply Blk.new'; first | with_reducible rfl | (focus (simp; done)) | (focus (simp; omega))) | with_reducible apply Blk.set_ | with_reducible apply Blk.far | with_reducible apply Blk.alloc | with_reducible apply Blk.drew | with_reducible apply Blk.drewN | (first | omega | (focus (simp; done)) | (focus (simp; omega)) | (focus (simp [World.setCell]; omega)))))))
  have q_P_w1 : w.heap.size < w1.heap.size := HP.out.lt
  replace BEL : Hid (Below w.heap.size w w1) := Lib.hid (Below.trans (by repeat (first | with_reducible exact BEL.out | with_reducible apply Below.alloc | with_reducible apply Below.setCell | with_reducible apply Below.drew | with_reducible apply below_drewN | (first | omega | (focus (simp; done)) | (focus (simp; omega)) | (focus (simp [World.setCell]; omega))))) (hb1.mono (by (first | omega | (focus (simp; done)) | (focus (simp; omega)) | (focus (simp [World.setCell]; omega))))))
  have y_w1 : w.heap.size ≤ w1.heap.size := BEL.out.size
  clear hb1
  obtain ⟨pP0, pP1, pP2, fP0, fP1, fP2, zP⟩ := HP.out.three
  have zP_1 : w.heap.size < w1.heap.size + 1 := by omega
  have zP_2 : w.heap.size < w1.heap.size + 1 + 1 := by omega
  have zP_3 : w.heap.size < w1.heap.size + 1 + 1 + 1 := by omega
  go_wp2_with fail
  refine (mcheck_yes c a k _ H.out).mono ?_; rintro e w' ⟨rfl, rfl⟩
  go_wp2_with fail
  refine (same_ok _).mono ?_; rintro e w2 ⟨rfl, hb2⟩
  have z_w2 : w1.heap.size ≤ w2.heap.size := Nat.le_trans (by first | with_reducible exact Nat.le_refl _ | (simp; done) | (simp; omega) | (simp [World.setCell]; done)) hb2.size
  replace HP := Lib.hid (show Blk w2 (w.heap.size) 77 _ from by (with_reducible apply Blk.below (hb := hb2); (repeat (first | with_reducible exact HP.out | (with_reducible apply Blk.new'; first | with_reducible rfl | (focus (simp; done)) | (focus (simp; omega))) | with_reducible apply Blk.set_ | with_reducible apply Blk.far | with_reducible apply Blk.alloc | with_reducible apply Blk.drew | with_reducible apply Blk.drewN | (first | omega | (focus (simp; done)) | (focus (simp; omega)) | (focus (simp [World.setCell]; omega)))))))
  replace BEL : Hid (Below w.heap.size w w2) := Lib.hid (Below.trans (by repeat (first | with_reducible exact BEL.out | with_reducible apply Below.alloc | with_reducible apply Below.setCell | with_reducible apply Below.drew | with_reducible apply below_drewN | (first | omega | (focus (simp; done)) | (focus (simp; omega)) | (focus (simp [World.setCell]; omega))))) (hb2.mono (by (first | omega | (focus (simp; done)) | (focus (simp; omega)) | (focus (simp [World.setCell]; omega))))))
  have y_w2 : w.heap.size ≤ w2.heap.size := BEL.out.size
  clear hb2
  clear pP0 pP1 pP2 fP0 fP1 fP2 zP zP_1 zP_2 zP_3
  obtain ⟨pP0, pP1, pP2, fP0, fP1, fP2, zP⟩ := HP.out.three
  have zP_1 : w.heap.size < w2.heap.size + 1 := by omega
  have zP_2 : w.heap.size < w2.heap.size + 1 + 1 := by omega
  have zP_3 : w.heap.size < w2.heap.size + 1 + 1 + 1 := by omega
  go_wp2_with fail
  refine (refNext_is c a k r vy _ H.out r0 r1 VY.out).mono ?_; rintro e w3 ⟨rfl, hb3⟩
  have z_w3 : w2.heap.size ≤ w3.heap.size := Nat.le_trans (by first | with_reducible exact Nat.le_refl _ | (simp; done) | (simp; omega) | (simp [World.setCell]; done)) hb3.size
  replace HP := Lib.hid (show Blk w3 (w.heap.size) 77 _ from by (with_reducible apply Blk.below (hb := hb3); (repeat (first | with_reducible exact HP.out | (with_reducible apply Blk.new'; first | with_reducible rfl | (focus (simp; done)) | (focus (simp; omega))) | with_reducible apply Blk.set_ | with_reducible apply Blk.far | with_reducible apply Blk.alloc | with_reducible apply Blk.drew | with_reducible apply Blk.drewN | (first | omega | (focus (simp; done)) | (focus (simp; omega)) | (focus (simp [World.setCell]; omega)))))))
  replace BEL : Hid (Below w.heap.size w w3) := Lib.hid (Below.trans (by repeat (first | with_reducible exact BEL.out | with_reducible apply Below.alloc | with_reducible apply Below.setCell | with_reducible apply Below.drew | with_reducible apply below_drewN | (first | omega | (focus (simp; done)) | (focus (simp; omega)) | (focus (simp [World.setCell]; omega))))) (hb3.mono (by (first | omega | (focus (simp; done)) | (focus (simp; omega)) | (focus (simp [World.setCell]; omega))))))
  have y_w3 : w.heap.size ≤ w3.heap.size := BEL.out.size
  clear hb3
  clear pP0 pP1 pP2 fP0 fP1 fP2 zP zP_1 zP_2 zP_3
  obtain ⟨pP0, pP1, pP2, fP0, fP1, fP2, zP⟩ := HP.out.three
  have zP_1 : w.heap.size < w3.heap.size + 1 := by omega
  have zP_2 : w.heap.size < w3.heap.size + 1 + 1 := by omega
  have zP_3 : w.heap.size < w3.heap.size + 1 + 1 + 1 := by omega
  go_wp2_with fail
  refine (mnext_is c a k r vy _ H.out r0 r1 VY.out).mono ?_; rintro e w4 ⟨rfl, hb4⟩
  have z_w4 : w3.heap.size ≤ w4.heap.size := Nat.le_trans (by first | with_reducible exact Nat.le_refl _ | (simp; done) | (simp; omega) | (simp [World.setCell]; done)) hb4.size
  replace HP := Lib.hid (show Blk w4 (w.heap.size) 77 _ from by (with_reducible apply Blk.below (hb := hb4); (repeat (first | with_reducible exact HP.out | (with_reducible apply Blk.new'; first | with_reducible rfl | (focus (simp; done)) | (focus (simp; omega))) | with_reducible apply Blk.set_ | with_reducible apply Blk.far | with_reducible apply Blk.alloc | with_reducible apply Blk.drew | with_reducible apply Blk.drewN | (first | omega | (focus (simp; done)) | (focus (simp; omega)) | (focus (simp [World.setCell]; omega)))))))
  replace BEL : Hid (Below w.heap.size w w4) := Lib.hid (Below.trans (by repeat (first | with_reducible exact BEL.out | with_reducible apply Below.alloc | with_reducible apply Below.setCell | with_reducible apply Below.drew | with_reducible apply below_drewN | (first | omega | (focus (simp; done)) | (focus (simp; omega)) | (focus (simp [World.setCell]; omega))))) (hb4.mono (by (first | omega | (focus (simp; done)) | (focus (simp; omega)) | (focus (simp [World.setCell]; omega))))))
  have y_w4 : w.heap.size ≤ w4.heap.size := BEL.out.size
  clear hb4
  clear pP0 pP1 pP2 fP0 fP1 fP2 zP zP_1 zP_2 zP_3
  obtain ⟨pP0, pP1, pP2, fP0, fP1, fP2, zP⟩ := HP.out.three
  have zP_1 : w.heap.size < w4.heap.size + 1 := by omega
  have zP_2 : w.heap.size < w4.heap.size + 1 + 1 := by omega
  have zP_3 : w.heap.size < w4.heap.size + 1 + 1 + 1 := by omega
  go_wp2_with fail
  refine (same_ok _).mono ?_; rintro e w5 ⟨rfl, hb5⟩
  have z_w5 : w4.heap.size ≤ w5.heap.size := Nat.le_trans (by first | with_reducible exact Nat.le_refl _ | (simp; done) | (simp; omega) | (simp [World.setCell]; done)) hb5.size
  replace HP := Lib.hid (show Blk w5 (w.heap.size) 77 _ from by (with_reducible apply Blk.below (hb := hb5); (repeat (first | with_reducible exact HP.out | (with_reducible apply Blk.new'; first | with_reducible rfl | (focus (simp; done)) | (focus (simp; omega))) | with_reducible apply Blk.set_ | with_reducible apply Blk.far | with_reducible apply Blk.alloc | with_reducible apply Blk.drew | with_reducible apply Blk.drewN | (first | omega | (focus (simp; done)) | (focus (simp; omega)) | (focus (simp [World.setCell]; omega)))))))
  replace BEL : Hid (Below w.heap.size w w5) := Lib.hid (Below.trans (by repeat (first | with_reducible exact BEL.out | with_reducible apply Below.alloc | with_reducible apply Below.setCell | with_reducible apply Below.drew | with_reducible apply below_drewN | (first | omega | (focus (simp; done)) | (focus (simp; omega)) | (focus (simp [World.setCell]; omega))))) (hb5.mono (by (first | omega | (focus (simp; done)) | (focus (simp; omega)) | (focus (simp [World.setCell]; omega))))))
  have y_w5 : w.heap.size ≤ w5.heap.size := BEL.out.size
  clear hb5
  clear pP0 pP1 pP2 fP0 fP1 fP2 zP zP_1 zP_2 zP_3
  obtain ⟨pP0, pP1, pP2, fP0, fP1, fP2, zP⟩ := HP.out.three
  have zP_1 : w.heap.size < w5.heap.size + 1 := by omega
  have zP_2 : w.heap.size < w5.heap.size + 1 + 1 := by omega
  have zP_3 : w.heap.size < w5.heap.size + 1 + 1 + 1 := by omega
  go_wp2_with fail
  refine (refTicks_is A cp l w.heap.size _ (HI.out.below (by repeat (first | with_reducible exact BEL.out | with_reducible apply Below.alloc | with_reducible apply Below.setCell | with_reducible apply Below.drew | with_reducible apply below_drewN | (first | omega | (focus (simp; done)) | (focus (simp; omega)) | (focus (simp [World.setCell]; omega))))) (Nat.le_refl _)) 1 HT.out).mono ?_; rintro e w' ⟨rfl, rfl⟩
  have h0 : 0 < l.length := by
    rcases Nat.eq_zero_or_pos l.length with h | h
    · have := HB.out; rw [List.length_eq_zero_iff.1 h] at this; cases this
    · exact h
  go_wp2_with fail
  refine wp_loop_rounds 1 ?_
  rw [rounds_succ]
  go_wp2_with fail
  refine (mrun_bad c a k r A cp l _ H.out r0 r1 ((HI.out.below (by repeat (first | with_reducible exact BEL.out | with_reducible apply Below.alloc | with_reducible apply Below.setCell | with_reducible apply Below.drew | with_reducible apply below_drewN | (first | omega | (focus (simp; done)) | (focus (simp; omega)) | (focus (simp [World.setCell]; omega))))) (Nat.le_refl _)).more (by (first | omega | (focus (simp; done)) | (focus (simp; omega)) | (focus (simp [World.setCell]; omega))))) hl HB.out).mono ?_; rintro e w6 ⟨rfl, hb6⟩
  have z_w6 : w5.heap.size ≤ w6.heap.size := Nat.le_trans (by first | with_reducible exact Nat.le_refl _ | (simp; done) | (simp; omega) | (simp [World.setCell]; done)) hb6.size
  replace HP := Lib.hid (show Blk w6 (w.heap.size) 77 _ from by (with_reducible apply Blk.below (hb := hb6); (repeat (first | with_reducible exact HP.out | (with_reducible apply Blk.new'; first | with_reducible rfl | (focus (simp; done)) | (focus (simp; omega))) | with_reducible apply Blk.set_ | with_reducible apply Blk.far | with_reducible apply Blk.alloc | with_reducible apply Blk.drew | with_reducible apply Blk.drewN | (first | omega | (focus (simp; done)) | (focus (simp; omega)) | (focus (simp [World.setCell]; omega)))))))
  replace BEL : Hid (Below w.heap.size w w6) := Lib.hid (Below.trans (by repeat (first | with_reducible exact BEL.out | with_reducible apply Below.alloc | with_reducible apply Below.setCell | with_reducible apply Below.drew | with_reducible apply below_drewN | (first | omega | (focus (simp; done)) | (focus (simp; omega)) | (focus (simp [World.setCell]; omega))))) (hb6.mono (by (first | omega | (focus (simp; done)) | (focus (simp; omega)) | (focus (simp [World.setCell]; omega))))))
  have y_w6 : w.heap.size ≤ w6.heap.size := BEL.out.size
  clear hb6
  clear pP0 pP1 pP2 fP0 fP1 fP2 zP zP_1 zP_2 zP_3
  obtain ⟨pP0, pP1, pP2, fP0, fP1, fP2, zP⟩ := HP.out.three
  have zP_1 : w.heap.size < w6.heap.size + 1 := by omega
  have zP_2 : w.heap.size < w6.heap.size + 1 + 1 := by omega
  have zP_3 : w.heap.size < w6.heap.size + 1 + 1 + 1 := by omega
  go_wp2_with fail
  refine (same_hit 1 _ (LAID.out.below (by repeat (first | with_reducible exact BEL.out | with_reducible apply Below.alloc | with_reducible apply Below.setCell | with_reducible apply Below.drew | with_reducible apply below_drewN | (first | omega | (focus (simp; done)) | (focus (simp; omega)) | (focus (simp [World.setCell]; omega))))))).mono ?_; rintro e w7 ⟨rfl, hb7⟩
  have z_w7 : w6.heap.size ≤ w7.heap.size := Nat.le_trans (by first | with_reducible exact Nat.le_refl _ | (simp; done) | (simp; omega) | (simp [World.setCell]; done)) hb7.size
  replace HP := Lib.hid (show Blk w7 (w.heap.size) 77 _ from by (with_reducible apply Blk.below (hb := hb7); (repeat (first | with_reducible exact HP.out | (with_reducible apply Blk.new'; first | with_reducible rfl | (focus (simp; done)) | (focus (simp; omega))) | with_reducible apply Blk.set_ | with_reducible apply Blk.far | with_reducible apply Blk.alloc | with_reducible apply Blk.drew | with_reducible apply Blk.drewN | (first | omega | (focus (simp; done)) | (focus (simp; omega)) | (focus (simp [World.setCell]; omega)))))))
  replace BEL : Hid (Below w.heap.size w w7) := Lib.hid (Below.trans (by repeat (first | with_reducible exact BEL.out | with_reducible apply Below.alloc | with_reducible apply Below.setCell | with_reducible apply Below.drew | with_reducible apply below_drewN | (first | omega | (focus (simp; done)) | (focus (simp; omega)) | (focus (simp [World.setCell]; omega))))) (hb7.mono (by (first | omega | (focus (simp; done)) | (focus (simp; omega)) | (focus (simp [World.setCell]; omega))))))
  have y_w7 : w.heap.size ≤ w7.heap.size := BEL.out.size
  clear hb7
  clear pP0 pP1 pP2 fP0 fP1 fP2 zP zP_1 zP_2 zP_3
  obtain ⟨pP0, pP1, pP2, fP0, fP1, fP2, zP⟩ := HP.out.three
  have zP_1 : w.heap.size < w7.heap.size + 1 := by omega
  have zP_2 : w.heap.size < w7.heap.size + 1 + 1 := by omega
  have zP_3 : w.heap.size < w7.heap.size + 1 + 1 + 1 := by omega
  go_wp2_with fail
  refine (sameInts_nil _).mono ?_; rintro e w8 ⟨rfl, hb8⟩
  have z_w8 : w7.heap.size ≤ w8.heap.size := Nat.le_trans (by first | with_reducible exact Nat.le_refl _ | (simp; done) | (simp; omega) | (simp [World.setCell]; done)) hb8.size
  replace HP := Lib.hid (show Blk w8 (w.heap.size) 77 _ from by (with_reducible apply Blk.below (hb := hb8); (repeat (first | with_reducible exact HP.out | (with_reducible apply Blk.new'; first | with_reducible rfl | (focus (simp; done)) | (focus (simp; omega))) | with_reducible apply Blk.set_ | with_reducible apply Blk.far | with_reducible apply Blk.alloc | with_reducible apply Blk.drew | with_reducible apply Blk.drewN | (first | omega | (focus (simp; done)) | (focus (simp; omega)) | (focus (simp [World.setCell]; omega)))))))
  replace BEL : Hid (Below w.heap.size w w8) := Lib.hid (Below.trans (by repeat (first | with_reducible exact BEL.out | with_reducible apply Below.alloc | with_reducible apply Below.setCell | with_reducible apply Below.drew | with_reducible apply below_drewN | (first | omega | (focus (simp; done)) | (focus (simp; omega)) | (focus (simp [World.setCell]; omega))))) (hb8.mono (by (first | omega | (focus (simp; done)) | (focus (simp; omega)) | (focus (simp [World.setCell]; omega))))))
  have y_w8 : w.heap.size ≤ w8.heap.size := BEL.out.size
  clear hb8
  clear pP0 pP1 pP2 fP0 fP1 fP2 zP zP_1 zP_2 zP_3
  obtain ⟨pP0, pP1, pP2, fP0, fP1, fP2, zP⟩ := HP.out.three
  have zP_1 : w.heap.size < w8.heap.size + 1 := by omega
  have zP_2 : w.heap.size < w8.heap.size + 1 + 1 := by omega
  have zP_3 : w.heap.size < w8.heap.size + 1 + 1 + 1 := by omega
  go_wp2
  go_ret
  exact ⟨rfl, (by repeat (first | with_reducible exact BEL.out | with_reducible apply Below.alloc | with_reducible apply Below.setCell | with_reducible apply Below.drew | with_reducible apply below_drewN | (first | omega | (focus (simp; done)) | (focus (simp; omega)) | (focus (simp [World.setCell]; omega)))))⟩
set_option maxHeartbeats 8000000 in
set_option maxRecDepth 100000 in
theorem meterTells_in_ok (c a k r : Int) (A : Option Addr) (cp : Nat) (l : List Int) (w : World) (hi : Ints w w.heap.size A cp l) (hg : Laid w) (ok : MeterOk c a k) (r0 : 1 ≤ r) (r1 : r ≤ 1000) (hl : l.length ≤ 60) (hb : l.any badRate = false) :
    Calls Tryd.prog 9 #[.agg #[.int .i64 c, .int .i64 a, .int .i64 k], .int .i64 r, .slice A l.length cp] w fun e w' => e = .returned (.bool true) ∧ Below w.heap.size w w' := by
  have LAID := Lib.hid hg; clear hg
  have HI := Lib.hid hi; clear hi
  have H := Lib.hid ok
  obtain ⟨vy, hvy⟩ : ∃ v, PM.nxt c a k r = v := ⟨_, rfl⟩
  have VY := Lib.hid hvy; clear hvy
  obtain ⟨c0, c1, a0, a1, k0, k1⟩ := ok
  have HB := Lib.hid hb; clear hb
  have HT : Hid (ticksErr l = 0) := Lib.hid (by unfold ticksErr; rw [if_neg (by omega), HB.out]; rfl)
  have BEL : Hid (Below w.heap.size w w) := Lib.hid (Below.refl _ _)
  have yB : w.heap.size ≤ w.heap.size := Nat.le_refl _
  go_enter Tryd.func9, Tryd.ntmps9
  go_wp2_with fail
  refine (refMeter_yes c a k _ H.out).mono ?_; rintro e w1 ⟨rfl, hb1⟩
  have z_w1 : w.heap.size ≤ w1.heap.size := Nat.le_trans (by first | with_reducible exact Nat.le_refl _ | (simp; done) | (simp; omega) | (simp [World.setCell]; done)) hb1.size
  have HP := Lib.hid (show Blk w1 (w.heap.size) 77 _ from by (with_reducible apply Blk.below (hb := hb1); (repeat (first | (with_reducible apply Blk.new'; first | with_reducible rfl | (focus (simp; done)) | (focus (simp; omega))) | with_reducible apply Blk.set_ | with_reducible apply Blk.far | with_reducible apply Blk.alloc | with_reducible apply Blk.drew | with_reducible apply Blk.drewN | (first | omega | (focus (simp; done)) | (focus (simp; omega)) | (focus (simp [World.setCell]; omega)))))))
  have q_P_w1 : w.heap.size < w1.heap.size := HP.out.lt
  replace BEL : Hid (Below w.heap.size w w1) := Lib.hid (Below.trans (by repeat (first | with_reducible exact BEL.out | with_reducible apply Below.alloc | with_reducible apply Below.setCell | with_reducible apply Below.drew | with_reducible apply below_drewN | (first | omega | (focus (simp; done)) | (focus (simp; omega)) | (focus (simp [World.setCell]; omega))))) (hb1.mono (by (first | omega | (focus (simp; done)) | (focus (simp; omega)) | (focus (simp [World.setCell]; omega))))))
  have y_w1 : w.heap.size ≤ w1.heap.size := BEL.out.size
  clear hb1
  obtain ⟨pP0, pP1, pP2, fP0, fP1, fP2, zP⟩ := HP.out.three
  have zP_1 : w.heap.size < w1.heap.size + 1 := by omega
  have zP_2 : w.heap.size < w1.heap.size + 1 + 1 := by omega
  have zP_3 : w.heap.size < w1.heap.size + 1 + 1 + 1 := by omega
  go_wp2_with fail
  refine (mcheck_yes c a k _ H.out).mono ?_; rintro e w' ⟨rfl, rfl⟩
  go_wp2_with fail
  refine (same_ok _).mono ?_; rintro e w2 ⟨rfl, hb2⟩
  have z_w2 : w1.heap.size ≤ w2.heap.size := Nat.le_trans (by first | with_reducible exact Nat.le_refl _ | (simp; done) | (simp; omega) | (simp [World.setCell]; done)) hb2.size
  replace HP := Lib.hid (show Blk w2 (w.heap.size) 77 _ from by (with_reducible apply Blk.below (hb := hb2); (repeat (first | with_reducible exact HP.out | (with_reducible apply Blk.new'; first | with_reducible rfl | (focus (simp; done)) | (focus (simp; omega))) | with_reducible apply Blk.set_ | with_reducible apply Blk.far | with_reducible apply Blk.alloc | with_reducible apply Blk.drew | with_reducible apply Blk.drewN | (first | omega | (focus (simp; done)) | (focus (simp; omega)) | (focus (simp [World.setCell]; omega)))))))
  replace BEL : Hid (Below w.heap.size w w2) := Lib.hid (Below.trans (by repeat (first | with_reducible exact BEL.out | with_reducible apply Below.alloc | with_reducible apply Below.setCell | with_reducible apply Below.drew | with_reducible apply below_drewN | (first | omega | (focus (simp; done)) | (focus (simp; omega)) | (focus (simp [World.setCell]; omega))))) (hb2.mono (by (first | omega | (focus (simp; done)) | (focus (simp; omega)) | (focus (simp [World.setCell]; omega))))))
  have y_w2 : w.heap.size ≤ w2.heap.size := BEL.out.size
  clear hb2
  clear pP0 pP1 pP2 fP0 fP1 fP2 zP zP_1 zP_2 zP_3
  obtain ⟨pP0, pP1, pP2, fP0, fP1, fP2, zP⟩ := HP.out.three
  have zP_1 : w.heap.size < w2.heap.size + 1 := by omega
  have zP_2 : w.heap.size < w2.heap.size + 1 + 1 := by omega
  have zP_3 : w.heap.size < w2.heap.size + 1 + 1 + 1 := by omega
  go_wp2_with fail
  refine (refNext_is c a k r vy _ H.out r0 r1 VY.out).mono ?_; rintro e w3 ⟨rfl, hb3⟩
  have z_w3 : w2.heap.size ≤ w3.heap.size := Nat.le_trans (by first | with_reducible exact Nat.le_refl _ | (simp; done) | (simp; omega) | (simp [World.setCell]; done)) hb3.size
  replace HP := Lib.hid (show Blk w3 (w.heap.size) 77 _ from by (with_reducible apply Blk.below (hb := hb3); (repeat (first | with_reducible exact HP.out | (with_reducible apply Blk.new'; first | with_reducible rfl | (focus (simp; done)) | (focus (simp; omega))) | with_reducible apply Blk.set_ | with_reducible apply Blk.far | with_reducible apply Blk.alloc | with_reducible apply Blk.drew | with_reducible apply Blk.drewN | (first | omega | (focus (simp; done)) | (focus (simp; omega)) | (focus (simp [World.setCell]; omega)))))))
  replace BEL : Hid (Below w.heap.size w w3) := Lib.hid (Below.trans (by repeat (first | with_reducible exact BEL.out | with_reducible apply Below.alloc | with_reducible apply Below.setCell | with_reducible apply Below.drew | with_reducible apply below_drewN | (first | omega | (focus (simp; done)) | (focus (simp; omega)) | (focus (simp [World.setCell]; omega))))) (hb3.mono (by (first | omega | (focus (simp; done)) | (focus (simp; omega)) | (focus (simp [World.setCell]; omega))))))
  have y_w3 : w.heap.size ≤ w3.heap.size := BEL.out.size
  clear hb3
  clear pP0 pP1 pP2 fP0 fP1 fP2 zP zP_1 zP_2 zP_3
  obtain ⟨pP0, pP1, pP2, fP0, fP1, fP2, zP⟩ := HP.out.three
  have zP_1 : w.heap.size < w3.heap.size + 1 := by omega
  have zP_2 : w.heap.size < w3.heap.size + 1 + 1 := by omega
  have zP_3 : w.heap.size < w3.heap.size + 1 + 1 + 1 := by omega
  go_wp2_with fail
  refine (mnext_is c a k r vy _ H.out r0 r1 VY.out).mono ?_; rintro e w4 ⟨rfl, hb4⟩
  have z_w4 : w3.heap.size ≤ w4.heap.size := Nat.le_trans (by first | with_reducible exact Nat.le_refl _ | (simp; done) | (simp; omega) | (simp [World.setCell]; done)) hb4.size
  replace HP := Lib.hid (show Blk w4 (w.heap.size) 77 _ from by (with_reducible apply Blk.below (hb := hb4); (repeat (first | with_reducible exact HP.out | (with_reducible apply Blk.new'; first | with_reducible rfl | (focus (simp; done)) | (focus (simp; omega))) | with_reducible apply Blk.set_ | with_reducible apply Blk.far | with_reducible apply Blk.alloc | with_reducible apply Blk.drew | with_reducible apply Blk.drewN | (first | omega | (focus (simp; done)) | (focus (simp; omega)) | (focus (simp [World.setCell]; omega)))))))
  replace BEL : Hid (Below w.heap.size w w4) := Lib.hid (Below.trans (by repeat (first | with_reducible exact BEL.out | with_reducible apply Below.alloc | with_reducible apply Below.setCell | with_reducible apply Below.drew | with_reducible apply below_drewN | (first | omega | (focus (simp; done)) | (focus (simp; omega)) | (focus (simp [World.setCell]; omega))))) (hb4.mono (by (first | omega | (focus (simp; done)) | (focus (simp; omega)) | (focus (simp [World.setCell]; omega))))))
  have y_w4 : w.heap.size ≤ w4.heap.size := BEL.out.size
  clear hb4
  clear pP0 pP1 pP2 fP0 fP1 fP2 zP zP_1 zP_2 zP_3
  obtain ⟨pP0, pP1, pP2, fP0, fP1, fP2, zP⟩ := HP.out.three
  have zP_1 : w.heap.size < w4.heap.size + 1 := by omega
  have zP_2 : w.heap.size < w4.heap.size + 1 + 1 := by omega
  have zP_3 : w.heap.size < w4.heap.size + 1 + 1 + 1 := by omega
  go_wp2_with fail
  refine (same_ok _).mono ?_; rintro e w5 ⟨rfl, hb5⟩
  have z_w5 : w4.heap.size ≤ w5.heap.size := Nat.le_trans (by first | with_reducible exact Nat.le_refl _ | (simp; done) | (simp; omega) | (simp [World.setCell]; done)) hb5.size
  replace HP := Lib.hid (show Blk w5 (w.heap.size) 77 _ from by (with_reducible apply Blk.below (hb := hb5); (repeat (first | with_reducible exact HP.out | (with_reducible apply Blk.new'; first | with_reducible rfl | (focus (simp; done)) | (focus (simp; omega))) | with_reducible apply Blk.set_ | with_reducible apply Blk.far | with_reducible apply Blk.alloc | with_reducible apply Blk.drew | with_reducible apply Blk.drewN | (first | omega | (focus (simp; done)) | (focus (simp; omega)) | (focus (simp [World.setCell]; omega)))))))
  replace BEL : Hid (Below w.heap.size w w5) := Lib.hid (Below.trans (by repeat (first | with_reducible exact BEL.out | with_reducible apply Below.alloc | with_reducible apply Below.setCell | with_reducible apply Below.drew | with_reducible apply below_drewN | (first | omega | (focus (simp; done)) | (focus (simp; omega)) | (focus (simp [World.setCell]; omega))))) (hb5.mono (by (first | omega | (focus (simp; done)) | (focus (simp; omega)) | (focus (simp [World.setCell]; omega))))))
  have y_w5 : w.heap.size ≤ w5.heap.size := BEL.out.size
  clear hb5
  clear pP0 pP1 pP2 fP0 fP1 fP2 zP zP_1 zP_2 zP_3
  obtain ⟨pP0, pP1, pP2, fP0, fP1, fP2, zP⟩ := HP.out.three
  have zP_1 : w.heap.size < w5.heap.size + 1 := by omega
  have zP_2 : w.heap.size < w5.heap.size + 1 + 1 := by omega
  have zP_3 : w.heap.size < w5.heap.size + 1 + 1 + 1 := by omega
  go_wp2_with fail
  refine (refTicks_is A cp l w.heap.size _ (HI.out.below (by repeat (first | with_reducible exact BEL.out | with_reducible apply Below.alloc | with_reducible apply Below.setCell | with_reducible apply Below.drew | with_reducible apply below_drewN | (first | omega | (focus (simp; done)) | (focus (simp; omega)) | (focus (simp [World.setCell]; omega))))) (Nat.le_refl _)) 0 HT.out).mono ?_; rintro e w' ⟨rfl, rfl⟩
  go_wp2_with fail
  go_loopw [13, 15, 16] (fun v rt i wr => ∃ (j : Nat) (x wt y : Int), j ≤ l.length ∧ i = .int .i64 j ∧ rt = .int .i64 y ∧ Hid (PM.after c k r (l.take j) = (wt, y)) ∧ 0 ≤ wt ∧ wt ≤ 10000 ∧ 1 ≤ y ∧ y ≤ 1000 ∧ Hid (Blk wr w.heap.size 77 #[.int .i64 c, .int .i64 a, .int .i64 k]) ∧ Hid (Blk wr (w5.heap.size) 77 #[.int .i64 c, .int .i64 x, .int .i64 wt]) ∧ Hid (wr.ownsRow (w5.heap.size + 1) 3 1 v j ((PM.rates c k r (l.take j)).map (Value.int .i64))) ∧ Hid (Below w.heap.size w wr) ∧ w5.heap.size + 1 ≤ wr.heap.size)
    (fun _ _ i _ => l.length - (intOf i).toNat)
  case atStart => exact ⟨0, a, k, r, Nat.zero_le _, rfl, rfl, rfl, k0, k1, r0, r1, Lib.hid (Blk.val (by (repeat (first | with_reducible exact HP.out | (with_reducible apply Blk.new'; first | with_reducible rfl | (focus (simp; done)) | (focus (simp; omega))) | with_reducible apply Blk.set_ | with_reducible apply Blk.far | with_reducible apply Blk.alloc | with_reducible apply Blk.drew | with_reducible apply Blk.drewN | (first | omega | (focus (simp; done)) | (focus (simp; omega)) | (focus (simp [World.setCell]; omega)))))) (by first | rfl | simp)), Lib.hid (Blk.val (by (repeat (first | (with_reducible apply Blk.new'; first | with_reducible rfl | (focus (simp; done)) | (focus (simp; omega))) | with_reducible apply Blk.set_ | with_reducible apply Blk.far | with_reducible apply Blk.alloc | with_reducible apply Blk.drew | with_reducible apply Blk.drewN | (first | omega | (focus (simp; done)) | (focus (simp; omega)) | (focus (simp [World.setCell]; omega)))))) (by first | rfl | simp)), World.ownsRow_nil _ _ _ _, Lib.hid (by repeat (first | with_reducible exact BEL.out | with_reducible apply Below.alloc | with_reducible apply Below.setCell | with_reducible apply Below.drew | with_reducible apply below_drewN | (first | omega | (focus (simp; done)) | (focus (simp; omega)) | (focus (simp [World.setCell]; omega))))), by simp⟩
  clear pP0 pP1 pP2 fP0 fP1 fP2 zP zP_1 zP_2 zP_3
  case round =>
    obtain ⟨j, x, wt, y, hj, rfl, rfl, HR, a0, a1, y0, y1, HP, HX, HOWN, BEL, zz⟩ := hrel
    have y_wr : w.heap.size ≤ wr.heap.size := BEL.out.size
    have q_P_wr : w.heap.size < wr.heap.size := HP.out.lt
    have q_X_wr : w5.heap.size < wr.heap.size := HX.out.lt
    obtain ⟨pP0, pP1, pP2, fP0, fP1, fP2, zP⟩ := HP.out.three
    have zP_1 : w.heap.size < wr.heap.size + 1 := by omega
    have zP_2 : w.heap.size < wr.heap.size + 1 + 1 := by omega
    have zP_3 : w.heap.size < wr.heap.size + 1 + 1 + 1 := by omega
    obtain ⟨pX0, pX1, pX2, fX0, fX1, fX2, zX⟩ := HX.out.three
    have zX_1 : w5.heap.size < wr.heap.size + 1 := by omega
    have zX_2 : w5.heap.size < wr.heap.size + 1 + 1 := by omega
    have zX_3 : w5.heap.size < wr.heap.size + 1 + 1 + 1 := by omega
    by_cases hlt : j < l.length
    · obtain ⟨bb, off, n, rfl, hbb, hc, hn, HTK, HXX⟩ := (HI.out.below BEL.out (Nat.le_refl _)).elem hlt
      obtain ⟨n0, n1⟩ := ticks_in HB.out n hn
      have hbb1 : bb < wr.heap.size := by omega
      have hne1 : ¬ bb = w5.heap.size := by omega
      have hne2 : ¬ w5.heap.size = bb := by omega
      have HRS := Lib.hid (PM.rates_snoc c (l.take j) k r n)
      have HAS := Lib.hid (PM.after_snoc c (l.take j) k r n)
      obtain ⟨wv, hwv⟩ : ∃ v, v = max 0 (min 10000 (wt + n - c)) := ⟨_, rfl⟩
      obtain ⟨y', hy'⟩ : ∃ v, PM.nxt c n wv y = v := ⟨_, rfl⟩
      have hyb := PM.bounds c n wv y c0
      rw [hy'] at hyb
      obtain ⟨u0, u1⟩ := hyb
      have w0 : 0 ≤ wv ∧ wv ≤ 10000 := by omega
      obtain ⟨w0, w1⟩ := w0
      have HRS' : Hid ((PM.rates c k r (l.take (j + 1))).map (Value.int .i64) = (PM.rates c k r (l.take j)).map (Value.int .i64) ++ [.int .i64 y']) := by
        show _ = _
        rw [HTK.out, HRS.out, HR.out]; simp only [List.map_append, List.map_cons, List.map_nil]; rw [← hwv, hy']
      have HAS' : Hid (PM.after c k r (l.take (j + 1)) = (wv, y')) := by
        show _ = _
        rw [HTK.out, HAS.out, HR.out]; simp only []; rw [← hwv, hy']
      have HY' := Lib.hid hy'
      have HWV := Lib.hid hwv
      have hmk : MeterOk c n wv := ⟨c0, c1, n0, n1, w0, w1⟩
      have HMK := Lib.hid hmk
      clear HRS HAS HTK HXX hn hy' hwv hmk
      have HX := Lib.hid ((HX.out.set_ 1 (.int .i64 n)).val (cs' := #[.int .i64 c, .int .i64 n, .int .i64 wt]) rfl)
      go_upto_region 19 with fail
      go_cut [16] (fun s wx => s = .int .i64 j ∧ wx = ((wr.setCell ⟨w5.heap.size, 1, none⟩ (.int .i64 n)).drew).setCell ⟨w5.heap.size, 2, none⟩ (.int .i64 (wt + n - c)))
      case first =>
        go_region
        all_goals
          go_wp2
          go_meet
          exact ⟨rfl, rfl⟩
      case rest =>
        obtain ⟨rfl, rfl⟩ := hcut
        clear pP0 pP1 pP2 fP0 fP1 fP2 zP zP_1 zP_2 zP_3 pX0 pX1 pX2 fX0 fX1 fX2 zX zX_1 zX_2 zX_3
        have HX := Lib.hid ((HX.out.drew.set_ 2 (.int .i64 (wt + n - c))).val (cs' := #[.int .i64 c, .int .i64 n, .int .i64 (wt + n - c)]) rfl)
        have HO0 := own_set HOWN.out (g := w5.heap.size) (i := 1) (Nat.lt_succ_self _) (.int .i64 n)
        have HO0 := own_below HO0 (Below.refl _ _).drew
        have HO1 := Lib.hid (own_set HO0 (g := w5.heap.size) (i := 2) (Nat.lt_succ_self _) (.int .i64 (wt + n - c)))
        clear HO0
        have HP := Lib.hid (((HP.out.far (p := ⟨w5.heap.size, 1, none⟩) (show w.heap.size ≠ w5.heap.size from by omega) (.int .i64 n)).drew).far (p := ⟨w5.heap.size, 2, none⟩) (show w.heap.size ≠ w5.heap.size from by omega) (.int .i64 (wt + n - c)))
        have BEL : Hid (Below w.heap.size w _) := Lib.hid (((BEL.out.setCell (p := ⟨w5.heap.size, 1, none⟩) (show w.heap.size ≤ w5.heap.size from by omega) (.int .i64 n)).drew).setCell (p := ⟨w5.heap.size, 2, none⟩) (show w.heap.size ≤ w5.heap.size from by omega) (.int .i64 (wt + n - c)))
        obtain ⟨wx, hwx⟩ : ∃ wx, wx = ((wr.setCell ⟨w5.heap.size, 1, none⟩ (.int .i64 n)).drew).setCell ⟨w5.heap.size, 2, none⟩ (.int .i64 (wt + n - c)) := ⟨_, rfl⟩
        rw [← hwx] at HX HO1 HP BEL ⊢
        have z_wx : wr.heap.size ≤ wx.heap.size := by rw [hwx]; simp [World.setCell]
        clear hwx HOWN
        have y_wx : w.heap.size ≤ wx.heap.size := by omega
        obtain ⟨pP0, pP1, pP2, fP0, fP1, fP2, zP⟩ := HP.out.three
        have zP_1 : w.heap.size < wx.heap.size + 1 := by omega
        have zP_2 : w.heap.size < wx.heap.size + 1 + 1 := by omega
        have zP_3 : w.heap.size < wx.heap.size + 1 + 1 + 1 := by omega
        obtain ⟨pX0, pX1, pX2, fX0, fX1, fX2, zX⟩ := HX.out.three
        have zX_1 : w5.heap.size < wx.heap.size + 1 := by omega
        have zX_2 : w5.heap.size < wx.heap.size + 1 + 1 := by omega
        have zX_3 : w5.heap.size < wx.heap.size + 1 + 1 + 1 := by omega
        by_cases c1 : wt + n - c < 0
        · have ev : wv = 0 := by have := HWV.out; omega
          subst ev
          go_wp2_with fail
          refine (refNext_is c n 0 y y' _ HMK.out y0 y1 HY'.out).mono ?_; rintro e v1 ⟨rfl, hbv⟩
          have HO1 := Lib.hid (own_set HO1.out (g := w5.heap.size) (i := 2) (Nat.lt_succ_self _) (.int .i64 0))
          have HO2 := Lib.hid (own_below HO1.out hbv)
          have z_v1 : wx.heap.size ≤ v1.heap.size := Nat.le_trans (by first | with_reducible exact Nat.le_refl _ | (simp; done) | (simp; omega) | (simp [World.setCell]; done)) hbv.size
          replace HP := Lib.hid (show Blk v1 (w.heap.size) 77 _ from by (with_reducible apply Blk.below (hb := hbv); (repeat (first | with_reducible exact HP.out | (with_reducible apply Blk.new'; first | with_reducible rfl | (focus (simp; done)) | (focus (simp; omega))) | with_reducible apply Blk.set_ | with_reducible apply Blk.far | with_reducible apply Blk.alloc | with_reducible apply Blk.drew | with_reducible apply Blk.drewN | (first | omega | (focus (simp; done)) | (focus (simp; omega)) | (focus (simp [World.setCell]; omega)))))))
          replace HX := Lib.hid (show Blk v1 (w5.heap.size) 77 _ from by (with_reducible apply Blk.below (hb := hbv); (repeat (first | with_reducible exact HX.out | (with_reducible apply Blk.new'; first | with_reducible rfl | (focus (simp; done)) | (focus (simp; omega))) | with_reducible apply Blk.set_ | with_reducible apply Blk.far | with_reducible apply Blk.alloc | with_reducible apply Blk.drew | with_reducible apply Blk.drewN | (first | omega | (focus (simp; done)) | (focus (simp; omega)) | (focus (simp [World.setCell]; omega)))))))
          replace BEL : Hid (Below w.heap.size w v1) := Lib.hid (Below.trans (by repeat (first | with_reducible exact BEL.out | with_reducible apply Below.alloc | with_reducible apply Below.setCell | with_reducible apply Below.drew | with_reducible apply below_drewN | (first | omega | (focus (simp; done)) | (focus (simp; omega)) | (focus (simp [World.setCell]; omega))))) (hbv.mono (by (first | omega | (focus (simp; done)) | (focus (simp; omega)) | (focus (simp [World.setCell]; omega))))))
          have y_v1 : w.heap.size ≤ v1.heap.size := BEL.out.size
          clear hbv
          clear pP0 pP1 pP2 fP0 fP1 fP2 zP zP_1 zP_2 zP_3 pX0 pX1 pX2 fX0 fX1 fX2 zX zX_1 zX_2 zX_3
          have zz2 : w5.heap.size + 1 ≤ v1.heap.size := by omega
          obtain ⟨pP0, pP1, pP2, fP0, fP1, fP2, zP⟩ := HP.out.three
          have zP_1 : w.heap.size < v1.heap.size + 1 := by omega
          have zP_2 : w.heap.size < v1.heap.size + 1 + 1 := by omega
          have zP_3 : w.heap.size < v1.heap.size + 1 + 1 + 1 := by omega
          obtain ⟨pX0, pX1, pX2, fX0, fX1, fX2, zX⟩ := HX.out.three
          have zX_1 : w5.heap.size < v1.heap.size + 1 := by omega
          have zX_2 : w5.heap.size < v1.heap.size + 1 + 1 := by omega
          have zX_3 : w5.heap.size < v1.heap.size + 1 + 1 + 1 := by omega
          go_wp2_with (at_builtin; refine wpList_push v1 _ rfl (.tmp 97) (.tmp 99) 42 rfl (w5.heap.size + 1) 3 (.int .i64 0) 1 8 Tryd.underlying42 Tryd.info_int rfl (by omega) _ j _ rfl HO2.out rfl rfl (by simp [Value.oneCell']) (by omega) (by omega) zz2 ?_)
          intro v' w4 hown4 hg4
          go_wp2
          go_roundw
          case rel =>
            refine ⟨j + 1, n, 0, y', by omega, by go_num, rfl, HAS', w0, w1, u0, by omega, ?_, ?_, ?_, ?_, ?_⟩
            · exact Lib.hid (HP.out.grown hg4 (fun e => by have := (HO2.out.lt _ e.symm).1; omega))
            · exact Lib.hid ((HX.out.grown hg4 (fun e => by have := (HO2.out.lt _ e.symm).1; omega)).val (by first | rfl | simp))
            · show World.ownsRow _ _ _ _ _ _ _
              rw [HRS'.out]; exact hown4
            · exact Lib.hid (below_push BEL.out HO2.out hg4 (by omega) (by omega))
            · have := hg4.size; omega
          case measure => simp [intOf]; omega
        · by_cases c2 : 10000 < wt + n - c
          · have ev : wv = 10000 := by have := HWV.out; omega
            subst ev
            go_wp2_with fail
            refine (refNext_is c n 10000 y y' _ HMK.out y0 y1 HY'.out).mono ?_; rintro e v1 ⟨rfl, hbv⟩
            have HO1 := Lib.hid (own_set HO1.out (g := w5.heap.size) (i := 2) (Nat.lt_succ_self _) (.int .i64 10000))
            have HO2 := Lib.hid (own_below HO1.out hbv)
            have z_v1 : wx.heap.size ≤ v1.heap.size := Nat.le_trans (by first | with_reducible exact Nat.le_refl _ | (simp; done) | (simp; omega) | (simp [World.setCell]; done)) hbv.size
            replace HP := Lib.hid (show Blk v1 (w.heap.size) 77 _ from by (with_reducible apply Blk.below (hb := hbv); (repeat (first | with_reducible exact HP.out | (with_reducible apply Blk.new'; first | with_reducible rfl | (focus (simp; done)) | (focus (simp; omega))) | with_reducible apply Blk.set_ | with_reducible apply Blk.far | with_reducible apply Blk.alloc | with_reducible apply Blk.drew | with_reducible apply Blk.drewN | (first | omega | (focus (simp; done)) | (focus (simp; omega)) | (focus (simp [World.setCell]; omega)))))))
            replace HX := Lib.hid (show Blk v1 (w5.heap.size) 77 _ from by (with_reducible apply Blk.below (hb := hbv); (repeat (first | with_reducible exact HX.out | (with_reducible apply Blk.new'; first | with_reducible rfl | (focus (simp; done)) | (focus (simp; omega))) | with_reducible apply Blk.set_ | with_reducible apply Blk.far | with_reducible apply Blk.alloc | with_reducible apply Blk.drew | with_reducible apply Blk.drewN | (first | omega | (focus (simp; done)) | (focus (simp; omega)) | (focus (simp [World.setCell]; omega)))))))
            replace BEL : Hid (Below w.heap.size w v1) := Lib.hid (Below.trans (by repeat (first | with_reducible exact BEL.out | with_reducible apply Below.alloc | with_reducible apply Below.setCell | with_reducible apply Below.drew | with_reducible apply below_drewN | (first | omega | (focus (simp; done)) | (focus (simp; omega)) | (focus (simp [World.setCell]; omega))))) (hbv.mono (by (first | omega | (focus (simp; done)) | (focus (simp; omega)) | (focus (simp [World.setCell]; omega))))))
            have y_v1 : w.heap.size ≤ v1.heap.size := BEL.out.size
            clear hbv
            clear pP0 pP1 pP2 fP0 fP1 fP2 zP zP_1 zP_2 zP_3 pX0 pX1 pX2 fX0 fX1 fX2 zX zX_1 zX_2 zX_3
            have zz2 : w5.heap.size + 1 ≤ v1.heap.size := by omega
            obtain ⟨pP0, pP1, pP2, fP0, fP1, fP2, zP⟩ := HP.out.three
            have zP_1 : w.heap.size < v1.heap.size + 1 := by omega
            have zP_2 : w.heap.size < v1.heap.size + 1 + 1 := by omega
            have zP_3 : w.heap.size < v1.heap.size + 1 + 1 + 1 := by omega
            obtain ⟨pX0, pX1, pX2, fX0, fX1, fX2, zX⟩ := HX.out.three
            have zX_1 : w5.heap.size < v1.heap.size + 1 := by omega
            have zX_2 : w5.heap.size < v1.heap.size + 1 + 1 := by omega
            have zX_3 : w5.heap.size < v1.heap.size + 1 + 1 + 1 := by omega
            go_wp2_with (at_builtin; refine wpList_push v1 _ rfl (.tmp 97) (.tmp 99) 42 rfl (w5.heap.size + 1) 3 (.int .i64 0) 1 8 Tryd.underlying42 Tryd.info_int rfl (by omega) _ j _ rfl HO2.out rfl rfl (by simp [Value.oneCell']) (by omega) (by omega) zz2 ?_)
            intro v' w4 hown4 hg4
            go_wp2
            go_roundw
            case rel =>
              refine ⟨j + 1, n, 10000, y', by omega, by go_num, rfl, HAS', w0, w1, u0, by omega, ?_, ?_, ?_, ?_, ?_⟩
              · exact Lib.hid (HP.out.grown hg4 (fun e => by have := (HO2.out.lt _ e.symm).1; omega))
              · exact Lib.hid ((HX.out.grown hg4 (fun e => by have := (HO2.out.lt _ e.symm).1; omega)).val (by first | rfl | simp))
              · show World.ownsRow _ _ _ _ _ _ _
                rw [HRS'.out]; exact hown4
              · exact Lib.hid (below_push BEL.out HO2.out hg4 (by omega) (by omega))
              · have := hg4.size; omega
            case measure => simp [intOf]; omega
          · have ev : wv = (wt + n - c) := by have := HWV.out; omega
            subst ev
            go_wp2_with fail
            refine (refNext_is c n (wt + n - c) y y' _ HMK.out y0 y1 HY'.out).mono ?_; rintro e v1 ⟨rfl, hbv⟩
            have HO2 := Lib.hid (own_below HO1.out hbv)
            have z_v1 : wx.heap.size ≤ v1.heap.size := Nat.le_trans (by first | with_reducible exact Nat.le_refl _ | (simp; done) | (simp; omega) | (simp [World.setCell]; done)) hbv.size
            replace HP := Lib.hid (show Blk v1 (w.heap.size) 77 _ from by (with_reducible apply Blk.below (hb := hbv); (repeat (first | with_reducible exact HP.out | (with_reducible apply Blk.new'; first | with_reducible rfl | (focus (simp; done)) | (focus (simp; omega))) | with_reducible apply Blk.set_ | with_reducible apply Blk.far | with_reducible apply Blk.alloc | with_reducible apply Blk.drew | with_reducible apply Blk.drewN | (first | omega | (focus (simp; done)) | (focus (simp; omega)) | (focus (simp [World.setCell]; omega)))))))
            replace HX := Lib.hid (show Blk v1 (w5.heap.size) 77 _ from by (with_reducible apply Blk.below (hb := hbv); (repeat (first | with_reducible exact HX.out | (with_reducible apply Blk.new'; first | with_reducible rfl | (focus (simp; done)) | (focus (simp; omega))) | with_reducible apply Blk.set_ | with_reducible apply Blk.far | with_reducible apply Blk.alloc | with_reducible apply Blk.drew | with_reducible apply Blk.drewN | (first | omega | (focus (simp; done)) | (focus (simp; omega)) | (focus (simp [World.setCell]; omega)))))))
            replace BEL : Hid (Below w.heap.size w v1) := Lib.hid (Below.trans (by repeat (first | with_reducible exact BEL.out | with_reducible apply Below.alloc | with_reducible apply Below.setCell | with_reducible apply Below.drew | with_reducible apply below_drewN | (first | omega | (focus (simp; done)) | (focus (simp; omega)) | (focus (simp [World.setCell]; omega))))) (hbv.mono (by (first | omega | (focus (simp; done)) | (focus (simp; omega)) | (focus (simp [World.setCell]; omega))))))
            have y_v1 : w.heap.size ≤ v1.heap.size := BEL.out.size
            clear hbv
            clear pP0 pP1 pP2 fP0 fP1 fP2 zP zP_1 zP_2 zP_3 pX0 pX1 pX2 fX0 fX1 fX2 zX zX_1 zX_2 zX_3
            have zz2 : w5.heap.size + 1 ≤ v1.heap.size := by omega
            obtain ⟨pP0, pP1, pP2, fP0, fP1, fP2, zP⟩ := HP.out.three
            have zP_1 : w.heap.size < v1.heap.size + 1 := by omega
            have zP_2 : w.heap.size < v1.heap.size + 1 + 1 := by omega
            have zP_3 : w.heap.size < v1.heap.size + 1 + 1 + 1 := by omega
            obtain ⟨pX0, pX1, pX2, fX0, fX1, fX2, zX⟩ := HX.out.three
            have zX_1 : w5.heap.size < v1.heap.size + 1 := by omega
            have zX_2 : w5.heap.size < v1.heap.size + 1 + 1 := by omega
            have zX_3 : w5.heap.size < v1.heap.size + 1 + 1 + 1 := by omega
            go_wp2_with (at_builtin; refine wpList_push v1 _ rfl (.tmp 97) (.tmp 99) 42 rfl (w5.heap.size + 1) 3 (.int .i64 0) 1 8 Tryd.underlying42 Tryd.info_int rfl (by omega) _ j _ rfl HO2.out rfl rfl (by simp [Value.oneCell']) (by omega) (by omega) zz2 ?_)
            intro v' w4 hown4 hg4
            go_wp2
            go_roundw
            case rel =>
              refine ⟨j + 1, n, (wt + n - c), y', by omega, by go_num, rfl, HAS', w0, w1, u0, by omega, ?_, ?_, ?_, ?_, ?_⟩
              · exact Lib.hid (HP.out.grown hg4 (fun e => by have := (HO2.out.lt _ e.symm).1; omega))
              · exact Lib.hid ((HX.out.grown hg4 (fun e => by have := (HO2.out.lt _ e.symm).1; omega)).val (by first | rfl | simp))
              · show World.ownsRow _ _ _ _ _ _ _
                rw [HRS'.out]; exact hown4
              · exact Lib.hid (below_push BEL.out HO2.out hg4 (by omega) (by omega))
              · have := hg4.size; omega
            case measure => simp [intOf]; omega
    · obtain rfl : j = l.length := by omega
      have HOWN' := Lib.hid (show wr.ownsRow (w5.heap.size + 1) 3 1 _ l.length ((PM.rates c k r l).map (Value.int .i64)) from by have := HOWN.out; rwa [List.take_length] at this)
      obtain ⟨A1, c1', rfl, hln, hi1⟩ := owns_ints' HOWN'.out
      have HI1 := Lib.hid hi1
      have HLN := Lib.hid hln
      clear hln hi1
      go_wp2_with fail
      refine (mrun_yes c a k r A cp l _ H.out r0 r1 ((HI.out.below (by repeat (first | with_reducible exact BEL.out | with_reducible apply Below.alloc | with_reducible apply Below.setCell | with_reducible apply Below.drew | with_reducible apply below_drewN | (first | omega | (focus (simp; done)) | (focus (simp; omega)) | (focus (simp [World.setCell]; omega))))) (Nat.le_refl _)).more (by (first | omega | (focus (simp; done)) | (focus (simp; omega)) | (focus (simp [World.setCell]; omega))))) hl HB.out).mono ?_; rintro e w6 ⟨v2, rfl, ho2, hb6⟩
      have HO2 := Lib.hid ho2; clear ho2
      have HI1 := Lib.hid (HI1.out.below hb6 (Nat.le_refl _))
      have z_w6 : wr.heap.size ≤ w6.heap.size := Nat.le_trans (by first | with_reducible exact Nat.le_refl _ | (simp; done) | (simp; omega) | (simp [World.setCell]; done)) hb6.size
      replace HP := Lib.hid (show Blk w6 (w.heap.size) 77 _ from by (with_reducible apply Blk.below (hb := hb6); (repeat (first | with_reducible exact HP.out | (with_reducible apply Blk.new'; first | with_reducible rfl | (focus (simp; done)) | (focus (simp; omega))) | with_reducible apply Blk.set_ | with_reducible apply Blk.far | with_reducible apply Blk.alloc | with_reducible apply Blk.drew | with_reducible apply Blk.drewN | (first | omega | (focus (simp; done)) | (focus (simp; omega)) | (focus (simp [World.setCell]; omega)))))))
      replace HX := Lib.hid (show Blk w6 (w5.heap.size) 77 _ from by (with_reducible apply Blk.below (hb := hb6); (repeat (first | with_reducible exact HX.out | (with_reducible apply Blk.new'; first | with_reducible rfl | (focus (simp; done)) | (focus (simp; omega))) | with_reducible apply Blk.set_ | with_reducible apply Blk.far | with_reducible apply Blk.alloc | with_reducible apply Blk.drew | with_reducible apply Blk.drewN | (first | omega | (focus (simp; done)) | (focus (simp; omega)) | (focus (simp [World.setCell]; omega)))))))
      replace BEL : Hid (Below w.heap.size w w6) := Lib.hid (Below.trans (by repeat (first | with_reducible exact BEL.out | with_reducible apply Below.alloc | with_reducible apply Below.setCell | with_reducible apply Below.drew | with_reducible apply below_drewN | (first | omega | (focus (simp; done)) | (focus (simp; omega)) | (focus (simp [World.setCell]; omega))))) (hb6.mono (by (first | omega | (focus (simp; done)) | (focus (simp; omega)) | (focus (simp [World.setCell]; omega))))))
      have y_w6 : w.heap.size ≤ w6.heap.size := BEL.out.size
      clear hb6
      clear pP0 pP1 pP2 fP0 fP1 fP2 zP zP_1 zP_2 zP_3 pX0 pX1 pX2 fX0 fX1 fX2 zX zX_1 zX_2 zX_3
      obtain ⟨pP0, pP1, pP2, fP0, fP1, fP2, zP⟩ := HP.out.three
      have zP_1 : w.heap.size < w6.heap.size + 1 := by omega
      have zP_2 : w.heap.size < w6.heap.size + 1 + 1 := by omega
      have zP_3 : w.heap.size < w6.heap.size + 1 + 1 + 1 := by omega
      obtain ⟨pX0, pX1, pX2, fX0, fX1, fX2, zX⟩ := HX.out.three
      have zX_1 : w5.heap.size < w6.heap.size + 1 := by omega
      have zX_2 : w5.heap.size < w6.heap.size + 1 + 1 := by omega
      have zX_3 : w5.heap.size < w6.heap.size + 1 + 1 + 1 := by omega
      obtain ⟨A2, c2', rfl, hln2, hi2⟩ := owns_ints' HO2.out
      have HI2 := Lib.hid hi2
      have HLN2 := Lib.hid hln2
      clear hln2 hi2
      go_wp2_with fail
      refine (same_ok _).mono ?_; rintro e w7 ⟨rfl, hb7⟩
      have HI1 := Lib.hid (HI1.out.below (hb7.mono (by (first | omega | (focus (simp; done)) | (focus (simp; omega)) | (focus (simp [World.setCell]; omega))))) (Nat.le_refl _))
      have HI2 := Lib.hid (HI2.out.below hb7 (Nat.le_refl _))
      have z_w7 : w6.heap.size ≤ w7.heap.size := Nat.le_trans (by first | with_reducible exact Nat.le_refl _ | (simp; done) | (simp; omega) | (simp [World.setCell]; done)) hb7.size
      replace HP := Lib.hid (show Blk w7 (w.heap.size) 77 _ from by (with_reducible apply Blk.below (hb := hb7); (repeat (first | with_reducible exact HP.out | (with_reducible apply Blk.new'; first | with_reducible rfl | (focus (simp; done)) | (focus (simp; omega))) | with_reducible apply Blk.set_ | with_reducible apply Blk.far | with_reducible apply Blk.alloc | with_reducible apply Blk.drew | with_reducible apply Blk.drewN | (first | omega | (focus (simp; done)) | (focus (simp; omega)) | (focus (simp [World.setCell]; omega)))))))
      replace HX := Lib.hid (show Blk w7 (w5.heap.size) 77 _ from by (with_reducible apply Blk.below (hb := hb7); (repeat (first | with_reducible exact HX.out | (with_reducible apply Blk.new'; first | with_reducible rfl | (focus (simp; done)) | (focus (simp; omega))) | with_reducible apply Blk.set_ | with_reducible apply Blk.far | with_reducible apply Blk.alloc | with_reducible apply Blk.drew | with_reducible apply Blk.drewN | (first | omega | (focus (simp; done)) | (focus (simp; omega)) | (focus (simp [World.setCell]; omega)))))))
      replace BEL : Hid (Below w.heap.size w w7) := Lib.hid (Below.trans (by repeat (first | with_reducible exact BEL.out | with_reducible apply Below.alloc | with_reducible apply Below.setCell | with_reducible apply Below.drew | with_reducible apply below_drewN | (first | omega | (focus (simp; done)) | (focus (simp; omega)) | (focus (simp [World.setCell]; omega))))) (hb7.mono (by (first | omega | (focus (simp; done)) | (focus (simp; omega)) | (focus (simp [World.setCell]; omega))))))
      have y_w7 : w.heap.size ≤ w7.heap.size := BEL.out.size
      clear hb7
      clear pP0 pP1 pP2 fP0 fP1 fP2 zP zP_1 zP_2 zP_3 pX0 pX1 pX2 fX0 fX1 fX2 zX zX_1 zX_2 zX_3
      obtain ⟨pP0, pP1, pP2, fP0, fP1, fP2, zP⟩ := HP.out.three
      have zP_1 : w.heap.size < w7.heap.size + 1 := by omega
      have zP_2 : w.heap.size < w7.heap.size + 1 + 1 := by omega
      have zP_3 : w.heap.size < w7.heap.size + 1 + 1 + 1 := by omega
      obtain ⟨pX0, pX1, pX2, fX0, fX1, fX2, zX⟩ := HX.out.three
      have zX_1 : w5.heap.size < w7.heap.size + 1 := by omega
      have zX_2 : w5.heap.size < w7.heap.size + 1 + 1 := by omega
      have zX_3 : w5.heap.size < w7.heap.size + 1 + 1 + 1 := by omega
      go_wp2_with fail
      refine (sameInts_b _ _ _ _ _ _ (PM.rates c k r l) _ _ _ HI2.out HI1.out HLN2.out HLN.out).mono ?_; rintro e w8 ⟨rfl, hb8⟩
      have z_w8 : w7.heap.size ≤ w8.heap.size := Nat.le_trans (by first | with_reducible exact Nat.le_refl _ | (simp; done) | (simp; omega) | (simp [World.setCell]; done)) hb8.size
      replace HP := Lib.hid (show Blk w8 (w.heap.size) 77 _ from by (with_reducible apply Blk.below (hb := hb8); (repeat (first | with_reducible exact HP.out | (with_reducible apply Blk.new'; first | with_reducible rfl | (focus (simp; done)) | (focus (simp; omega))) | with_reducible apply Blk.set_ | with_reducible apply Blk.far | with_reducible apply Blk.alloc | with_reducible apply Blk.drew | with_reducible apply Blk.drewN | (first | omega | (focus (simp; done)) | (focus (simp; omega)) | (focus (simp [World.setCell]; omega)))))))
      replace HX := Lib.hid (show Blk w8 (w5.heap.size) 77 _ from by (with_reducible apply Blk.below (hb := hb8); (repeat (first | with_reducible exact HX.out | (with_reducible apply Blk.new'; first | with_reducible rfl | (focus (simp; done)) | (focus (simp; omega))) | with_reducible apply Blk.set_ | with_reducible apply Blk.far | with_reducible apply Blk.alloc | with_reducible apply Blk.drew | with_reducible apply Blk.drewN | (first | omega | (focus (simp; done)) | (focus (simp; omega)) | (focus (simp [World.setCell]; omega)))))))
      replace BEL : Hid (Below w.heap.size w w8) := Lib.hid (Below.trans (by repeat (first | with_reducible exact BEL.out | with_reducible apply Below.alloc | with_reducible apply Below.setCell | with_reducible apply Below.drew | with_reducible apply below_drewN | (first | omega | (focus (simp; done)) | (focus (simp; omega)) | (focus (simp [World.setCell]; omega))))) (hb8.mono (by (first | omega | (focus (simp; done)) | (focus (simp; omega)) | (focus (simp [World.setCell]; omega))))))
      have y_w8 : w.heap.size ≤ w8.heap.size := BEL.out.size
      clear hb8
      clear pP0 pP1 pP2 fP0 fP1 fP2 zP zP_1 zP_2 zP_3 pX0 pX1 pX2 fX0 fX1 fX2 zX zX_1 zX_2 zX_3
      obtain ⟨pP0, pP1, pP2, fP0, fP1, fP2, zP⟩ := HP.out.three
      have zP_1 : w.heap.size < w8.heap.size + 1 := by omega
      have zP_2 : w.heap.size < w8.heap.size + 1 + 1 := by omega
      have zP_3 : w.heap.size < w8.heap.size + 1 + 1 + 1 := by omega
      obtain ⟨pX0, pX1, pX2, fX0, fX1, fX2, zX⟩ := HX.out.three
      have zX_1 : w5.heap.size < w8.heap.size + 1 := by omega
      have zX_2 : w5.heap.size < w8.heap.size + 1 + 1 := by omega
      have zX_3 : w5.heap.size < w8.heap.size + 1 + 1 + 1 := by omega
      go_wp2
      go_ret
      exact ⟨rfl, (by repeat (first | with_reducible exact BEL.out | with_reducible apply Below.alloc | with_reducible apply Below.setCell | with_reducible apply Below.drew | with_reducible apply below_drewN | (first | omega | (focus (simp; done)) | (focus (simp; omega)) | (focus (simp [World.setCell]; omega)))))⟩
theorem meterTells_walk {w : World} (c a k : Int) (_ : (Lit.int .i64 c).wf = true) (_ : (Lit.int .i64 a).wf = true) (_ : (Lit.int .i64 k).wf = true) (r : Int) (_ : (Lit.int .i64 r).wf = true) (A : Option Addr) (cp : Nat) (l : List Int) (hi : Ints w w.heap.size A cp l) (_ : ∀ x ∈ l, (Lit.int .i64 x).wf = true) (hg : Laid w) :
    Calls Tryd.prog 9 #[.agg #[.int .i64 c, .int .i64 a, .int .i64 k], .int .i64 r, .slice A l.length cp] w fun e w' => e = .returned (.bool true) ∧ Below w.heap.size w w' := by
  by_cases ok : MeterOk c a k
  · by_cases r0 : r < 1
    · exact meterTells_lo c a k r A cp l w hi hg ok r0
    · by_cases r1 : 1000 < r
      · exact meterTells_hi c a k r A cp l w hi hg ok (by omega) r1
      · by_cases hl : l.length ≤ 60
        · cases hb : l.any badRate
          · exact meterTells_in_ok c a k r A cp l w hi hg ok (by omega) (by omega) hl hb
          · exact meterTells_in_bad c a k r A cp l w hi hg ok (by omega) (by omega) hl hb
        · exact meterTells_in_full c a k r A cp l w hi hg ok (by omega) (by omega) (by omega)
  · exact meterTells_no c a k r A cp l w hi hg ok
end Go.Proofs.YtkheobdkmmbjnaaDoor
