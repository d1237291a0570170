/- The walk of PoolTells: it returns true for every input. -/
import Derived.Test.YtkheobdkmmbjnaaDoorPoolRef
import Derived.Test.YtkheobdkmmbjnaaDoorPoolRun
import Derived.Deep.DeepCutAuto
import Derived.Deep.RegionHeld3
namespace Go.Proofs.YtkheobdkmmbjnaaDoor
open Go.RowKit
attribute [local go_sem ↓] run_min_mn run_max_mx
set_option maxHeartbeats 8000000 in
set_option maxRecDepth 100000 in
theorem poolTells_no (r c k n : Int) (A : Option Addr) (cp : Nat) (l : List Int) (w : World) (hi : Ints w w.heap.size A cp l) (hg : Laid w) (no : ¬ PoolOk r c k) :
    Calls Tryd.prog 5 #[.agg #[.int .i64 r, .int .i64 c, .int .i64 k], .int .i64 n, .slice A l.length cp] w fun e w' => e = .returned (.bool true) ∧ Below w.heap.size w w' := by
  have LAID := Lib.hid hg; clear hg
  have HI := Lib.hid hi; clear hi
  have H := Lib.hid no; clear no
  have BEL : Hid (Below w.heap.size w w) := Lib.hid (Below.refl _ _)
  have yB : w.heap.size ≤ w.heap.size := Nat.le_refl _
  go_enter Tryd.func5, Tryd.ntmps5
  go_wp2_with fail
  refine (refPool_no r c k _ H.out).mono ?_; rintro e w1 ⟨rfl, hb1⟩
  have z_w1 : w.heap.size ≤ w1.heap.size := Nat.le_trans (by first | with_reducible exact Nat.le_refl _ | (simp; done) | (simp; omega) | (simp [World.setCell]; done)) hb1.size
  have HP := Lib.hid (show Blk w1 (w.heap.size) 41 _ from by (with_reducible apply Blk.below (hb := hb1); (repeat (first | (with_reducible apply Blk.new'; first | with_reducible rfl | (focus (simp; done)) | (focus (simp; omega))) | with_reducible apply Blk.set_ | with_reducible apply Blk.far | with_reducible apply Blk.alloc | with_reducible apply Blk.drew | with_reducible apply Blk.drewN | (first | omega | (focus (simp; done)) | (focus (simp; omega)) | (focus (simp [World.setCell]; omega)))))))
  have q_P_w1 : w.heap.size < w1.heap.size := HP.out.lt
  replace BEL : Hid (Below w.heap.size w w1) := Lib.hid (Below.trans (by repeat (first | with_reducible exact BEL.out | with_reducible apply Below.alloc | with_reducible apply Below.setCell | with_reducible apply Below.drew | with_reducible apply below_drewN | (first | omega | (focus (simp; done)) | (focus (simp; omega)) | (focus (simp [World.setCell]; omega))))) (hb1.mono (by (first | omega | (focus (simp; done)) | (focus (simp; omega)) | (focus (simp [World.setCell]; omega))))))
  have y_w1 : w.heap.size ≤ w1.heap.size := BEL.out.size
  clear hb1
  obtain ⟨pP0, pP1, pP2, fP0, fP1, fP2, zP⟩ := HP.out.three
  have zP_1 : w.heap.size < w1.heap.size + 1 := by omega
  have zP_2 : w.heap.size < w1.heap.size + 1 + 1 := by omega
  have zP_3 : w.heap.size < w1.heap.size + 1 + 1 + 1 := by omega
  go_wp2_with fail
  refine (pcheck_no r c k _ H.out).mono ?_; rintro e w' ⟨rfl, rfl⟩
  go_wp2_with fail
  refine (same_hit 1 _ (LAID.out.below (by repeat (first | with_reducible exact BEL.out | with_reducible apply Below.alloc | with_reducible apply Below.setCell | with_reducible apply Below.drew | with_reducible apply below_drewN | (first | omega | (focus (simp; done)) | (focus (simp; omega)) | (focus (simp [World.setCell]; omega))))))).mono ?_; rintro e w2 ⟨rfl, hb2⟩
  have z_w2 : w1.heap.size ≤ w2.heap.size := Nat.le_trans (by first | with_reducible exact Nat.le_refl _ | (simp; done) | (simp; omega) | (simp [World.setCell]; done)) hb2.size
  replace HP := Lib.hid (show Blk w2 (w.heap.size) 41 _ from by (with_reducible apply Blk.below (hb := hb2); (repeat (first | with_reducible exact HP.out | (with_reducible apply Blk.new'; first | with_reducible rfl | (focus (simp; done)) | (focus (simp; omega))) | with_reducible apply Blk.set_ | with_reducible apply Blk.far | with_reducible apply Blk.alloc | with_reducible apply Blk.drew | with_reducible apply Blk.drewN | (first | omega | (focus (simp; done)) | (focus (simp; omega)) | (focus (simp [World.setCell]; omega)))))))
  replace BEL : Hid (Below w.heap.size w w2) := Lib.hid (Below.trans (by repeat (first | with_reducible exact BEL.out | with_reducible apply Below.alloc | with_reducible apply Below.setCell | with_reducible apply Below.drew | with_reducible apply below_drewN | (first | omega | (focus (simp; done)) | (focus (simp; omega)) | (focus (simp [World.setCell]; omega))))) (hb2.mono (by (first | omega | (focus (simp; done)) | (focus (simp; omega)) | (focus (simp [World.setCell]; omega))))))
  have y_w2 : w.heap.size ≤ w2.heap.size := BEL.out.size
  clear hb2
  clear pP0 pP1 pP2 fP0 fP1 fP2 zP zP_1 zP_2 zP_3
  obtain ⟨pP0, pP1, pP2, fP0, fP1, fP2, zP⟩ := HP.out.three
  have zP_1 : w.heap.size < w2.heap.size + 1 := by omega
  have zP_2 : w.heap.size < w2.heap.size + 1 + 1 := by omega
  have zP_3 : w.heap.size < w2.heap.size + 1 + 1 + 1 := by omega
  go_wp2_with fail
  refine (ptick_no r c k n _ H.out).mono ?_; rintro e w3 ⟨rfl, hb3⟩
  have z_w3 : w2.heap.size ≤ w3.heap.size := Nat.le_trans (by first | with_reducible exact Nat.le_refl _ | (simp; done) | (simp; omega) | (simp [World.setCell]; done)) hb3.size
  have HW := Lib.hid (show Blk w3 (w2.heap.size) 41 _ from by (with_reducible apply Blk.below (hb := hb3); (repeat (first | (with_reducible apply Blk.new'; first | with_reducible rfl | (focus (simp; done)) | (focus (simp; omega))) | with_reducible apply Blk.set_ | with_reducible apply Blk.far | with_reducible apply Blk.alloc | with_reducible apply Blk.drew | with_reducible apply Blk.drewN | (first | omega | (focus (simp; done)) | (focus (simp; omega)) | (focus (simp [World.setCell]; omega)))))))
  have HN := Lib.hid (show Blk w3 (w2.heap.size + 1) 46 _ from by (with_reducible apply Blk.below (hb := hb3); (repeat (first | (with_reducible apply Blk.new'; first | with_reducible rfl | (focus (simp; done)) | (focus (simp; omega))) | with_reducible apply Blk.set_ | with_reducible apply Blk.far | with_reducible apply Blk.alloc | with_reducible apply Blk.drew | with_reducible apply Blk.drewN | (first | omega | (focus (simp; done)) | (focus (simp; omega)) | (focus (simp [World.setCell]; omega)))))))
  replace HP := Lib.hid (show Blk w3 (w.heap.size) 41 _ from by (with_reducible apply Blk.below (hb := hb3); (repeat (first | with_reducible exact HP.out | (with_reducible apply Blk.new'; first | with_reducible rfl | (focus (simp; done)) | (focus (simp; omega))) | with_reducible apply Blk.set_ | with_reducible apply Blk.far | with_reducible apply Blk.alloc | with_reducible apply Blk.drew | with_reducible apply Blk.drewN | (first | omega | (focus (simp; done)) | (focus (simp; omega)) | (focus (simp [World.setCell]; omega)))))))
  have q_W_w3 : w2.heap.size < w3.heap.size := HW.out.lt
  have q_N_w3 : w2.heap.size + 1 < w3.heap.size := HN.out.lt
  replace BEL : Hid (Below w.heap.size w w3) := Lib.hid (Below.trans (by repeat (first | with_reducible exact BEL.out | with_reducible apply Below.alloc | with_reducible apply Below.setCell | with_reducible apply Below.drew | with_reducible apply below_drewN | (first | omega | (focus (simp; done)) | (focus (simp; omega)) | (focus (simp [World.setCell]; omega))))) (hb3.mono (by (first | omega | (focus (simp; done)) | (focus (simp; omega)) | (focus (simp [World.setCell]; omega))))))
  have y_w3 : w.heap.size ≤ w3.heap.size := BEL.out.size
  clear hb3
  clear pP0 pP1 pP2 fP0 fP1 fP2 zP zP_1 zP_2 zP_3
  obtain ⟨pP0, pP1, pP2, fP0, fP1, fP2, zP⟩ := HP.out.three
  have zP_1 : w.heap.size < w3.heap.size + 1 := by omega
  have zP_2 : w.heap.size < w3.heap.size + 1 + 1 := by omega
  have zP_3 : w.heap.size < w3.heap.size + 1 + 1 + 1 := by omega
  obtain ⟨pW0, pW1, pW2, fW0, fW1, fW2, zW⟩ := HW.out.three
  have zW_1 : w2.heap.size < w3.heap.size + 1 := by omega
  have zW_2 : w2.heap.size < w3.heap.size + 1 + 1 := by omega
  have zW_3 : w2.heap.size < w3.heap.size + 1 + 1 + 1 := by omega
  obtain ⟨pN0, pN1, pN2, fN0, fN1, fN2, zN⟩ := HN.out.three
  have zN_1 : w2.heap.size + 1 < w3.heap.size + 1 := by omega
  have zN_2 : w2.heap.size + 1 < w3.heap.size + 1 + 1 := by omega
  have zN_3 : w2.heap.size + 1 < w3.heap.size + 1 + 1 + 1 := by omega
  go_wp2_with fail
  refine (same_hit 1 _ (LAID.out.below (by repeat (first | with_reducible exact BEL.out | with_reducible apply Below.alloc | with_reducible apply Below.setCell | with_reducible apply Below.drew | with_reducible apply below_drewN | (first | omega | (focus (simp; done)) | (focus (simp; omega)) | (focus (simp [World.setCell]; omega))))))).mono ?_; rintro e w4 ⟨rfl, hb4⟩
  have z_w4 : w3.heap.size ≤ w4.heap.size := Nat.le_trans (by first | with_reducible exact Nat.le_refl _ | (simp; done) | (simp; omega) | (simp [World.setCell]; done)) hb4.size
  have HX := Lib.hid (show Blk w4 (w3.heap.size) 41 _ from by (with_reducible apply Blk.below (hb := hb4); (repeat (first | (with_reducible apply Blk.new'; first | with_reducible rfl | (focus (simp; done)) | (focus (simp; omega))) | with_reducible apply Blk.set_ | with_reducible apply Blk.far | with_reducible apply Blk.alloc | with_reducible apply Blk.drew | with_reducible apply Blk.drewN | (first | omega | (focus (simp; done)) | (focus (simp; omega)) | (focus (simp [World.setCell]; omega)))))))
  have HG := Lib.hid (show Blk w4 (w3.heap.size + 1) 46 _ from by (with_reducible apply Blk.below (hb := hb4); (repeat (first | (with_reducible apply Blk.new'; first | with_reducible rfl | (focus (simp; done)) | (focus (simp; omega))) | with_reducible apply Blk.set_ | with_reducible apply Blk.far | with_reducible apply Blk.alloc | with_reducible apply Blk.drew | with_reducible apply Blk.drewN | (first | omega | (focus (simp; done)) | (focus (simp; omega)) | (focus (simp [World.setCell]; omega)))))))
  replace HP := Lib.hid (show Blk w4 (w.heap.size) 41 _ from by (with_reducible apply Blk.below (hb := hb4); (repeat (first | with_reducible exact HP.out | (with_reducible apply Blk.new'; first | with_reducible rfl | (focus (simp; done)) | (focus (simp; omega))) | with_reducible apply Blk.set_ | with_reducible apply Blk.far | with_reducible apply Blk.alloc | with_reducible apply Blk.drew | with_reducible apply Blk.drewN | (first | omega | (focus (simp; done)) | (focus (simp; omega)) | (focus (simp [World.setCell]; omega)))))))
  replace HW := Lib.hid (show Blk w4 (w2.heap.size) 41 _ from by (with_reducible apply Blk.below (hb := hb4); (repeat (first | with_reducible exact HW.out | (with_reducible apply Blk.new'; first | with_reducible rfl | (focus (simp; done)) | (focus (simp; omega))) | with_reducible apply Blk.set_ | with_reducible apply Blk.far | with_reducible apply Blk.alloc | with_reducible apply Blk.drew | with_reducible apply Blk.drewN | (first | omega | (focus (simp; done)) | (focus (simp; omega)) | (focus (simp [World.setCell]; omega)))))))
  replace HN := Lib.hid (show Blk w4 (w2.heap.size + 1) 46 _ from by (with_reducible apply Blk.below (hb := hb4); (repeat (first | with_reducible exact HN.out | (with_reducible apply Blk.new'; first | with_reducible rfl | (focus (simp; done)) | (focus (simp; omega))) | with_reducible apply Blk.set_ | with_reducible apply Blk.far | with_reducible apply Blk.alloc | with_reducible apply Blk.drew | with_reducible apply Blk.drewN | (first | omega | (focus (simp; done)) | (focus (simp; omega)) | (focus (simp [World.setCell]; omega)))))))
  have q_X_w4 : w3.heap.size < w4.heap.size := HX.out.lt
  have q_G_w4 : w3.heap.size + 1 < w4.heap.size := HG.out.lt
  replace BEL : Hid (Below w.heap.size w w4) := Lib.hid (Below.trans (by repeat (first | with_reducible exact BEL.out | with_reducible apply Below.alloc | with_reducible apply Below.setCell | with_reducible apply Below.drew | with_reducible apply below_drewN | (first | omega | (focus (simp; done)) | (focus (simp; omega)) | (focus (simp [World.setCell]; omega))))) (hb4.mono (by (first | omega | (focus (simp; done)) | (focus (simp; omega)) | (focus (simp [World.setCell]; omega))))))
  have y_w4 : w.heap.size ≤ w4.heap.size := BEL.out.size
  clear hb4
  clear pP0 pP1 pP2 fP0 fP1 fP2 zP zP_1 zP_2 zP_3 pW0 pW1 pW2 fW0 fW1 fW2 zW zW_1 zW_2 zW_3 pN0 pN1 pN2 fN0 fN1 fN2 zN zN_1 zN_2 zN_3
  obtain ⟨pP0, pP1, pP2, fP0, fP1, fP2, zP⟩ := HP.out.three
  have zP_1 : w.heap.size < w4.heap.size + 1 := by omega
  have zP_2 : w.heap.size < w4.heap.size + 1 + 1 := by omega
  have zP_3 : w.heap.size < w4.heap.size + 1 + 1 + 1 := by omega
  obtain ⟨pW0, pW1, pW2, fW0, fW1, fW2, zW⟩ := HW.out.three
  have zW_1 : w2.heap.size < w4.heap.size + 1 := by omega
  have zW_2 : w2.heap.size < w4.heap.size + 1 + 1 := by omega
  have zW_3 : w2.heap.size < w4.heap.size + 1 + 1 + 1 := by omega
  obtain ⟨pN0, pN1, pN2, fN0, fN1, fN2, zN⟩ := HN.out.three
  have zN_1 : w2.heap.size + 1 < w4.heap.size + 1 := by omega
  have zN_2 : w2.heap.size + 1 < w4.heap.size + 1 + 1 := by omega
  have zN_3 : w2.heap.size + 1 < w4.heap.size + 1 + 1 + 1 := by omega
  obtain ⟨pX0, pX1, pX2, fX0, fX1, fX2, zX⟩ := HX.out.three
  have zX_1 : w3.heap.size < w4.heap.size + 1 := by omega
  have zX_2 : w3.heap.size < w4.heap.size + 1 + 1 := by omega
  have zX_3 : w3.heap.size < w4.heap.size + 1 + 1 + 1 := by omega
  obtain ⟨pG0, pG1, pG2, fG0, fG1, fG2, zG⟩ := HG.out.three
  have zG_1 : w3.heap.size + 1 < w4.heap.size + 1 := by omega
  have zG_2 : w3.heap.size + 1 < w4.heap.size + 1 + 1 := by omega
  have zG_3 : w3.heap.size + 1 < w4.heap.size + 1 + 1 + 1 := by omega
  by_cases h0 : 0 < l.length
  · go_wp2_with fail
    refine wp_loop_rounds 1 ?_
    rw [rounds_succ]
    go_wp2_with fail
    refine (prun_no r c k A cp l.length _ H.out).mono ?_; rintro e w5 ⟨rfl, hb5⟩
    clear HW
    clear HN
    clear HX
    have z_w5 : w4.heap.size ≤ w5.heap.size := Nat.le_trans (by first | with_reducible exact Nat.le_refl _ | (simp; done) | (simp; omega) | (simp [World.setCell]; done)) hb5.size
    have HL := Lib.hid (show Blk w5 (w4.heap.size) 46 _ from by (with_reducible apply Blk.below (hb := hb5); (repeat (first | (with_reducible apply Blk.new'; first | with_reducible rfl | (focus (simp; done)) | (focus (simp; omega))) | with_reducible apply Blk.set_ | with_reducible apply Blk.far | with_reducible apply Blk.alloc | with_reducible apply Blk.drew | with_reducible apply Blk.drewN | (first | omega | (focus (simp; done)) | (focus (simp; omega)) | (focus (simp [World.setCell]; omega)))))))
    replace HP := Lib.hid (show Blk w5 (w.heap.size) 41 _ from by (with_reducible apply Blk.below (hb := hb5); (repeat (first | with_reducible exact HP.out | (with_reducible apply Blk.new'; first | with_reducible rfl | (focus (simp; done)) | (focus (simp; omega))) | with_reducible apply Blk.set_ | with_reducible apply Blk.far | with_reducible apply Blk.alloc | with_reducible apply Blk.drew | with_reducible apply Blk.drewN | (first | omega | (focus (simp; done)) | (focus (simp; omega)) | (focus (simp [World.setCell]; omega)))))))
    replace HG := Lib.hid (show Blk w5 (w3.heap.size + 1) 46 _ from by (with_reducible apply Blk.below (hb := hb5); (repeat (first | with_reducible exact HG.out | (with_reducible apply Blk.new'; first | with_reducible rfl | (focus (simp; done)) | (focus (simp; omega))) | with_reducible apply Blk.set_ | with_reducible apply Blk.far | with_reducible apply Blk.alloc | with_reducible apply Blk.drew | with_reducible apply Blk.drewN | (first | omega | (focus (simp; done)) | (focus (simp; omega)) | (focus (simp [World.setCell]; omega)))))))
    have q_L_w5 : w4.heap.size < w5.heap.size := HL.out.lt
    replace BEL : Hid (Below w.heap.size w w5) := Lib.hid (Below.trans (by repeat (first | with_reducible exact BEL.out | with_reducible apply Below.alloc | with_reducible apply Below.setCell | with_reducible apply Below.drew | with_reducible apply below_drewN | (first | omega | (focus (simp; done)) | (focus (simp; omega)) | (focus (simp [World.setCell]; omega))))) (hb5.mono (by (first | omega | (focus (simp; done)) | (focus (simp; omega)) | (focus (simp [World.setCell]; omega))))))
    have y_w5 : w.heap.size ≤ w5.heap.size := BEL.out.size
    clear hb5
    clear pP0 pP1 pP2 fP0 fP1 fP2 zP zP_1 zP_2 zP_3 pW0 pW1 pW2 fW0 fW1 fW2 zW zW_1 zW_2 zW_3 pN0 pN1 pN2 fN0 fN1 fN2 zN zN_1 zN_2 zN_3 pX0 pX1 pX2 fX0 fX1 fX2 zX zX_1 zX_2 zX_3 pG0 pG1 pG2 fG0 fG1 fG2 zG zG_1 zG_2 zG_3
    obtain ⟨pP0, pP1, pP2, fP0, fP1, fP2, zP⟩ := HP.out.three
    have zP_1 : w.heap.size < w5.heap.size + 1 := by omega
    have zP_2 : w.heap.size < w5.heap.size + 1 + 1 := by omega
    have zP_3 : w.heap.size < w5.heap.size + 1 + 1 + 1 := by omega
    obtain ⟨pG0, pG1, pG2, fG0, fG1, fG2, zG⟩ := HG.out.three
    have zG_1 : w3.heap.size + 1 < w5.heap.size + 1 := by omega
    have zG_2 : w3.heap.size + 1 < w5.heap.size + 1 + 1 := by omega
    have zG_3 : w3.heap.size + 1 < w5.heap.size + 1 + 1 + 1 := by omega
    obtain ⟨pL0, pL1, pL2, fL0, fL1, fL2, zL⟩ := HL.out.three
    have zL_1 : w4.heap.size < w5.heap.size + 1 := by omega
    have zL_2 : w4.heap.size < w5.heap.size + 1 + 1 := by omega
    have zL_3 : w4.heap.size < w5.heap.size + 1 + 1 + 1 := by omega
    go_wp2_with fail
    refine (same_hit 1 _ (LAID.out.below (by repeat (first | with_reducible exact BEL.out | with_reducible apply Below.alloc | with_reducible apply Below.setCell | with_reducible apply Below.drew | with_reducible apply below_drewN | (first | omega | (focus (simp; done)) | (focus (simp; omega)) | (focus (simp [World.setCell]; omega))))))).mono ?_; rintro e w6 ⟨rfl, hb6⟩
    have z_w6 : w5.heap.size ≤ w6.heap.size := Nat.le_trans (by first | with_reducible exact Nat.le_refl _ | (simp; done) | (simp; omega) | (simp [World.setCell]; done)) hb6.size
    replace HP := Lib.hid (show Blk w6 (w.heap.size) 41 _ from by (with_reducible apply Blk.below (hb := hb6); (repeat (first | with_reducible exact HP.out | (with_reducible apply Blk.new'; first | with_reducible rfl | (focus (simp; done)) | (focus (simp; omega))) | with_reducible apply Blk.set_ | with_reducible apply Blk.far | with_reducible apply Blk.alloc | with_reducible apply Blk.drew | with_reducible apply Blk.drewN | (first | omega | (focus (simp; done)) | (focus (simp; omega)) | (focus (simp [World.setCell]; omega)))))))
    replace HG := Lib.hid (show Blk w6 (w3.heap.size + 1) 46 _ from by (with_reducible apply Blk.below (hb := hb6); (repeat (first | with_reducible exact HG.out | (with_reducible apply Blk.new'; first | with_reducible rfl | (focus (simp; done)) | (focus (simp; omega))) | with_reducible apply Blk.set_ | with_reducible apply Blk.far | with_reducible apply Blk.alloc | with_reducible apply Blk.drew | with_reducible apply Blk.drewN | (first | omega | (focus (simp; done)) | (focus (simp; omega)) | (focus (simp [World.setCell]; omega)))))))
    replace HL := Lib.hid (show Blk w6 (w4.heap.size) 46 _ from by (with_reducible apply Blk.below (hb := hb6); (repeat (first | with_reducible exact HL.out | (with_reducible apply Blk.new'; first | with_reducible rfl | (focus (simp; done)) | (focus (simp; omega))) | with_reducible apply Blk.set_ | with_reducible apply Blk.far | with_reducible apply Blk.alloc | with_reducible apply Blk.drew | with_reducible apply Blk.drewN | (first | omega | (focus (simp; done)) | (focus (simp; omega)) | (focus (simp [World.setCell]; omega)))))))
    replace BEL : Hid (Below w.heap.size w w6) := Lib.hid (Below.trans (by repeat (first | with_reducible exact BEL.out | with_reducible apply Below.alloc | with_reducible apply Below.setCell | with_reducible apply Below.drew | with_reducible apply below_drewN | (first | omega | (focus (simp; done)) | (focus (simp; omega)) | (focus (simp [World.setCell]; omega))))) (hb6.mono (by (first | omega | (focus (simp; done)) | (focus (simp; omega)) | (focus (simp [World.setCell]; omega))))))
    have y_w6 : w.heap.size ≤ w6.heap.size := BEL.out.size
    clear hb6
    clear pP0 pP1 pP2 fP0 fP1 fP2 zP zP_1 zP_2 zP_3 pG0 pG1 pG2 fG0 fG1 fG2 zG zG_1 zG_2 zG_3 pL0 pL1 pL2 fL0 fL1 fL2 zL zL_1 zL_2 zL_3
    obtain ⟨pP0, pP1, pP2, fP0, fP1, fP2, zP⟩ := HP.out.three
    have zP_1 : w.heap.size < w6.heap.size + 1 := by omega
    have zP_2 : w.heap.size < w6.heap.size + 1 + 1 := by omega
    have zP_3 : w.heap.size < w6.heap.size + 1 + 1 + 1 := by omega
    obtain ⟨pG0, pG1, pG2, fG0, fG1, fG2, zG⟩ := HG.out.three
    have zG_1 : w3.heap.size + 1 < w6.heap.size + 1 := by omega
    have zG_2 : w3.heap.size + 1 < w6.heap.size + 1 + 1 := by omega
    have zG_3 : w3.heap.size + 1 < w6.heap.size + 1 + 1 + 1 := by omega
    obtain ⟨pL0, pL1, pL2, fL0, fL1, fL2, zL⟩ := HL.out.three
    have zL_1 : w4.heap.size < w6.heap.size + 1 := by omega
    have zL_2 : w4.heap.size < w6.heap.size + 1 + 1 := by omega
    have zL_3 : w4.heap.size < w6.heap.size + 1 + 1 + 1 := by omega
    go_wp2
    go_ret
    exact ⟨rfl, (by repeat (first | with_reducible exact BEL.out | with_reducible apply Below.alloc | with_reducible apply Below.setCell | with_reducible apply Below.drew | with_reducible apply below_drewN | (first | omega | (focus (simp; done)) | (focus (simp; omega)) | (focus (simp [World.setCell]; omega)))))⟩
  · go_wp2_with fail
    refine wp_loop_rounds 1 ?_
    rw [rounds_succ]
    go_wp2_with fail
    refine (prun_no r c k A cp l.length _ H.out).mono ?_; rintro e w5 ⟨rfl, hb5⟩
    clear HW
    clear HN
    clear HX
    have z_w5 : w4.heap.size ≤ w5.heap.size := Nat.le_trans (by first | with_reducible exact Nat.le_refl _ | (simp; done) | (simp; omega) | (simp [World.setCell]; done)) hb5.size
    have HL := Lib.hid (show Blk w5 (w4.heap.size) 46 _ from by (with_reducible apply Blk.below (hb := hb5); (repeat (first | (with_reducible apply Blk.new'; first | with_reducible rfl | (focus (simp; done)) | (focus (simp; omega))) | with_reducible apply Blk.set_ | with_reducible apply Blk.far | with_reducible apply Blk.alloc | with_reducible apply Blk.drew | with_reducible apply Blk.drewN | (first | omega | (focus (simp; done)) | (focus (simp; omega)) | (focus (simp [World.setCell]; omega)))))))
    replace HP := Lib.hid (show Blk w5 (w.heap.size) 41 _ from by (with_reducible apply Blk.below (hb := hb5); (repeat (first | with_reducible exact HP.out | (with_reducible apply Blk.new'; first | with_reducible rfl | (focus (simp; done)) | (focus (simp; omega))) | with_reducible apply Blk.set_ | with_reducible apply Blk.far | with_reducible apply Blk.alloc | with_reducible apply Blk.drew | with_reducible apply Blk.drewN | (first | omega | (focus (simp; done)) | (focus (simp; omega)) | (focus (simp [World.setCell]; omega)))))))
    replace HG := Lib.hid (show Blk w5 (w3.heap.size + 1) 46 _ from by (with_reducible apply Blk.below (hb := hb5); (repeat (first | with_reducible exact HG.out | (with_reducible apply Blk.new'; first | with_reducible rfl | (focus (simp; done)) | (focus (simp; omega))) | with_reducible apply Blk.set_ | with_reducible apply Blk.far | with_reducible apply Blk.alloc | with_reducible apply Blk.drew | with_reducible apply Blk.drewN | (first | omega | (focus (simp; done)) | (focus (simp; omega)) | (focus (simp [World.setCell]; omega)))))))
    have q_L_w5 : w4.heap.size < w5.heap.size := HL.out.lt
    replace BEL : Hid (Below w.heap.size w w5) := Lib.hid (Below.trans (by repeat (first | with_reducible exact BEL.out | with_reducible apply Below.alloc | with_reducible apply Below.setCell | with_reducible apply Below.drew | with_reducible apply below_drewN | (first | omega | (focus (simp; done)) | (focus (simp; omega)) | (focus (simp [World.setCell]; omega))))) (hb5.mono (by (first | omega | (focus (simp; done)) | (focus (simp; omega)) | (focus (simp [World.setCell]; omega))))))
    have y_w5 : w.heap.size ≤ w5.heap.size := BEL.out.size
    clear hb5
    clear pP0 pP1 pP2 fP0 fP1 fP2 zP zP_1 zP_2 zP_3 pW0 pW1 pW2 fW0 fW1 fW2 zW zW_1 zW_2 zW_3 pN0 pN1 pN2 fN0 fN1 fN2 zN zN_1 zN_2 zN_3 pX0 pX1 pX2 fX0 fX1 fX2 zX zX_1 zX_2 zX_3 pG0 pG1 pG2 fG0 fG1 fG2 zG zG_1 zG_2 zG_3
    obtain ⟨pP0, pP1, pP2, fP0, fP1, fP2, zP⟩ := HP.out.three
    have zP_1 : w.heap.size < w5.heap.size + 1 := by omega
    have zP_2 : w.heap.size < w5.heap.size + 1 + 1 := by omega
    have zP_3 : w.heap.size < w5.heap.size + 1 + 1 + 1 := by omega
    obtain ⟨pG0, pG1, pG2, fG0, fG1, fG2, zG⟩ := HG.out.three
    have zG_1 : w3.heap.size + 1 < w5.heap.size + 1 := by omega
    have zG_2 : w3.heap.size + 1 < w5.heap.size + 1 + 1 := by omega
    have zG_3 : w3.heap.size + 1 < w5.heap.size + 1 + 1 + 1 := by omega
    obtain ⟨pL0, pL1, pL2, fL0, fL1, fL2, zL⟩ := HL.out.three
    have zL_1 : w4.heap.size < w5.heap.size + 1 := by omega
    have zL_2 : w4.heap.size < w5.heap.size + 1 + 1 := by omega
    have zL_3 : w4.heap.size < w5.heap.size + 1 + 1 + 1 := by omega
    go_wp2_with fail
    refine (same_hit 1 _ (LAID.out.below (by repeat (first | with_reducible exact BEL.out | with_reducible apply Below.alloc | with_reducible apply Below.setCell | with_reducible apply Below.drew | with_reducible apply below_drewN | (first | omega | (focus (simp; done)) | (focus (simp; omega)) | (focus (simp [World.setCell]; omega))))))).mono ?_; rintro e w6 ⟨rfl, hb6⟩
    have z_w6 : w5.heap.size ≤ w6.heap.size := Nat.le_trans (by first | with_reducible exact Nat.le_refl _ | (simp; done) | (simp; omega) | (simp [World.setCell]; done)) hb6.size
    replace HP := Lib.hid (show Blk w6 (w.heap.size) 41 _ from by (with_reducible apply Blk.below (hb := hb6); (repeat (first | with_reducible exact HP.out | (with_reducible apply Blk.new'; first | with_reducible rfl | (focus (simp; done)) | (focus (simp; omega))) | with_reducible apply Blk.set_ | with_reducible apply Blk.far | with_reducible apply Blk.alloc | with_reducible apply Blk.drew | with_reducible apply Blk.drewN | (first | omega | (focus (simp; done)) | (focus (simp; omega)) | (focus (simp [World.setCell]; omega)))))))
    replace HG := Lib.hid (show Blk w6 (w3.heap.size + 1) 46 _ from by (with_reducible apply Blk.below (hb := hb6); (repeat (first | with_reducible exact HG.out | (with_reducible apply Blk.new'; first | with_reducible rfl | (focus (simp; done)) | (focus (simp; omega))) | with_reducible apply Blk.set_ | with_reducible apply Blk.far | with_reducible apply Blk.alloc | with_reducible apply Blk.drew | with_reducible apply Blk.drewN | (first | omega | (focus (simp; done)) | (focus (simp; omega)) | (focus (simp [World.setCell]; omega)))))))
    replace HL := Lib.hid (show Blk w6 (w4.heap.size) 46 _ from by (with_reducible apply Blk.below (hb := hb6); (repeat (first | with_reducible exact HL.out | (with_reducible apply Blk.new'; first | with_reducible rfl | (focus (simp; done)) | (focus (simp; omega))) | with_reducible apply Blk.set_ | with_reducible apply Blk.far | with_reducible apply Blk.alloc | with_reducible apply Blk.drew | with_reducible apply Blk.drewN | (first | omega | (focus (simp; done)) | (focus (simp; omega)) | (focus (simp [World.setCell]; omega)))))))
    replace BEL : Hid (Below w.heap.size w w6) := Lib.hid (Below.trans (by repeat (first | with_reducible exact BEL.out | with_reducible apply Below.alloc | with_reducible apply Below.setCell | with_reducible apply Below.drew | with_reducible apply below_drewN | (first | omega | (focus (simp; done)) | (focus (simp; omega)) | (focus (simp [World.setCell]; omega))))) (hb6.mono (by (first | omega | (focus (simp; done)) | (focus (simp; omega)) | (focus (simp [World.setCell]; omega))))))
    have y_w6 : w.heap.size ≤ w6.heap.size := BEL.out.size
    clear hb6
    clear pP0 pP1 pP2 fP0 fP1 fP2 zP zP_1 zP_2 zP_3 pG0 pG1 pG2 fG0 fG1 fG2 zG zG_1 zG_2 zG_3 pL0 pL1 pL2 fL0 fL1 fL2 zL zL_1 zL_2 zL_3
    obtain ⟨pP0, pP1, pP2, fP0, fP1, fP2, zP⟩ := HP.out.three
    have zP_1 : w.heap.size < w6.heap.size + 1 := by omega
    have zP_2 : w.heap.size < w6.heap.size + 1 + 1 := by omega
    have zP_3 : w.heap.size < w6.heap.size + 1 + 1 + 1 := by omega
    obtain ⟨pG0, pG1, pG2, fG0, fG1, fG2, zG⟩ := HG.out.three
    have zG_1 : w3.heap.size + 1 < w6.heap.size + 1 := by omega
    have zG_2 : w3.heap.size + 1 < w6.heap.size + 1 + 1 := by omega
    have zG_3 : w3.heap.size + 1 < w6.heap.size + 1 + 1 + 1 := by omega
    obtain ⟨pL0, pL1, pL2, fL0, fL1, fL2, zL⟩ := HL.out.three
    have zL_1 : w4.heap.size < w6.heap.size + 1 := by omega
    have zL_2 : w4.heap.size < w6.heap.size + 1 + 1 := by omega
    have zL_3 : w4.heap.size < w6.heap.size + 1 + 1 + 1 := by omega
    go_wp2
    go_ret
    exact ⟨rfl, (by repeat (first | with_reducible exact BEL.out | with_reducible apply Below.alloc | with_reducible apply Below.setCell | with_reducible apply Below.drew | with_reducible apply below_drewN | (first | omega | (focus (simp; done)) | (focus (simp; omega)) | (focus (simp [World.setCell]; omega)))))⟩
set_option maxHeartbeats 8000000 in
set_option maxRecDepth 100000 in
theorem poolTells_lo_full (r c k n : Int) (A : Option Addr) (cp : Nat) (l : List Int) (w : World) (hi : Ints w w.heap.size A cp l) (hg : Laid w) (ok : PoolOk r c k) (hn : n < 0) (hl : 60 < l.length) :
    Calls Tryd.prog 5 #[.agg #[.int .i64 r, .int .i64 c, .int .i64 k], .int .i64 n, .slice A l.length cp] w fun e w' => e = .returned (.bool true) ∧ Below w.heap.size w w' := by
  have LAID := Lib.hid hg; clear hg
  have HI := Lib.hid hi; clear hi
  have H := Lib.hid ok
  clear ok
  have HNN : Hid (n < 0 ∨ 10000 < n) := Lib.hid (by omega)
  have hm := Nat.le_trans HI.out.le HI.out.cap
  have HT : Hid (ticksErr l = 4) := Lib.hid (by unfold ticksErr; rw [if_pos hl])
  have BEL : Hid (Below w.heap.size w w) := Lib.hid (Below.refl _ _)
  have yB : w.heap.size ≤ w.heap.size := Nat.le_refl _
  go_enter Tryd.func5, Tryd.ntmps5
  go_wp2_with fail
  refine (refPool_yes r c k _ H.out).mono ?_; rintro e w1 ⟨rfl, hb1⟩
  have z_w1 : w.heap.size ≤ w1.heap.size := Nat.le_trans (by first | with_reducible exact Nat.le_refl _ | (simp; done) | (simp; omega) | (simp [World.setCell]; done)) hb1.size
  have HP := Lib.hid (show Blk w1 (w.heap.size) 41 _ from by (with_reducible apply Blk.below (hb := hb1); (repeat (first | (with_reducible apply Blk.new'; first | with_reducible rfl | (focus (simp; done)) | (focus (simp; omega))) | with_reducible apply Blk.set_ | with_reducible apply Blk.far | with_reducible apply Blk.alloc | with_reducible apply Blk.drew | with_reducible apply Blk.drewN | (first | omega | (focus (simp; done)) | (focus (simp; omega)) | (focus (simp [World.setCell]; omega)))))))
  have q_P_w1 : w.heap.size < w1.heap.size := HP.out.lt
  replace BEL : Hid (Below w.heap.size w w1) := Lib.hid (Below.trans (by repeat (first | with_reducible exact BEL.out | with_reducible apply Below.alloc | with_reducible apply Below.setCell | with_reducible apply Below.drew | with_reducible apply below_drewN | (first | omega | (focus (simp; done)) | (focus (simp; omega)) | (focus (simp [World.setCell]; omega))))) (hb1.mono (by (first | omega | (focus (simp; done)) | (focus (simp; omega)) | (focus (simp [World.setCell]; omega))))))
  have y_w1 : w.heap.size ≤ w1.heap.size := BEL.out.size
  clear hb1
  obtain ⟨pP0, pP1, pP2, fP0, fP1, fP2, zP⟩ := HP.out.three
  have zP_1 : w.heap.size < w1.heap.size + 1 := by omega
  have zP_2 : w.heap.size < w1.heap.size + 1 + 1 := by omega
  have zP_3 : w.heap.size < w1.heap.size + 1 + 1 + 1 := by omega
  go_wp2_with fail
  refine (pcheck_yes r c k _ H.out).mono ?_; rintro e w' ⟨rfl, rfl⟩
  go_wp2_with fail
  refine (same_ok _).mono ?_; rintro e w2 ⟨rfl, hb2⟩
  have z_w2 : w1.heap.size ≤ w2.heap.size := Nat.le_trans (by first | with_reducible exact Nat.le_refl _ | (simp; done) | (simp; omega) | (simp [World.setCell]; done)) hb2.size
  replace HP := Lib.hid (show Blk w2 (w.heap.size) 41 _ from by (with_reducible apply Blk.below (hb := hb2); (repeat (first | with_reducible exact HP.out | (with_reducible apply Blk.new'; first | with_reducible rfl | (focus (simp; done)) | (focus (simp; omega))) | with_reducible apply Blk.set_ | with_reducible apply Blk.far | with_reducible apply Blk.alloc | with_reducible apply Blk.drew | with_reducible apply Blk.drewN | (first | omega | (focus (simp; done)) | (focus (simp; omega)) | (focus (simp [World.setCell]; omega)))))))
  replace BEL : Hid (Below w.heap.size w w2) := Lib.hid (Below.trans (by repeat (first | with_reducible exact BEL.out | with_reducible apply Below.alloc | with_reducible apply Below.setCell | with_reducible apply Below.drew | with_reducible apply below_drewN | (first | omega | (focus (simp; done)) | (focus (simp; omega)) | (focus (simp [World.setCell]; omega))))) (hb2.mono (by (first | omega | (focus (simp; done)) | (focus (simp; omega)) | (focus (simp [World.setCell]; omega))))))
  have y_w2 : w.heap.size ≤ w2.heap.size := BEL.out.size
  clear hb2
  clear pP0 pP1 pP2 fP0 fP1 fP2 zP zP_1 zP_2 zP_3
  obtain ⟨pP0, pP1, pP2, fP0, fP1, fP2, zP⟩ := HP.out.three
  have zP_1 : w.heap.size < w2.heap.size + 1 := by omega
  have zP_2 : w.heap.size < w2.heap.size + 1 + 1 := by omega
  have zP_3 : w.heap.size < w2.heap.size + 1 + 1 + 1 := by omega
  go_wp2_with fail
  refine (ptick_bad r c k n _ H.out HNN.out).mono ?_; rintro e w3 ⟨rfl, hb3⟩
  have z_w3 : w2.heap.size ≤ w3.heap.size := Nat.le_trans (by first | with_reducible exact Nat.le_refl _ | (simp; done) | (simp; omega) | (simp [World.setCell]; done)) hb3.size
  have HW := Lib.hid (show Blk w3 (w2.heap.size) 41 _ from by (with_reducible apply Blk.below (hb := hb3); (repeat (first | (with_reducible apply Blk.new'; first | with_reducible rfl | (focus (simp; done)) | (focus (simp; omega))) | with_reducible apply Blk.set_ | with_reducible apply Blk.far | with_reducible apply Blk.alloc | with_reducible apply Blk.drew | with_reducible apply Blk.drewN | (first | omega | (focus (simp; done)) | (focus (simp; omega)) | (focus (simp [World.setCell]; omega)))))))
  have HN := Lib.hid (show Blk w3 (w2.heap.size + 1) 46 _ from by (with_reducible apply Blk.below (hb := hb3); (repeat (first | (with_reducible apply Blk.new'; first | with_reducible rfl | (focus (simp; done)) | (focus (simp; omega))) | with_reducible apply Blk.set_ | with_reducible apply Blk.far | with_reducible apply Blk.alloc | with_reducible apply Blk.drew | with_reducible apply Blk.drewN | (first | omega | (focus (simp; done)) | (focus (simp; omega)) | (focus (simp [World.setCell]; omega)))))))
  replace HP := Lib.hid (show Blk w3 (w.heap.size) 41 _ from by (with_reducible apply Blk.below (hb := hb3); (repeat (first | with_reducible exact HP.out | (with_reducible apply Blk.new'; first | with_reducible rfl | (focus (simp; done)) | (focus (simp; omega))) | with_reducible apply Blk.set_ | with_reducible apply Blk.far | with_reducible apply Blk.alloc | with_reducible apply Blk.drew | with_reducible apply Blk.drewN | (first | omega | (focus (simp; done)) | (focus (simp; omega)) | (focus (simp [World.setCell]; omega)))))))
  have q_W_w3 : w2.heap.size < w3.heap.size := HW.out.lt
  have q_N_w3 : w2.heap.size + 1 < w3.heap.size := HN.out.lt
  replace BEL : Hid (Below w.heap.size w w3) := Lib.hid (Below.trans (by repeat (first | with_reducible exact BEL.out | with_reducible apply Below.alloc | with_reducible apply Below.setCell | with_reducible apply Below.drew | with_reducible apply below_drewN | (first | omega | (focus (simp; done)) | (focus (simp; omega)) | (focus (simp [World.setCell]; omega))))) (hb3.mono (by (first | omega | (focus (simp; done)) | (focus (simp; omega)) | (focus (simp [World.setCell]; omega))))))
  have y_w3 : w.heap.size ≤ w3.heap.size := BEL.out.size
  clear hb3
  clear pP0 pP1 pP2 fP0 fP1 fP2 zP zP_1 zP_2 zP_3
  obtain ⟨pP0, pP1, pP2, fP0, fP1, fP2, zP⟩ := HP.out.three
  have zP_1 : w.heap.size < w3.heap.size + 1 := by omega
  have zP_2 : w.heap.size < w3.heap.size + 1 + 1 := by omega
  have zP_3 : w.heap.size < w3.heap.size + 1 + 1 + 1 := by omega
  obtain ⟨pW0, pW1, pW2, fW0, fW1, fW2, zW⟩ := HW.out.three
  have zW_1 : w2.heap.size < w3.heap.size + 1 := by omega
  have zW_2 : w2.heap.size < w3.heap.size + 1 + 1 := by omega
  have zW_3 : w2.heap.size < w3.heap.size + 1 + 1 + 1 := by omega
  obtain ⟨pN0, pN1, pN2, fN0, fN1, fN2, zN⟩ := HN.out.three
  have zN_1 : w2.heap.size + 1 < w3.heap.size + 1 := by omega
  have zN_2 : w2.heap.size + 1 < w3.heap.size + 1 + 1 := by omega
  have zN_3 : w2.heap.size + 1 < w3.heap.size + 1 + 1 + 1 := by omega
  go_wp2_with fail
  refine (same_hit 1 _ (LAID.out.below (by repeat (first | with_reducible exact BEL.out | with_reducible apply Below.alloc | with_reducible apply Below.setCell | with_reducible apply Below.drew | with_reducible apply below_drewN | (first | omega | (focus (simp; done)) | (focus (simp; omega)) | (focus (simp [World.setCell]; omega))))))).mono ?_; rintro e w4 ⟨rfl, hb4⟩
  have z_w4 : w3.heap.size ≤ w4.heap.size := Nat.le_trans (by first | with_reducible exact Nat.le_refl _ | (simp; done) | (simp; omega) | (simp [World.setCell]; done)) hb4.size
  have HX := Lib.hid (show Blk w4 (w3.heap.size) 41 _ from by (with_reducible apply Blk.below (hb := hb4); (repeat (first | (with_reducible apply Blk.new'; first | with_reducible rfl | (focus (simp; done)) | (focus (simp; omega))) | with_reducible apply Blk.set_ | with_reducible apply Blk.far | with_reducible apply Blk.alloc | with_reducible apply Blk.drew | with_reducible apply Blk.drewN | (first | omega | (focus (simp; done)) | (focus (simp; omega)) | (focus (simp [World.setCell]; omega)))))))
  have HG := Lib.hid (show Blk w4 (w3.heap.size + 1) 46 _ from by (with_reducible apply Blk.below (hb := hb4); (repeat (first | (with_reducible apply Blk.new'; first | with_reducible rfl | (focus (simp; done)) | (focus (simp; omega))) | with_reducible apply Blk.set_ | with_reducible apply Blk.far | with_reducible apply Blk.alloc | with_reducible apply Blk.drew | with_reducible apply Blk.drewN | (first | omega | (focus (simp; done)) | (focus (simp; omega)) | (focus (simp [World.setCell]; omega)))))))
  replace HP := Lib.hid (show Blk w4 (w.heap.size) 41 _ from by (with_reducible apply Blk.below (hb := hb4); (repeat (first | with_reducible exact HP.out | (with_reducible apply Blk.new'; first | with_reducible rfl | (focus (simp; done)) | (focus (simp; omega))) | with_reducible apply Blk.set_ | with_reducible apply Blk.far | with_reducible apply Blk.alloc | with_reducible apply Blk.drew | with_reducible apply Blk.drewN | (first | omega | (focus (simp; done)) | (focus (simp; omega)) | (focus (simp [World.setCell]; omega)))))))
  replace HW := Lib.hid (show Blk w4 (w2.heap.size) 41 _ from by (with_reducible apply Blk.below (hb := hb4); (repeat (first | with_reducible exact HW.out | (with_reducible apply Blk.new'; first | with_reducible rfl | (focus (simp; done)) | (focus (simp; omega))) | with_reducible apply Blk.set_ | with_reducible apply Blk.far | with_reducible apply Blk.alloc | with_reducible apply Blk.drew | with_reducible apply Blk.drewN | (first | omega | (focus (simp; done)) | (focus (simp; omega)) | (focus (simp [World.setCell]; omega)))))))
  replace HN := Lib.hid (show Blk w4 (w2.heap.size + 1) 46 _ from by (with_reducible apply Blk.below (hb := hb4); (repeat (first | with_reducible exact HN.out | (with_reducible apply Blk.new'; first | with_reducible rfl | (focus (simp; done)) | (focus (simp; omega))) | with_reducible apply Blk.set_ | with_reducible apply Blk.far | with_reducible apply Blk.alloc | with_reducible apply Blk.drew | with_reducible apply Blk.drewN | (first | omega | (focus (simp; done)) | (focus (simp; omega)) | (focus (simp [World.setCell]; omega)))))))
  have q_X_w4 : w3.heap.size < w4.heap.size := HX.out.lt
  have q_G_w4 : w3.heap.size + 1 < w4.heap.size := HG.out.lt
  replace BEL : Hid (Below w.heap.size w w4) := Lib.hid (Below.trans (by repeat (first | with_reducible exact BEL.out | with_reducible apply Below.alloc | with_reducible apply Below.setCell | with_reducible apply Below.drew | with_reducible apply below_drewN | (first | omega | (focus (simp; done)) | (focus (simp; omega)) | (focus (simp [World.setCell]; omega))))) (hb4.mono (by (first | omega | (focus (simp; done)) | (focus (simp; omega)) | (focus (simp [World.setCell]; omega))))))
  have y_w4 : w.heap.size ≤ w4.heap.size := BEL.out.size
  clear hb4
  clear pP0 pP1 pP2 fP0 fP1 fP2 zP zP_1 zP_2 zP_3 pW0 pW1 pW2 fW0 fW1 fW2 zW zW_1 zW_2 zW_3 pN0 pN1 pN2 fN0 fN1 fN2 zN zN_1 zN_2 zN_3
  obtain ⟨pP0, pP1, pP2, fP0, fP1, fP2, zP⟩ := HP.out.three
  have zP_1 : w.heap.size < w4.heap.size + 1 := by omega
  have zP_2 : w.heap.size < w4.heap.size + 1 + 1 := by omega
  have zP_3 : w.heap.size < w4.heap.size + 1 + 1 + 1 := by omega
  obtain ⟨pW0, pW1, pW2, fW0, fW1, fW2, zW⟩ := HW.out.three
  have zW_1 : w2.heap.size < w4.heap.size + 1 := by omega
  have zW_2 : w2.heap.size < w4.heap.size + 1 + 1 := by omega
  have zW_3 : w2.heap.size < w4.heap.size + 1 + 1 + 1 := by omega
  obtain ⟨pN0, pN1, pN2, fN0, fN1, fN2, zN⟩ := HN.out.three
  have zN_1 : w2.heap.size + 1 < w4.heap.size + 1 := by omega
  have zN_2 : w2.heap.size + 1 < w4.heap.size + 1 + 1 := by omega
  have zN_3 : w2.heap.size + 1 < w4.heap.size + 1 + 1 + 1 := by omega
  obtain ⟨pX0, pX1, pX2, fX0, fX1, fX2, zX⟩ := HX.out.three
  have zX_1 : w3.heap.size < w4.heap.size + 1 := by omega
  have zX_2 : w3.heap.size < w4.heap.size + 1 + 1 := by omega
  have zX_3 : w3.heap.size < w4.heap.size + 1 + 1 + 1 := by omega
  obtain ⟨pG0, pG1, pG2, fG0, fG1, fG2, zG⟩ := HG.out.three
  have zG_1 : w3.heap.size + 1 < w4.heap.size + 1 := by omega
  have zG_2 : w3.heap.size + 1 < w4.heap.size + 1 + 1 := by omega
  have zG_3 : w3.heap.size + 1 < w4.heap.size + 1 + 1 + 1 := by omega
  go_wp2_with fail
  refine (refTicks_is A cp l w.heap.size _ (HI.out.below (by repeat (first | with_reducible exact BEL.out | with_reducible apply Below.alloc | with_reducible apply Below.setCell | with_reducible apply Below.drew | with_reducible apply below_drewN | (first | omega | (focus (simp; done)) | (focus (simp; omega)) | (focus (simp [World.setCell]; omega))))) (Nat.le_refl _)) 4 HT.out).mono ?_; rintro e w' ⟨rfl, rfl⟩
  have h0 : 0 < l.length := by omega
  go_wp2_with fail
  refine wp_loop_rounds 1 ?_
  rw [rounds_succ]
  go_wp2_with fail
  refine (prun_full r c k A cp l.length _ H.out hl hm).mono ?_; rintro e w5 ⟨rfl, hb5⟩
  clear HW
  clear HN
  clear HX
  have z_w5 : w4.heap.size ≤ w5.heap.size := Nat.le_trans (by first | with_reducible exact Nat.le_refl _ | (simp; done) | (simp; omega) | (simp [World.setCell]; done)) hb5.size
  have HL := Lib.hid (show Blk w5 (w4.heap.size) 46 _ from by (with_reducible apply Blk.below (hb := hb5); (repeat (first | (with_reducible apply Blk.new'; first | with_reducible rfl | (focus (simp; done)) | (focus (simp; omega))) | with_reducible apply Blk.set_ | with_reducible apply Blk.far | with_reducible apply Blk.alloc | with_reducible apply Blk.drew | with_reducible apply Blk.drewN | (first | omega | (focus (simp; done)) | (focus (simp; omega)) | (focus (simp [World.setCell]; omega)))))))
  replace HP := Lib.hid (show Blk w5 (w.heap.size) 41 _ from by (with_reducible apply Blk.below (hb := hb5); (repeat (first | with_reducible exact HP.out | (with_reducible apply Blk.new'; first | with_reducible rfl | (focus (simp; done)) | (focus (simp; omega))) | with_reducible apply Blk.set_ | with_reducible apply Blk.far | with_reducible apply Blk.alloc | with_reducible apply Blk.drew | with_reducible apply Blk.drewN | (first | omega | (focus (simp; done)) | (focus (simp; omega)) | (focus (simp [World.setCell]; omega)))))))
  replace HG := Lib.hid (show Blk w5 (w3.heap.size + 1) 46 _ from by (with_reducible apply Blk.below (hb := hb5); (repeat (first | with_reducible exact HG.out | (with_reducible apply Blk.new'; first | with_reducible rfl | (focus (simp; done)) | (focus (simp; omega))) | with_reducible apply Blk.set_ | with_reducible apply Blk.far | with_reducible apply Blk.alloc | with_reducible apply Blk.drew | with_reducible apply Blk.drewN | (first | omega | (focus (simp; done)) | (focus (simp; omega)) | (focus (simp [World.setCell]; omega)))))))
  have q_L_w5 : w4.heap.size < w5.heap.size := HL.out.lt
  replace BEL : Hid (Below w.heap.size w w5) := Lib.hid (Below.trans (by repeat (first | with_reducible exact BEL.out | with_reducible apply Below.alloc | with_reducible apply Below.setCell | with_reducible apply Below.drew | with_reducible apply below_drewN | (first | omega | (focus (simp; done)) | (focus (simp; omega)) | (focus (simp [World.setCell]; omega))))) (hb5.mono (by (first | omega | (focus (simp; done)) | (focus (simp; omega)) | (focus (simp [World.setCell]; omega))))))
  have y_w5 : w.heap.size ≤ w5.heap.size := BEL.out.size
  clear hb5
  clear pP0 pP1 pP2 fP0 fP1 fP2 zP zP_1 zP_2 zP_3 pW0 pW1 pW2 fW0 fW1 fW2 zW zW_1 zW_2 zW_3 pN0 pN1 pN2 fN0 fN1 fN2 zN zN_1 zN_2 zN_3 pX0 pX1 pX2 fX0 fX1 fX2 zX zX_1 zX_2 zX_3 pG0 pG1 pG2 fG0 fG1 fG2 zG zG_1 zG_2 zG_3
  obtain ⟨pP0, pP1, pP2, fP0, fP1, fP2, zP⟩ := HP.out.three
  have zP_1 : w.heap.size < w5.heap.size + 1 := by omega
  have zP_2 : w.heap.size < w5.heap.size + 1 + 1 := by omega
  have zP_3 : w.heap.size < w5.heap.size + 1 + 1 + 1 := by omega
  obtain ⟨pG0, pG1, pG2, fG0, fG1, fG2, zG⟩ := HG.out.three
  have zG_1 : w3.heap.size + 1 < w5.heap.size + 1 := by omega
  have zG_2 : w3.heap.size + 1 < w5.heap.size + 1 + 1 := by omega
  have zG_3 : w3.heap.size + 1 < w5.heap.size + 1 + 1 + 1 := by omega
  obtain ⟨pL0, pL1, pL2, fL0, fL1, fL2, zL⟩ := HL.out.three
  have zL_1 : w4.heap.size < w5.heap.size + 1 := by omega
  have zL_2 : w4.heap.size < w5.heap.size + 1 + 1 := by omega
  have zL_3 : w4.heap.size < w5.heap.size + 1 + 1 + 1 := by omega
  go_wp2_with fail
  refine (same_hit 4 _ (LAID.out.below (by repeat (first | with_reducible exact BEL.out | with_reducible apply Below.alloc | with_reducible apply Below.setCell | with_reducible apply Below.drew | with_reducible apply below_drewN | (first | omega | (focus (simp; done)) | (focus (simp; omega)) | (focus (simp [World.setCell]; omega))))))).mono ?_; rintro e w6 ⟨rfl, hb6⟩
  have z_w6 : w5.heap.size ≤ w6.heap.size := Nat.le_trans (by first | with_reducible exact Nat.le_refl _ | (simp; done) | (simp; omega) | (simp [World.setCell]; done)) hb6.size
  replace HP := Lib.hid (show Blk w6 (w.heap.size) 41 _ from by (with_reducible apply Blk.below (hb := hb6); (repeat (first | with_reducible exact HP.out | (with_reducible apply Blk.new'; first | with_reducible rfl | (focus (simp; done)) | (focus (simp; omega))) | with_reducible apply Blk.set_ | with_reducible apply Blk.far | with_reducible apply Blk.alloc | with_reducible apply Blk.drew | with_reducible apply Blk.drewN | (first | omega | (focus (simp; done)) | (focus (simp; omega)) | (focus (simp [World.setCell]; omega)))))))
  replace HG := Lib.hid (show Blk w6 (w3.heap.size + 1) 46 _ from by (with_reducible apply Blk.below (hb := hb6); (repeat (first | with_reducible exact HG.out | (with_reducible apply Blk.new'; first | with_reducible rfl | (focus (simp; done)) | (focus (simp; omega))) | with_reducible apply Blk.set_ | with_reducible apply Blk.far | with_reducible apply Blk.alloc | with_reducible apply Blk.drew | with_reducible apply Blk.drewN | (first | omega | (focus (simp; done)) | (focus (simp; omega)) | (focus (simp [World.setCell]; omega)))))))
  replace HL := Lib.hid (show Blk w6 (w4.heap.size) 46 _ from by (with_reducible apply Blk.below (hb := hb6); (repeat (first | with_reducible exact HL.out | (with_reducible apply Blk.new'; first | with_reducible rfl | (focus (simp; done)) | (focus (simp; omega))) | with_reducible apply Blk.set_ | with_reducible apply Blk.far | with_reducible apply Blk.alloc | with_reducible apply Blk.drew | with_reducible apply Blk.drewN | (first | omega | (focus (simp; done)) | (focus (simp; omega)) | (focus (simp [World.setCell]; omega)))))))
  replace BEL : Hid (Below w.heap.size w w6) := Lib.hid (Below.trans (by repeat (first | with_reducible exact BEL.out | with_reducible apply Below.alloc | with_reducible apply Below.setCell | with_reducible apply Below.drew | with_reducible apply below_drewN | (first | omega | (focus (simp; done)) | (focus (simp; omega)) | (focus (simp [World.setCell]; omega))))) (hb6.mono (by (first | omega | (focus (simp; done)) | (focus (simp; omega)) | (focus (simp [World.setCell]; omega))))))
  have y_w6 : w.heap.size ≤ w6.heap.size := BEL.out.size
  clear hb6
  clear pP0 pP1 pP2 fP0 fP1 fP2 zP zP_1 zP_2 zP_3 pG0 pG1 pG2 fG0 fG1 fG2 zG zG_1 zG_2 zG_3 pL0 pL1 pL2 fL0 fL1 fL2 zL zL_1 zL_2 zL_3
  obtain ⟨pP0, pP1, pP2, fP0, fP1, fP2, zP⟩ := HP.out.three
  have zP_1 : w.heap.size < w6.heap.size + 1 := by omega
  have zP_2 : w.heap.size < w6.heap.size + 1 + 1 := by omega
  have zP_3 : w.heap.size < w6.heap.size + 1 + 1 + 1 := by omega
  obtain ⟨pG0, pG1, pG2, fG0, fG1, fG2, zG⟩ := HG.out.three
  have zG_1 : w3.heap.size + 1 < w6.heap.size + 1 := by omega
  have zG_2 : w3.heap.size + 1 < w6.heap.size + 1 + 1 := by omega
  have zG_3 : w3.heap.size + 1 < w6.heap.size + 1 + 1 + 1 := by omega
  obtain ⟨pL0, pL1, pL2, fL0, fL1, fL2, zL⟩ := HL.out.three
  have zL_1 : w4.heap.size < w6.heap.size + 1 := by omega
  have zL_2 : w4.heap.size < w6.heap.size + 1 + 1 := by omega
  have zL_3 : w4.heap.size < w6.heap.size + 1 + 1 + 1 := by omega
  go_wp2
  go_ret
  exact ⟨rfl, (by repeat (first | with_reducible exact BEL.out | with_reducible apply Below.alloc | with_reducible apply Below.setCell | with_reducible apply Below.drew | with_reducible apply below_drewN | (first | omega | (focus (simp; done)) | (focus (simp; omega)) | (focus (simp [World.setCell]; omega)))))⟩
set_option maxHeartbeats 8000000 in
set_option maxRecDepth 100000 in
theorem poolTells_lo_bad (r c k n : Int) (A : Option Addr) (cp : Nat) (l : List Int) (w : World) (hi : Ints w w.heap.size A cp l) (hg : Laid w) (ok : PoolOk r c k) (hn : n < 0) (hl : l.length ≤ 60) (hb : l.any badRate = true) :
    Calls Tryd.prog 5 #[.agg #[.int .i64 r, .int .i64 c, .int .i64 k], .int .i64 n, .slice A l.length cp] w fun e w' => e = .returned (.bool true) ∧ Below w.heap.size w w' := by
  have LAID := Lib.hid hg; clear hg
  have HI := Lib.hid hi; clear hi
  have H := Lib.hid ok
  clear ok
  have HNN : Hid (n < 0 ∨ 10000 < n) := Lib.hid (by omega)
  have HB := Lib.hid hb; clear hb
  have HT : Hid (ticksErr l = 1) := Lib.hid (by unfold ticksErr; rw [if_neg (by omega), HB.out]; rfl)
  have BEL : Hid (Below w.heap.size w w) := Lib.hid (Below.refl _ _)
  have yB : w.heap.size ≤ w.heap.size := Nat.le_refl _
  go_enter Tryd.func5, Tryd.ntmps5
  go_wp2_with fail
  refine (refPool_yes r c k _ H.out).mono ?_; rintro e w1 ⟨rfl, hb1⟩
  have z_w1 : w.heap.size ≤ w1.heap.size := Nat.le_trans (by first | with_reducible exact Nat.le_refl _ | (simp; done) | (simp; omega) | (simp [World.setCell]; done)) hb1.size
  have HP := Lib.hid (show Blk w1 (w.heap.size) 41 _ from by (with_reducible apply Blk.below (hb := hb1); (repeat (first | (with_reducible apply Blk.new'; first | with_reducible rfl | (focus (simp; done)) | (focus (simp; omega))) | with_reducible apply Blk.set_ | with_reducible apply Blk.far | with_reducible apply Blk.alloc | with_reducible apply Blk.drew | with_reducible apply Blk.drewN | (first | omega | (focus (simp; done)) | (focus (simp; omega)) | (focus (simp [World.setCell]; omega)))))))
  have q_P_w1 : w.heap.size < w1.heap.size := HP.out.lt
  replace BEL : Hid (Below w.heap.size w w1) := Lib.hid (Below.trans (by repeat (first | with_reducible exact BEL.out | with_reducible apply Below.alloc | with_reducible apply Below.setCell | with_reducible apply Below.drew | with_reducible apply below_drewN | (first | omega | (focus (simp; done)) | (focus (simp; omega)) | (focus (simp [World.setCell]; omega))))) (hb1.mono (by (first | omega | (focus (simp; done)) | (focus (simp; omega)) | (focus (simp [World.setCell]; omega))))))
  have y_w1 : w.heap.size ≤ w1.heap.size := BEL.out.size
  clear hb1
  obtain ⟨pP0, pP1, pP2, fP0, fP1, fP2, zP⟩ := HP.out.three
  have zP_1 : w.heap.size < w1.heap.size + 1 := by omega
  have zP_2 : w.heap.size < w1.heap.size + 1 + 1 := by omega
  have zP_3 : w.heap.size < w1.heap.size + 1 + 1 + 1 := by omega
  go_wp2_with fail
  refine (pcheck_yes r c k _ H.out).mono ?_; rintro e w' ⟨rfl, rfl⟩
  go_wp2_with fail
  refine (same_ok _).mono ?_; rintro e w2 ⟨rfl, hb2⟩
  have z_w2 : w1.heap.size ≤ w2.heap.size := Nat.le_trans (by first | with_reducible exact Nat.le_refl _ | (simp; done) | (simp; omega) | (simp [World.setCell]; done)) hb2.size
  replace HP := Lib.hid (show Blk w2 (w.heap.size) 41 _ from by (with_reducible apply Blk.below (hb := hb2); (repeat (first | with_reducible exact HP.out | (with_reducible apply Blk.new'; first | with_reducible rfl | (focus (simp; done)) | (focus (simp; omega))) | with_reducible apply Blk.set_ | with_reducible apply Blk.far | with_reducible apply Blk.alloc | with_reducible apply Blk.drew | with_reducible apply Blk.drewN | (first | omega | (focus (simp; done)) | (focus (simp; omega)) | (focus (simp [World.setCell]; omega)))))))
  replace BEL : Hid (Below w.heap.size w w2) := Lib.hid (Below.trans (by repeat (first | with_reducible exact BEL.out | with_reducible apply Below.alloc | with_reducible apply Below.setCell | with_reducible apply Below.drew | with_reducible apply below_drewN | (first | omega | (focus (simp; done)) | (focus (simp; omega)) | (focus (simp [World.setCell]; omega))))) (hb2.mono (by (first | omega | (focus (simp; done)) | (focus (simp; omega)) | (focus (simp [World.setCell]; omega))))))
  have y_w2 : w.heap.size ≤ w2.heap.size := BEL.out.size
  clear hb2
  clear pP0 pP1 pP2 fP0 fP1 fP2 zP zP_1 zP_2 zP_3
  obtain ⟨pP0, pP1, pP2, fP0, fP1, fP2, zP⟩ := HP.out.three
  have zP_1 : w.heap.size < w2.heap.size + 1 := by omega
  have zP_2 : w.heap.size < w2.heap.size + 1 + 1 := by omega
  have zP_3 : w.heap.size < w2.heap.size + 1 + 1 + 1 := by omega
  go_wp2_with fail
  refine (ptick_bad r c k n _ H.out HNN.out).mono ?_; rintro e w3 ⟨rfl, hb3⟩
  have z_w3 : w2.heap.size ≤ w3.heap.size := Nat.le_trans (by first | with_reducible exact Nat.le_refl _ | (simp; done) | (simp; omega) | (simp [World.setCell]; done)) hb3.size
  have HW := Lib.hid (show Blk w3 (w2.heap.size) 41 _ from by (with_reducible apply Blk.below (hb := hb3); (repeat (first | (with_reducible apply Blk.new'; first | with_reducible rfl | (focus (simp; done)) | (focus (simp; omega))) | with_reducible apply Blk.set_ | with_reducible apply Blk.far | with_reducible apply Blk.alloc | with_reducible apply Blk.drew | with_reducible apply Blk.drewN | (first | omega | (focus (simp; done)) | (focus (simp; omega)) | (focus (simp [World.setCell]; omega)))))))
  have HN := Lib.hid (show Blk w3 (w2.heap.size + 1) 46 _ from by (with_reducible apply Blk.below (hb := hb3); (repeat (first | (with_reducible apply Blk.new'; first | with_reducible rfl | (focus (simp; done)) | (focus (simp; omega))) | with_reducible apply Blk.set_ | with_reducible apply Blk.far | with_reducible apply Blk.alloc | with_reducible apply Blk.drew | with_reducible apply Blk.drewN | (first | omega | (focus (simp; done)) | (focus (simp; omega)) | (focus (simp [World.setCell]; omega)))))))
  replace HP := Lib.hid (show Blk w3 (w.heap.size) 41 _ from by (with_reducible apply Blk.below (hb := hb3); (repeat (first | with_reducible exact HP.out | (with_reducible apply Blk.new'; first | with_reducible rfl | (focus (simp; done)) | (focus (simp; omega))) | with_reducible apply Blk.set_ | with_reducible apply Blk.far | with_reducible apply Blk.alloc | with_reducible apply Blk.drew | with_reducible apply Blk.drewN | (first | omega | (focus (simp; done)) | (focus (simp; omega)) | (focus (simp [World.setCell]; omega)))))))
  have q_W_w3 : w2.heap.size < w3.heap.size := HW.out.lt
  have q_N_w3 : w2.heap.size + 1 < w3.heap.size := HN.out.lt
  replace BEL : Hid (Below w.heap.size w w3) := Lib.hid (Below.trans (by repeat (first | with_reducible exact BEL.out | with_reducible apply Below.alloc | with_reducible apply Below.setCell | with_reducible apply Below.drew | with_reducible apply below_drewN | (first | omega | (focus (simp; done)) | (focus (simp; omega)) | (focus (simp [World.setCell]; omega))))) (hb3.mono (by (first | omega | (focus (simp; done)) | (focus (simp; omega)) | (focus (simp [World.setCell]; omega))))))
  have y_w3 : w.heap.size ≤ w3.heap.size := BEL.out.size
  clear hb3
  clear pP0 pP1 pP2 fP0 fP1 fP2 zP zP_1 zP_2 zP_3
  obtain ⟨pP0, pP1, pP2, fP0, fP1, fP2, zP⟩ := HP.out.three
  have zP_1 : w.heap.size < w3.heap.size + 1 := by omega
  have zP_2 : w.heap.size < w3.heap.size + 1 + 1 := by omega
  have zP_3 : w.heap.size < w3.heap.size + 1 + 1 + 1 := by omega
  obtain ⟨pW0, pW1, pW2, fW0, fW1, fW2, zW⟩ := HW.out.three
  have zW_1 : w2.heap.size < w3.heap.size + 1 := by omega
  have zW_2 : w2.heap.size < w3.heap.size + 1 + 1 := by omega
  have zW_3 : w2.heap.size < w3.heap.size + 1 + 1 + 1 := by omega
  obtain ⟨pN0, pN1, pN2, fN0, fN1, fN2, zN⟩ := HN.out.three
  have zN_1 : w2.heap.size + 1 < w3.heap.size + 1 := by omega
  have zN_2 : w2.heap.size + 1 < w3.heap.size + 1 + 1 := by omega
  have zN_3 : w2.heap.size + 1 < w3.heap.size + 1 + 1 + 1 := by omega
  go_wp2_with fail
  refine (same_hit 1 _ (LAID.out.below (by repeat (first | with_reducible exact BEL.out | with_reducible apply Below.alloc | with_reducible apply Below.setCell | with_reducible apply Below.drew | with_reducible apply below_drewN | (first | omega | (focus (simp; done)) | (focus (simp; omega)) | (focus (simp [World.setCell]; omega))))))).mono ?_; rintro e w4 ⟨rfl, hb4⟩
  have z_w4 : w3.heap.size ≤ w4.heap.size := Nat.le_trans (by first | with_reducible exact Nat.le_refl _ | (simp; done) | (simp; omega) | (simp [World.setCell]; done)) hb4.size
  have HX := Lib.hid (show Blk w4 (w3.heap.size) 41 _ from by (with_reducible apply Blk.below (hb := hb4); (repeat (first | (with_reducible apply Blk.new'; first | with_reducible rfl | (focus (simp; done)) | (focus (simp; omega))) | with_reducible apply Blk.set_ | with_reducible apply Blk.far | with_reducible apply Blk.alloc | with_reducible apply Blk.drew | with_reducible apply Blk.drewN | (first | omega | (focus (simp; done)) | (focus (simp; omega)) | (focus (simp [World.setCell]; omega)))))))
  have HG := Lib.hid (show Blk w4 (w3.heap.size + 1) 46 _ from by (with_reducible apply Blk.below (hb := hb4); (repeat (first | (with_reducible apply Blk.new'; first | with_reducible rfl | (focus (simp; done)) | (focus (simp; omega))) | with_reducible apply Blk.set_ | with_reducible apply Blk.far | with_reducible apply Blk.alloc | with_reducible apply Blk.drew | with_reducible apply Blk.drewN | (first | omega | (focus (simp; done)) | (focus (simp; omega)) | (focus (simp [World.setCell]; omega)))))))
  replace HP := Lib.hid (show Blk w4 (w.heap.size) 41 _ from by (with_reducible apply Blk.below (hb := hb4); (repeat (first | with_reducible exact HP.out | (with_reducible apply Blk.new'; first | with_reducible rfl | (focus (simp; done)) | (focus (simp; omega))) | with_reducible apply Blk.set_ | with_reducible apply Blk.far | with_reducible apply Blk.alloc | with_reducible apply Blk.drew | with_reducible apply Blk.drewN | (first | omega | (focus (simp; done)) | (focus (simp; omega)) | (focus (simp [World.setCell]; omega)))))))
  replace HW := Lib.hid (show Blk w4 (w2.heap.size) 41 _ from by (with_reducible apply Blk.below (hb := hb4); (repeat (first | with_reducible exact HW.out | (with_reducible apply Blk.new'; first | with_reducible rfl | (focus (simp; done)) | (focus (simp; omega))) | with_reducible apply Blk.set_ | with_reducible apply Blk.far | with_reducible apply Blk.alloc | with_reducible apply Blk.drew | with_reducible apply Blk.drewN | (first | omega | (focus (simp; done)) | (focus (simp; omega)) | (focus (simp [World.setCell]; omega)))))))
  replace HN := Lib.hid (show Blk w4 (w2.heap.size + 1) 46 _ from by (with_reducible apply Blk.below (hb := hb4); (repeat (first | with_reducible exact HN.out | (with_reducible apply Blk.new'; first | with_reducible rfl | (focus (simp; done)) | (focus (simp; omega))) | with_reducible apply Blk.set_ | with_reducible apply Blk.far | with_reducible apply Blk.alloc | with_reducible apply Blk.drew | with_reducible apply Blk.drewN | (first | omega | (focus (simp; done)) | (focus (simp; omega)) | (focus (simp [World.setCell]; omega)))))))
  have q_X_w4 : w3.heap.size < w4.heap.size := HX.out.lt
  have q_G_w4 : w3.heap.size + 1 < w4.heap.size := HG.out.lt
  replace BEL : Hid (Below w.heap.size w w4) := Lib.hid (Below.trans (by repeat (first | with_reducible exact BEL.out | with_reducible apply Below.alloc | with_reducible apply Below.setCell | with_reducible apply Below.drew | with_reducible apply below_drewN | (first | omega | (focus (simp; done)) | (focus (simp; omega)) | (focus (simp [World.setCell]; omega))))) (hb4.mono (by (first | omega | (focus (simp; done)) | (focus (simp; omega)) | (focus (simp [World.setCell]; omega))))))
  have y_w4 : w.heap.size ≤ w4.heap.size := BEL.out.size
  clear hb4
  clear pP0 pP1 pP2 fP0 fP1 fP2 zP zP_1 zP_2 zP_3 pW0 pW1 pW2 fW0 fW1 fW2 zW zW_1 zW_2 zW_3 pN0 pN1 pN2 fN0 fN1 fN2 zN zN_1 zN_2 zN_3
  obtain ⟨pP0, pP1, pP2, fP0, fP1, fP2, zP⟩ := HP.out.three
  have zP_1 : w.heap.size < w4.heap.size + 1 := by omega
  have zP_2 : w.heap.size < w4.heap.size + 1 + 1 := by omega
  have zP_3 : w.heap.size < w4.heap.size + 1 + 1 + 1 := by omega
  obtain ⟨pW0, pW1, pW2, fW0, fW1, fW2, zW⟩ := HW.out.three
  have zW_1 : w2.heap.size < w4.heap.size + 1 := by omega
  have zW_2 : w2.heap.size < w4.heap.size + 1 + 1 := by omega
  have zW_3 : w2.heap.size < w4.heap.size + 1 + 1 + 1 := by omega
  obtain ⟨pN0, pN1, pN2, fN0, fN1, fN2, zN⟩ := HN.out.three
  have zN_1 : w2.heap.size + 1 < w4.heap.size + 1 := by omega
  have zN_2 : w2.heap.size + 1 < w4.heap.size + 1 + 1 := by omega
  have zN_3 : w2.heap.size + 1 < w4.heap.size + 1 + 1 + 1 := by omega
  obtain ⟨pX0, pX1, pX2, fX0, fX1, fX2, zX⟩ := HX.out.three
  have zX_1 : w3.heap.size < w4.heap.size + 1 := by omega
  have zX_2 : w3.heap.size < w4.heap.size + 1 + 1 := by omega
  have zX_3 : w3.heap.size < w4.heap.size + 1 + 1 + 1 := by omega
  obtain ⟨pG0, pG1, pG2, fG0, fG1, fG2, zG⟩ := HG.out.three
  have zG_1 : w3.heap.size + 1 < w4.heap.size + 1 := by omega
  have zG_2 : w3.heap.size + 1 < w4.heap.size + 1 + 1 := by omega
  have zG_3 : w3.heap.size + 1 < w4.heap.size + 1 + 1 + 1 := by omega
  go_wp2_with fail
  refine (refTicks_is A cp l w.heap.size _ (HI.out.below (by repeat (first | with_reducible exact BEL.out | with_reducible apply Below.alloc | with_reducible apply Below.setCell | with_reducible apply Below.drew | with_reducible apply below_drewN | (first | omega | (focus (simp; done)) | (focus (simp; omega)) | (focus (simp [World.setCell]; omega))))) (Nat.le_refl _)) 1 HT.out).mono ?_; rintro e w' ⟨rfl, rfl⟩
  have h0 : 0 < l.length := by
    rcases Nat.eq_zero_or_pos l.length with h | h
    · have := HB.out; rw [List.length_eq_zero_iff.1 h] at this; cases this
    · exact h
  go_wp2_with fail
  refine wp_loop_rounds 1 ?_
  rw [rounds_succ]
  go_wp2_with fail
  refine (prun_bad r c k A cp l _ H.out ((HI.out.below (by repeat (first | with_reducible exact BEL.out | with_reducible apply Below.alloc | with_reducible apply Below.setCell | with_reducible apply Below.drew | with_reducible apply below_drewN | (first | omega | (focus (simp; done)) | (focus (simp; omega)) | (focus (simp [World.setCell]; omega))))) (Nat.le_refl _)).more (by (first | omega | (focus (simp; done)) | (focus (simp; omega)) | (focus (simp [World.setCell]; omega))))) hl HB.out).mono ?_; rintro e w5 ⟨rfl, hb5⟩
  clear HW
  clear HN
  clear HX
  have z_w5 : w4.heap.size ≤ w5.heap.size := Nat.le_trans (by first | with_reducible exact Nat.le_refl _ | (simp; done) | (simp; omega) | (simp [World.setCell]; done)) hb5.size
  have HL := Lib.hid (show Blk w5 (w4.heap.size) 46 _ from by (with_reducible apply Blk.below (hb := hb5); (repeat (first | (with_reducible apply Blk.new'; first | with_reducible rfl | (focus (simp; done)) | (focus (simp; omega))) | with_reducible apply Blk.set_ | with_reducible apply Blk.far | with_reducible apply Blk.alloc | with_reducible apply Blk.drew | with_reducible apply Blk.drewN | (first | omega | (focus (simp; done)) | (focus (simp; omega)) | (focus (simp [World.setCell]; omega)))))))
  replace HP := Lib.hid (show Blk w5 (w.heap.size) 41 _ from by (with_reducible apply Blk.below (hb := hb5); (repeat (first | with_reducible exact HP.out | (with_reducible apply Blk.new'; first | with_reducible rfl | (focus (simp; done)) | (focus (simp; omega))) | with_reducible apply Blk.set_ | with_reducible apply Blk.far | with_reducible apply Blk.alloc | with_reducible apply Blk.drew | with_reducible apply Blk.drewN | (first | omega | (focus (simp; done)) | (focus (simp; omega)) | (focus (simp [World.setCell]; omega)))))))
  replace HG := Lib.hid (show Blk w5 (w3.heap.size + 1) 46 _ from by (with_reducible apply Blk.below (hb := hb5); (repeat (first | with_reducible exact HG.out | (with_reducible apply Blk.new'; first | with_reducible rfl | (focus (simp; done)) | (focus (simp; omega))) | with_reducible apply Blk.set_ | with_reducible apply Blk.far | with_reducible apply Blk.alloc | with_reducible apply Blk.drew | with_reducible apply Blk.drewN | (first | omega | (focus (simp; done)) | (focus (simp; omega)) | (focus (simp [World.setCell]; omega)))))))
  have q_L_w5 : w4.heap.size < w5.heap.size := HL.out.lt
  replace BEL : Hid (Below w.heap.size w w5) := Lib.hid (Below.trans (by repeat (first | with_reducible exact BEL.out | with_reducible apply Below.alloc | with_reducible apply Below.setCell | with_reducible apply Below.drew | with_reducible apply below_drewN | (first | omega | (focus (simp; done)) | (focus (simp; omega)) | (focus (simp [World.setCell]; omega))))) (hb5.mono (by (first | omega | (focus (simp; done)) | (focus (simp; omega)) | (focus (simp [World.setCell]; omega))))))
  have y_w5 : w.heap.size ≤ w5.heap.size := BEL.out.size
  clear hb5
  clear pP0 pP1 pP2 fP0 fP1 fP2 zP zP_1 zP_2 zP_3 pW0 pW1 pW2 fW0 fW1 fW2 zW zW_1 zW_2 zW_3 pN0 pN1 pN2 fN0 fN1 fN2 zN zN_1 zN_2 zN_3 pX0 pX1 pX2 fX0 fX1 fX2 zX zX_1 zX_2 zX_3 pG0 pG1 pG2 fG0 fG1 fG2 zG zG_1 zG_2 zG_3
  obtain ⟨pP0, pP1, pP2, fP0, fP1, fP2, zP⟩ := HP.out.three
  have zP_1 : w.heap.size < w5.heap.size + 1 := by omega
  have zP_2 : w.heap.size < w5.heap.size + 1 + 1 := by omega
  have zP_3 : w.heap.size < w5.heap.size + 1 + 1 + 1 := by omega
  obtain ⟨pG0, pG1, pG2, fG0, fG1, fG2, zG⟩ := HG.out.three
  have zG_1 : w3.heap.size + 1 < w5.heap.size + 1 := by omega
  have zG_2 : w3.heap.size + 1 < w5.heap.size + 1 + 1 := by omega
  have zG_3 : w3.heap.size + 1 < w5.heap.size + 1 + 1 + 1 := by omega
  obtain ⟨pL0, pL1, pL2, fL0, fL1, fL2, zL⟩ := HL.out.three
  have zL_1 : w4.heap.size < w5.heap.size + 1 := by omega
  have zL_2 : w4.heap.size < w5.heap.size + 1 + 1 := by omega
  have zL_3 : w4.heap.size < w5.heap.size + 1 + 1 + 1 := by omega
  go_wp2_with fail
  refine (same_hit 1 _ (LAID.out.below (by repeat (first | with_reducible exact BEL.out | with_reducible apply Below.alloc | with_reducible apply Below.setCell | with_reducible apply Below.drew | with_reducible apply below_drewN | (first | omega | (focus (simp; done)) | (focus (simp; omega)) | (focus (simp [World.setCell]; omega))))))).mono ?_; rintro e w6 ⟨rfl, hb6⟩
  have z_w6 : w5.heap.size ≤ w6.heap.size := Nat.le_trans (by first | with_reducible exact Nat.le_refl _ | (simp; done) | (simp; omega) | (simp [World.setCell]; done)) hb6.size
  replace HP := Lib.hid (show Blk w6 (w.heap.size) 41 _ from by (with_reducible apply Blk.below (hb := hb6); (repeat (first | with_reducible exact HP.out | (with_reducible apply Blk.new'; first | with_reducible rfl | (focus (simp; done)) | (focus (simp; omega))) | with_reducible apply Blk.set_ | with_reducible apply Blk.far | with_reducible apply Blk.alloc | with_reducible apply Blk.drew | with_reducible apply Blk.drewN | (first | omega | (focus (simp; done)) | (focus (simp; omega)) | (focus (simp [World.setCell]; omega)))))))
  replace HG := Lib.hid (show Blk w6 (w3.heap.size + 1) 46 _ from by (with_reducible apply Blk.below (hb := hb6); (repeat (first | with_reducible exact HG.out | (with_reducible apply Blk.new'; first | with_reducible rfl | (focus (simp; done)) | (focus (simp; omega))) | with_reducible apply Blk.set_ | with_reducible apply Blk.far | with_reducible apply Blk.alloc | with_reducible apply Blk.drew | with_reducible apply Blk.drewN | (first | omega | (focus (simp; done)) | (focus (simp; omega)) | (focus (simp [World.setCell]; omega)))))))
  replace HL := Lib.hid (show Blk w6 (w4.heap.size) 46 _ from by (with_reducible apply Blk.below (hb := hb6); (repeat (first | with_reducible exact HL.out | (with_reducible apply Blk.new'; first | with_reducible rfl | (focus (simp; done)) | (focus (simp; omega))) | with_reducible apply Blk.set_ | with_reducible apply Blk.far | with_reducible apply Blk.alloc | with_reducible apply Blk.drew | with_reducible apply Blk.drewN | (first | omega | (focus (simp; done)) | (focus (simp; omega)) | (focus (simp [World.setCell]; omega)))))))
  replace BEL : Hid (Below w.heap.size w w6) := Lib.hid (Below.trans (by repeat (first | with_reducible exact BEL.out | with_reducible apply Below.alloc | with_reducible apply Below.setCell | with_reducible apply Below.drew | with_reducible apply below_drewN | (first | omega | (focus (simp; done)) | (focus (simp; omega)) | (focus (simp [World.setCell]; omega))))) (hb6.mono (by (first | omega | (focus (simp; done)) | (focus (simp; omega)) | (focus (simp [World.setCell]; omega))))))
  have y_w6 : w.heap.size ≤ w6.heap.size := BEL.out.size
  clear hb6
  clear pP0 pP1 pP2 fP0 fP1 fP2 zP zP_1 zP_2 zP_3 pG0 pG1 pG2 fG0 fG1 fG2 zG zG_1 zG_2 zG_3 pL0 pL1 pL2 fL0 fL1 fL2 zL zL_1 zL_2 zL_3
  obtain ⟨pP0, pP1, pP2, fP0, fP1, fP2, zP⟩ := HP.out.three
  have zP_1 : w.heap.size < w6.heap.size + 1 := by omega
  have zP_2 : w.heap.size < w6.heap.size + 1 + 1 := by omega
  have zP_3 : w.heap.size < w6.heap.size + 1 + 1 + 1 := by omega
  obtain ⟨pG0, pG1, pG2, fG0, fG1, fG2, zG⟩ := HG.out.three
  have zG_1 : w3.heap.size + 1 < w6.heap.size + 1 := by omega
  have zG_2 : w3.heap.size + 1 < w6.heap.size + 1 + 1 := by omega
  have zG_3 : w3.heap.size + 1 < w6.heap.size + 1 + 1 + 1 := by omega
  obtain ⟨pL0, pL1, pL2, fL0, fL1, fL2, zL⟩ := HL.out.three
  have zL_1 : w4.heap.size < w6.heap.size + 1 := by omega
  have zL_2 : w4.heap.size < w6.heap.size + 1 + 1 := by omega
  have zL_3 : w4.heap.size < w6.heap.size + 1 + 1 + 1 := by omega
  go_wp2
  go_ret
  exact ⟨rfl, (by repeat (first | with_reducible exact BEL.out | with_reducible apply Below.alloc | with_reducible apply Below.setCell | with_reducible apply Below.drew | with_reducible apply below_drewN | (first | omega | (focus (simp; done)) | (focus (simp; omega)) | (focus (simp [World.setCell]; omega)))))⟩
set_option maxHeartbeats 8000000 in
set_option maxRecDepth 100000 in
theorem poolTells_lo_ok (r c k n : Int) (A : Option Addr) (cp : Nat) (l : List Int) (w : World) (hi : Ints w w.heap.size A cp l) (hg : Laid w) (ok : PoolOk r c k) (hn : n < 0) (hl : l.length ≤ 60) (hb : l.any badRate = false) :
    Calls Tryd.prog 5 #[.agg #[.int .i64 r, .int .i64 c, .int .i64 k], .int .i64 n, .slice A l.length cp] w fun e w' => e = .returned (.bool true) ∧ Below w.heap.size w w' := by
  have LAID := Lib.hid hg; clear hg
  have HI := Lib.hid hi; clear hi
  have H := Lib.hid ok
  obtain ⟨r0, r1, c0, c1, k0, k1⟩ := ok
  have HNN : Hid (n < 0 ∨ 10000 < n) := Lib.hid (by omega)
  have HB := Lib.hid hb; clear hb
  have HT : Hid (ticksErr l = 0) := Lib.hid (by unfold ticksErr; rw [if_neg (by omega), HB.out]; rfl)
  have BEL : Hid (Below w.heap.size w w) := Lib.hid (Below.refl _ _)
  have yB : w.heap.size ≤ w.heap.size := Nat.le_refl _
  go_enter Tryd.func5, Tryd.ntmps5
  go_wp2_with fail
  refine (refPool_yes r c k _ H.out).mono ?_; rintro e w1 ⟨rfl, hb1⟩
  have z_w1 : w.heap.size ≤ w1.heap.size := Nat.le_trans (by first | with_reducible exact Nat.le_refl _ | (simp; done) | (simp; omega) | (simp [World.setCell]; done)) hb1.size
  have HP := Lib.hid (show Blk w1 (w.heap.size) 41 _ from by (with_reducible apply Blk.below (hb := hb1); (repeat (first | (with_reducible apply Blk.new'; first | with_reducible rfl | (focus (simp; done)) | (focus (simp; omega))) | with_reducible apply Blk.set_ | with_reducible apply Blk.far | with_reducible apply Blk.alloc | with_reducible apply Blk.drew | with_reducible apply Blk.drewN | (first | omega | (focus (simp; done)) | (focus (simp; omega)) | (focus (simp [World.setCell]; omega)))))))
  have q_P_w1 : w.heap.size < w1.heap.size := HP.out.lt
  replace BEL : Hid (Below w.heap.size w w1) := Lib.hid (Below.trans (by repeat (first | with_reducible exact BEL.out | with_reducible apply Below.alloc | with_reducible apply Below.setCell | with_reducible apply Below.drew | with_reducible apply below_drewN | (first | omega | (focus (simp; done)) | (focus (simp; omega)) | (focus (simp [World.setCell]; omega))))) (hb1.mono (by (first | omega | (focus (simp; done)) | (focus (simp; omega)) | (focus (simp [World.setCell]; omega))))))
  have y_w1 : w.heap.size ≤ w1.heap.size := BEL.out.size
  clear hb1
  obtain ⟨pP0, pP1, pP2, fP0, fP1, fP2, zP⟩ := HP.out.three
  have zP_1 : w.heap.size < w1.heap.size + 1 := by omega
  have zP_2 : w.heap.size < w1.heap.size + 1 + 1 := by omega
  have zP_3 : w.heap.size < w1.heap.size + 1 + 1 + 1 := by omega
  go_wp2_with fail
  refine (pcheck_yes r c k _ H.out).mono ?_; rintro e w' ⟨rfl, rfl⟩
  go_wp2_with fail
  refine (same_ok _).mono ?_; rintro e w2 ⟨rfl, hb2⟩
  have z_w2 : w1.heap.size ≤ w2.heap.size := Nat.le_trans (by first | with_reducible exact Nat.le_refl _ | (simp; done) | (simp; omega) | (simp [World.setCell]; done)) hb2.size
  replace HP := Lib.hid (show Blk w2 (w.heap.size) 41 _ from by (with_reducible apply Blk.below (hb := hb2); (repeat (first | with_reducible exact HP.out | (with_reducible apply Blk.new'; first | with_reducible rfl | (focus (simp; done)) | (focus (simp; omega))) | with_reducible apply Blk.set_ | with_reducible apply Blk.far | with_reducible apply Blk.alloc | with_reducible apply Blk.drew | with_reducible apply Blk.drewN | (first | omega | (focus (simp; done)) | (focus (simp; omega)) | (focus (simp [World.setCell]; omega)))))))
  replace BEL : Hid (Below w.heap.size w w2) := Lib.hid (Below.trans (by repeat (first | with_reducible exact BEL.out | with_reducible apply Below.alloc | with_reducible apply Below.setCell | with_reducible apply Below.drew | with_reducible apply below_drewN | (first | omega | (focus (simp; done)) | (focus (simp; omega)) | (focus (simp [World.setCell]; omega))))) (hb2.mono (by (first | omega | (focus (simp; done)) | (focus (simp; omega)) | (focus (simp [World.setCell]; omega))))))
  have y_w2 : w.heap.size ≤ w2.heap.size := BEL.out.size
  clear hb2
  clear pP0 pP1 pP2 fP0 fP1 fP2 zP zP_1 zP_2 zP_3
  obtain ⟨pP0, pP1, pP2, fP0, fP1, fP2, zP⟩ := HP.out.three
  have zP_1 : w.heap.size < w2.heap.size + 1 := by omega
  have zP_2 : w.heap.size < w2.heap.size + 1 + 1 := by omega
  have zP_3 : w.heap.size < w2.heap.size + 1 + 1 + 1 := by omega
  go_wp2_with fail
  refine (ptick_bad r c k n _ H.out HNN.out).mono ?_; rintro e w3 ⟨rfl, hb3⟩
  have z_w3 : w2.heap.size ≤ w3.heap.size := Nat.le_trans (by first | with_reducible exact Nat.le_refl _ | (simp; done) | (simp; omega) | (simp [World.setCell]; done)) hb3.size
  have HW := Lib.hid (show Blk w3 (w2.heap.size) 41 _ from by (with_reducible apply Blk.below (hb := hb3); (repeat (first | (with_reducible apply Blk.new'; first | with_reducible rfl | (focus (simp; done)) | (focus (simp; omega))) | with_reducible apply Blk.set_ | with_reducible apply Blk.far | with_reducible apply Blk.alloc | with_reducible apply Blk.drew | with_reducible apply Blk.drewN | (first | omega | (focus (simp; done)) | (focus (simp; omega)) | (focus (simp [World.setCell]; omega)))))))
  have HN := Lib.hid (show Blk w3 (w2.heap.size + 1) 46 _ from by (with_reducible apply Blk.below (hb := hb3); (repeat (first | (with_reducible apply Blk.new'; first | with_reducible rfl | (focus (simp; done)) | (focus (simp; omega))) | with_reducible apply Blk.set_ | with_reducible apply Blk.far | with_reducible apply Blk.alloc | with_reducible apply Blk.drew | with_reducible apply Blk.drewN | (first | omega | (focus (simp; done)) | (focus (simp; omega)) | (focus (simp [World.setCell]; omega)))))))
  replace HP := Lib.hid (show Blk w3 (w.heap.size) 41 _ from by (with_reducible apply Blk.below (hb := hb3); (repeat (first | with_reducible exact HP.out | (with_reducible apply Blk.new'; first | with_reducible rfl | (focus (simp; done)) | (focus (simp; omega))) | with_reducible apply Blk.set_ | with_reducible apply Blk.far | with_reducible apply Blk.alloc | with_reducible apply Blk.drew | with_reducible apply Blk.drewN | (first | omega | (focus (simp; done)) | (focus (simp; omega)) | (focus (simp [World.setCell]; omega)))))))
  have q_W_w3 : w2.heap.size < w3.heap.size := HW.out.lt
  have q_N_w3 : w2.heap.size + 1 < w3.heap.size := HN.out.lt
  replace BEL : Hid (Below w.heap.size w w3) := Lib.hid (Below.trans (by repeat (first | with_reducible exact BEL.out | with_reducible apply Below.alloc | with_reducible apply Below.setCell | with_reducible apply Below.drew | with_reducible apply below_drewN | (first | omega | (focus (simp; done)) | (focus (simp; omega)) | (focus (simp [World.setCell]; omega))))) (hb3.mono (by (first | omega | (focus (simp; done)) | (focus (simp; omega)) | (focus (simp [World.setCell]; omega))))))
  have y_w3 : w.heap.size ≤ w3.heap.size := BEL.out.size
  clear hb3
  clear pP0 pP1 pP2 fP0 fP1 fP2 zP zP_1 zP_2 zP_3
  obtain ⟨pP0, pP1, pP2, fP0, fP1, fP2, zP⟩ := HP.out.three
  have zP_1 : w.heap.size < w3.heap.size + 1 := by omega
  have zP_2 : w.heap.size < w3.heap.size + 1 + 1 := by omega
  have zP_3 : w.heap.size < w3.heap.size + 1 + 1 + 1 := by omega
  obtain ⟨pW0, pW1, pW2, fW0, fW1, fW2, zW⟩ := HW.out.three
  have zW_1 : w2.heap.size < w3.heap.size + 1 := by omega
  have zW_2 : w2.heap.size < w3.heap.size + 1 + 1 := by omega
  have zW_3 : w2.heap.size < w3.heap.size + 1 + 1 + 1 := by omega
  obtain ⟨pN0, pN1, pN2, fN0, fN1, fN2, zN⟩ := HN.out.three
  have zN_1 : w2.heap.size + 1 < w3.heap.size + 1 := by omega
  have zN_2 : w2.heap.size + 1 < w3.heap.size + 1 + 1 := by omega
  have zN_3 : w2.heap.size + 1 < w3.heap.size + 1 + 1 + 1 := by omega
  go_wp2_with fail
  refine (same_hit 1 _ (LAID.out.below (by repeat (first | with_reducible exact BEL.out | with_reducible apply Below.alloc | with_reducible apply Below.setCell | with_reducible apply Below.drew | with_reducible apply below_drewN | (first | omega | (focus (simp; done)) | (focus (simp; omega)) | (focus (simp [World.setCell]; omega))))))).mono ?_; rintro e w4 ⟨rfl, hb4⟩
  have z_w4 : w3.heap.size ≤ w4.heap.size := Nat.le_trans (by first | with_reducible exact Nat.le_refl _ | (simp; done) | (simp; omega) | (simp [World.setCell]; done)) hb4.size
  have HX := Lib.hid (show Blk w4 (w3.heap.size) 41 _ from by (with_reducible apply Blk.below (hb := hb4); (repeat (first | (with_reducible apply Blk.new'; first | with_reducible rfl | (focus (simp; done)) | (focus (simp; omega))) | with_reducible apply Blk.set_ | with_reducible apply Blk.far | with_reducible apply Blk.alloc | with_reducible apply Blk.drew | with_reducible apply Blk.drewN | (first | omega | (focus (simp; done)) | (focus (simp; omega)) | (focus (simp [World.setCell]; omega)))))))
  have HG := Lib.hid (show Blk w4 (w3.heap.size + 1) 46 _ from by (with_reducible apply Blk.below (hb := hb4); (repeat (first | (with_reducible apply Blk.new'; first | with_reducible rfl | (focus (simp; done)) | (focus (simp; omega))) | with_reducible apply Blk.set_ | with_reducible apply Blk.far | with_reducible apply Blk.alloc | with_reducible apply Blk.drew | with_reducible apply Blk.drewN | (first | omega | (focus (simp; done)) | (focus (simp; omega)) | (focus (simp [World.setCell]; omega)))))))
  replace HP := Lib.hid (show Blk w4 (w.heap.size) 41 _ from by (with_reducible apply Blk.below (hb := hb4); (repeat (first | with_reducible exact HP.out | (with_reducible apply Blk.new'; first | with_reducible rfl | (focus (simp; done)) | (focus (simp; omega))) | with_reducible apply Blk.set_ | with_reducible apply Blk.far | with_reducible apply Blk.alloc | with_reducible apply Blk.drew | with_reducible apply Blk.drewN | (first | omega | (focus (simp; done)) | (focus (simp; omega)) | (focus (simp [World.setCell]; omega)))))))
  replace HW := Lib.hid (show Blk w4 (w2.heap.size) 41 _ from by (with_reducible apply Blk.below (hb := hb4); (repeat (first | with_reducible exact HW.out | (with_reducible apply Blk.new'; first | with_reducible rfl | (focus (simp; done)) | (focus (simp; omega))) | with_reducible apply Blk.set_ | with_reducible apply Blk.far | with_reducible apply Blk.alloc | with_reducible apply Blk.drew | with_reducible apply Blk.drewN | (first | omega | (focus (simp; done)) | (focus (simp; omega)) | (focus (simp [World.setCell]; omega)))))))
  replace HN := Lib.hid (show Blk w4 (w2.heap.size + 1) 46 _ from by (with_reducible apply Blk.below (hb := hb4); (repeat (first | with_reducible exact HN.out | (with_reducible apply Blk.new'; first | with_reducible rfl | (focus (simp; done)) | (focus (simp; omega))) | with_reducible apply Blk.set_ | with_reducible apply Blk.far | with_reducible apply Blk.alloc | with_reducible apply Blk.drew | with_reducible apply Blk.drewN | (first | omega | (focus (simp; done)) | (focus (simp; omega)) | (focus (simp [World.setCell]; omega)))))))
  have q_X_w4 : w3.heap.size < w4.heap.size := HX.out.lt
  have q_G_w4 : w3.heap.size + 1 < w4.heap.size := HG.out.lt
  replace BEL : Hid (Below w.heap.size w w4) := Lib.hid (Below.trans (by repeat (first | with_reducible exact BEL.out | with_reducible apply Below.alloc | with_reducible apply Below.setCell | with_reducible apply Below.drew | with_reducible apply below_drewN | (first | omega | (focus (simp; done)) | (focus (simp; omega)) | (focus (simp [World.setCell]; omega))))) (hb4.mono (by (first | omega | (focus (simp; done)) | (focus (simp; omega)) | (focus (simp [World.setCell]; omega))))))
  have y_w4 : w.heap.size ≤ w4.heap.size := BEL.out.size
  clear hb4
  clear pP0 pP1 pP2 fP0 fP1 fP2 zP zP_1 zP_2 zP_3 pW0 pW1 pW2 fW0 fW1 fW2 zW zW_1 zW_2 zW_3 pN0 pN1 pN2 fN0 fN1 fN2 zN zN_1 zN_2 zN_3
  obtain ⟨pP0, pP1, pP2, fP0, fP1, fP2, zP⟩ := HP.out.three
  have zP_1 : w.heap.size < w4.heap.size + 1 := by omega
  have zP_2 : w.heap.size < w4.heap.size + 1 + 1 := by omega
  have zP_3 : w.heap.size < w4.heap.size + 1 + 1 + 1 := by omega
  obtain ⟨pW0, pW1, pW2, fW0, fW1, fW2, zW⟩ := HW.out.three
  have zW_1 : w2.heap.size < w4.heap.size + 1 := by omega
  have zW_2 : w2.heap.size < w4.heap.size + 1 + 1 := by omega
  have zW_3 : w2.heap.size < w4.heap.size + 1 + 1 + 1 := by omega
  obtain ⟨pN0, pN1, pN2, fN0, fN1, fN2, zN⟩ := HN.out.three
  have zN_1 : w2.heap.size + 1 < w4.heap.size + 1 := by omega
  have zN_2 : w2.heap.size + 1 < w4.heap.size + 1 + 1 := by omega
  have zN_3 : w2.heap.size + 1 < w4.heap.size + 1 + 1 + 1 := by omega
  obtain ⟨pX0, pX1, pX2, fX0, fX1, fX2, zX⟩ := HX.out.three
  have zX_1 : w3.heap.size < w4.heap.size + 1 := by omega
  have zX_2 : w3.heap.size < w4.heap.size + 1 + 1 := by omega
  have zX_3 : w3.heap.size < w4.heap.size + 1 + 1 + 1 := by omega
  obtain ⟨pG0, pG1, pG2, fG0, fG1, fG2, zG⟩ := HG.out.three
  have zG_1 : w3.heap.size + 1 < w4.heap.size + 1 := by omega
  have zG_2 : w3.heap.size + 1 < w4.heap.size + 1 + 1 := by omega
  have zG_3 : w3.heap.size + 1 < w4.heap.size + 1 + 1 + 1 := by omega
  go_wp2_with fail
  refine (refTicks_is A cp l w.heap.size _ (HI.out.below (by repeat (first | with_reducible exact BEL.out | with_reducible apply Below.alloc | with_reducible apply Below.setCell | with_reducible apply Below.drew | with_reducible apply below_drewN | (first | omega | (focus (simp; done)) | (focus (simp; omega)) | (focus (simp [World.setCell]; omega))))) (Nat.le_refl _)) 0 HT.out).mono ?_; rintro e w' ⟨rfl, rfl⟩
  go_wp2_with fail
  go_loopw [18] (fun i wr => ∃ (j : Nat) (a b d : Int), j ≤ l.length ∧ i = .int .i64 j ∧ Hid (PP.run r c k (l.take j) = (a, b, d)) ∧ 0 ≤ a ∧ a ≤ 20000 * j ∧ 0 ≤ b ∧ b ≤ 20000 * j ∧ 0 ≤ d ∧ d ≤ r ∧ Hid (Blk wr (w.heap.size) 41 #[.int .i64 r, .int .i64 c, .int .i64 k]) ∧ Hid (Blk wr (w3.heap.size + 1) 46 #[.int .i64 0, .int .i64 0, .int .i64 0]) ∧ Hid (Blk wr (w4.heap.size) 46 #[.int .i64 a, .int .i64 b, .int .i64 d]) ∧ Hid (Blk wr (w4.heap.size + 1) 41 #[.int .i64 r, .int .i64 c, .int .i64 d]) ∧ Hid (Below w.heap.size w wr) ∧ w4.heap.size + 1 < wr.heap.size)
    (fun i _ => l.length - (intOf i).toNat)
  case atStart => exact ⟨0, 0, 0, k, Nat.zero_le _, rfl, rfl, by omega, by omega, by omega, by omega, k0, k1, Lib.hid (Blk.val (by (repeat (first | with_reducible exact HP.out | (with_reducible apply Blk.new'; first | with_reducible rfl | (focus (simp; done)) | (focus (simp; omega))) | with_reducible apply Blk.set_ | with_reducible apply Blk.far | with_reducible apply Blk.alloc | with_reducible apply Blk.drew | with_reducible apply Blk.drewN | (first | omega | (focus (simp; done)) | (focus (simp; omega)) | (focus (simp [World.setCell]; omega)))))) (by first | rfl | simp)), Lib.hid (Blk.val (by (repeat (first | with_reducible exact HG.out | (with_reducible apply Blk.new'; first | with_reducible rfl | (focus (simp; done)) | (focus (simp; omega))) | with_reducible apply Blk.set_ | with_reducible apply Blk.far | with_reducible apply Blk.alloc | with_reducible apply Blk.drew | with_reducible apply Blk.drewN | (first | omega | (focus (simp; done)) | (focus (simp; omega)) | (focus (simp [World.setCell]; omega)))))) (by first | rfl | simp)), Lib.hid (Blk.val (by (repeat (first | (with_reducible apply Blk.new'; first | with_reducible rfl | (focus (simp; done)) | (focus (simp; omega))) | with_reducible apply Blk.set_ | with_reducible apply Blk.far | with_reducible apply Blk.alloc | with_reducible apply Blk.drew | with_reducible apply Blk.drewN | (first | omega | (focus (simp; done)) | (focus (simp; omega)) | (focus (simp [World.setCell]; omega)))))) (by first | rfl | simp)), Lib.hid (Blk.val (by (repeat (first | (with_reducible apply Blk.new'; first | with_reducible rfl | (focus (simp; done)) | (focus (simp; omega))) | with_reducible apply Blk.set_ | with_reducible apply Blk.far | with_reducible apply Blk.alloc | with_reducible apply Blk.drew | with_reducible apply Blk.drewN | (first | omega | (focus (simp; done)) | (focus (simp; omega)) | (focus (simp [World.setCell]; omega)))))) (by first | rfl | simp)), Lib.hid (by repeat (first | with_reducible exact BEL.out | with_reducible apply Below.alloc | with_reducible apply Below.setCell | with_reducible apply Below.drew | with_reducible apply below_drewN | (first | omega | (focus (simp; done)) | (focus (simp; omega)) | (focus (simp [World.setCell]; omega))))), by simp⟩
  clear pP0 pP1 pP2 fP0 fP1 fP2 zP zP_1 zP_2 zP_3 pW0 pW1 pW2 fW0 fW1 fW2 zW zW_1 zW_2 zW_3 pN0 pN1 pN2 fN0 fN1 fN2 zN zN_1 zN_2 zN_3 pX0 pX1 pX2 fX0 fX1 fX2 zX zX_1 zX_2 zX_3 pG0 pG1 pG2 fG0 fG1 fG2 zG zG_1 zG_2 zG_3
  case round =>
    obtain ⟨j, a, b, d, hj, rfl, HR, a0, a1, b0, b1, d0, d1, HP, HG, HL, HY, BEL, zz⟩ := hrel
    have y_wr : w.heap.size ≤ wr.heap.size := BEL.out.size
    have q_P_wr : w.heap.size < wr.heap.size := HP.out.lt
    have q_G_wr : w3.heap.size + 1 < wr.heap.size := HG.out.lt
    have q_L_wr : w4.heap.size < wr.heap.size := HL.out.lt
    have q_Y_wr : w4.heap.size + 1 < wr.heap.size := HY.out.lt
    obtain ⟨pP0, pP1, pP2, fP0, fP1, fP2, zP⟩ := HP.out.three
    have zP_1 : w.heap.size < wr.heap.size + 1 := by omega
    have zP_2 : w.heap.size < wr.heap.size + 1 + 1 := by omega
    have zP_3 : w.heap.size < wr.heap.size + 1 + 1 + 1 := by omega
    obtain ⟨pG0, pG1, pG2, fG0, fG1, fG2, zG⟩ := HG.out.three
    have zG_1 : w3.heap.size + 1 < wr.heap.size + 1 := by omega
    have zG_2 : w3.heap.size + 1 < wr.heap.size + 1 + 1 := by omega
    have zG_3 : w3.heap.size + 1 < wr.heap.size + 1 + 1 + 1 := by omega
    obtain ⟨pL0, pL1, pL2, fL0, fL1, fL2, zL⟩ := HL.out.three
    have zL_1 : w4.heap.size < wr.heap.size + 1 := by omega
    have zL_2 : w4.heap.size < wr.heap.size + 1 + 1 := by omega
    have zL_3 : w4.heap.size < wr.heap.size + 1 + 1 + 1 := by omega
    obtain ⟨pY0, pY1, pY2, fY0, fY1, fY2, zY⟩ := HY.out.three
    have zY_1 : w4.heap.size + 1 < wr.heap.size + 1 := by omega
    have zY_2 : w4.heap.size + 1 < wr.heap.size + 1 + 1 := by omega
    have zY_3 : w4.heap.size + 1 < wr.heap.size + 1 + 1 + 1 := by omega
    by_cases hlt : j < l.length
    · obtain ⟨bb, off, x, rfl, hbb, hc, hx, HT2, HX2⟩ := (HI.out.below BEL.out (Nat.le_refl _)).elem hlt
      have hbb1 : bb < wr.heap.size := by omega
      have hbb2 : bb < wr.heap.size + 1 := by omega
      obtain ⟨x0, x1⟩ := ticks_in HB.out x hx
      obtain ⟨s1, s2, s3, s4, s5, s6⟩ := step_bd r c d x r0 (by omega) d0 x0 (by omega) x1
      have hokd : PoolOk r c d := ⟨H.out.1, H.out.2.1, H.out.2.2.1, H.out.2.2.2.1, d0, d1⟩
      have HD := Lib.hid hokd; clear hokd
      have HS := Lib.hid (PP.run_snoc r c (l.take j) k x)
      clear HX2 hx
      obtain ⟨ua, hua⟩ : ∃ v, PP.went c d x = v := ⟨_, rfl⟩
      obtain ⟨ub, hub⟩ : ∃ v, PP.lost r c d x = v := ⟨_, rfl⟩
      obtain ⟨ud, hud⟩ : ∃ v, PP.left r c d x = v := ⟨_, rfl⟩
      rw [hua] at s1 s2
      rw [hub] at s3 s4
      rw [hud] at s5 s6
      have UA := Lib.hid hua
      have UB := Lib.hid hub
      have UD := Lib.hid hud
      clear hua hub hud
      go_wp2_with fail
      go_region_with (
        (go_at_call 28
         refine (refFlow_is r c d x ua ub ud _ HD.out x0 x1 UA.out UB.out UD.out).mono ?_; rintro e w9 ⟨rfl, hb9⟩
         have z_w9 : wr.heap.size ≤ w9.heap.size := Nat.le_trans (by first | with_reducible exact Nat.le_refl _ | (simp; done) | (simp; omega) | (simp [World.setCell]; done)) hb9.size
         have HZ := Lib.hid (show Blk w9 (wr.heap.size) 46 _ from by (with_reducible apply Blk.below (hb := hb9); (repeat (first | (with_reducible apply Blk.new'; first | with_reducible rfl | (focus (simp; done)) | (focus (simp; omega))) | with_reducible apply Blk.set_ | with_reducible apply Blk.far | with_reducible apply Blk.alloc | with_reducible apply Blk.drew | with_reducible apply Blk.drewN | (first | omega | (focus (simp; done)) | (focus (simp; omega)) | (focus (simp [World.setCell]; omega)))))))
         replace HP := Lib.hid (show Blk w9 (w.heap.size) 41 _ from by (with_reducible apply Blk.below (hb := hb9); (repeat (first | with_reducible exact HP.out | (with_reducible apply Blk.new'; first | with_reducible rfl | (focus (simp; done)) | (focus (simp; omega))) | with_reducible apply Blk.set_ | with_reducible apply Blk.far | with_reducible apply Blk.alloc | with_reducible apply Blk.drew | with_reducible apply Blk.drewN | (first | omega | (focus (simp; done)) | (focus (simp; omega)) | (focus (simp [World.setCell]; omega)))))))
         replace HG := Lib.hid (show Blk w9 (w3.heap.size + 1) 46 _ from by (with_reducible apply Blk.below (hb := hb9); (repeat (first | with_reducible exact HG.out | (with_reducible apply Blk.new'; first | with_reducible rfl | (focus (simp; done)) | (focus (simp; omega))) | with_reducible apply Blk.set_ | with_reducible apply Blk.far | with_reducible apply Blk.alloc | with_reducible apply Blk.drew | with_reducible apply Blk.drewN | (first | omega | (focus (simp; done)) | (focus (simp; omega)) | (focus (simp [World.setCell]; omega)))))))
         replace HL := Lib.hid (show Blk w9 (w4.heap.size) 46 _ from by (with_reducible apply Blk.below (hb := hb9); (repeat (first | with_reducible exact HL.out | (with_reducible apply Blk.new'; first | with_reducible rfl | (focus (simp; done)) | (focus (simp; omega))) | with_reducible apply Blk.set_ | with_reducible apply Blk.far | with_reducible apply Blk.alloc | with_reducible apply Blk.drew | with_reducible apply Blk.drewN | (first | omega | (focus (simp; done)) | (focus (simp; omega)) | (focus (simp [World.setCell]; omega)))))))
         replace HY := Lib.hid (show Blk w9 (w4.heap.size + 1) 41 _ from by (with_reducible apply Blk.below (hb := hb9); (repeat (first | with_reducible exact HY.out | (with_reducible apply Blk.new'; first | with_reducible rfl | (focus (simp; done)) | (focus (simp; omega))) | with_reducible apply Blk.set_ | with_reducible apply Blk.far | with_reducible apply Blk.alloc | with_reducible apply Blk.drew | with_reducible apply Blk.drewN | (first | omega | (focus (simp; done)) | (focus (simp; omega)) | (focus (simp [World.setCell]; omega)))))))
         have q_Z_w9 : wr.heap.size < w9.heap.size := HZ.out.lt
         replace BEL : Hid (Below w.heap.size w w9) := Lib.hid (Below.trans (by repeat (first | with_reducible exact BEL.out | with_reducible apply Below.alloc | with_reducible apply Below.setCell | with_reducible apply Below.drew | with_reducible apply below_drewN | (first | omega | (focus (simp; done)) | (focus (simp; omega)) | (focus (simp [World.setCell]; omega))))) (hb9.mono (by (first | omega | (focus (simp; done)) | (focus (simp; omega)) | (focus (simp [World.setCell]; omega))))))
         have y_w9 : w.heap.size ≤ w9.heap.size := BEL.out.size
         clear hb9
         clear pP0 pP1 pP2 fP0 fP1 fP2 zP zP_1 zP_2 zP_3 pG0 pG1 pG2 fG0 fG1 fG2 zG zG_1 zG_2 zG_3 pL0 pL1 pL2 fL0 fL1 fL2 zL zL_1 zL_2 zL_3 pY0 pY1 pY2 fY0 fY1 fY2 zY zY_1 zY_2 zY_3
         obtain ⟨pP0, pP1, pP2, fP0, fP1, fP2, zP⟩ := HP.out.three
         have zP_1 : w.heap.size < w9.heap.size + 1 := by omega
         have zP_2 : w.heap.size < w9.heap.size + 1 + 1 := by omega
         have zP_3 : w.heap.size < w9.heap.size + 1 + 1 + 1 := by omega
         obtain ⟨pG0, pG1, pG2, fG0, fG1, fG2, zG⟩ := HG.out.three
         have zG_1 : w3.heap.size + 1 < w9.heap.size + 1 := by omega
         have zG_2 : w3.heap.size + 1 < w9.heap.size + 1 + 1 := by omega
         have zG_3 : w3.heap.size + 1 < w9.heap.size + 1 + 1 + 1 := by omega
         obtain ⟨pL0, pL1, pL2, fL0, fL1, fL2, zL⟩ := HL.out.three
         have zL_1 : w4.heap.size < w9.heap.size + 1 := by omega
         have zL_2 : w4.heap.size < w9.heap.size + 1 + 1 := by omega
         have zL_3 : w4.heap.size < w9.heap.size + 1 + 1 + 1 := by omega
         obtain ⟨pY0, pY1, pY2, fY0, fY1, fY2, zY⟩ := HY.out.three
         have zY_1 : w4.heap.size + 1 < w9.heap.size + 1 := by omega
         have zY_2 : w4.heap.size + 1 < w9.heap.size + 1 + 1 := by omega
         have zY_3 : w4.heap.size + 1 < w9.heap.size + 1 + 1 + 1 := by omega
         obtain ⟨pZ0, pZ1, pZ2, fZ0, fZ1, fZ2, zZ⟩ := HZ.out.three
         have zZ_1 : wr.heap.size < w9.heap.size + 1 := by omega
         have zZ_2 : wr.heap.size < w9.heap.size + 1 + 1 := by omega
         have zZ_3 : wr.heap.size < w9.heap.size + 1 + 1 + 1 := by omega))
      all_goals
        go_wp2
        go_roundw
        case rel =>
          refine ⟨j + 1, a + ua, b + ub, ud, by omega, by go_num, ?_, by omega, by omega, by omega, by omega, by omega, by omega, Lib.hid (Blk.val (by (repeat (first | with_reducible exact HP.out | (with_reducible apply Blk.new'; first | with_reducible rfl | (focus (simp; done)) | (focus (simp; omega))) | with_reducible apply Blk.set_ | with_reducible apply Blk.far | with_reducible apply Blk.alloc | with_reducible apply Blk.drew | with_reducible apply Blk.drewN | (first | omega | (focus (simp; done)) | (focus (simp; omega)) | (focus (simp [World.setCell]; omega)))))) (by first | rfl | simp)), Lib.hid (Blk.val (by (repeat (first | with_reducible exact HG.out | (with_reducible apply Blk.new'; first | with_reducible rfl | (focus (simp; done)) | (focus (simp; omega))) | with_reducible apply Blk.set_ | with_reducible apply Blk.far | with_reducible apply Blk.alloc | with_reducible apply Blk.drew | with_reducible apply Blk.drewN | (first | omega | (focus (simp; done)) | (focus (simp; omega)) | (focus (simp [World.setCell]; omega)))))) (by first | rfl | simp)), Lib.hid (Blk.val (by (repeat (first | with_reducible exact HL.out | (with_reducible apply Blk.new'; first | with_reducible rfl | (focus (simp; done)) | (focus (simp; omega))) | with_reducible apply Blk.set_ | with_reducible apply Blk.far | with_reducible apply Blk.alloc | with_reducible apply Blk.drew | with_reducible apply Blk.drewN | (first | omega | (focus (simp; done)) | (focus (simp; omega)) | (focus (simp [World.setCell]; omega)))))) (by first | rfl | simp)), Lib.hid (Blk.val (by (repeat (first | with_reducible exact HY.out | (with_reducible apply Blk.new'; first | with_reducible rfl | (focus (simp; done)) | (focus (simp; omega))) | with_reducible apply Blk.set_ | with_reducible apply Blk.far | with_reducible apply Blk.alloc | with_reducible apply Blk.drew | with_reducible apply Blk.drewN | (first | omega | (focus (simp; done)) | (focus (simp; omega)) | (focus (simp [World.setCell]; omega)))))) (by first | rfl | simp)), Lib.hid (by repeat (first | with_reducible exact BEL.out | with_reducible apply Below.alloc | with_reducible apply Below.setCell | with_reducible apply Below.drew | with_reducible apply below_drewN | (first | omega | (focus (simp; done)) | (focus (simp; omega)) | (focus (simp [World.setCell]; omega))))), ?_⟩
          · show PP.run r c k (l.take (j + 1)) = _
            rw [HT2.out, HS.out, HR.out, ← UA.out, ← UB.out, ← UD.out]
          · simp [World.setCell]; omega
        case measure => simp [intOf]; omega
    · obtain rfl : j = l.length := by omega
      have HE : Hid (PP.run r c k l = (a, b, d)) := Lib.hid (by have := HR.out; rwa [List.take_length] at this)
      go_wp2_with fail
      refine (prun_yes r c k A cp l _ H.out ((HI.out.below (by repeat (first | with_reducible exact BEL.out | with_reducible apply Below.alloc | with_reducible apply Below.setCell | with_reducible apply Below.drew | with_reducible apply below_drewN | (first | omega | (focus (simp; done)) | (focus (simp; omega)) | (focus (simp [World.setCell]; omega))))) (Nat.le_refl _)).more (by (first | omega | (focus (simp; done)) | (focus (simp; omega)) | (focus (simp [World.setCell]; omega))))) hl HB.out).mono ?_; rintro e w5 ⟨rfl, hb5⟩
      have z_w5 : wr.heap.size ≤ w5.heap.size := Nat.le_trans (by first | with_reducible exact Nat.le_refl _ | (simp; done) | (simp; omega) | (simp [World.setCell]; done)) hb5.size
      replace HP := Lib.hid (show Blk w5 (w.heap.size) 41 _ from by (with_reducible apply Blk.below (hb := hb5); (repeat (first | with_reducible exact HP.out | (with_reducible apply Blk.new'; first | with_reducible rfl | (focus (simp; done)) | (focus (simp; omega))) | with_reducible apply Blk.set_ | with_reducible apply Blk.far | with_reducible apply Blk.alloc | with_reducible apply Blk.drew | with_reducible apply Blk.drewN | (first | omega | (focus (simp; done)) | (focus (simp; omega)) | (focus (simp [World.setCell]; omega)))))))
      replace HG := Lib.hid (show Blk w5 (w3.heap.size + 1) 46 _ from by (with_reducible apply Blk.below (hb := hb5); (repeat (first | with_reducible exact HG.out | (with_reducible apply Blk.new'; first | with_reducible rfl | (focus (simp; done)) | (focus (simp; omega))) | with_reducible apply Blk.set_ | with_reducible apply Blk.far | with_reducible apply Blk.alloc | with_reducible apply Blk.drew | with_reducible apply Blk.drewN | (first | omega | (focus (simp; done)) | (focus (simp; omega)) | (focus (simp [World.setCell]; omega)))))))
      replace HL := Lib.hid (show Blk w5 (w4.heap.size) 46 _ from by (with_reducible apply Blk.below (hb := hb5); (repeat (first | with_reducible exact HL.out | (with_reducible apply Blk.new'; first | with_reducible rfl | (focus (simp; done)) | (focus (simp; omega))) | with_reducible apply Blk.set_ | with_reducible apply Blk.far | with_reducible apply Blk.alloc | with_reducible apply Blk.drew | with_reducible apply Blk.drewN | (first | omega | (focus (simp; done)) | (focus (simp; omega)) | (focus (simp [World.setCell]; omega)))))))
      replace HY := Lib.hid (show Blk w5 (w4.heap.size + 1) 41 _ from by (with_reducible apply Blk.below (hb := hb5); (repeat (first | with_reducible exact HY.out | (with_reducible apply Blk.new'; first | with_reducible rfl | (focus (simp; done)) | (focus (simp; omega))) | with_reducible apply Blk.set_ | with_reducible apply Blk.far | with_reducible apply Blk.alloc | with_reducible apply Blk.drew | with_reducible apply Blk.drewN | (first | omega | (focus (simp; done)) | (focus (simp; omega)) | (focus (simp [World.setCell]; omega)))))))
      replace BEL : Hid (Below w.heap.size w w5) := Lib.hid (Below.trans (by repeat (first | with_reducible exact BEL.out | with_reducible apply Below.alloc | with_reducible apply Below.setCell | with_reducible apply Below.drew | with_reducible apply below_drewN | (first | omega | (focus (simp; done)) | (focus (simp; omega)) | (focus (simp [World.setCell]; omega))))) (hb5.mono (by (first | omega | (focus (simp; done)) | (focus (simp; omega)) | (focus (simp [World.setCell]; omega))))))
      have y_w5 : w.heap.size ≤ w5.heap.size := BEL.out.size
      clear hb5
      clear pP0 pP1 pP2 fP0 fP1 fP2 zP zP_1 zP_2 zP_3 pG0 pG1 pG2 fG0 fG1 fG2 zG zG_1 zG_2 zG_3 pL0 pL1 pL2 fL0 fL1 fL2 zL zL_1 zL_2 zL_3 pY0 pY1 pY2 fY0 fY1 fY2 zY zY_1 zY_2 zY_3
      rw [HE.out]
      obtain ⟨pP0, pP1, pP2, fP0, fP1, fP2, zP⟩ := HP.out.three
      have zP_1 : w.heap.size < w5.heap.size + 1 := by omega
      have zP_2 : w.heap.size < w5.heap.size + 1 + 1 := by omega
      have zP_3 : w.heap.size < w5.heap.size + 1 + 1 + 1 := by omega
      obtain ⟨pG0, pG1, pG2, fG0, fG1, fG2, zG⟩ := HG.out.three
      have zG_1 : w3.heap.size + 1 < w5.heap.size + 1 := by omega
      have zG_2 : w3.heap.size + 1 < w5.heap.size + 1 + 1 := by omega
      have zG_3 : w3.heap.size + 1 < w5.heap.size + 1 + 1 + 1 := by omega
      obtain ⟨pL0, pL1, pL2, fL0, fL1, fL2, zL⟩ := HL.out.three
      have zL_1 : w4.heap.size < w5.heap.size + 1 := by omega
      have zL_2 : w4.heap.size < w5.heap.size + 1 + 1 := by omega
      have zL_3 : w4.heap.size < w5.heap.size + 1 + 1 + 1 := by omega
      obtain ⟨pY0, pY1, pY2, fY0, fY1, fY2, zY⟩ := HY.out.three
      have zY_1 : w4.heap.size + 1 < w5.heap.size + 1 := by omega
      have zY_2 : w4.heap.size + 1 < w5.heap.size + 1 + 1 := by omega
      have zY_3 : w4.heap.size + 1 < w5.heap.size + 1 + 1 + 1 := by omega
      go_wp2_with fail
      refine (same_ok _).mono ?_; rintro e w6 ⟨rfl, hb6⟩
      have z_w6 : w5.heap.size ≤ w6.heap.size := Nat.le_trans (by first | with_reducible exact Nat.le_refl _ | (simp; done) | (simp; omega) | (simp [World.setCell]; done)) hb6.size
      replace HP := Lib.hid (show Blk w6 (w.heap.size) 41 _ from by (with_reducible apply Blk.below (hb := hb6); (repeat (first | with_reducible exact HP.out | (with_reducible apply Blk.new'; first | with_reducible rfl | (focus (simp; done)) | (focus (simp; omega))) | with_reducible apply Blk.set_ | with_reducible apply Blk.far | with_reducible apply Blk.alloc | with_reducible apply Blk.drew | with_reducible apply Blk.drewN | (first | omega | (focus (simp; done)) | (focus (simp; omega)) | (focus (simp [World.setCell]; omega)))))))
      replace HG := Lib.hid (show Blk w6 (w3.heap.size + 1) 46 _ from by (with_reducible apply Blk.below (hb := hb6); (repeat (first | with_reducible exact HG.out | (with_reducible apply Blk.new'; first | with_reducible rfl | (focus (simp; done)) | (focus (simp; omega))) | with_reducible apply Blk.set_ | with_reducible apply Blk.far | with_reducible apply Blk.alloc | with_reducible apply Blk.drew | with_reducible apply Blk.drewN | (first | omega | (focus (simp; done)) | (focus (simp; omega)) | (focus (simp [World.setCell]; omega)))))))
      replace HL := Lib.hid (show Blk w6 (w4.heap.size) 46 _ from by (with_reducible apply Blk.below (hb := hb6); (repeat (first | with_reducible exact HL.out | (with_reducible apply Blk.new'; first | with_reducible rfl | (focus (simp; done)) | (focus (simp; omega))) | with_reducible apply Blk.set_ | with_reducible apply Blk.far | with_reducible apply Blk.alloc | with_reducible apply Blk.drew | with_reducible apply Blk.drewN | (first | omega | (focus (simp; done)) | (focus (simp; omega)) | (focus (simp [World.setCell]; omega)))))))
      replace HY := Lib.hid (show Blk w6 (w4.heap.size + 1) 41 _ from by (with_reducible apply Blk.below (hb := hb6); (repeat (first | with_reducible exact HY.out | (with_reducible apply Blk.new'; first | with_reducible rfl | (focus (simp; done)) | (focus (simp; omega))) | with_reducible apply Blk.set_ | with_reducible apply Blk.far | with_reducible apply Blk.alloc | with_reducible apply Blk.drew | with_reducible apply Blk.drewN | (first | omega | (focus (simp; done)) | (focus (simp; omega)) | (focus (simp [World.setCell]; omega)))))))
      replace BEL : Hid (Below w.heap.size w w6) := Lib.hid (Below.trans (by repeat (first | with_reducible exact BEL.out | with_reducible apply Below.alloc | with_reducible apply Below.setCell | with_reducible apply Below.drew | with_reducible apply below_drewN | (first | omega | (focus (simp; done)) | (focus (simp; omega)) | (focus (simp [World.setCell]; omega))))) (hb6.mono (by (first | omega | (focus (simp; done)) | (focus (simp; omega)) | (focus (simp [World.setCell]; omega))))))
      have y_w6 : w.heap.size ≤ w6.heap.size := BEL.out.size
      clear hb6
      clear pP0 pP1 pP2 fP0 fP1 fP2 zP zP_1 zP_2 zP_3 pG0 pG1 pG2 fG0 fG1 fG2 zG zG_1 zG_2 zG_3 pL0 pL1 pL2 fL0 fL1 fL2 zL zL_1 zL_2 zL_3 pY0 pY1 pY2 fY0 fY1 fY2 zY zY_1 zY_2 zY_3
      obtain ⟨pP0, pP1, pP2, fP0, fP1, fP2, zP⟩ := HP.out.three
      have zP_1 : w.heap.size < w6.heap.size + 1 := by omega
      have zP_2 : w.heap.size < w6.heap.size + 1 + 1 := by omega
      have zP_3 : w.heap.size < w6.heap.size + 1 + 1 + 1 := by omega
      obtain ⟨pG0, pG1, pG2, fG0, fG1, fG2, zG⟩ := HG.out.three
      have zG_1 : w3.heap.size + 1 < w6.heap.size + 1 := by omega
      have zG_2 : w3.heap.size + 1 < w6.heap.size + 1 + 1 := by omega
      have zG_3 : w3.heap.size + 1 < w6.heap.size + 1 + 1 + 1 := by omega
      obtain ⟨pL0, pL1, pL2, fL0, fL1, fL2, zL⟩ := HL.out.three
      have zL_1 : w4.heap.size < w6.heap.size + 1 := by omega
      have zL_2 : w4.heap.size < w6.heap.size + 1 + 1 := by omega
      have zL_3 : w4.heap.size < w6.heap.size + 1 + 1 + 1 := by omega
      obtain ⟨pY0, pY1, pY2, fY0, fY1, fY2, zY⟩ := HY.out.three
      have zY_1 : w4.heap.size + 1 < w6.heap.size + 1 := by omega
      have zY_2 : w4.heap.size + 1 < w6.heap.size + 1 + 1 := by omega
      have zY_3 : w4.heap.size + 1 < w6.heap.size + 1 + 1 + 1 := by omega
      go_wp2
      go_ret
      exact ⟨rfl, (by repeat (first | with_reducible exact BEL.out | with_reducible apply Below.alloc | with_reducible apply Below.setCell | with_reducible apply Below.drew | with_reducible apply below_drewN | (first | omega | (focus (simp; done)) | (focus (simp; omega)) | (focus (simp [World.setCell]; omega)))))⟩
set_option maxHeartbeats 8000000 in
set_option maxRecDepth 100000 in
theorem poolTells_hi_full (r c k n : Int) (A : Option Addr) (cp : Nat) (l : List Int) (w : World) (hi : Ints w w.heap.size A cp l) (hg : Laid w) (ok : PoolOk r c k) (hn0 : 0 ≤ n) (hn : 10000 < n) (hl : 60 < l.length) :
    Calls Tryd.prog 5 #[.agg #[.int .i64 r, .int .i64 c, .int .i64 k], .int .i64 n, .slice A l.length cp] w fun e w' => e = .returned (.bool true) ∧ Below w.heap.size w w' := by
  have LAID := Lib.hid hg; clear hg
  have HI := Lib.hid hi; clear hi
  have H := Lib.hid ok
  clear ok
  have HNN : Hid (n < 0 ∨ 10000 < n) := Lib.hid (by omega)
  have hm := Nat.le_trans HI.out.le HI.out.cap
  have HT : Hid (ticksErr l = 4) := Lib.hid (by unfold ticksErr; rw [if_pos hl])
  have BEL : Hid (Below w.heap.size w w) := Lib.hid (Below.refl _ _)
  have yB : w.heap.size ≤ w.heap.size := Nat.le_refl _
  go_enter Tryd.func5, Tryd.ntmps5
  go_wp2_with fail
  refine (refPool_yes r c k _ H.out).mono ?_; rintro e w1 ⟨rfl, hb1⟩
  have z_w1 : w.heap.size ≤ w1.heap.size := Nat.le_trans (by first | with_reducible exact Nat.le_refl _ | (simp; done) | (simp; omega) | (simp [World.setCell]; done)) hb1.size
  have HP := Lib.hid (show Blk w1 (w.heap.size) 41 _ from by (with_reducible apply Blk.below (hb := hb1); (repeat (first | (with_reducible apply Blk.new'; first | with_reducible rfl | (focus (simp; done)) | (focus (simp; omega))) | with_reducible apply Blk.set_ | with_reducible apply Blk.far | with_reducible apply Blk.alloc | with_reducible apply Blk.drew | with_reducible apply Blk.drewN | (first | omega | (focus (simp; done)) | (focus (simp; omega)) | (focus (simp [World.setCell]; omega)))))))
  have q_P_w1 : w.heap.size < w1.heap.size := HP.out.lt
  replace BEL : Hid (Below w.heap.size w w1) := Lib.hid (Below.trans (by repeat (first | with_reducible exact BEL.out | with_reducible apply Below.alloc | with_reducible apply Below.setCell | with_reducible apply Below.drew | with_reducible apply below_drewN | (first | omega | (focus (simp; done)) | (focus (simp; omega)) | (focus (simp [World.setCell]; omega))))) (hb1.mono (by (first | omega | (focus (simp; done)) | (focus (simp; omega)) | (focus (simp [World.setCell]; omega))))))
  have y_w1 : w.heap.size ≤ w1.heap.size := BEL.out.size
  clear hb1
  obtain ⟨pP0, pP1, pP2, fP0, fP1, fP2, zP⟩ := HP.out.three
  have zP_1 : w.heap.size < w1.heap.size + 1 := by omega
  have zP_2 : w.heap.size < w1.heap.size + 1 + 1 := by omega
  have zP_3 : w.heap.size < w1.heap.size + 1 + 1 + 1 := by omega
  go_wp2_with fail
  refine (pcheck_yes r c k _ H.out).mono ?_; rintro e w' ⟨rfl, rfl⟩
  go_wp2_with fail
  refine (same_ok _).mono ?_; rintro e w2 ⟨rfl, hb2⟩
  have z_w2 : w1.heap.size ≤ w2.heap.size := Nat.le_trans (by first | with_reducible exact Nat.le_refl _ | (simp; done) | (simp; omega) | (simp [World.setCell]; done)) hb2.size
  replace HP := Lib.hid (show Blk w2 (w.heap.size) 41 _ from by (with_reducible apply Blk.below (hb := hb2); (repeat (first | with_reducible exact HP.out | (with_reducible apply Blk.new'; first | with_reducible rfl | (focus (simp; done)) | (focus (simp; omega))) | with_reducible apply Blk.set_ | with_reducible apply Blk.far | with_reducible apply Blk.alloc | with_reducible apply Blk.drew | with_reducible apply Blk.drewN | (first | omega | (focus (simp; done)) | (focus (simp; omega)) | (focus (simp [World.setCell]; omega)))))))
  replace BEL : Hid (Below w.heap.size w w2) := Lib.hid (Below.trans (by repeat (first | with_reducible exact BEL.out | with_reducible apply Below.alloc | with_reducible apply Below.setCell | with_reducible apply Below.drew | with_reducible apply below_drewN | (first | omega | (focus (simp; done)) | (focus (simp; omega)) | (focus (simp [World.setCell]; omega))))) (hb2.mono (by (first | omega | (focus (simp; done)) | (focus (simp; omega)) | (focus (simp [World.setCell]; omega))))))
  have y_w2 : w.heap.size ≤ w2.heap.size := BEL.out.size
  clear hb2
  clear pP0 pP1 pP2 fP0 fP1 fP2 zP zP_1 zP_2 zP_3
  obtain ⟨pP0, pP1, pP2, fP0, fP1, fP2, zP⟩ := HP.out.three
  have zP_1 : w.heap.size < w2.heap.size + 1 := by omega
  have zP_2 : w.heap.size < w2.heap.size + 1 + 1 := by omega
  have zP_3 : w.heap.size < w2.heap.size + 1 + 1 + 1 := by omega
  go_wp2_with fail
  refine (ptick_bad r c k n _ H.out HNN.out).mono ?_; rintro e w3 ⟨rfl, hb3⟩
  have z_w3 : w2.heap.size ≤ w3.heap.size := Nat.le_trans (by first | with_reducible exact Nat.le_refl _ | (simp; done) | (simp; omega) | (simp [World.setCell]; done)) hb3.size
  have HW := Lib.hid (show Blk w3 (w2.heap.size) 41 _ from by (with_reducible apply Blk.below (hb := hb3); (repeat (first | (with_reducible apply Blk.new'; first | with_reducible rfl | (focus (simp; done)) | (focus (simp; omega))) | with_reducible apply Blk.set_ | with_reducible apply Blk.far | with_reducible apply Blk.alloc | with_reducible apply Blk.drew | with_reducible apply Blk.drewN | (first | omega | (focus (simp; done)) | (focus (simp; omega)) | (focus (simp [World.setCell]; omega)))))))
  have HN := Lib.hid (show Blk w3 (w2.heap.size + 1) 46 _ from by (with_reducible apply Blk.below (hb := hb3); (repeat (first | (with_reducible apply Blk.new'; first | with_reducible rfl | (focus (simp; done)) | (focus (simp; omega))) | with_reducible apply Blk.set_ | with_reducible apply Blk.far | with_reducible apply Blk.alloc | with_reducible apply Blk.drew | with_reducible apply Blk.drewN | (first | omega | (focus (simp; done)) | (focus (simp; omega)) | (focus (simp [World.setCell]; omega)))))))
  replace HP := Lib.hid (show Blk w3 (w.heap.size) 41 _ from by (with_reducible apply Blk.below (hb := hb3); (repeat (first | with_reducible exact HP.out | (with_reducible apply Blk.new'; first | with_reducible rfl | (focus (simp; done)) | (focus (simp; omega))) | with_reducible apply Blk.set_ | with_reducible apply Blk.far | with_reducible apply Blk.alloc | with_reducible apply Blk.drew | with_reducible apply Blk.drewN | (first | omega | (focus (simp; done)) | (focus (simp; omega)) | (focus (simp [World.setCell]; omega)))))))
  have q_W_w3 : w2.heap.size < w3.heap.size := HW.out.lt
  have q_N_w3 : w2.heap.size + 1 < w3.heap.size := HN.out.lt
  replace BEL : Hid (Below w.heap.size w w3) := Lib.hid (Below.trans (by repeat (first | with_reducible exact BEL.out | with_reducible apply Below.alloc | with_reducible apply Below.setCell | with_reducible apply Below.drew | with_reducible apply below_drewN | (first | omega | (focus (simp; done)) | (focus (simp; omega)) | (focus (simp [World.setCell]; omega))))) (hb3.mono (by (first | omega | (focus (simp; done)) | (focus (simp; omega)) | (focus (simp [World.setCell]; omega))))))
  have y_w3 : w.heap.size ≤ w3.heap.size := BEL.out.size
  clear hb3
  clear pP0 pP1 pP2 fP0 fP1 fP2 zP zP_1 zP_2 zP_3
  obtain ⟨pP0, pP1, pP2, fP0, fP1, fP2, zP⟩ := HP.out.three
  have zP_1 : w.heap.size < w3.heap.size + 1 := by omega
  have zP_2 : w.heap.size < w3.heap.size + 1 + 1 := by omega
  have zP_3 : w.heap.size < w3.heap.size + 1 + 1 + 1 := by omega
  obtain ⟨pW0, pW1, pW2, fW0, fW1, fW2, zW⟩ := HW.out.three
  have zW_1 : w2.heap.size < w3.heap.size + 1 := by omega
  have zW_2 : w2.heap.size < w3.heap.size + 1 + 1 := by omega
  have zW_3 : w2.heap.size < w3.heap.size + 1 + 1 + 1 := by omega
  obtain ⟨pN0, pN1, pN2, fN0, fN1, fN2, zN⟩ := HN.out.three
  have zN_1 : w2.heap.size + 1 < w3.heap.size + 1 := by omega
  have zN_2 : w2.heap.size + 1 < w3.heap.size + 1 + 1 := by omega
  have zN_3 : w2.heap.size + 1 < w3.heap.size + 1 + 1 + 1 := by omega
  go_wp2_with fail
  refine (same_hit 1 _ (LAID.out.below (by repeat (first | with_reducible exact BEL.out | with_reducible apply Below.alloc | with_reducible apply Below.setCell | with_reducible apply Below.drew | with_reducible apply below_drewN | (first | omega | (focus (simp; done)) | (focus (simp; omega)) | (focus (simp [World.setCell]; omega))))))).mono ?_; rintro e w4 ⟨rfl, hb4⟩
  have z_w4 : w3.heap.size ≤ w4.heap.size := Nat.le_trans (by first | with_reducible exact Nat.le_refl _ | (simp; done) | (simp; omega) | (simp [World.setCell]; done)) hb4.size
  have HX := Lib.hid (show Blk w4 (w3.heap.size) 41 _ from by (with_reducible apply Blk.below (hb := hb4); (repeat (first | (with_reducible apply Blk.new'; first | with_reducible rfl | (focus (simp; done)) | (focus (simp; omega))) | with_reducible apply Blk.set_ | with_reducible apply Blk.far | with_reducible apply Blk.alloc | with_reducible apply Blk.drew | with_reducible apply Blk.drewN | (first | omega | (focus (simp; done)) | (focus (simp; omega)) | (focus (simp [World.setCell]; omega)))))))
  have HG := Lib.hid (show Blk w4 (w3.heap.size + 1) 46 _ from by (with_reducible apply Blk.below (hb := hb4); (repeat (first | (with_reducible apply Blk.new'; first | with_reducible rfl | (focus (simp; done)) | (focus (simp; omega))) | with_reducible apply Blk.set_ | with_reducible apply Blk.far | with_reducible apply Blk.alloc | with_reducible apply Blk.drew | with_reducible apply Blk.drewN | (first | omega | (focus (simp; done)) | (focus (simp; omega)) | (focus (simp [World.setCell]; omega)))))))
  replace HP := Lib.hid (show Blk w4 (w.heap.size) 41 _ from by (with_reducible apply Blk.below (hb := hb4); (repeat (first | with_reducible exact HP.out | (with_reducible apply Blk.new'; first | with_reducible rfl | (focus (simp; done)) | (focus (simp; omega))) | with_reducible apply Blk.set_ | with_reducible apply Blk.far | with_reducible apply Blk.alloc | with_reducible apply Blk.drew | with_reducible apply Blk.drewN | (first | omega | (focus (simp; done)) | (focus (simp; omega)) | (focus (simp [World.setCell]; omega)))))))
  replace HW := Lib.hid (show Blk w4 (w2.heap.size) 41 _ from by (with_reducible apply Blk.below (hb := hb4); (repeat (first | with_reducible exact HW.out | (with_reducible apply Blk.new'; first | with_reducible rfl | (focus (simp; done)) | (focus (simp; omega))) | with_reducible apply Blk.set_ | with_reducible apply Blk.far | with_reducible apply Blk.alloc | with_reducible apply Blk.drew | with_reducible apply Blk.drewN | (first | omega | (focus (simp; done)) | (focus (simp; omega)) | (focus (simp [World.setCell]; omega)))))))
  replace HN := Lib.hid (show Blk w4 (w2.heap.size + 1) 46 _ from by (with_reducible apply Blk.below (hb := hb4); (repeat (first | with_reducible exact HN.out | (with_reducible apply Blk.new'; first | with_reducible rfl | (focus (simp; done)) | (focus (simp; omega))) | with_reducible apply Blk.set_ | with_reducible apply Blk.far | with_reducible apply Blk.alloc | with_reducible apply Blk.drew | with_reducible apply Blk.drewN | (first | omega | (focus (simp; done)) | (focus (simp; omega)) | (focus (simp [World.setCell]; omega)))))))
  have q_X_w4 : w3.heap.size < w4.heap.size := HX.out.lt
  have q_G_w4 : w3.heap.size + 1 < w4.heap.size := HG.out.lt
  replace BEL : Hid (Below w.heap.size w w4) := Lib.hid (Below.trans (by repeat (first | with_reducible exact BEL.out | with_reducible apply Below.alloc | with_reducible apply Below.setCell | with_reducible apply Below.drew | with_reducible apply below_drewN | (first | omega | (focus (simp; done)) | (focus (simp; omega)) | (focus (simp [World.setCell]; omega))))) (hb4.mono (by (first | omega | (focus (simp; done)) | (focus (simp; omega)) | (focus (simp [World.setCell]; omega))))))
  have y_w4 : w.heap.size ≤ w4.heap.size := BEL.out.size
  clear hb4
  clear pP0 pP1 pP2 fP0 fP1 fP2 zP zP_1 zP_2 zP_3 pW0 pW1 pW2 fW0 fW1 fW2 zW zW_1 zW_2 zW_3 pN0 pN1 pN2 fN0 fN1 fN2 zN zN_1 zN_2 zN_3
  obtain ⟨pP0, pP1, pP2, fP0, fP1, fP2, zP⟩ := HP.out.three
  have zP_1 : w.heap.size < w4.heap.size + 1 := by omega
  have zP_2 : w.heap.size < w4.heap.size + 1 + 1 := by omega
  have zP_3 : w.heap.size < w4.heap.size + 1 + 1 + 1 := by omega
  obtain ⟨pW0, pW1, pW2, fW0, fW1, fW2, zW⟩ := HW.out.three
  have zW_1 : w2.heap.size < w4.heap.size + 1 := by omega
  have zW_2 : w2.heap.size < w4.heap.size + 1 + 1 := by omega
  have zW_3 : w2.heap.size < w4.heap.size + 1 + 1 + 1 := by omega
  obtain ⟨pN0, pN1, pN2, fN0, fN1, fN2, zN⟩ := HN.out.three
  have zN_1 : w2.heap.size + 1 < w4.heap.size + 1 := by omega
  have zN_2 : w2.heap.size + 1 < w4.heap.size + 1 + 1 := by omega
  have zN_3 : w2.heap.size + 1 < w4.heap.size + 1 + 1 + 1 := by omega
  obtain ⟨pX0, pX1, pX2, fX0, fX1, fX2, zX⟩ := HX.out.three
  have zX_1 : w3.heap.size < w4.heap.size + 1 := by omega
  have zX_2 : w3.heap.size < w4.heap.size + 1 + 1 := by omega
  have zX_3 : w3.heap.size < w4.heap.size + 1 + 1 + 1 := by omega
  obtain ⟨pG0, pG1, pG2, fG0, fG1, fG2, zG⟩ := HG.out.three
  have zG_1 : w3.heap.size + 1 < w4.heap.size + 1 := by omega
  have zG_2 : w3.heap.size + 1 < w4.heap.size + 1 + 1 := by omega
  have zG_3 : w3.heap.size + 1 < w4.heap.size + 1 + 1 + 1 := by omega
  go_wp2_with fail
  refine (refTicks_is A cp l w.heap.size _ (HI.out.below (by repeat (first | with_reducible exact BEL.out | with_reducible apply Below.alloc | with_reducible apply Below.setCell | with_reducible apply Below.drew | with_reducible apply below_drewN | (first | omega | (focus (simp; done)) | (focus (simp; omega)) | (focus (simp [World.setCell]; omega))))) (Nat.le_refl _)) 4 HT.out).mono ?_; rintro e w' ⟨rfl, rfl⟩
  have h0 : 0 < l.length := by omega
  go_wp2_with fail
  refine wp_loop_rounds 1 ?_
  rw [rounds_succ]
  go_wp2_with fail
  refine (prun_full r c k A cp l.length _ H.out hl hm).mono ?_; rintro e w5 ⟨rfl, hb5⟩
  clear HW
  clear HN
  clear HX
  have z_w5 : w4.heap.size ≤ w5.heap.size := Nat.le_trans (by first | with_reducible exact Nat.le_refl _ | (simp; done) | (simp; omega) | (simp [World.setCell]; done)) hb5.size
  have HL := Lib.hid (show Blk w5 (w4.heap.size) 46 _ from by (with_reducible apply Blk.below (hb := hb5); (repeat (first | (with_reducible apply Blk.new'; first | with_reducible rfl | (focus (simp; done)) | (focus (simp; omega))) | with_reducible apply Blk.set_ | with_reducible apply Blk.far | with_reducible apply Blk.alloc | with_reducible apply Blk.drew | with_reducible apply Blk.drewN | (first | omega | (focus (simp; done)) | (focus (simp; omega)) | (focus (simp [World.setCell]; omega)))))))
  replace HP := Lib.hid (show Blk w5 (w.heap.size) 41 _ from by (with_reducible apply Blk.below (hb := hb5); (repeat (first | with_reducible exact HP.out | (with_reducible apply Blk.new'; first | with_reducible rfl | (focus (simp; done)) | (focus (simp; omega))) | with_reducible apply Blk.set_ | with_reducible apply Blk.far | with_reducible apply Blk.alloc | with_reducible apply Blk.drew | with_reducible apply Blk.drewN | (first | omega | (focus (simp; done)) | (focus (simp; omega)) | (focus (simp [World.setCell]; omega)))))))
  replace HG := Lib.hid (show Blk w5 (w3.heap.size + 1) 46 _ from by (with_reducible apply Blk.below (hb := hb5); (repeat (first | with_reducible exact HG.out | (with_reducible apply Blk.new'; first | with_reducible rfl | (focus (simp; done)) | (focus (simp; omega))) | with_reducible apply Blk.set_ | with_reducible apply Blk.far | with_reducible apply Blk.alloc | with_reducible apply Blk.drew | with_reducible apply Blk.drewN | (first | omega | (focus (simp; done)) | (focus (simp; omega)) | (focus (simp [World.setCell]; omega)))))))
  have q_L_w5 : w4.heap.size < w5.heap.size := HL.out.lt
  replace BEL : Hid (Below w.heap.size w w5) := Lib.hid (Below.trans (by repeat (first | with_reducible exact BEL.out | with_reducible apply Below.alloc | with_reducible apply Below.setCell | with_reducible apply Below.drew | with_reducible apply below_drewN | (first | omega | (focus (simp; done)) | (focus (simp; omega)) | (focus (simp [World.setCell]; omega))))) (hb5.mono (by (first | omega | (focus (simp; done)) | (focus (simp; omega)) | (focus (simp [World.setCell]; omega))))))
  have y_w5 : w.heap.size ≤ w5.heap.size := BEL.out.size
  clear hb5
  clear pP0 pP1 pP2 fP0 fP1 fP2 zP zP_1 zP_2 zP_3 pW0 pW1 pW2 fW0 fW1 fW2 zW zW_1 zW_2 zW_3 pN0 pN1 pN2 fN0 fN1 fN2 zN zN_1 zN_2 zN_3 pX0 pX1 pX2 fX0 fX1 fX2 zX zX_1 zX_2 zX_3 pG0 pG1 pG2 fG0 fG1 fG2 zG zG_1 zG_2 zG_3
  obtain ⟨pP0, pP1, pP2, fP0, fP1, fP2, zP⟩ := HP.out.three
  have zP_1 : w.heap.size < w5.heap.size + 1 := by omega
  have zP_2 : w.heap.size < w5.heap.size + 1 + 1 := by omega
  have zP_3 : w.heap.size < w5.heap.size + 1 + 1 + 1 := by omega
  obtain ⟨pG0, pG1, pG2, fG0, fG1, fG2, zG⟩ := HG.out.three
  have zG_1 : w3.heap.size + 1 < w5.heap.size + 1 := by omega
  have zG_2 : w3.heap.size + 1 < w5.heap.size + 1 + 1 := by omega
  have zG_3 : w3.heap.size + 1 < w5.heap.size + 1 + 1 + 1 := by omega
  obtain ⟨pL0, pL1, pL2, fL0, fL1, fL2, zL⟩ := HL.out.three
  have zL_1 : w4.heap.size < w5.heap.size + 1 := by omega
  have zL_2 : w4.heap.size < w5.heap.size + 1 + 1 := by omega
  have zL_3 : w4.heap.size < w5.heap.size + 1 + 1 + 1 := by omega
  go_wp2_with fail
  refine (same_hit 4 _ (LAID.out.below (by repeat (first | with_reducible exact BEL.out | with_reducible apply Below.alloc | with_reducible apply Below.setCell | with_reducible apply Below.drew | with_reducible apply below_drewN | (first | omega | (focus (simp; done)) | (focus (simp; omega)) | (focus (simp [World.setCell]; omega))))))).mono ?_; rintro e w6 ⟨rfl, hb6⟩
  have z_w6 : w5.heap.size ≤ w6.heap.size := Nat.le_trans (by first | with_reducible exact Nat.le_refl _ | (simp; done) | (simp; omega) | (simp [World.setCell]; done)) hb6.size
  replace HP := Lib.hid (show Blk w6 (w.heap.size) 41 _ from by (with_reducible apply Blk.below (hb := hb6); (repeat (first | with_reducible exact HP.out | (with_reducible apply Blk.new'; first | with_reducible rfl | (focus (simp; done)) | (focus (simp; omega))) | with_reducible apply Blk.set_ | with_reducible apply Blk.far | with_reducible apply Blk.alloc | with_reducible apply Blk.drew | with_reducible apply Blk.drewN | (first | omega | (focus (simp; done)) | (focus (simp; omega)) | (focus (simp [World.setCell]; omega)))))))
  replace HG := Lib.hid (show Blk w6 (w3.heap.size + 1) 46 _ from by (with_reducible apply Blk.below (hb := hb6); (repeat (first | with_reducible exact HG.out | (with_reducible apply Blk.new'; first | with_reducible rfl | (focus (simp; done)) | (focus (simp; omega))) | with_reducible apply Blk.set_ | with_reducible apply Blk.far | with_reducible apply Blk.alloc | with_reducible apply Blk.drew | with_reducible apply Blk.drewN | (first | omega | (focus (simp; done)) | (focus (simp; omega)) | (focus (simp [World.setCell]; omega)))))))
  replace HL := Lib.hid (show Blk w6 (w4.heap.size) 46 _ from by (with_reducible apply Blk.below (hb := hb6); (repeat (first | with_reducible exact HL.out | (with_reducible apply Blk.new'; first | with_reducible rfl | (focus (simp; done)) | (focus (simp; omega))) | with_reducible apply Blk.set_ | with_reducible apply Blk.far | with_reducible apply Blk.alloc | with_reducible apply Blk.drew | with_reducible apply Blk.drewN | (first | omega | (focus (simp; done)) | (focus (simp; omega)) | (focus (simp [World.setCell]; omega)))))))
  replace BEL : Hid (Below w.heap.size w w6) := Lib.hid (Below.trans (by repeat (first | with_reducible exact BEL.out | with_reducible apply Below.alloc | with_reducible apply Below.setCell | with_reducible apply Below.drew | with_reducible apply below_drewN | (first | omega | (focus (simp; done)) | (focus (simp; omega)) | (focus (simp [World.setCell]; omega))))) (hb6.mono (by (first | omega | (focus (simp; done)) | (focus (simp; omega)) | (focus (simp [World.setCell]; omega))))))
  have y_w6 : w.heap.size ≤ w6.heap.size := BEL.out.size
  clear hb6
  clear pP0 pP1 pP2 fP0 fP1 fP2 zP zP_1 zP_2 zP_3 pG0 pG1 pG2 fG0 fG1 fG2 zG zG_1 zG_2 zG_3 pL0 pL1 pL2 fL0 fL1 fL2 zL zL_1 zL_2 zL_3
  obtain ⟨pP0, pP1, pP2, fP0, fP1, fP2, zP⟩ := HP.out.three
  have zP_1 : w.heap.size < w6.heap.size + 1 := by omega
  have zP_2 : w.heap.size < w6.heap.size + 1 + 1 := by omega
  have zP_3 : w.heap.size < w6.heap.size + 1 + 1 + 1 := by omega
  obtain ⟨pG0, pG1, pG2, fG0, fG1, fG2, zG⟩ := HG.out.three
  have zG_1 : w3.heap.size + 1 < w6.heap.size + 1 := by omega
  have zG_2 : w3.heap.size + 1 < w6.heap.size + 1 + 1 := by omega
  have zG_3 : w3.heap.size + 1 < w6.heap.size + 1 + 1 + 1 := by omega
  obtain ⟨pL0, pL1, pL2, fL0, fL1, fL2, zL⟩ := HL.out.three
  have zL_1 : w4.heap.size < w6.heap.size + 1 := by omega
  have zL_2 : w4.heap.size < w6.heap.size + 1 + 1 := by omega
  have zL_3 : w4.heap.size < w6.heap.size + 1 + 1 + 1 := by omega
  go_wp2
  go_ret
  exact ⟨rfl, (by repeat (first | with_reducible exact BEL.out | with_reducible apply Below.alloc | with_reducible apply Below.setCell | with_reducible apply Below.drew | with_reducible apply below_drewN | (first | omega | (focus (simp; done)) | (focus (simp; omega)) | (focus (simp [World.setCell]; omega)))))⟩
set_option maxHeartbeats 8000000 in
set_option maxRecDepth 100000 in
theorem poolTells_hi_bad (r c k n : Int) (A : Option Addr) (cp : Nat) (l : List Int) (w : World) (hi : Ints w w.heap.size A cp l) (hg : Laid w) (ok : PoolOk r c k) (hn0 : 0 ≤ n) (hn : 10000 < n) (hl : l.length ≤ 60) (hb : l.any badRate = true) :
    Calls Tryd.prog 5 #[.agg #[.int .i64 r, .int .i64 c, .int .i64 k], .int .i64 n, .slice A l.length cp] w fun e w' => e = .returned (.bool true) ∧ Below w.heap.size w w' := by
  have LAID := Lib.hid hg; clear hg
  have HI := Lib.hid hi; clear hi
  have H := Lib.hid ok
  clear ok
  have HNN : Hid (n < 0 ∨ 10000 < n) := Lib.hid (by omega)
  have HB := Lib.hid hb; clear hb
  have HT : Hid (ticksErr l = 1) := Lib.hid (by unfold ticksErr; rw [if_neg (by omega), HB.out]; rfl)
  have BEL : Hid (Below w.heap.size w w) := Lib.hid (Below.refl _ _)
  have yB : w.heap.size ≤ w.heap.size := Nat.le_refl _
  go_enter Tryd.func5, Tryd.ntmps5
  go_wp2_with fail
  refine (refPool_yes r c k _ H.out).mono ?_; rintro e w1 ⟨rfl, hb1⟩
  have z_w1 : w.heap.size ≤ w1.heap.size := Nat.le_trans (by first | with_reducible exact Nat.le_refl _ | (simp; done) | (simp; omega) | (simp [World.setCell]; done)) hb1.size
  have HP := Lib.hid (show Blk w1 (w.heap.size) 41 _ from by (with_reducible apply Blk.below (hb := hb1); (repeat (first | (with_reducible apply Blk.new'; first | with_reducible rfl | (focus (simp; done)) | (focus (simp; omega))) | with_reducible apply Blk.set_ | with_reducible apply Blk.far | with_reducible apply Blk.alloc | with_reducible apply Blk.drew | with_reducible apply Blk.drewN | (first | omega | (focus (simp; done)) | (focus (simp; omega)) | (focus (simp [World.setCell]; omega)))))))
  have q_P_w1 : w.heap.size < w1.heap.size := HP.out.lt
  replace BEL : Hid (Below w.heap.size w w1) := Lib.hid (Below.trans (by repeat (first | with_reducible exact BEL.out | with_reducible apply Below.alloc | with_reducible apply Below.setCell | with_reducible apply Below.drew | with_reducible apply below_drewN | (first | omega | (focus (simp; done)) | (focus (simp; omega)) | (focus (simp [World.setCell]; omega))))) (hb1.mono (by (first | omega | (focus (simp; done)) | (focus (simp; omega)) | (focus (simp [World.setCell]; omega))))))
  have y_w1 : w.heap.size ≤ w1.heap.size := BEL.out.size
  clear hb1
  obtain ⟨pP0, pP1, pP2, fP0, fP1, fP2, zP⟩ := HP.out.three
  have zP_1 : w.heap.size < w1.heap.size + 1 := by omega
  have zP_2 : w.heap.size < w1.heap.size + 1 + 1 := by omega
  have zP_3 : w.heap.size < w1.heap.size + 1 + 1 + 1 := by omega
  go_wp2_with fail
  refine (pcheck_yes r c k _ H.out).mono ?_; rintro e w' ⟨rfl, rfl⟩
  go_wp2_with fail
  refine (same_ok _).mono ?_; rintro e w2 ⟨rfl, hb2⟩
  have z_w2 : w1.heap.size ≤ w2.heap.size := Nat.le_trans (by first | with_reducible exact Nat.le_refl _ | (simp; done) | (simp; omega) | (simp [World.setCell]; done)) hb2.size
  replace HP := Lib.hid (show Blk w2 (w.heap.size) 41 _ from by (with_reducible apply Blk.below (hb := hb2); (repeat (first | with_reducible exact HP.out | (with_reducible apply Blk.new'; first | with_reducible rfl | (focus (simp; done)) | (focus (simp; omega))) | with_reducible apply Blk.set_ | with_reducible apply Blk.far | with_reducible apply Blk.alloc | with_reducible apply Blk.drew | with_reducible apply Blk.drewN | (first | omega | (focus (simp; done)) | (focus (simp; omega)) | (focus (simp [World.setCell]; omega)))))))
  replace BEL : Hid (Below w.heap.size w w2) := Lib.hid (Below.trans (by repeat (first | with_reducible exact BEL.out | with_reducible apply Below.alloc | with_reducible apply Below.setCell | with_reducible apply Below.drew | with_reducible apply below_drewN | (first | omega | (focus (simp; done)) | (focus (simp; omega)) | (focus (simp [World.setCell]; omega))))) (hb2.mono (by (first | omega | (focus (simp; done)) | (focus (simp; omega)) | (focus (simp [World.setCell]; omega))))))
  have y_w2 : w.heap.size ≤ w2.heap.size := BEL.out.size
  clear hb2
  clear pP0 pP1 pP2 fP0 fP1 fP2 zP zP_1 zP_2 zP_3
  obtain ⟨pP0, pP1, pP2, fP0, fP1, fP2, zP⟩ := HP.out.three
  have zP_1 : w.heap.size < w2.heap.size + 1 := by omega
  have zP_2 : w.heap.size < w2.heap.size + 1 + 1 := by omega
  have zP_3 : w.heap.size < w2.heap.size + 1 + 1 + 1 := by omega
  go_wp2_with fail
  refine (ptick_bad r c k n _ H.out HNN.out).mono ?_; rintro e w3 ⟨rfl, hb3⟩
  have z_w3 : w2.heap.size ≤ w3.heap.size := Nat.le_trans (by first | with_reducible exact Nat.le_refl _ | (simp; done) | (simp; omega) | (simp [World.setCell]; done)) hb3.size
  have HW := Lib.hid (show Blk w3 (w2.heap.size) 41 _ from by (with_reducible apply Blk.below (hb := hb3); (repeat (first | (with_reducible apply Blk.new'; first | with_reducible rfl | (focus (simp; done)) | (focus (simp; omega))) | with_reducible apply Blk.set_ | with_reducible apply Blk.far | with_reducible apply Blk.alloc | with_reducible apply Blk.drew | with_reducible apply Blk.drewN | (first | omega | (focus (simp; done)) | (focus (simp; omega)) | (focus (simp [World.setCell]; omega)))))))
  have HN := Lib.hid (show Blk w3 (w2.heap.size + 1) 46 _ from by (with_reducible apply Blk.below (hb := hb3); (repeat (first | (with_reducible apply Blk.new'; first | with_reducible rfl | (focus (simp; done)) | (focus (simp; omega))) | with_reducible apply Blk.set_ | with_reducible apply Blk.far | with_reducible apply Blk.alloc | with_reducible apply Blk.drew | with_reducible apply Blk.drewN | (first | omega | (focus (simp; done)) | (focus (simp; omega)) | (focus (simp [World.setCell]; omega)))))))
  replace HP := Lib.hid (show Blk w3 (w.heap.size) 41 _ from by (with_reducible apply Blk.below (hb := hb3); (repeat (first | with_reducible exact HP.out | (with_reducible apply Blk.new'; first | with_reducible rfl | (focus (simp; done)) | (focus (simp; omega))) | with_reducible apply Blk.set_ | with_reducible apply Blk.far | with_reducible apply Blk.alloc | with_reducible apply Blk.drew | with_reducible apply Blk.drewN | (first | omega | (focus (simp; done)) | (focus (simp; omega)) | (focus (simp [World.setCell]; omega)))))))
  have q_W_w3 : w2.heap.size < w3.heap.size := HW.out.lt
  have q_N_w3 : w2.heap.size + 1 < w3.heap.size := HN.out.lt
  replace BEL : Hid (Below w.heap.size w w3) := Lib.hid (Below.trans (by repeat (first | with_reducible exact BEL.out | with_reducible apply Below.alloc | with_reducible apply Below.setCell | with_reducible apply Below.drew | with_reducible apply below_drewN | (first | omega | (focus (simp; done)) | (focus (simp; omega)) | (focus (simp [World.setCell]; omega))))) (hb3.mono (by (first | omega | (focus (simp; done)) | (focus (simp; omega)) | (focus (simp [World.setCell]; omega))))))
  have y_w3 : w.heap.size ≤ w3.heap.size := BEL.out.size
  clear hb3
  clear pP0 pP1 pP2 fP0 fP1 fP2 zP zP_1 zP_2 zP_3
  obtain ⟨pP0, pP1, pP2, fP0, fP1, fP2, zP⟩ := HP.out.three
  have zP_1 : w.heap.size < w3.heap.size + 1 := by omega
  have zP_2 : w.heap.size < w3.heap.size + 1 + 1 := by omega
  have zP_3 : w.heap.size < w3.heap.size + 1 + 1 + 1 := by omega
  obtain ⟨pW0, pW1, pW2, fW0, fW1, fW2, zW⟩ := HW.out.three
  have zW_1 : w2.heap.size < w3.heap.size + 1 := by omega
  have zW_2 : w2.heap.size < w3.heap.size + 1 + 1 := by omega
  have zW_3 : w2.heap.size < w3.heap.size + 1 + 1 + 1 := by omega
  obtain ⟨pN0, pN1, pN2, fN0, fN1, fN2, zN⟩ := HN.out.three
  have zN_1 : w2.heap.size + 1 < w3.heap.size + 1 := by omega
  have zN_2 : w2.heap.size + 1 < w3.heap.size + 1 + 1 := by omega
  have zN_3 : w2.heap.size + 1 < w3.heap.size + 1 + 1 + 1 := by omega
  go_wp2_with fail
  refine (same_hit 1 _ (LAID.out.below (by repeat (first | with_reducible exact BEL.out | with_reducible apply Below.alloc | with_reducible apply Below.setCell | with_reducible apply Below.drew | with_reducible apply below_drewN | (first | omega | (focus (simp; done)) | (focus (simp; omega)) | (focus (simp [World.setCell]; omega))))))).mono ?_; rintro e w4 ⟨rfl, hb4⟩
  have z_w4 : w3.heap.size ≤ w4.heap.size := Nat.le_trans (by first | with_reducible exact Nat.le_refl _ | (simp; done) | (simp; omega) | (simp [World.setCell]; done)) hb4.size
  have HX := Lib.hid (show Blk w4 (w3.heap.size) 41 _ from by (with_reducible apply Blk.below (hb := hb4); (repeat (first | (with_reducible apply Blk.new'; first | with_reducible rfl | (focus (simp; done)) | (focus (simp; omega))) | with_reducible apply Blk.set_ | with_reducible apply Blk.far | with_reducible apply Blk.alloc | with_reducible apply Blk.drew | with_reducible apply Blk.drewN | (first | omega | (focus (simp; done)) | (focus (simp; omega)) | (focus (simp [World.setCell]; omega)))))))
  have HG := Lib.hid (show Blk w4 (w3.heap.size + 1) 46 _ from by (with_reducible apply Blk.below (hb := hb4); (repeat (first | (with_reducible apply Blk.new'; first | with_reducible rfl | (focus (simp; done)) | (focus (simp; omega))) | with_reducible apply Blk.set_ | with_reducible apply Blk.far | with_reducible apply Blk.alloc | with_reducible apply Blk.drew | with_reducible apply Blk.drewN | (first | omega | (focus (simp; done)) | (focus (simp; omega)) | (focus (simp [World.setCell]; omega)))))))
  replace HP := Lib.hid (show Blk w4 (w.heap.size) 41 _ from by (with_reducible apply Blk.below (hb := hb4); (repeat (first | with_reducible exact HP.out | (with_reducible apply Blk.new'; first | with_reducible rfl | (focus (simp; done)) | (focus (simp; omega))) | with_reducible apply Blk.set_ | with_reducible apply Blk.far | with_reducible apply Blk.alloc | with_reducible apply Blk.drew | with_reducible apply Blk.drewN | (first | omega | (focus (simp; done)) | (focus (simp; omega)) | (focus (simp [World.setCell]; omega)))))))
  replace HW := Lib.hid (show Blk w4 (w2.heap.size) 41 _ from by (with_reducible apply Blk.below (hb := hb4); (repeat (first | with_reducible exact HW.out | (with_reducible apply Blk.new'; first | with_reducible rfl | (focus (simp; done)) | (focus (simp; omega))) | with_reducible apply Blk.set_ | with_reducible apply Blk.far | with_reducible apply Blk.alloc | with_reducible apply Blk.drew | with_reducible apply Blk.drewN | (first | omega | (focus (simp; done)) | (focus (simp; omega)) | (focus (simp [World.setCell]; omega)))))))
  replace HN := Lib.hid (show Blk w4 (w2.heap.size + 1) 46 _ from by (with_reducible apply Blk.below (hb := hb4); (repeat (first | with_reducible exact HN.out | (with_reducible apply Blk.new'; first | with_reducible rfl | (focus (simp; done)) | (focus (simp; omega))) | with_reducible apply Blk.set_ | with_reducible apply Blk.far | with_reducible apply Blk.alloc | with_reducible apply Blk.drew | with_reducible apply Blk.drewN | (first | omega | (focus (simp; done)) | (focus (simp; omega)) | (focus (simp [World.setCell]; omega)))))))
  have q_X_w4 : w3.heap.size < w4.heap.size := HX.out.lt
  have q_G_w4 : w3.heap.size + 1 < w4.heap.size := HG.out.lt
  replace BEL : Hid (Below w.heap.size w w4) := Lib.hid (Below.trans (by repeat (first | with_reducible exact BEL.out | with_reducible apply Below.alloc | with_reducible apply Below.setCell | with_reducible apply Below.drew | with_reducible apply below_drewN | (first | omega | (focus (simp; done)) | (focus (simp; omega)) | (focus (simp [World.setCell]; omega))))) (hb4.mono (by (first | omega | (focus (simp; done)) | (focus (simp; omega)) | (focus (simp [World.setCell]; omega))))))
  have y_w4 : w.heap.size ≤ w4.heap.size := BEL.out.size
  clear hb4
  clear pP0 pP1 pP2 fP0 fP1 fP2 zP zP_1 zP_2 zP_3 pW0 pW1 pW2 fW0 fW1 fW2 zW zW_1 zW_2 zW_3 pN0 pN1 pN2 fN0 fN1 fN2 zN zN_1 zN_2 zN_3
  obtain ⟨pP0, pP1, pP2, fP0, fP1, fP2, zP⟩ := HP.out.three
  have zP_1 : w.heap.size < w4.heap.size + 1 := by omega
  have zP_2 : w.heap.size < w4.heap.size + 1 + 1 := by omega
  have zP_3 : w.heap.size < w4.heap.size + 1 + 1 + 1 := by omega
  obtain ⟨pW0, pW1, pW2, fW0, fW1, fW2, zW⟩ := HW.out.three
  have zW_1 : w2.heap.size < w4.heap.size + 1 := by omega
  have zW_2 : w2.heap.size < w4.heap.size + 1 + 1 := by omega
  have zW_3 : w2.heap.size < w4.heap.size + 1 + 1 + 1 := by omega
  obtain ⟨pN0, pN1, pN2, fN0, fN1, fN2, zN⟩ := HN.out.three
  have zN_1 : w2.heap.size + 1 < w4.heap.size + 1 := by omega
  have zN_2 : w2.heap.size + 1 < w4.heap.size + 1 + 1 := by omega
  have zN_3 : w2.heap.size + 1 < w4.heap.size + 1 + 1 + 1 := by omega
  obtain ⟨pX0, pX1, pX2, fX0, fX1, fX2, zX⟩ := HX.out.three
  have zX_1 : w3.heap.size < w4.heap.size + 1 := by omega
  have zX_2 : w3.heap.size < w4.heap.size + 1 + 1 := by omega
  have zX_3 : w3.heap.size < w4.heap.size + 1 + 1 + 1 := by omega
  obtain ⟨pG0, pG1, pG2, fG0, fG1, fG2, zG⟩ := HG.out.three
  have zG_1 : w3.heap.size + 1 < w4.heap.size + 1 := by omega
  have zG_2 : w3.heap.size + 1 < w4.heap.size + 1 + 1 := by omega
  have zG_3 : w3.heap.size + 1 < w4.heap.size + 1 + 1 + 1 := by omega
  go_wp2_with fail
  refine (refTicks_is A cp l w.heap.size _ (HI.out.below (by repeat (first | with_reducible exact BEL.out | with_reducible apply Below.alloc | with_reducible apply Below.setCell | with_reducible apply Below.drew | with_reducible apply below_drewN | (first | omega | (focus (simp; done)) | (focus (simp; omega)) | (focus (simp [World.setCell]; omega))))) (Nat.le_refl _)) 1 HT.out).mono ?_; rintro e w' ⟨rfl, rfl⟩
  have h0 : 0 < l.length := by
    rcases Nat.eq_zero_or_pos l.length with h | h
    · have := HB.out; rw [List.length_eq_zero_iff.1 h] at this; cases this
    · exact h
  go_wp2_with fail
  refine wp_loop_rounds 1 ?_
  rw [rounds_succ]
  go_wp2_with fail
  refine (prun_bad r c k A cp l _ H.out ((HI.out.below (by repeat (first | with_reducible exact BEL.out | with_reducible apply Below.alloc | with_reducible apply Below.setCell | with_reducible apply Below.drew | with_reducible apply below_drewN | (first | omega | (focus (simp; done)) | (focus (simp; omega)) | (focus (simp [World.setCell]; omega))))) (Nat.le_refl _)).more (by (first | omega | (focus (simp; done)) | (focus (simp; omega)) | (focus (simp [World.setCell]; omega))))) hl HB.out).mono ?_; rintro e w5 ⟨rfl, hb5⟩
  clear HW
  clear HN
  clear HX
  have z_w5 : w4.heap.size ≤ w5.heap.size := Nat.le_trans (by first | with_reducible exact Nat.le_refl _ | (simp; done) | (simp; omega) | (simp [World.setCell]; done)) hb5.size
  have HL := Lib.hid (show Blk w5 (w4.heap.size) 46 _ from by (with_reducible apply Blk.below (hb := hb5); (repeat (first | (with_reducible apply Blk.new'; first | with_reducible rfl | (focus (simp; done)) | (focus (simp; omega))) | with_reducible apply Blk.set_ | with_reducible apply Blk.far | with_reducible apply Blk.alloc | with_reducible apply Blk.drew | with_reducible apply Blk.drewN | (first | omega | (focus (simp; done)) | (focus (simp; omega)) | (focus (simp [World.setCell]; omega)))))))
  replace HP := Lib.hid (show Blk w5 (w.heap.size) 41 _ from by (with_reducible apply Blk.below (hb := hb5); (repeat (first | with_reducible exact HP.out | (with_reducible apply Blk.new'; first | with_reducible rfl | (focus (simp; done)) | (focus (simp; omega))) | with_reducible apply Blk.set_ | with_reducible apply Blk.far | with_reducible apply Blk.alloc | with_reducible apply Blk.drew | with_reducible apply Blk.drewN | (first | omega | (focus (simp; done)) | (focus (simp; omega)) | (focus (simp [World.setCell]; omega)))))))
  replace HG := Lib.hid (show Blk w5 (w3.heap.size + 1) 46 _ from by (with_reducible apply Blk.below (hb := hb5); (repeat (first | with_reducible exact HG.out | (with_reducible apply Blk.new'; first | with_reducible rfl | (focus (simp; done)) | (focus (simp; omega))) | with_reducible apply Blk.set_ | with_reducible apply Blk.far | with_reducible apply Blk.alloc | with_reducible apply Blk.drew | with_reducible apply Blk.drewN | (first | omega | (focus (simp; done)) | (focus (simp; omega)) | (focus (simp [World.setCell]; omega)))))))
  have q_L_w5 : w4.heap.size < w5.heap.size := HL.out.lt
  replace BEL : Hid (Below w.heap.size w w5) := Lib.hid (Below.trans (by repeat (first | with_reducible exact BEL.out | with_reducible apply Below.alloc | with_reducible apply Below.setCell | with_reducible apply Below.drew | with_reducible apply below_drewN | (first | omega | (focus (simp; done)) | (focus (simp; omega)) | (focus (simp [World.setCell]; omega))))) (hb5.mono (by (first | omega | (focus (simp; done)) | (focus (simp; omega)) | (focus (simp [World.setCell]; omega))))))
  have y_w5 : w.heap.size ≤ w5.heap.size := BEL.out.size
  clear hb5
  clear pP0 pP1 pP2 fP0 fP1 fP2 zP zP_1 zP_2 zP_3 pW0 pW1 pW2 fW0 fW1 fW2 zW zW_1 zW_2 zW_3 pN0 pN1 pN2 fN0 fN1 fN2 zN zN_1 zN_2 zN_3 pX0 pX1 pX2 fX0 fX1 fX2 zX zX_1 zX_2 zX_3 pG0 pG1 pG2 fG0 fG1 fG2 zG zG_1 zG_2 zG_3
  obtain ⟨pP0, pP1, pP2, fP0, fP1, fP2, zP⟩ := HP.out.three
  have zP_1 : w.heap.size < w5.heap.size + 1 := by omega
  have zP_2 : w.heap.size < w5.heap.size + 1 + 1 := by omega
  have zP_3 : w.heap.size < w5.heap.size + 1 + 1 + 1 := by omega
  obtain ⟨pG0, pG1, pG2, fG0, fG1, fG2, zG⟩ := HG.out.three
  have zG_1 : w3.heap.size + 1 < w5.heap.size + 1 := by omega
  have zG_2 : w3.heap.size + 1 < w5.heap.size + 1 + 1 := by omega
  have zG_3 : w3.heap.size + 1 < w5.heap.size + 1 + 1 + 1 := by omega
  obtain ⟨pL0, pL1, pL2, fL0, fL1, fL2, zL⟩ := HL.out.three
  have zL_1 : w4.heap.size < w5.heap.size + 1 := by omega
  have zL_2 : w4.heap.size < w5.heap.size + 1 + 1 := by omega
  have zL_3 : w4.heap.size < w5.heap.size + 1 + 1 + 1 := by omega
  go_wp2_with fail
  refine (same_hit 1 _ (LAID.out.below (by repeat (first | with_reducible exact BEL.out | with_reducible apply Below.alloc | with_reducible apply Below.setCell | with_reducible apply Below.drew | with_reducible apply below_drewN | (first | omega | (focus (simp; done)) | (focus (simp; omega)) | (focus (simp [World.setCell]; omega))))))).mono ?_; rintro e w6 ⟨rfl, hb6⟩
  have z_w6 : w5.heap.size ≤ w6.heap.size := Nat.le_trans (by first | with_reducible exact Nat.le_refl _ | (simp; done) | (simp; omega) | (simp [World.setCell]; done)) hb6.size
  replace HP := Lib.hid (show Blk w6 (w.heap.size) 41 _ from by (with_reducible apply Blk.below (hb := hb6); (repeat (first | with_reducible exact HP.out | (with_reducible apply Blk.new'; first | with_reducible rfl | (focus (simp; done)) | (focus (simp; omega))) | with_reducible apply Blk.set_ | with_reducible apply Blk.far | with_reducible apply Blk.alloc | with_reducible apply Blk.drew | with_reducible apply Blk.drewN | (first | omega | (focus (simp; done)) | (focus (simp; omega)) | (focus (simp [World.setCell]; omega)))))))
  replace HG := Lib.hid (show Blk w6 (w3.heap.size + 1) 46 _ from by (with_reducible apply Blk.below (hb := hb6); (repeat (first | with_reducible exact HG.out | (with_reducible apply Blk.new'; first | with_reducible rfl | (focus (simp; done)) | (focus (simp; omega))) | with_reducible apply Blk.set_ | with_reducible apply Blk.far | with_reducible apply Blk.alloc | with_reducible apply Blk.drew | with_reducible apply Blk.drewN | (first | omega | (focus (simp; done)) | (focus (simp; omega)) | (focus (simp [World.setCell]; omega)))))))
  replace HL := Lib.hid (show Blk w6 (w4.heap.size) 46 _ from by (with_reducible apply Blk.below (hb := hb6); (repeat (first | with_reducible exact HL.out | (with_reducible apply Blk.new'; first | with_reducible rfl | (focus (simp; done)) | (focus (simp; omega))) | with_reducible apply Blk.set_ | with_reducible apply Blk.far | with_reducible apply Blk.alloc | with_reducible apply Blk.drew | with_reducible apply Blk.drewN | (first | omega | (focus (simp; done)) | (focus (simp; omega)) | (focus (simp [World.setCell]; omega)))))))
  replace BEL : Hid (Below w.heap.size w w6) := Lib.hid (Below.trans (by repeat (first | with_reducible exact BEL.out | with_reducible apply Below.alloc | with_reducible apply Below.setCell | with_reducible apply Below.drew | with_reducible apply below_drewN | (first | omega | (focus (simp; done)) | (focus (simp; omega)) | (focus (simp [World.setCell]; omega))))) (hb6.mono (by (first | omega | (focus (simp; done)) | (focus (simp; omega)) | (focus (simp [World.setCell]; omega))))))
  have y_w6 : w.heap.size ≤ w6.heap.size := BEL.out.size
  clear hb6
  clear pP0 pP1 pP2 fP0 fP1 fP2 zP zP_1 zP_2 zP_3 pG0 pG1 pG2 fG0 fG1 fG2 zG zG_1 zG_2 zG_3 pL0 pL1 pL2 fL0 fL1 fL2 zL zL_1 zL_2 zL_3
  obtain ⟨pP0, pP1, pP2, fP0, fP1, fP2, zP⟩ := HP.out.three
  have zP_1 : w.heap.size < w6.heap.size + 1 := by omega
  have zP_2 : w.heap.size < w6.heap.size + 1 + 1 := by omega
  have zP_3 : w.heap.size < w6.heap.size + 1 + 1 + 1 := by omega
  obtain ⟨pG0, pG1, pG2, fG0, fG1, fG2, zG⟩ := HG.out.three
  have zG_1 : w3.heap.size + 1 < w6.heap.size + 1 := by omega
  have zG_2 : w3.heap.size + 1 < w6.heap.size + 1 + 1 := by omega
  have zG_3 : w3.heap.size + 1 < w6.heap.size + 1 + 1 + 1 := by omega
  obtain ⟨pL0, pL1, pL2, fL0, fL1, fL2, zL⟩ := HL.out.three
  have zL_1 : w4.heap.size < w6.heap.size + 1 := by omega
  have zL_2 : w4.heap.size < w6.heap.size + 1 + 1 := by omega
  have zL_3 : w4.heap.size < w6.heap.size + 1 + 1 + 1 := by omega
  go_wp2
  go_ret
  exact ⟨rfl, (by repeat (first | with_reducible exact BEL.out | with_reducible apply Below.alloc | with_reducible apply Below.setCell | with_reducible apply Below.drew | with_reducible apply below_drewN | (first | omega | (focus (simp; done)) | (focus (simp; omega)) | (focus (simp [World.setCell]; omega)))))⟩
set_option maxHeartbeats 8000000 in
set_option maxRecDepth 100000 in
theorem poolTells_hi_ok (r c k n : Int) (A : Option Addr) (cp : Nat) (l : List Int) (w : World) (hi : Ints w w.heap.size A cp l) (hg : Laid w) (ok : PoolOk r c k) (hn0 : 0 ≤ n) (hn : 10000 < n) (hl : l.length ≤ 60) (hb : l.any badRate = false) :
    Calls Tryd.prog 5 #[.agg #[.int .i64 r, .int .i64 c, .int .i64 k], .int .i64 n, .slice A l.length cp] w fun e w' => e = .returned (.bool true) ∧ Below w.heap.size w w' := by
  have LAID := Lib.hid hg; clear hg
  have HI := Lib.hid hi; clear hi
  have H := Lib.hid ok
  obtain ⟨r0, r1, c0, c1, k0, k1⟩ := ok
  have HNN : Hid (n < 0 ∨ 10000 < n) := Lib.hid (by omega)
  have HB := Lib.hid hb; clear hb
  have HT : Hid (ticksErr l = 0) := Lib.hid (by unfold ticksErr; rw [if_neg (by omega), HB.out]; rfl)
  have BEL : Hid (Below w.heap.size w w) := Lib.hid (Below.refl _ _)
  have yB : w.heap.size ≤ w.heap.size := Nat.le_refl _
  go_enter Tryd.func5, Tryd.ntmps5
  go_wp2_with fail
  refine (refPool_yes r c k _ H.out).mono ?_; rintro e w1 ⟨rfl, hb1⟩
  have z_w1 : w.heap.size ≤ w1.heap.size := Nat.le_trans (by first | with_reducible exact Nat.le_refl _ | (simp; done) | (simp; omega) | (simp [World.setCell]; done)) hb1.size
  have HP := Lib.hid (show Blk w1 (w.heap.size) 41 _ from by (with_reducible apply Blk.below (hb := hb1); (repeat (first | (with_reducible apply Blk.new'; first | with_reducible rfl | (focus (simp; done)) | (focus (simp; omega))) | with_reducible apply Blk.set_ | with_reducible apply Blk.far | with_reducible apply Blk.alloc | with_reducible apply Blk.drew | with_reducible apply Blk.drewN | (first | omega | (focus (simp; done)) | (focus (simp; omega)) | (focus (simp [World.setCell]; omega)))))))
  have q_P_w1 : w.heap.size < w1.heap.size := HP.out.lt
  replace BEL : Hid (Below w.heap.size w w1) := Lib.hid (Below.trans (by repeat (first | with_reducible exact BEL.out | with_reducible apply Below.alloc | with_reducible apply Below.setCell | with_reducible apply Below.drew | with_reducible apply below_drewN | (first | omega | (focus (simp; done)) | (focus (simp; omega)) | (focus (simp [World.setCell]; omega))))) (hb1.mono (by (first | omega | (focus (simp; done)) | (focus (simp; omega)) | (focus (simp [World.setCell]; omega))))))
  have y_w1 : w.heap.size ≤ w1.heap.size := BEL.out.size
  clear hb1
  obtain ⟨pP0, pP1, pP2, fP0, fP1, fP2, zP⟩ := HP.out.three
  have zP_1 : w.heap.size < w1.heap.size + 1 := by omega
  have zP_2 : w.heap.size < w1.heap.size + 1 + 1 := by omega
  have zP_3 : w.heap.size < w1.heap.size + 1 + 1 + 1 := by omega
  go_wp2_with fail
  refine (pcheck_yes r c k _ H.out).mono ?_; rintro e w' ⟨rfl, rfl⟩
  go_wp2_with fail
  refine (same_ok _).mono ?_; rintro e w2 ⟨rfl, hb2⟩
  have z_w2 : w1.heap.size ≤ w2.heap.size := Nat.le_trans (by first | with_reducible exact Nat.le_refl _ | (simp; done) | (simp; omega) | (simp [World.setCell]; done)) hb2.size
  replace HP := Lib.hid (show Blk w2 (w.heap.size) 41 _ from by (with_reducible apply Blk.below (hb := hb2); (repeat (first | with_reducible exact HP.out | (with_reducible apply Blk.new'; first | with_reducible rfl | (focus (simp; done)) | (focus (simp; omega))) | with_reducible apply Blk.set_ | with_reducible apply Blk.far | with_reducible apply Blk.alloc | with_reducible apply Blk.drew | with_reducible apply Blk.drewN | (first | omega | (focus (simp; done)) | (focus (simp; omega)) | (focus (simp [World.setCell]; omega)))))))
  replace BEL : Hid (Below w.heap.size w w2) := Lib.hid (Below.trans (by repeat (first | with_reducible exact BEL.out | with_reducible apply Below.alloc | with_reducible apply Below.setCell | with_reducible apply Below.drew | with_reducible apply below_drewN | (first | omega | (focus (simp; done)) | (focus (simp; omega)) | (focus (simp [World.setCell]; omega))))) (hb2.mono (by (first | omega | (focus (simp; done)) | (focus (simp; omega)) | (focus (simp [World.setCell]; omega))))))
  have y_w2 : w.heap.size ≤ w2.heap.size := BEL.out.size
  clear hb2
  clear pP0 pP1 pP2 fP0 fP1 fP2 zP zP_1 zP_2 zP_3
  obtain ⟨pP0, pP1, pP2, fP0, fP1, fP2, zP⟩ := HP.out.three
  have zP_1 : w.heap.size < w2.heap.size + 1 := by omega
  have zP_2 : w.heap.size < w2.heap.size + 1 + 1 := by omega
  have zP_3 : w.heap.size < w2.heap.size + 1 + 1 + 1 := by omega
  go_wp2_with fail
  refine (ptick_bad r c k n _ H.out HNN.out).mono ?_; rintro e w3 ⟨rfl, hb3⟩
  have z_w3 : w2.heap.size ≤ w3.heap.size := Nat.le_trans (by first | with_reducible exact Nat.le_refl _ | (simp; done) | (simp; omega) | (simp [World.setCell]; done)) hb3.size
  have HW := Lib.hid (show Blk w3 (w2.heap.size) 41 _ from by (with_reducible apply Blk.below (hb := hb3); (repeat (first | (with_reducible apply Blk.new'; first | with_reducible rfl | (focus (simp; done)) | (focus (simp; omega))) | with_reducible apply Blk.set_ | with_reducible apply Blk.far | with_reducible apply Blk.alloc | with_reducible apply Blk.drew | with_reducible apply Blk.drewN | (first | omega | (focus (simp; done)) | (focus (simp; omega)) | (focus (simp [World.setCell]; omega)))))))
  have HN := Lib.hid (show Blk w3 (w2.heap.size + 1) 46 _ from by (with_reducible apply Blk.below (hb := hb3); (repeat (first | (with_reducible apply Blk.new'; first | with_reducible rfl | (focus (simp; done)) | (focus (simp; omega))) | with_reducible apply Blk.set_ | with_reducible apply Blk.far | with_reducible apply Blk.alloc | with_reducible apply Blk.drew | with_reducible apply Blk.drewN | (first | omega | (focus (simp; done)) | (focus (simp; omega)) | (focus (simp [World.setCell]; omega)))))))
  replace HP := Lib.hid (show Blk w3 (w.heap.size) 41 _ from by (with_reducible apply Blk.below (hb := hb3); (repeat (first | with_reducible exact HP.out | (with_reducible apply Blk.new'; first | with_reducible rfl | (focus (simp; done)) | (focus (simp; omega))) | with_reducible apply Blk.set_ | with_reducible apply Blk.far | with_reducible apply Blk.alloc | with_reducible apply Blk.drew | with_reducible apply Blk.drewN | (first | omega | (focus (simp; done)) | (focus (simp; omega)) | (focus (simp [World.setCell]; omega)))))))
  have q_W_w3 : w2.heap.size < w3.heap.size := HW.out.lt
  have q_N_w3 : w2.heap.size + 1 < w3.heap.size := HN.out.lt
  replace BEL : Hid (Below w.heap.size w w3) := Lib.hid (Below.trans (by repeat (first | with_reducible exact BEL.out | with_reducible apply Below.alloc | with_reducible apply Below.setCell | with_reducible apply Below.drew | with_reducible apply below_drewN | (first | omega | (focus (simp; done)) | (focus (simp; omega)) | (focus (simp [World.setCell]; omega))))) (hb3.mono (by (first | omega | (focus (simp; done)) | (focus (simp; omega)) | (focus (simp [World.setCell]; omega))))))
  have y_w3 : w.heap.size ≤ w3.heap.size := BEL.out.size
  clear hb3
  clear pP0 pP1 pP2 fP0 fP1 fP2 zP zP_1 zP_2 zP_3
  obtain ⟨pP0, pP1, pP2, fP0, fP1, fP2, zP⟩ := HP.out.three
  have zP_1 : w.heap.size < w3.heap.size + 1 := by omega
  have zP_2 : w.heap.size < w3.heap.size + 1 + 1 := by omega
  have zP_3 : w.heap.size < w3.heap.size + 1 + 1 + 1 := by omega
  obtain ⟨pW0, pW1, pW2, fW0, fW1, fW2, zW⟩ := HW.out.three
  have zW_1 : w2.heap.size < w3.heap.size + 1 := by omega
  have zW_2 : w2.heap.size < w3.heap.size + 1 + 1 := by omega
  have zW_3 : w2.heap.size < w3.heap.size + 1 + 1 + 1 := by omega
  obtain ⟨pN0, pN1, pN2, fN0, fN1, fN2, zN⟩ := HN.out.three
  have zN_1 : w2.heap.size + 1 < w3.heap.size + 1 := by omega
  have zN_2 : w2.heap.size + 1 < w3.heap.size + 1 + 1 := by omega
  have zN_3 : w2.heap.size + 1 < w3.heap.size + 1 + 1 + 1 := by omega
  go_wp2_with fail
  refine (same_hit 1 _ (LAID.out.below (by repeat (first | with_reducible exact BEL.out | with_reducible apply Below.alloc | with_reducible apply Below.setCell | with_reducible apply Below.drew | with_reducible apply below_drewN | (first | omega | (focus (simp; done)) | (focus (simp; omega)) | (focus (simp [World.setCell]; omega))))))).mono ?_; rintro e w4 ⟨rfl, hb4⟩
  have z_w4 : w3.heap.size ≤ w4.heap.size := Nat.le_trans (by first | with_reducible exact Nat.le_refl _ | (simp; done) | (simp; omega) | (simp [World.setCell]; done)) hb4.size
  have HX := Lib.hid (show Blk w4 (w3.heap.size) 41 _ from by (with_reducible apply Blk.below (hb := hb4); (repeat (first | (with_reducible apply Blk.new'; first | with_reducible rfl | (focus (simp; done)) | (focus (simp; omega))) | with_reducible apply Blk.set_ | with_reducible apply Blk.far | with_reducible apply Blk.alloc | with_reducible apply Blk.drew | with_reducible apply Blk.drewN | (first | omega | (focus (simp; done)) | (focus (simp; omega)) | (focus (simp [World.setCell]; omega)))))))
  have HG := Lib.hid (show Blk w4 (w3.heap.size + 1) 46 _ from by (with_reducible apply Blk.below (hb := hb4); (repeat (first | (with_reducible apply Blk.new'; first | with_reducible rfl | (focus (simp; done)) | (focus (simp; omega))) | with_reducible apply Blk.set_ | with_reducible apply Blk.far | with_reducible apply Blk.alloc | with_reducible apply Blk.drew | with_reducible apply Blk.drewN | (first | omega | (focus (simp; done)) | (focus (simp; omega)) | (focus (simp [World.setCell]; omega)))))))
  replace HP := Lib.hid (show Blk w4 (w.heap.size) 41 _ from by (with_reducible apply Blk.below (hb := hb4); (repeat (first | with_reducible exact HP.out | (with_reducible apply Blk.new'; first | with_reducible rfl | (focus (simp; done)) | (focus (simp; omega))) | with_reducible apply Blk.set_ | with_reducible apply Blk.far | with_reducible apply Blk.alloc | with_reducible apply Blk.drew | with_reducible apply Blk.drewN | (first | omega | (focus (simp; done)) | (focus (simp; omega)) | (focus (simp [World.setCell]; omega)))))))
  replace HW := Lib.hid (show Blk w4 (w2.heap.size) 41 _ from by (with_reducible apply Blk.below (hb := hb4); (repeat (first | with_reducible exact HW.out | (with_reducible apply Blk.new'; first | with_reducible rfl | (focus (simp; done)) | (focus (simp; omega))) | with_reducible apply Blk.set_ | with_reducible apply Blk.far | with_reducible apply Blk.alloc | with_reducible apply Blk.drew | with_reducible apply Blk.drewN | (first | omega | (focus (simp; done)) | (focus (simp; omega)) | (focus (simp [World.setCell]; omega)))))))
  replace HN := Lib.hid (show Blk w4 (w2.heap.size + 1) 46 _ from by (with_reducible apply Blk.below (hb := hb4); (repeat (first | with_reducible exact HN.out | (with_reducible apply Blk.new'; first | with_reducible rfl | (focus (simp; done)) | (focus (simp; omega))) | with_reducible apply Blk.set_ | with_reducible apply Blk.far | with_reducible apply Blk.alloc | with_reducible apply Blk.drew | with_reducible apply Blk.drewN | (first | omega | (focus (simp; done)) | (focus (simp; omega)) | (focus (simp [World.setCell]; omega)))))))
  have q_X_w4 : w3.heap.size < w4.heap.size := HX.out.lt
  have q_G_w4 : w3.heap.size + 1 < w4.heap.size := HG.out.lt
  replace BEL : Hid (Below w.heap.size w w4) := Lib.hid (Below.trans (by repeat (first | with_reducible exact BEL.out | with_reducible apply Below.alloc | with_reducible apply Below.setCell | with_reducible apply Below.drew | with_reducible apply below_drewN | (first | omega | (focus (simp; done)) | (focus (simp; omega)) | (focus (simp [World.setCell]; omega))))) (hb4.mono (by (first | omega | (focus (simp; done)) | (focus (simp; omega)) | (focus (simp [World.setCell]; omega))))))
  have y_w4 : w.heap.size ≤ w4.heap.size := BEL.out.size
  clear hb4
  clear pP0 pP1 pP2 fP0 fP1 fP2 zP zP_1 zP_2 zP_3 pW0 pW1 pW2 fW0 fW1 fW2 zW zW_1 zW_2 zW_3 pN0 pN1 pN2 fN0 fN1 fN2 zN zN_1 zN_2 zN_3
  obtain ⟨pP0, pP1, pP2, fP0, fP1, fP2, zP⟩ := HP.out.three
  have zP_1 : w.heap.size < w4.heap.size + 1 := by omega
  have zP_2 : w.heap.size < w4.heap.size + 1 + 1 := by omega
  have zP_3 : w.heap.size < w4.heap.size + 1 + 1 + 1 := by omega
  obtain ⟨pW0, pW1, pW2, fW0, fW1, fW2, zW⟩ := HW.out.three
  have zW_1 : w2.heap.size < w4.heap.size + 1 := by omega
  have zW_2 : w2.heap.size < w4.heap.size + 1 + 1 := by omega
  have zW_3 : w2.heap.size < w4.heap.size + 1 + 1 + 1 := by omega
  obtain ⟨pN0, pN1, pN2, fN0, fN1, fN2, zN⟩ := HN.out.three
  have zN_1 : w2.heap.size + 1 < w4.heap.size + 1 := by omega
  have zN_2 : w2.heap.size + 1 < w4.heap.size + 1 + 1 := by omega
  have zN_3 : w2.heap.size + 1 < w4.heap.size + 1 + 1 + 1 := by omega
  obtain ⟨pX0, pX1, pX2, fX0, fX1, fX2, zX⟩ := HX.out.three
  have zX_1 : w3.heap.size < w4.heap.size + 1 := by omega
  have zX_2 : w3.heap.size < w4.heap.size + 1 + 1 := by omega
  have zX_3 : w3.heap.size < w4.heap.size + 1 + 1 + 1 := by omega
  obtain ⟨pG0, pG1, pG2, fG0, fG1, fG2, zG⟩ := HG.out.three
  have zG_1 : w3.heap.size + 1 < w4.heap.size + 1 := by omega
  have zG_2 : w3.heap.size + 1 < w4.heap.size + 1 + 1 := by omega
  have zG_3 : w3.heap.size + 1 < w4.heap.size + 1 + 1 + 1 := by omega
  go_wp2_with fail
  refine (refTicks_is A cp l w.heap.size _ (HI.out.below (by repeat (first | with_reducible exact BEL.out | with_reducible apply Below.alloc | with_reducible apply Below.setCell | with_reducible apply Below.drew | with_reducible apply below_drewN | (first | omega | (focus (simp; done)) | (focus (simp; omega)) | (focus (simp [World.setCell]; omega))))) (Nat.le_refl _)) 0 HT.out).mono ?_; rintro e w' ⟨rfl, rfl⟩
  go_wp2_with fail
  go_loopw [18] (fun i wr => ∃ (j : Nat) (a b d : Int), j ≤ l.length ∧ i = .int .i64 j ∧ Hid (PP.run r c k (l.take j) = (a, b, d)) ∧ 0 ≤ a ∧ a ≤ 20000 * j ∧ 0 ≤ b ∧ b ≤ 20000 * j ∧ 0 ≤ d ∧ d ≤ r ∧ Hid (Blk wr (w.heap.size) 41 #[.int .i64 r, .int .i64 c, .int .i64 k]) ∧ Hid (Blk wr (w3.heap.size + 1) 46 #[.int .i64 0, .int .i64 0, .int .i64 0]) ∧ Hid (Blk wr (w4.heap.size) 46 #[.int .i64 a, .int .i64 b, .int .i64 d]) ∧ Hid (Blk wr (w4.heap.size + 1) 41 #[.int .i64 r, .int .i64 c, .int .i64 d]) ∧ Hid (Below w.heap.size w wr) ∧ w4.heap.size + 1 < wr.heap.size)
    (fun i _ => l.length - (intOf i).toNat)
  case atStart => exact ⟨0, 0, 0, k, Nat.zero_le _, rfl, rfl, by omega, by omega, by omega, by omega, k0, k1, Lib.hid (Blk.val (by (repeat (first | with_reducible exact HP.out | (with_reducible apply Blk.new'; first | with_reducible rfl | (focus (simp; done)) | (focus (simp; omega))) | with_reducible apply Blk.set_ | with_reducible apply Blk.far | with_reducible apply Blk.alloc | with_reducible apply Blk.drew | with_reducible apply Blk.drewN | (first | omega | (focus (simp; done)) | (focus (simp; omega)) | (focus (simp [World.setCell]; omega)))))) (by first | rfl | simp)), Lib.hid (Blk.val (by (repeat (first | with_reducible exact HG.out | (with_reducible apply Blk.new'; first | with_reducible rfl | (focus (simp; done)) | (focus (simp; omega))) | with_reducible apply Blk.set_ | with_reducible apply Blk.far | with_reducible apply Blk.alloc | with_reducible apply Blk.drew | with_reducible apply Blk.drewN | (first | omega | (focus (simp; done)) | (focus (simp; omega)) | (focus (simp [World.setCell]; omega)))))) (by first | rfl | simp)), Lib.hid (Blk.val (by (repeat (first | (with_reducible apply Blk.new'; first | with_reducible rfl | (focus (simp; done)) | (focus (simp; omega))) | with_reducible apply Blk.set_ | with_reducible apply Blk.far | with_reducible apply Blk.alloc | with_reducible apply Blk.drew | with_reducible apply Blk.drewN | (first | omega | (focus (simp; done)) | (focus (simp; omega)) | (focus (simp [World.setCell]; omega)))))) (by first | rfl | simp)), Lib.hid (Blk.val (by (repeat (first | (with_reducible apply Blk.new'; first | with_reducible rfl | (focus (simp; done)) | (focus (simp; omega))) | with_reducible apply Blk.set_ | with_reducible apply Blk.far | with_reducible apply Blk.alloc | with_reducible apply Blk.drew | with_reducible apply Blk.drewN | (first | omega | (focus (simp; done)) | (focus (simp; omega)) | (focus (simp [World.setCell]; omega)))))) (by first | rfl | simp)), Lib.hid (by repeat (first | with_reducible exact BEL.out | with_reducible apply Below.alloc | with_reducible apply Below.setCell | with_reducible apply Below.drew | with_reducible apply below_drewN | (first | omega | (focus (simp; done)) | (focus (simp; omega)) | (focus (simp [World.setCell]; omega))))), by simp⟩
  clear pP0 pP1 pP2 fP0 fP1 fP2 zP zP_1 zP_2 zP_3 pW0 pW1 pW2 fW0 fW1 fW2 zW zW_1 zW_2 zW_3 pN0 pN1 pN2 fN0 fN1 fN2 zN zN_1 zN_2 zN_3 pX0 pX1 pX2 fX0 fX1 fX2 zX zX_1 zX_2 zX_3 pG0 pG1 pG2 fG0 fG1 fG2 zG zG_1 zG_2 zG_3
  case round =>
    obtain ⟨j, a, b, d, hj, rfl, HR, a0, a1, b0, b1, d0, d1, HP, HG, HL, HY, BEL, zz⟩ := hrel
    have y_wr : w.heap.size ≤ wr.heap.size := BEL.out.size
    have q_P_wr : w.heap.size < wr.heap.size := HP.out.lt
    have q_G_wr : w3.heap.size + 1 < wr.heap.size := HG.out.lt
    have q_L_wr : w4.heap.size < wr.heap.size := HL.out.lt
    have q_Y_wr : w4.heap.size + 1 < wr.heap.size := HY.out.lt
    obtain ⟨pP0, pP1, pP2, fP0, fP1, fP2, zP⟩ := HP.out.three
    have zP_1 : w.heap.size < wr.heap.size + 1 := by omega
    have zP_2 : w.heap.size < wr.heap.size + 1 + 1 := by omega
    have zP_3 : w.heap.size < wr.heap.size + 1 + 1 + 1 := by omega
    obtain ⟨pG0, pG1, pG2, fG0, fG1, fG2, zG⟩ := HG.out.three
    have zG_1 : w3.heap.size + 1 < wr.heap.size + 1 := by omega
    have zG_2 : w3.heap.size + 1 < wr.heap.size + 1 + 1 := by omega
    have zG_3 : w3.heap.size + 1 < wr.heap.size + 1 + 1 + 1 := by omega
    obtain ⟨pL0, pL1, pL2, fL0, fL1, fL2, zL⟩ := HL.out.three
    have zL_1 : w4.heap.size < wr.heap.size + 1 := by omega
    have zL_2 : w4.heap.size < wr.heap.size + 1 + 1 := by omega
    have zL_3 : w4.heap.size < wr.heap.size + 1 + 1 + 1 := by omega
    obtain ⟨pY0, pY1, pY2, fY0, fY1, fY2, zY⟩ := HY.out.three
    have zY_1 : w4.heap.size + 1 < wr.heap.size + 1 := by omega
    have zY_2 : w4.heap.size + 1 < wr.heap.size + 1 + 1 := by omega
    have zY_3 : w4.heap.size + 1 < wr.heap.size + 1 + 1 + 1 := by omega
    by_cases hlt : j < l.length
    · obtain ⟨bb, off, x, rfl, hbb, hc, hx, HT2, HX2⟩ := (HI.out.below BEL.out (Nat.le_refl _)).elem hlt
      have hbb1 : bb < wr.heap.size := by omega
      have hbb2 : bb < wr.heap.size + 1 := by omega
      obtain ⟨x0, x1⟩ := ticks_in HB.out x hx
      obtain ⟨s1, s2, s3, s4, s5, s6⟩ := step_bd r c d x r0 (by omega) d0 x0 (by omega) x1
      have hokd : PoolOk r c d := ⟨H.out.1, H.out.2.1, H.out.2.2.1, H.out.2.2.2.1, d0, d1⟩
      have HD := Lib.hid hokd; clear hokd
      have HS := Lib.hid (PP.run_snoc r c (l.take j) k x)
      clear HX2 hx
      obtain ⟨ua, hua⟩ : ∃ v, PP.went c d x = v := ⟨_, rfl⟩
      obtain ⟨ub, hub⟩ : ∃ v, PP.lost r c d x = v := ⟨_, rfl⟩
      obtain ⟨ud, hud⟩ : ∃ v, PP.left r c d x = v := ⟨_, rfl⟩
      rw [hua] at s1 s2
      rw [hub] at s3 s4
      rw [hud] at s5 s6
      have UA := Lib.hid hua
      have UB := Lib.hid hub
      have UD := Lib.hid hud
      clear hua hub hud
      go_wp2_with fail
      go_region_with (
        (go_at_call 28
         refine (refFlow_is r c d x ua ub ud _ HD.out x0 x1 UA.out UB.out UD.out).mono ?_; rintro e w9 ⟨rfl, hb9⟩
         have z_w9 : wr.heap.size ≤ w9.heap.size := Nat.le_trans (by first | with_reducible exact Nat.le_refl _ | (simp; done) | (simp; omega) | (simp [World.setCell]; done)) hb9.size
         have HZ := Lib.hid (show Blk w9 (wr.heap.size) 46 _ from by (with_reducible apply Blk.below (hb := hb9); (repeat (first | (with_reducible apply Blk.new'; first | with_reducible rfl | (focus (simp; done)) | (focus (simp; omega))) | with_reducible apply Blk.set_ | with_reducible apply Blk.far | with_reducible apply Blk.alloc | with_reducible apply Blk.drew | with_reducible apply Blk.drewN | (first | omega | (focus (simp; done)) | (focus (simp; omega)) | (focus (simp [World.setCell]; omega)))))))
         replace HP := Lib.hid (show Blk w9 (w.heap.size) 41 _ from by (with_reducible apply Blk.below (hb := hb9); (repeat (first | with_reducible exact HP.out | (with_reducible apply Blk.new'; first | with_reducible rfl | (focus (simp; done)) | (focus (simp; omega))) | with_reducible apply Blk.set_ | with_reducible apply Blk.far | with_reducible apply Blk.alloc | with_reducible apply Blk.drew | with_reducible apply Blk.drewN | (first | omega | (focus (simp; done)) | (focus (simp; omega)) | (focus (simp [World.setCell]; omega)))))))
         replace HG := Lib.hid (show Blk w9 (w3.heap.size + 1) 46 _ from by (with_reducible apply Blk.below (hb := hb9); (repeat (first | with_reducible exact HG.out | (with_reducible apply Blk.new'; first | with_reducible rfl | (focus (simp; done)) | (focus (simp; omega))) | with_reducible apply Blk.set_ | with_reducible apply Blk.far | with_reducible apply Blk.alloc | with_reducible apply Blk.drew | with_reducible apply Blk.drewN | (first | omega | (focus (simp; done)) | (focus (simp; omega)) | (focus (simp [World.setCell]; omega)))))))
         replace HL := Lib.hid (show Blk w9 (w4.heap.size) 46 _ from by (with_reducible apply Blk.below (hb := hb9); (repeat (first | with_reducible exact HL.out | (with_reducible apply Blk.new'; first | with_reducible rfl | (focus (simp; done)) | (focus (simp; omega))) | with_reducible apply Blk.set_ | with_reducible apply Blk.far | with_reducible apply Blk.alloc | with_reducible apply Blk.drew | with_reducible apply Blk.drewN | (first | omega | (focus (simp; done)) | (focus (simp; omega)) | (focus (simp [World.setCell]; omega)))))))
         replace HY := Lib.hid (show Blk w9 (w4.heap.size + 1) 41 _ from by (with_reducible apply Blk.below (hb := hb9); (repeat (first | with_reducible exact HY.out | (with_reducible apply Blk.new'; first | with_reducible rfl | (focus (simp; done)) | (focus (simp; omega))) | with_reducible apply Blk.set_ | with_reducible apply Blk.far | with_reducible apply Blk.alloc | with_reducible apply Blk.drew | with_reducible apply Blk.drewN | (first | omega | (focus (simp; done)) | (focus (simp; omega)) | (focus (simp [World.setCell]; omega)))))))
         have q_Z_w9 : wr.heap.size < w9.heap.size := HZ.out.lt
         replace BEL : Hid (Below w.heap.size w w9) := Lib.hid (Below.trans (by repeat (first | with_reducible exact BEL.out | with_reducible apply Below.alloc | with_reducible apply Below.setCell | with_reducible apply Below.drew | with_reducible apply below_drewN | (first | omega | (focus (simp; done)) | (focus (simp; omega)) | (focus (simp [World.setCell]; omega))))) (hb9.mono (by (first | omega | (focus (simp; done)) | (focus (simp; omega)) | (focus (simp [World.setCell]; omega))))))
         have y_w9 : w.heap.size ≤ w9.heap.size := BEL.out.size
         clear hb9
         clear pP0 pP1 pP2 fP0 fP1 fP2 zP zP_1 zP_2 zP_3 pG0 pG1 pG2 fG0 fG1 fG2 zG zG_1 zG_2 zG_3 pL0 pL1 pL2 fL0 fL1 fL2 zL zL_1 zL_2 zL_3 pY0 pY1 pY2 fY0 fY1 fY2 zY zY_1 zY_2 zY_3
         obtain ⟨pP0, pP1, pP2, fP0, fP1, fP2, zP⟩ := HP.out.three
         have zP_1 : w.heap.size < w9.heap.size + 1 := by omega
         have zP_2 : w.heap.size < w9.heap.size + 1 + 1 := by omega
         have zP_3 : w.heap.size < w9.heap.size + 1 + 1 + 1 := by omega
         obtain ⟨pG0, pG1, pG2, fG0, fG1, fG2, zG⟩ := HG.out.three
         have zG_1 : w3.heap.size + 1 < w9.heap.size + 1 := by omega
         have zG_2 : w3.heap.size + 1 < w9.heap.size + 1 + 1 := by omega
         have zG_3 : w3.heap.size + 1 < w9.heap.size + 1 + 1 + 1 := by omega
         obtain ⟨pL0, pL1, pL2, fL0, fL1, fL2, zL⟩ := HL.out.three
         have zL_1 : w4.heap.size < w9.heap.size + 1 := by omega
         have zL_2 : w4.heap.size < w9.heap.size + 1 + 1 := by omega
         have zL_3 : w4.heap.size < w9.heap.size + 1 + 1 + 1 := by omega
         obtain ⟨pY0, pY1, pY2, fY0, fY1, fY2, zY⟩ := HY.out.three
         have zY_1 : w4.heap.size + 1 < w9.heap.size + 1 := by omega
         have zY_2 : w4.heap.size + 1 < w9.heap.size + 1 + 1 := by omega
         have zY_3 : w4.heap.size + 1 < w9.heap.size + 1 + 1 + 1 := by omega
         obtain ⟨pZ0, pZ1, pZ2, fZ0, fZ1, fZ2, zZ⟩ := HZ.out.three
         have zZ_1 : wr.heap.size < w9.heap.size + 1 := by omega
         have zZ_2 : wr.heap.size < w9.heap.size + 1 + 1 := by omega
         have zZ_3 : wr.heap.size < w9.heap.size + 1 + 1 + 1 := by omega))
      all_goals
        go_wp2
        go_roundw
        case rel =>
          refine ⟨j + 1, a + ua, b + ub, ud, by omega, by go_num, ?_, by omega, by omega, by omega, by omega, by omega, by omega, Lib.hid (Blk.val (by (repeat (first | with_reducible exact HP.out | (with_reducible apply Blk.new'; first | with_reducible rfl | (focus (simp; done)) | (focus (simp; omega))) | with_reducible apply Blk.set_ | with_reducible apply Blk.far | with_reducible apply Blk.alloc | with_reducible apply Blk.drew | with_reducible apply Blk.drewN | (first | omega | (focus (simp; done)) | (focus (simp; omega)) | (focus (simp [World.setCell]; omega)))))) (by first | rfl | simp)), Lib.hid (Blk.val (by (repeat (first | with_reducible exact HG.out | (with_reducible apply Blk.new'; first | with_reducible rfl | (focus (simp; done)) | (focus (simp; omega))) | with_reducible apply Blk.set_ | with_reducible apply Blk.far | with_reducible apply Blk.alloc | with_reducible apply Blk.drew | with_reducible apply Blk.drewN | (first | omega | (focus (simp; done)) | (focus (simp; omega)) | (focus (simp [World.setCell]; omega)))))) (by first | rfl | simp)), Lib.hid (Blk.val (by (repeat (first | with_reducible exact HL.out | (with_reducible apply Blk.new'; first | with_reducible rfl | (focus (simp; done)) | (focus (simp; omega))) | with_reducible apply Blk.set_ | with_reducible apply Blk.far | with_reducible apply Blk.alloc | with_reducible apply Blk.drew | with_reducible apply Blk.drewN | (first | omega | (focus (simp; done)) | (focus (simp; omega)) | (focus (simp [World.setCell]; omega)))))) (by first | rfl | simp)), Lib.hid (Blk.val (by (repeat (first | with_reducible exact HY.out | (with_reducible apply Blk.new'; first | with_reducible rfl | (focus (simp; done)) | (focus (simp; omega))) | with_reducible apply Blk.set_ | with_reducible apply Blk.far | with_reducible apply Blk.alloc | with_reducible apply Blk.drew | with_reducible apply Blk.drewN | (first | omega | (focus (simp; done)) | (focus (simp; omega)) | (focus (simp [World.setCell]; omega)))))) (by first | rfl | simp)), Lib.hid (by repeat (first | with_reducible exact BEL.out | with_reducible apply Below.alloc | with_reducible apply Below.setCell | with_reducible apply Below.drew | with_reducible apply below_drewN | (first | omega | (focus (simp; done)) | (focus (simp; omega)) | (focus (simp [World.setCell]; omega))))), ?_⟩
          · show PP.run r c k (l.take (j + 1)) = _
            rw [HT2.out, HS.out, HR.out, ← UA.out, ← UB.out, ← UD.out]
          · simp [World.setCell]; omega
        case measure => simp [intOf]; omega
    · obtain rfl : j = l.length := by omega
      have HE : Hid (PP.run r c k l = (a, b, d)) := Lib.hid (by have := HR.out; rwa [List.take_length] at this)
      go_wp2_with fail
      refine (prun_yes r c k A cp l _ H.out ((HI.out.below (by repeat (first | with_reducible exact BEL.out | with_reducible apply Below.alloc | with_reducible apply Below.setCell | with_reducible apply Below.drew | with_reducible apply below_drewN | (first | omega | (focus (simp; done)) | (focus (simp; omega)) | (focus (simp [World.setCell]; omega))))) (Nat.le_refl _)).more (by (first | omega | (focus (simp; done)) | (focus (simp; omega)) | (focus (simp [World.setCell]; omega))))) hl HB.out).mono ?_; rintro e w5 ⟨rfl, hb5⟩
      have z_w5 : wr.heap.size ≤ w5.heap.size := Nat.le_trans (by first | with_reducible exact Nat.le_refl _ | (simp; done) | (simp; omega) | (simp [World.setCell]; done)) hb5.size
      replace HP := Lib.hid (show Blk w5 (w.heap.size) 41 _ from by (with_reducible apply Blk.below (hb := hb5); (repeat (first | with_reducible exact HP.out | (with_reducible apply Blk.new'; first | with_reducible rfl | (focus (simp; done)) | (focus (simp; omega))) | with_reducible apply Blk.set_ | with_reducible apply Blk.far | with_reducible apply Blk.alloc | with_reducible apply Blk.drew | with_reducible apply Blk.drewN | (first | omega | (focus (simp; done)) | (focus (simp; omega)) | (focus (simp [World.setCell]; omega)))))))
      replace HG := Lib.hid (show Blk w5 (w3.heap.size + 1) 46 _ from by (with_reducible apply Blk.below (hb := hb5); (repeat (first | with_reducible exact HG.out | (with_reducible apply Blk.new'; first | with_reducible rfl | (focus (simp; done)) | (focus (simp; omega))) | with_reducible apply Blk.set_ | with_reducible apply Blk.far | with_reducible apply Blk.alloc | with_reducible apply Blk.drew | with_reducible apply Blk.drewN | (first | omega | (focus (simp; done)) | (focus (simp; omega)) | (focus (simp [World.setCell]; omega)))))))
      replace HL := Lib.hid (show Blk w5 (w4.heap.size) 46 _ from by (with_reducible apply Blk.below (hb := hb5); (repeat (first | with_reducible exact HL.out | (with_reducible apply Blk.new'; first | with_reducible rfl | (focus (simp; done)) | (focus (simp; omega))) | with_reducible apply Blk.set_ | with_reducible apply Blk.far | with_reducible apply Blk.alloc | with_reducible apply Blk.drew | with_reducible apply Blk.drewN | (first | omega | (focus (simp; done)) | (focus (simp; omega)) | (focus (simp [World.setCell]; omega)))))))
      replace HY := Lib.hid (show Blk w5 (w4.heap.size + 1) 41 _ from by (with_reducible apply Blk.below (hb := hb5); (repeat (first | with_reducible exact HY.out | (with_reducible apply Blk.new'; first | with_reducible rfl | (focus (simp; done)) | (focus (simp; omega))) | with_reducible apply Blk.set_ | with_reducible apply Blk.far | with_reducible apply Blk.alloc | with_reducible apply Blk.drew | with_reducible apply Blk.drewN | (first | omega | (focus (simp; done)) | (focus (simp; omega)) | (focus (simp [World.setCell]; omega)))))))
      replace BEL : Hid (Below w.heap.size w w5) := Lib.hid (Below.trans (by repeat (first | with_reducible exact BEL.out | with_reducible apply Below.alloc | with_reducible apply Below.setCell | with_reducible apply Below.drew | with_reducible apply below_drewN | (first | omega | (focus (simp; done)) | (focus (simp; omega)) | (focus (simp [World.setCell]; omega))))) (hb5.mono (by (first | omega | (focus (simp; done)) | (focus (simp; omega)) | (focus (simp [World.setCell]; omega))))))
      have y_w5 : w.heap.size ≤ w5.heap.size := BEL.out.size
      clear hb5
      clear pP0 pP1 pP2 fP0 fP1 fP2 zP zP_1 zP_2 zP_3 pG0 pG1 pG2 fG0 fG1 fG2 zG zG_1 zG_2 zG_3 pL0 pL1 pL2 fL0 fL1 fL2 zL zL_1 zL_2 zL_3 pY0 pY1 pY2 fY0 fY1 fY2 zY zY_1 zY_2 zY_3
      rw [HE.out]
      obtain ⟨pP0, pP1, pP2, fP0, fP1, fP2, zP⟩ := HP.out.three
      have zP_1 : w.heap.size < w5.heap.size + 1 := by omega
      have zP_2 : w.heap.size < w5.heap.size + 1 + 1 := by omega
      have zP_3 : w.heap.size < w5.heap.size + 1 + 1 + 1 := by omega
      obtain ⟨pG0, pG1, pG2, fG0, fG1, fG2, zG⟩ := HG.out.three
      have zG_1 : w3.heap.size + 1 < w5.heap.size + 1 := by omega
      have zG_2 : w3.heap.size + 1 < w5.heap.size + 1 + 1 := by omega
      have zG_3 : w3.heap.size + 1 < w5.heap.size + 1 + 1 + 1 := by omega
      obtain ⟨pL0, pL1, pL2, fL0, fL1, fL2, zL⟩ := HL.out.three
      have zL_1 : w4.heap.size < w5.heap.size + 1 := by omega
      have zL_2 : w4.heap.size < w5.heap.size + 1 + 1 := by omega
      have zL_3 : w4.heap.size < w5.heap.size + 1 + 1 + 1 := by omega
      obtain ⟨pY0, pY1, pY2, fY0, fY1, fY2, zY⟩ := HY.out.three
      have zY_1 : w4.heap.size + 1 < w5.heap.size + 1 := by omega
      have zY_2 : w4.heap.size + 1 < w5.heap.size + 1 + 1 := by omega
      have zY_3 : w4.heap.size + 1 < w5.heap.size + 1 + 1 + 1 := by omega
      go_wp2_with fail
      refine (same_ok _).mono ?_; rintro e w6 ⟨rfl, hb6⟩
      have z_w6 : w5.heap.size ≤ w6.heap.size := Nat.le_trans (by first | with_reducible exact Nat.le_refl _ | (simp; done) | (simp; omega) | (simp [World.setCell]; done)) hb6.size
      replace HP := Lib.hid (show Blk w6 (w.heap.size) 41 _ from by (with_reducible apply Blk.below (hb := hb6); (repeat (first | with_reducible exact HP.out | (with_reducible apply Blk.new'; first | with_reducible rfl | (focus (simp; done)) | (focus (simp; omega))) | with_reducible apply Blk.set_ | with_reducible apply Blk.far | with_reducible apply Blk.alloc | with_reducible apply Blk.drew | with_reducible apply Blk.drewN | (first | omega | (focus (simp; done)) | (focus (simp; omega)) | (focus (simp [World.setCell]; omega)))))))
      replace HG := Lib.hid (show Blk w6 (w3.heap.size + 1) 46 _ from by (with_reducible apply Blk.below (hb := hb6); (repeat (first | with_reducible exact HG.out | (with_reducible apply Blk.new'; first | with_reducible rfl | (focus (simp; done)) | (focus (simp; omega))) | with_reducible apply Blk.set_ | with_reducible apply Blk.far | with_reducible apply Blk.alloc | with_reducible apply Blk.drew | with_reducible apply Blk.drewN | (first | omega | (focus (simp; done)) | (focus (simp; omega)) | (focus (simp [World.setCell]; omega)))))))
      replace HL := Lib.hid (show Blk w6 (w4.heap.size) 46 _ from by (with_reducible apply Blk.below (hb := hb6); (repeat (first | with_reducible exact HL.out | (with_reducible apply Blk.new'; first | with_reducible rfl | (focus (simp; done)) | (focus (simp; omega))) | with_reducible apply Blk.set_ | with_reducible apply Blk.far | with_reducible apply Blk.alloc | with_reducible apply Blk.drew | with_reducible apply Blk.drewN | (first | omega | (focus (simp; done)) | (focus (simp; omega)) | (focus (simp [World.setCell]; omega)))))))
      replace HY := Lib.hid (show Blk w6 (w4.heap.size + 1) 41 _ from by (with_reducible apply Blk.below (hb := hb6); (repeat (first | with_reducible exact HY.out | (with_reducible apply Blk.new'; first | with_reducible rfl | (focus (simp; done)) | (focus (simp; omega))) | with_reducible apply Blk.set_ | with_reducible apply Blk.far | with_reducible apply Blk.alloc | with_reducible apply Blk.drew | with_reducible apply Blk.drewN | (first | omega | (focus (simp; done)) | (focus (simp; omega)) | (focus (simp [World.setCell]; omega)))))))
      replace BEL : Hid (Below w.heap.size w w6) := Lib.hid (Below.trans (by repeat (first | with_reducible exact BEL.out | with_reducible apply Below.alloc | with_reducible apply Below.setCell | with_reducible apply Below.drew | with_reducible apply below_drewN | (first | omega | (focus (simp; done)) | (focus (simp; omega)) | (focus (simp [World.setCell]; omega))))) (hb6.mono (by (first | omega | (focus (simp; done)) | (focus (simp; omega)) | (focus (simp [World.setCell]; omega))))))
      have y_w6 : w.heap.size ≤ w6.heap.size := BEL.out.size
      clear hb6
      clear pP0 pP1 pP2 fP0 fP1 fP2 zP zP_1 zP_2 zP_3 pG0 pG1 pG2 fG0 fG1 fG2 zG zG_1 zG_2 zG_3 pL0 pL1 pL2 fL0 fL1 fL2 zL zL_1 zL_2 zL_3 pY0 pY1 pY2 fY0 fY1 fY2 zY zY_1 zY_2 zY_3
      obtain ⟨pP0, pP1, pP2, fP0, fP1, fP2, zP⟩ := HP.out.three
      have zP_1 : w.heap.size < w6.heap.size + 1 := by omega
      have zP_2 : w.heap.size < w6.heap.size + 1 + 1 := by omega
      have zP_3 : w.heap.size < w6.heap.size + 1 + 1 + 1 := by omega
      obtain ⟨pG0, pG1, pG2, fG0, fG1, fG2, zG⟩ := HG.out.three
      have zG_1 : w3.heap.size + 1 < w6.heap.size + 1 := by omega
      have zG_2 : w3.heap.size + 1 < w6.heap.size + 1 + 1 := by omega
      have zG_3 : w3.heap.size + 1 < w6.heap.size + 1 + 1 + 1 := by omega
      obtain ⟨pL0, pL1, pL2, fL0, fL1, fL2, zL⟩ := HL.out.three
      have zL_1 : w4.heap.size < w6.heap.size + 1 := by omega
      have zL_2 : w4.heap.size < w6.heap.size + 1 + 1 := by omega
      have zL_3 : w4.heap.size < w6.heap.size + 1 + 1 + 1 := by omega
      obtain ⟨pY0, pY1, pY2, fY0, fY1, fY2, zY⟩ := HY.out.three
      have zY_1 : w4.heap.size + 1 < w6.heap.size + 1 := by omega
      have zY_2 : w4.heap.size + 1 < w6.heap.size + 1 + 1 := by omega
      have zY_3 : w4.heap.size + 1 < w6.heap.size + 1 + 1 + 1 := by omega
      go_wp2
      go_ret
      exact ⟨rfl, (by repeat (first | with_reducible exact BEL.out | with_reducible apply Below.alloc | with_reducible apply Below.setCell | with_reducible apply Below.drew | with_reducible apply below_drewN | (first | omega | (focus (simp; done)) | (focus (simp; omega)) | (focus (simp [World.setCell]; omega)))))⟩
set_option maxHeartbeats 8000000 in
set_option maxRecDepth 100000 in
theorem poolTells_in_full (r c k n : Int) (A : Option Addr) (cp : Nat) (l : List Int) (w : World) (hi : Ints w w.heap.size A cp l) (hg : Laid w) (ok : PoolOk r c k) (n0 : 0 ≤ n) (n1 : n ≤ 10000) (hl : 60 < l.length) :
    Calls Tryd.prog 5 #[.agg #[.int .i64 r, .int .i64 c, .int .i64 k], .int .i64 n, .slice A l.length cp] w fun e w' => e = .returned (.bool true) ∧ Below w.heap.size w w' := by
  have LAID := Lib.hid hg; clear hg
  have HI := Lib.hid hi; clear hi
  have H := Lib.hid ok
  clear ok
  obtain ⟨va, hva⟩ : ∃ v, PP.went c k n = v := ⟨_, rfl⟩
  obtain ⟨vb, hvb⟩ : ∃ v, PP.lost r c k n = v := ⟨_, rfl⟩
  obtain ⟨vd, hvd⟩ : ∃ v, PP.left r c k n = v := ⟨_, rfl⟩
  have VA := Lib.hid hva
  have VB := Lib.hid hvb
  have VD := Lib.hid hvd
  clear hva hvb hvd
  have hm := Nat.le_trans HI.out.le HI.out.cap
  have HT : Hid (ticksErr l = 4) := Lib.hid (by unfold ticksErr; rw [if_pos hl])
  have BEL : Hid (Below w.heap.size w w) := Lib.hid (Below.refl _ _)
  have yB : w.heap.size ≤ w.heap.size := Nat.le_refl _
  go_enter Tryd.func5, Tryd.ntmps5
  go_wp2_with fail
  refine (refPool_yes r c k _ H.out).mono ?_; rintro e w1 ⟨rfl, hb1⟩
  have z_w1 : w.heap.size ≤ w1.heap.size := Nat.le_trans (by first | with_reducible exact Nat.le_refl _ | (simp; done) | (simp; omega) | (simp [World.setCell]; done)) hb1.size
  have HP := Lib.hid (show Blk w1 (w.heap.size) 41 _ from by (with_reducible apply Blk.below (hb := hb1); (repeat (first | (with_reducible apply Blk.new'; first | with_reducible rfl | (focus (simp; done)) | (focus (simp; omega))) | with_reducible apply Blk.set_ | with_reducible apply Blk.far | with_reducible apply Blk.alloc | with_reducible apply Blk.drew | with_reducible apply Blk.drewN | (first | omega | (focus (simp; done)) | (focus (simp; omega)) | (focus (simp [World.setCell]; omega)))))))
  have q_P_w1 : w.heap.size < w1.heap.size := HP.out.lt
  replace BEL : Hid (Below w.heap.size w w1) := Lib.hid (Below.trans (by repeat (first | with_reducible exact BEL.out | with_reducible apply Below.alloc | with_reducible apply Below.setCell | with_reducible apply Below.drew | with_reducible apply below_drewN | (first | omega | (focus (simp; done)) | (focus (simp; omega)) | (focus (simp [World.setCell]; omega))))) (hb1.mono (by (first | omega | (focus (simp; done)) | (focus (simp; omega)) | (focus (simp [World.setCell]; omega))))))
  have y_w1 : w.heap.size ≤ w1.heap.size := BEL.out.size
  clear hb1
  obtain ⟨pP0, pP1, pP2, fP0, fP1, fP2, zP⟩ := HP.out.three
  have zP_1 : w.heap.size < w1.heap.size + 1 := by omega
  have zP_2 : w.heap.size < w1.heap.size + 1 + 1 := by omega
  have zP_3 : w.heap.size < w1.heap.size + 1 + 1 + 1 := by omega
  go_wp2_with fail
  refine (pcheck_yes r c k _ H.out).mono ?_; rintro e w' ⟨rfl, rfl⟩
  go_wp2_with fail
  refine (same_ok _).mono ?_; rintro e w2 ⟨rfl, hb2⟩
  have z_w2 : w1.heap.size ≤ w2.heap.size := Nat.le_trans (by first | with_reducible exact Nat.le_refl _ | (simp; done) | (simp; omega) | (simp [World.setCell]; done)) hb2.size
  replace HP := Lib.hid (show Blk w2 (w.heap.size) 41 _ from by (with_reducible apply Blk.below (hb := hb2); (repeat (first | with_reducible exact HP.out | (with_reducible apply Blk.new'; first | with_reducible rfl | (focus (simp; done)) | (focus (simp; omega))) | with_reducible apply Blk.set_ | with_reducible apply Blk.far | with_reducible apply Blk.alloc | with_reducible apply Blk.drew | with_reducible apply Blk.drewN | (first | omega | (focus (simp; done)) | (focus (simp; omega)) | (focus (simp [World.setCell]; omega)))))))
  replace BEL : Hid (Below w.heap.size w w2) := Lib.hid (Below.trans (by repeat (first | with_reducible exact BEL.out | with_reducible apply Below.alloc | with_reducible apply Below.setCell | with_reducible apply Below.drew | with_reducible apply below_drewN | (first | omega | (focus (simp; done)) | (focus (simp; omega)) | (focus (simp [World.setCell]; omega))))) (hb2.mono (by (first | omega | (focus (simp; done)) | (focus (simp; omega)) | (focus (simp [World.setCell]; omega))))))
  have y_w2 : w.heap.size ≤ w2.heap.size := BEL.out.size
  clear hb2
  clear pP0 pP1 pP2 fP0 fP1 fP2 zP zP_1 zP_2 zP_3
  obtain ⟨pP0, pP1, pP2, fP0, fP1, fP2, zP⟩ := HP.out.three
  have zP_1 : w.heap.size < w2.heap.size + 1 := by omega
  have zP_2 : w.heap.size < w2.heap.size + 1 + 1 := by omega
  have zP_3 : w.heap.size < w2.heap.size + 1 + 1 + 1 := by omega
  go_wp2_with fail
  refine (refFlow_is r c k n va vb vd _ H.out n0 n1 VA.out VB.out VD.out).mono ?_; rintro e w3 ⟨rfl, hb3⟩
  have z_w3 : w2.heap.size ≤ w3.heap.size := Nat.le_trans (by first | with_reducible exact Nat.le_refl _ | (simp; done) | (simp; omega) | (simp [World.setCell]; done)) hb3.size
  have HW := Lib.hid (show Blk w3 (w2.heap.size) 41 _ from by (with_reducible apply Blk.below (hb := hb3); (repeat (first | (with_reducible apply Blk.new'; first | with_reducible rfl | (focus (simp; done)) | (focus (simp; omega))) | with_reducible apply Blk.set_ | with_reducible apply Blk.far | with_reducible apply Blk.alloc | with_reducible apply Blk.drew | with_reducible apply Blk.drewN | (first | omega | (focus (simp; done)) | (focus (simp; omega)) | (focus (simp [World.setCell]; omega)))))))
  have HN := Lib.hid (show Blk w3 (w2.heap.size + 1) 46 _ from by (with_reducible apply Blk.below (hb := hb3); (repeat (first | (with_reducible apply Blk.new'; first | with_reducible rfl | (focus (simp; done)) | (focus (simp; omega))) | with_reducible apply Blk.set_ | with_reducible apply Blk.far | with_reducible apply Blk.alloc | with_reducible apply Blk.drew | with_reducible apply Blk.drewN | (first | omega | (focus (simp; done)) | (focus (simp; omega)) | (focus (simp [World.setCell]; omega)))))))
  replace HP := Lib.hid (show Blk w3 (w.heap.size) 41 _ from by (with_reducible apply Blk.below (hb := hb3); (repeat (first | with_reducible exact HP.out | (with_reducible apply Blk.new'; first | with_reducible rfl | (focus (simp; done)) | (focus (simp; omega))) | with_reducible apply Blk.set_ | with_reducible apply Blk.far | with_reducible apply Blk.alloc | with_reducible apply Blk.drew | with_reducible apply Blk.drewN | (first | omega | (focus (simp; done)) | (focus (simp; omega)) | (focus (simp [World.setCell]; omega)))))))
  have q_W_w3 : w2.heap.size < w3.heap.size := HW.out.lt
  have q_N_w3 : w2.heap.size + 1 < w3.heap.size := HN.out.lt
  replace BEL : Hid (Below w.heap.size w w3) := Lib.hid (Below.trans (by repeat (first | with_reducible exact BEL.out | with_reducible apply Below.alloc | with_reducible apply Below.setCell | with_reducible apply Below.drew | with_reducible apply below_drewN | (first | omega | (focus (simp; done)) | (focus (simp; omega)) | (focus (simp [World.setCell]; omega))))) (hb3.mono (by (first | omega | (focus (simp; done)) | (focus (simp; omega)) | (focus (simp [World.setCell]; omega))))))
  have y_w3 : w.heap.size ≤ w3.heap.size := BEL.out.size
  clear hb3
  clear pP0 pP1 pP2 fP0 fP1 fP2 zP zP_1 zP_2 zP_3
  obtain ⟨pP0, pP1, pP2, fP0, fP1, fP2, zP⟩ := HP.out.three
  have zP_1 : w.heap.size < w3.heap.size + 1 := by omega
  have zP_2 : w.heap.size < w3.heap.size + 1 + 1 := by omega
  have zP_3 : w.heap.size < w3.heap.size + 1 + 1 + 1 := by omega
  obtain ⟨pW0, pW1, pW2, fW0, fW1, fW2, zW⟩ := HW.out.three
  have zW_1 : w2.heap.size < w3.heap.size + 1 := by omega
  have zW_2 : w2.heap.size < w3.heap.size + 1 + 1 := by omega
  have zW_3 : w2.heap.size < w3.heap.size + 1 + 1 + 1 := by omega
  obtain ⟨pN0, pN1, pN2, fN0, fN1, fN2, zN⟩ := HN.out.three
  have zN_1 : w2.heap.size + 1 < w3.heap.size + 1 := by omega
  have zN_2 : w2.heap.size + 1 < w3.heap.size + 1 + 1 := by omega
  have zN_3 : w2.heap.size + 1 < w3.heap.size + 1 + 1 + 1 := by omega
  go_wp2_with fail
  refine (ptick_is r c k n va vb vd _ H.out n0 n1 VA.out VB.out VD.out).mono ?_; rintro e w4 ⟨rfl, hb4⟩
  have z_w4 : w3.heap.size ≤ w4.heap.size := Nat.le_trans (by first | with_reducible exact Nat.le_refl _ | (simp; done) | (simp; omega) | (simp [World.setCell]; done)) hb4.size
  replace HP := Lib.hid (show Blk w4 (w.heap.size) 41 _ from by (with_reducible apply Blk.below (hb := hb4); (repeat (first | with_reducible exact HP.out | (with_reducible apply Blk.new'; first | with_reducible rfl | (focus (simp; done)) | (focus (simp; omega))) | with_reducible apply Blk.set_ | with_reducible apply Blk.far | with_reducible apply Blk.alloc | with_reducible apply Blk.drew | with_reducible apply Blk.drewN | (first | omega | (focus (simp; done)) | (focus (simp; omega)) | (focus (simp [World.setCell]; omega)))))))
  replace HW := Lib.hid (show Blk w4 (w2.heap.size) 41 _ from by (with_reducible apply Blk.below (hb := hb4); (repeat (first | with_reducible exact HW.out | (with_reducible apply Blk.new'; first | with_reducible rfl | (focus (simp; done)) | (focus (simp; omega))) | with_reducible apply Blk.set_ | with_reducible apply Blk.far | with_reducible apply Blk.alloc | with_reducible apply Blk.drew | with_reducible apply Blk.drewN | (first | omega | (focus (simp; done)) | (focus (simp; omega)) | (focus (simp [World.setCell]; omega)))))))
  replace HN := Lib.hid (show Blk w4 (w2.heap.size + 1) 46 _ from by (with_reducible apply Blk.below (hb := hb4); (repeat (first | with_reducible exact HN.out | (with_reducible apply Blk.new'; first | with_reducible rfl | (focus (simp; done)) | (focus (simp; omega))) | with_reducible apply Blk.set_ | with_reducible apply Blk.far | with_reducible apply Blk.alloc | with_reducible apply Blk.drew | with_reducible apply Blk.drewN | (first | omega | (focus (simp; done)) | (focus (simp; omega)) | (focus (simp [World.setCell]; omega)))))))
  replace BEL : Hid (Below w.heap.size w w4) := Lib.hid (Below.trans (by repeat (first | with_reducible exact BEL.out | with_reducible apply Below.alloc | with_reducible apply Below.setCell | with_reducible apply Below.drew | with_reducible apply below_drewN | (first | omega | (focus (simp; done)) | (focus (simp; omega)) | (focus (simp [World.setCell]; omega))))) (hb4.mono (by (first | omega | (focus (simp; done)) | (focus (simp; omega)) | (focus (simp [World.setCell]; omega))))))
  have y_w4 : w.heap.size ≤ w4.heap.size := BEL.out.size
  clear hb4
  clear pP0 pP1 pP2 fP0 fP1 fP2 zP zP_1 zP_2 zP_3 pW0 pW1 pW2 fW0 fW1 fW2 zW zW_1 zW_2 zW_3 pN0 pN1 pN2 fN0 fN1 fN2 zN zN_1 zN_2 zN_3
  obtain ⟨pP0, pP1, pP2, fP0, fP1, fP2, zP⟩ := HP.out.three
  have zP_1 : w.heap.size < w4.heap.size + 1 := by omega
  have zP_2 : w.heap.size < w4.heap.size + 1 + 1 := by omega
  have zP_3 : w.heap.size < w4.heap.size + 1 + 1 + 1 := by omega
  obtain ⟨pW0, pW1, pW2, fW0, fW1, fW2, zW⟩ := HW.out.three
  have zW_1 : w2.heap.size < w4.heap.size + 1 := by omega
  have zW_2 : w2.heap.size < w4.heap.size + 1 + 1 := by omega
  have zW_3 : w2.heap.size < w4.heap.size + 1 + 1 + 1 := by omega
  obtain ⟨pN0, pN1, pN2, fN0, fN1, fN2, zN⟩ := HN.out.three
  have zN_1 : w2.heap.size + 1 < w4.heap.size + 1 := by omega
  have zN_2 : w2.heap.size + 1 < w4.heap.size + 1 + 1 := by omega
  have zN_3 : w2.heap.size + 1 < w4.heap.size + 1 + 1 + 1 := by omega
  go_wp2_with fail
  refine (same_ok _).mono ?_; rintro e w5 ⟨rfl, hb5⟩
  have z_w5 : w4.heap.size ≤ w5.heap.size := Nat.le_trans (by first | with_reducible exact Nat.le_refl _ | (simp; done) | (simp; omega) | (simp [World.setCell]; done)) hb5.size
  have HX := Lib.hid (show Blk w5 (w4.heap.size) 41 _ from by (with_reducible apply Blk.below (hb := hb5); (repeat (first | (with_reducible apply Blk.new'; first | with_reducible rfl | (focus (simp; done)) | (focus (simp; omega))) | with_reducible apply Blk.set_ | with_reducible apply Blk.far | with_reducible apply Blk.alloc | with_reducible apply Blk.drew | with_reducible apply Blk.drewN | (first | omega | (focus (simp; done)) | (focus (simp; omega)) | (focus (simp [World.setCell]; omega)))))))
  have HG := Lib.hid (show Blk w5 (w4.heap.size + 1) 46 _ from by (with_reducible apply Blk.below (hb := hb5); (repeat (first | (with_reducible apply Blk.new'; first | with_reducible rfl | (focus (simp; done)) | (focus (simp; omega))) | with_reducible apply Blk.set_ | with_reducible apply Blk.far | with_reducible apply Blk.alloc | with_reducible apply Blk.drew | with_reducible apply Blk.drewN | (first | omega | (focus (simp; done)) | (focus (simp; omega)) | (focus (simp [World.setCell]; omega)))))))
  replace HP := Lib.hid (show Blk w5 (w.heap.size) 41 _ from by (with_reducible apply Blk.below (hb := hb5); (repeat (first | with_reducible exact HP.out | (with_reducible apply Blk.new'; first | with_reducible rfl | (focus (simp; done)) | (focus (simp; omega))) | with_reducible apply Blk.set_ | with_reducible apply Blk.far | with_reducible apply Blk.alloc | with_reducible apply Blk.drew | with_reducible apply Blk.drewN | (first | omega | (focus (simp; done)) | (focus (simp; omega)) | (focus (simp [World.setCell]; omega)))))))
  replace HW := Lib.hid (show Blk w5 (w2.heap.size) 41 _ from by (with_reducible apply Blk.below (hb := hb5); (repeat (first | with_reducible exact HW.out | (with_reducible apply Blk.new'; first | with_reducible rfl | (focus (simp; done)) | (focus (simp; omega))) | with_reducible apply Blk.set_ | with_reducible apply Blk.far | with_reducible apply Blk.alloc | with_reducible apply Blk.drew | with_reducible apply Blk.drewN | (first | omega | (focus (simp; done)) | (focus (simp; omega)) | (focus (simp [World.setCell]; omega)))))))
  replace HN := Lib.hid (show Blk w5 (w2.heap.size + 1) 46 _ from by (with_reducible apply Blk.below (hb := hb5); (repeat (first | with_reducible exact HN.out | (with_reducible apply Blk.new'; first | with_reducible rfl | (focus (simp; done)) | (focus (simp; omega))) | with_reducible apply Blk.set_ | with_reducible apply Blk.far | with_reducible apply Blk.alloc | with_reducible apply Blk.drew | with_reducible apply Blk.drewN | (first | omega | (focus (simp; done)) | (focus (simp; omega)) | (focus (simp [World.setCell]; omega)))))))
  have q_X_w5 : w4.heap.size < w5.heap.size := HX.out.lt
  have q_G_w5 : w4.heap.size + 1 < w5.heap.size := HG.out.lt
  replace BEL : Hid (Below w.heap.size w w5) := Lib.hid (Below.trans (by repeat (first | with_reducible exact BEL.out | with_reducible apply Below.alloc | with_reducible apply Below.setCell | with_reducible apply Below.drew | with_reducible apply below_drewN | (first | omega | (focus (simp; done)) | (focus (simp; omega)) | (focus (simp [World.setCell]; omega))))) (hb5.mono (by (first | omega | (focus (simp; done)) | (focus (simp; omega)) | (focus (simp [World.setCell]; omega))))))
  have y_w5 : w.heap.size ≤ w5.heap.size := BEL.out.size
  clear hb5
  clear pP0 pP1 pP2 fP0 fP1 fP2 zP zP_1 zP_2 zP_3 pW0 pW1 pW2 fW0 fW1 fW2 zW zW_1 zW_2 zW_3 pN0 pN1 pN2 fN0 fN1 fN2 zN zN_1 zN_2 zN_3
  obtain ⟨pP0, pP1, pP2, fP0, fP1, fP2, zP⟩ := HP.out.three
  have zP_1 : w.heap.size < w5.heap.size + 1 := by omega
  have zP_2 : w.heap.size < w5.heap.size + 1 + 1 := by omega
  have zP_3 : w.heap.size < w5.heap.size + 1 + 1 + 1 := by omega
  obtain ⟨pW0, pW1, pW2, fW0, fW1, fW2, zW⟩ := HW.out.three
  have zW_1 : w2.heap.size < w5.heap.size + 1 := by omega
  have zW_2 : w2.heap.size < w5.heap.size + 1 + 1 := by omega
  have zW_3 : w2.heap.size < w5.heap.size + 1 + 1 + 1 := by omega
  obtain ⟨pN0, pN1, pN2, fN0, fN1, fN2, zN⟩ := HN.out.three
  have zN_1 : w2.heap.size + 1 < w5.heap.size + 1 := by omega
  have zN_2 : w2.heap.size + 1 < w5.heap.size + 1 + 1 := by omega
  have zN_3 : w2.heap.size + 1 < w5.heap.size + 1 + 1 + 1 := by omega
  obtain ⟨pX0, pX1, pX2, fX0, fX1, fX2, zX⟩ := HX.out.three
  have zX_1 : w4.heap.size < w5.heap.size + 1 := by omega
  have zX_2 : w4.heap.size < w5.heap.size + 1 + 1 := by omega
  have zX_3 : w4.heap.size < w5.heap.size + 1 + 1 + 1 := by omega
  obtain ⟨pG0, pG1, pG2, fG0, fG1, fG2, zG⟩ := HG.out.three
  have zG_1 : w4.heap.size + 1 < w5.heap.size + 1 := by omega
  have zG_2 : w4.heap.size + 1 < w5.heap.size + 1 + 1 := by omega
  have zG_3 : w4.heap.size + 1 < w5.heap.size + 1 + 1 + 1 := by omega
  go_wp2_with fail
  refine (refTicks_is A cp l w.heap.size _ (HI.out.below (by repeat (first | with_reducible exact BEL.out | with_reducible apply Below.alloc | with_reducible apply Below.setCell | with_reducible apply Below.drew | with_reducible apply below_drewN | (first | omega | (focus (simp; done)) | (focus (simp; omega)) | (focus (simp [World.setCell]; omega))))) (Nat.le_refl _)) 4 HT.out).mono ?_; rintro e w' ⟨rfl, rfl⟩
  have h0 : 0 < l.length := by omega
  go_wp2_with fail
  refine wp_loop_rounds 1 ?_
  rw [rounds_succ]
  go_wp2_with fail
  refine (prun_full r c k A cp l.length _ H.out hl hm).mono ?_; rintro e w6 ⟨rfl, hb6⟩
  clear HW
  clear HN
  clear HX
  have z_w6 : w5.heap.size ≤ w6.heap.size := Nat.le_trans (by first | with_reducible exact Nat.le_refl _ | (simp; done) | (simp; omega) | (simp [World.setCell]; done)) hb6.size
  have HL := Lib.hid (show Blk w6 (w5.heap.size) 46 _ from by (with_reducible apply Blk.below (hb := hb6); (repeat (first | (with_reducible apply Blk.new'; first | with_reducible rfl | (focus (simp; done)) | (focus (simp; omega))) | with_reducible apply Blk.set_ | with_reducible apply Blk.far | with_reducible apply Blk.alloc | with_reducible apply Blk.drew | with_reducible apply Blk.drewN | (first | omega | (focus (simp; done)) | (focus (simp; omega)) | (focus (simp [World.setCell]; omega)))))))
  replace HP := Lib.hid (show Blk w6 (w.heap.size) 41 _ from by (with_reducible apply Blk.below (hb := hb6); (repeat (first | with_reducible exact HP.out | (with_reducible apply Blk.new'; first | with_reducible rfl | (focus (simp; done)) | (focus (simp; omega))) | with_reducible apply Blk.set_ | with_reducible apply Blk.far | with_reducible apply Blk.alloc | with_reducible apply Blk.drew | with_reducible apply Blk.drewN | (first | omega | (focus (simp; done)) | (focus (simp; omega)) | (focus (simp [World.setCell]; omega)))))))
  replace HG := Lib.hid (show Blk w6 (w4.heap.size + 1) 46 _ from by (with_reducible apply Blk.below (hb := hb6); (repeat (first | with_reducible exact HG.out | (with_reducible apply Blk.new'; first | with_reducible rfl | (focus (simp; done)) | (focus (simp; omega))) | with_reducible apply Blk.set_ | with_reducible apply Blk.far | with_reducible apply Blk.alloc | with_reducible apply Blk.drew | with_reducible apply Blk.drewN | (first | omega | (focus (simp; done)) | (focus (simp; omega)) | (focus (simp [World.setCell]; omega)))))))
  have q_L_w6 : w5.heap.size < w6.heap.size := HL.out.lt
  replace BEL : Hid (Below w.heap.size w w6) := Lib.hid (Below.trans (by repeat (first | with_reducible exact BEL.out | with_reducible apply Below.alloc | with_reducible apply Below.setCell | with_reducible apply Below.drew | with_reducible apply below_drewN | (first | omega | (focus (simp; done)) | (focus (simp; omega)) | (focus (simp [World.setCell]; omega))))) (hb6.mono (by (first | omega | (focus (simp; done)) | (focus (simp; omega)) | (focus (simp [World.setCell]; omega))))))
  have y_w6 : w.heap.size ≤ w6.heap.size := BEL.out.size
  clear hb6
  clear pP0 pP1 pP2 fP0 fP1 fP2 zP zP_1 zP_2 zP_3 pW0 pW1 pW2 fW0 fW1 fW2 zW zW_1 zW_2 zW_3 pN0 pN1 pN2 fN0 fN1 fN2 zN zN_1 zN_2 zN_3 pX0 pX1 pX2 fX0 fX1 fX2 zX zX_1 zX_2 zX_3 pG0 pG1 pG2 fG0 fG1 fG2 zG zG_1 zG_2 zG_3
  obtain ⟨pP0, pP1, pP2, fP0, fP1, fP2, zP⟩ := HP.out.three
  have zP_1 : w.heap.size < w6.heap.size + 1 := by omega
  have zP_2 : w.heap.size < w6.heap.size + 1 + 1 := by omega
  have zP_3 : w.heap.size < w6.heap.size + 1 + 1 + 1 := by omega
  obtain ⟨pG0, pG1, pG2, fG0, fG1, fG2, zG⟩ := HG.out.three
  have zG_1 : w4.heap.size + 1 < w6.heap.size + 1 := by omega
  have zG_2 : w4.heap.size + 1 < w6.heap.size + 1 + 1 := by omega
  have zG_3 : w4.heap.size + 1 < w6.heap.size + 1 + 1 + 1 := by omega
  obtain ⟨pL0, pL1, pL2, fL0, fL1, fL2, zL⟩ := HL.out.three
  have zL_1 : w5.heap.size < w6.heap.size + 1 := by omega
  have zL_2 : w5.heap.size < w6.heap.size + 1 + 1 := by omega
  have zL_3 : w5.heap.size < w6.heap.size + 1 + 1 + 1 := by omega
  go_wp2_with fail
  refine (same_hit 4 _ (LAID.out.below (by repeat (first | with_reducible exact BEL.out | with_reducible apply Below.alloc | with_reducible apply Below.setCell | with_reducible apply Below.drew | with_reducible apply below_drewN | (first | omega | (focus (simp; done)) | (focus (simp; omega)) | (focus (simp [World.setCell]; omega))))))).mono ?_; rintro e w7 ⟨rfl, hb7⟩
  have z_w7 : w6.heap.size ≤ w7.heap.size := Nat.le_trans (by first | with_reducible exact Nat.le_refl _ | (simp; done) | (simp; omega) | (simp [World.setCell]; done)) hb7.size
  replace HP := Lib.hid (show Blk w7 (w.heap.size) 41 _ from by (with_reducible apply Blk.below (hb := hb7); (repeat (first | with_reducible exact HP.out | (with_reducible apply Blk.new'; first | with_reducible rfl | (focus (simp; done)) | (focus (simp; omega))) | with_reducible apply Blk.set_ | with_reducible apply Blk.far | with_reducible apply Blk.alloc | with_reducible apply Blk.drew | with_reducible apply Blk.drewN | (first | omega | (focus (simp; done)) | (focus (simp; omega)) | (focus (simp [World.setCell]; omega)))))))
  replace HG := Lib.hid (show Blk w7 (w4.heap.size + 1) 46 _ from by (with_reducible apply Blk.below (hb := hb7); (repeat (first | with_reducible exact HG.out | (with_reducible apply Blk.new'; first | with_reducible rfl | (focus (simp; done)) | (focus (simp; omega))) | with_reducible apply Blk.set_ | with_reducible apply Blk.far | with_reducible apply Blk.alloc | with_reducible apply Blk.drew | with_reducible apply Blk.drewN | (first | omega | (focus (simp; done)) | (focus (simp; omega)) | (focus (simp [World.setCell]; omega)))))))
  replace HL := Lib.hid (show Blk w7 (w5.heap.size) 46 _ from by (with_reducible apply Blk.below (hb := hb7); (repeat (first | with_reducible exact HL.out | (with_reducible apply Blk.new'; first | with_reducible rfl | (focus (simp; done)) | (focus (simp; omega))) | with_reducible apply Blk.set_ | with_reducible apply Blk.far | with_reducible apply Blk.alloc | with_reducible apply Blk.drew | with_reducible apply Blk.drewN | (first | omega | (focus (simp; done)) | (focus (simp; omega)) | (focus (simp [World.setCell]; omega)))))))
  replace BEL : Hid (Below w.heap.size w w7) := Lib.hid (Below.trans (by repeat (first | with_reducible exact BEL.out | with_reducible apply Below.alloc | with_reducible apply Below.setCell | with_reducible apply Below.drew | with_reducible apply below_drewN | (first | omega | (focus (simp; done)) | (focus (simp; omega)) | (focus (simp [World.setCell]; omega))))) (hb7.mono (by (first | omega | (focus (simp; done)) | (focus (simp; omega)) | (focus (simp [World.setCell]; omega))))))
  have y_w7 : w.heap.size ≤ w7.heap.size := BEL.out.size
  clear hb7
  clear pP0 pP1 pP2 fP0 fP1 fP2 zP zP_1 zP_2 zP_3 pG0 pG1 pG2 fG0 fG1 fG2 zG zG_1 zG_2 zG_3 pL0 pL1 pL2 fL0 fL1 fL2 zL zL_1 zL_2 zL_3
  obtain ⟨pP0, pP1, pP2, fP0, fP1, fP2, zP⟩ := HP.out.three
  have zP_1 : w.heap.size < w7.heap.size + 1 := by omega
  have zP_2 : w.heap.size < w7.heap.size + 1 + 1 := by omega
  have zP_3 : w.heap.size < w7.heap.size + 1 + 1 + 1 := by omega
  obtain ⟨pG0, pG1, pG2, fG0, fG1, fG2, zG⟩ := HG.out.three
  have zG_1 : w4.heap.size + 1 < w7.heap.size + 1 := by omega
  have zG_2 : w4.heap.size + 1 < w7.heap.size + 1 + 1 := by omega
  have zG_3 : w4.heap.size + 1 < w7.heap.size + 1 + 1 + 1 := by omega
  obtain ⟨pL0, pL1, pL2, fL0, fL1, fL2, zL⟩ := HL.out.three
  have zL_1 : w5.heap.size < w7.heap.size + 1 := by omega
  have zL_2 : w5.heap.size < w7.heap.size + 1 + 1 := by omega
  have zL_3 : w5.heap.size < w7.heap.size + 1 + 1 + 1 := by omega
  go_wp2
  go_ret
  exact ⟨rfl, (by repeat (first | with_reducible exact BEL.out | with_reducible apply Below.alloc | with_reducible apply Below.setCell | with_reducible apply Below.drew | with_reducible apply below_drewN | (first | omega | (focus (simp; done)) | (focus (simp; omega)) | (focus (simp [World.setCell]; omega)))))⟩
set_option maxHeartbeats 8000000 in
set_option maxRecDepth 100000 in
theorem poolTells_in_bad (r c k n : Int) (A : Option Addr) (cp : Nat) (l : List Int) (w : World) (hi : Ints w w.heap.size A cp l) (hg : Laid w) (ok : PoolOk r c k) (n0 : 0 ≤ n) (n1 : n ≤ 10000) (hl : l.length ≤ 60) (hb : l.any badRate = true) :
    Calls Tryd.prog 5 #[.agg #[.int .i64 r, .int .i64 c, .int .i64 k], .int .i64 n, .slice A l.length cp] w fun e w' => e = .returned (.bool true) ∧ Below w.heap.size w w' := by
  have LAID := Lib.hid hg; clear hg
  have HI := Lib.hid hi; clear hi
  have H := Lib.hid ok
  clear ok
  obtain ⟨va, hva⟩ : ∃ v, PP.went c k n = v := ⟨_, rfl⟩
  obtain ⟨vb, hvb⟩ : ∃ v, PP.lost r c k n = v := ⟨_, rfl⟩
  obtain ⟨vd, hvd⟩ : ∃ v, PP.left r c k n = v := ⟨_, rfl⟩
  have VA := Lib.hid hva
  have VB := Lib.hid hvb
  have VD := Lib.hid hvd
  clear hva hvb hvd
  have HB := Lib.hid hb; clear hb
  have HT : Hid (ticksErr l = 1) := Lib.hid (by unfold ticksErr; rw [if_neg (by omega), HB.out]; rfl)
  have BEL : Hid (Below w.heap.size w w) := Lib.hid (Below.refl _ _)
  have yB : w.heap.size ≤ w.heap.size := Nat.le_refl _
  go_enter Tryd.func5, Tryd.ntmps5
  go_wp2_with fail
  refine (refPool_yes r c k _ H.out).mono ?_; rintro e w1 ⟨rfl, hb1⟩
  have z_w1 : w.heap.size ≤ w1.heap.size := Nat.le_trans (by first | with_reducible exact Nat.le_refl _ | (simp; done) | (simp; omega) | (simp [World.setCell]; done)) hb1.size
  have HP := Lib.hid (show Blk w1 (w.heap.size) 41 _ from by (with_reducible apply Blk.below (hb := hb1); (repeat (first | (with_reducible apply Blk.new'; first | with_reducible rfl | (focus (simp; done)) | (focus (simp; omega))) | with_reducible apply Blk.set_ | with_reducible apply Blk.far | with_reducible apply Blk.alloc | with_reducible apply Blk.drew | with_reducible apply Blk.drewN | (first | omega | (focus (simp; done)) | (focus (simp; omega)) | (focus (simp [World.setCell]; omega)))))))
  have q_P_w1 : w.heap.size < w1.heap.size := HP.out.lt
  replace BEL : Hid (Below w.heap.size w w1) := Lib.hid (Below.trans (by repeat (first | with_reducible exact BEL.out | with_reducible apply Below.alloc | with_reducible apply Below.setCell | with_reducible apply Below.drew | with_reducible apply below_drewN | (first | omega | (focus (simp; done)) | (focus (simp; omega)) | (focus (simp [World.setCell]; omega))))) (hb1.mono (by (first | omega | (focus (simp; done)) | (focus (simp; omega)) | (focus (simp [World.setCell]; omega))))))
  have y_w1 : w.heap.size ≤ w1.heap.size := BEL.out.size
  clear hb1
  obtain ⟨pP0, pP1, pP2, fP0, fP1, fP2, zP⟩ := HP.out.three
  have zP_1 : w.heap.size < w1.heap.size + 1 := by omega
  have zP_2 : w.heap.size < w1.heap.size + 1 + 1 := by omega
  have zP_3 : w.heap.size < w1.heap.size + 1 + 1 + 1 := by omega
  go_wp2_with fail
  refine (pcheck_yes r c k _ H.out).mono ?_; rintro e w' ⟨rfl, rfl⟩
  go_wp2_with fail
  refine (same_ok _).mono ?_; rintro e w2 ⟨rfl, hb2⟩
  have z_w2 : w1.heap.size ≤ w2.heap.size := Nat.le_trans (by first | with_reducible exact Nat.le_refl _ | (simp; done) | (simp; omega) | (simp [World.setCell]; done)) hb2.size
  replace HP := Lib.hid (show Blk w2 (w.heap.size) 41 _ from by (with_reducible apply Blk.below (hb := hb2); (repeat (first | with_reducible exact HP.out | (with_reducible apply Blk.new'; first | with_reducible rfl | (focus (simp; done)) | (focus (simp; omega))) | with_reducible apply Blk.set_ | with_reducible apply Blk.far | with_reducible apply Blk.alloc | with_reducible apply Blk.drew | with_reducible apply Blk.drewN | (first | omega | (focus (simp; done)) | (focus (simp; omega)) | (focus (simp [World.setCell]; omega)))))))
  replace BEL : Hid (Below w.heap.size w w2) := Lib.hid (Below.trans (by repeat (first | with_reducible exact BEL.out | with_reducible apply Below.alloc | with_reducible apply Below.setCell | with_reducible apply Below.drew | with_reducible apply below_drewN | (first | omega | (focus (simp; done)) | (focus (simp; omega)) | (focus (simp [World.setCell]; omega))))) (hb2.mono (by (first | omega | (focus (simp; done)) | (focus (simp; omega)) | (focus (simp [World.setCell]; omega))))))
  have y_w2 : w.heap.size ≤ w2.heap.size := BEL.out.size
  clear hb2
  clear pP0 pP1 pP2 fP0 fP1 fP2 zP zP_1 zP_2 zP_3
  obtain ⟨pP0, pP1, pP2, fP0, fP1, fP2, zP⟩ := HP.out.three
  have zP_1 : w.heap.size < w2.heap.size + 1 := by omega
  have zP_2 : w.heap.size < w2.heap.size + 1 + 1 := by omega
  have zP_3 : w.heap.size < w2.heap.size + 1 + 1 + 1 := by omega
  go_wp2_with fail
  refine (refFlow_is r c k n va vb vd _ H.out n0 n1 VA.out VB.out VD.out).mono ?_; rintro e w3 ⟨rfl, hb3⟩
  have z_w3 : w2.heap.size ≤ w3.heap.size := Nat.le_trans (by first | with_reducible exact Nat.le_refl _ | (simp; done) | (simp; omega) | (simp [World.setCell]; done)) hb3.size
  have HW := Lib.hid (show Blk w3 (w2.heap.size) 41 _ from by (with_reducible apply Blk.below (hb := hb3); (repeat (first | (with_reducible apply Blk.new'; first | with_reducible rfl | (focus (simp; done)) | (focus (simp; omega))) | with_reducible apply Blk.set_ | with_reducible apply Blk.far | with_reducible apply Blk.alloc | with_reducible apply Blk.drew | with_reducible apply Blk.drewN | (first | omega | (focus (simp; done)) | (focus (simp; omega)) | (focus (simp [World.setCell]; omega)))))))
  have HN := Lib.hid (show Blk w3 (w2.heap.size + 1) 46 _ from by (with_reducible apply Blk.below (hb := hb3); (repeat (first | (with_reducible apply Blk.new'; first | with_reducible rfl | (focus (simp; done)) | (focus (simp; omega))) | with_reducible apply Blk.set_ | with_reducible apply Blk.far | with_reducible apply Blk.alloc | with_reducible apply Blk.drew | with_reducible apply Blk.drewN | (first | omega | (focus (simp; done)) | (focus (simp; omega)) | (focus (simp [World.setCell]; omega)))))))
  replace HP := Lib.hid (show Blk w3 (w.heap.size) 41 _ from by (with_reducible apply Blk.below (hb := hb3); (repeat (first | with_reducible exact HP.out | (with_reducible apply Blk.new'; first | with_reducible rfl | (focus (simp; done)) | (focus (simp; omega))) | with_reducible apply Blk.set_ | with_reducible apply Blk.far | with_reducible apply Blk.alloc | with_reducible apply Blk.drew | with_reducible apply Blk.drewN | (first | omega | (focus (simp; done)) | (focus (simp; omega)) | (focus (simp [World.setCell]; omega)))))))
  have q_W_w3 : w2.heap.size < w3.heap.size := HW.out.lt
  have q_N_w3 : w2.heap.size + 1 < w3.heap.size := HN.out.lt
  replace BEL : Hid (Below w.heap.size w w3) := Lib.hid (Below.trans (by repeat (first | with_reducible exact BEL.out | with_reducible apply Below.alloc | with_reducible apply Below.setCell | with_reducible apply Below.drew | with_reducible apply below_drewN | (first | omega | (focus (simp; done)) | (focus (simp; omega)) | (focus (simp [World.setCell]; omega))))) (hb3.mono (by (first | omega | (focus (simp; done)) | (focus (simp; omega)) | (focus (simp [World.setCell]; omega))))))
  have y_w3 : w.heap.size ≤ w3.heap.size := BEL.out.size
  clear hb3
  clear pP0 pP1 pP2 fP0 fP1 fP2 zP zP_1 zP_2 zP_3
  obtain ⟨pP0, pP1, pP2, fP0, fP1, fP2, zP⟩ := HP.out.three
  have zP_1 : w.heap.size < w3.heap.size + 1 := by omega
  have zP_2 : w.heap.size < w3.heap.size + 1 + 1 := by omega
  have zP_3 : w.heap.size < w3.heap.size + 1 + 1 + 1 := by omega
  obtain ⟨pW0, pW1, pW2, fW0, fW1, fW2, zW⟩ := HW.out.three
  have zW_1 : w2.heap.size < w3.heap.size + 1 := by omega
  have zW_2 : w2.heap.size < w3.heap.size + 1 + 1 := by omega
  have zW_3 : w2.heap.size < w3.heap.size + 1 + 1 + 1 := by omega
  obtain ⟨pN0, pN1, pN2, fN0, fN1, fN2, zN⟩ := HN.out.three
  have zN_1 : w2.heap.size + 1 < w3.heap.size + 1 := by omega
  have zN_2 : w2.heap.size + 1 < w3.heap.size + 1 + 1 := by omega
  have zN_3 : w2.heap.size + 1 < w3.heap.size + 1 + 1 + 1 := by omega
  go_wp2_with fail
  refine (ptick_is r c k n va vb vd _ H.out n0 n1 VA.out VB.out VD.out).mono ?_; rintro e w4 ⟨rfl, hb4⟩
  have z_w4 : w3.heap.size ≤ w4.heap.size := Nat.le_trans (by first | with_reducible exact Nat.le_refl _ | (simp; done) | (simp; omega) | (simp [World.setCell]; done)) hb4.size
  replace HP := Lib.hid (show Blk w4 (w.heap.size) 41 _ from by (with_reducible apply Blk.below (hb := hb4); (repeat (first | with_reducible exact HP.out | (with_reducible apply Blk.new'; first | with_reducible rfl | (focus (simp; done)) | (focus (simp; omega))) | with_reducible apply Blk.set_ | with_reducible apply Blk.far | with_reducible apply Blk.alloc | with_reducible apply Blk.drew | with_reducible apply Blk.drewN | (first | omega | (focus (simp; done)) | (focus (simp; omega)) | (focus (simp [World.setCell]; omega)))))))
  replace HW := Lib.hid (show Blk w4 (w2.heap.size) 41 _ from by (with_reducible apply Blk.below (hb := hb4); (repeat (first | with_reducible exact HW.out | (with_reducible apply Blk.new'; first | with_reducible rfl | (focus (simp; done)) | (focus (simp; omega))) | with_reducible apply Blk.set_ | with_reducible apply Blk.far | with_reducible apply Blk.alloc | with_reducible apply Blk.drew | with_reducible apply Blk.drewN | (first | omega | (focus (simp; done)) | (focus (simp; omega)) | (focus (simp [World.setCell]; omega)))))))
  replace HN := Lib.hid (show Blk w4 (w2.heap.size + 1) 46 _ from by (with_reducible apply Blk.below (hb := hb4); (repeat (first | with_reducible exact HN.out | (with_reducible apply Blk.new'; first | with_reducible rfl | (focus (simp; done)) | (focus (simp; omega))) | with_reducible apply Blk.set_ | with_reducible apply Blk.far | with_reducible apply Blk.alloc | with_reducible apply Blk.drew | with_reducible apply Blk.drewN | (first | omega | (focus (simp; done)) | (focus (simp; omega)) | (focus (simp [World.setCell]; omega)))))))
  replace BEL : Hid (Below w.heap.size w w4) := Lib.hid (Below.trans (by repeat (first | with_reducible exact BEL.out | with_reducible apply Below.alloc | with_reducible apply Below.setCell | with_reducible apply Below.drew | with_reducible apply below_drewN | (first | omega | (focus (simp; done)) | (focus (simp; omega)) | (focus (simp [World.setCell]; omega))))) (hb4.mono (by (first | omega | (focus (simp; done)) | (focus (simp; omega)) | (focus (simp [World.setCell]; omega))))))
  have y_w4 : w.heap.size ≤ w4.heap.size := BEL.out.size
  clear hb4
  clear pP0 pP1 pP2 fP0 fP1 fP2 zP zP_1 zP_2 zP_3 pW0 pW1 pW2 fW0 fW1 fW2 zW zW_1 zW_2 zW_3 pN0 pN1 pN2 fN0 fN1 fN2 zN zN_1 zN_2 zN_3
  obtain ⟨pP0, pP1, pP2, fP0, fP1, fP2, zP⟩ := HP.out.three
  have zP_1 : w.heap.size < w4.heap.size + 1 := by omega
  have zP_2 : w.heap.size < w4.heap.size + 1 + 1 := by omega
  have zP_3 : w.heap.size < w4.heap.size + 1 + 1 + 1 := by omega
  obtain ⟨pW0, pW1, pW2, fW0, fW1, fW2, zW⟩ := HW.out.three
  have zW_1 : w2.heap.size < w4.heap.size + 1 := by omega
  have zW_2 : w2.heap.size < w4.heap.size + 1 + 1 := by omega
  have zW_3 : w2.heap.size < w4.heap.size + 1 + 1 + 1 := by omega
  obtain ⟨pN0, pN1, pN2, fN0, fN1, fN2, zN⟩ := HN.out.three
  have zN_1 : w2.heap.size + 1 < w4.heap.size + 1 := by omega
  have zN_2 : w2.heap.size + 1 < w4.heap.size + 1 + 1 := by omega
  have zN_3 : w2.heap.size + 1 < w4.heap.size + 1 + 1 + 1 := by omega
  go_wp2_with fail
  refine (same_ok _).mono ?_; rintro e w5 ⟨rfl, hb5⟩
  have z_w5 : w4.heap.size ≤ w5.heap.size := Nat.le_trans (by first | with_reducible exact Nat.le_refl _ | (simp; done) | (simp; omega) | (simp [World.setCell]; done)) hb5.size
  have HX := Lib.hid (show Blk w5 (w4.heap.size) 41 _ from by (with_reducible apply Blk.below (hb := hb5); (repeat (first | (with_reducible apply Blk.new'; first | with_reducible rfl | (focus (simp; done)) | (focus (simp; omega))) | with_reducible apply Blk.set_ | with_reducible apply Blk.far | with_reducible apply Blk.alloc | with_reducible apply Blk.drew | with_reducible apply Blk.drewN | (first | omega | (focus (simp; done)) | (focus (simp; omega)) | (focus (simp [World.setCell]; omega)))))))
  have HG := Lib.hid (show Blk w5 (w4.heap.size + 1) 46 _ from by (with_reducible apply Blk.below (hb := hb5); (repeat (first | (with_reducible apply Blk.new'; first | with_reducible rfl | (focus (simp; done)) | (focus (simp; omega))) | with_reducible apply Blk.set_ | with_reducible apply Blk.far | with_reducible apply Blk.alloc | with_reducible apply Blk.drew | with_reducible apply Blk.drewN | (first | omega | (focus (simp; done)) | (focus (simp; omega)) | (focus (simp [World.setCell]; omega)))))))
  replace HP := Lib.hid (show Blk w5 (w.heap.size) 41 _ from by (with_reducible apply Blk.below (hb := hb5); (repeat (first | with_reducible exact HP.out | (with_reducible apply Blk.new'; first | with_reducible rfl | (focus (simp; done)) | (focus (simp; omega))) | with_reducible apply Blk.set_ | with_reducible apply Blk.far | with_reducible apply Blk.alloc | with_reducible apply Blk.drew | with_reducible apply Blk.drewN | (first | omega | (focus (simp; done)) | (focus (simp; omega)) | (focus (simp [World.setCell]; omega)))))))
  replace HW := Lib.hid (show Blk w5 (w2.heap.size) 41 _ from by (with_reducible apply Blk.below (hb := hb5); (repeat (first | with_reducible exact HW.out | (with_reducible apply Blk.new'; first | with_reducible rfl | (focus (simp; done)) | (focus (simp; omega))) | with_reducible apply Blk.set_ | with_reducible apply Blk.far | with_reducible apply Blk.alloc | with_reducible apply Blk.drew | with_reducible apply Blk.drewN | (first | omega | (focus (simp; done)) | (focus (simp; omega)) | (focus (simp [World.setCell]; omega)))))))
  replace HN := Lib.hid (show Blk w5 (w2.heap.size + 1) 46 _ from by (with_reducible apply Blk.below (hb := hb5); (repeat (first | with_reducible exact HN.out | (with_reducible apply Blk.new'; first | with_reducible rfl | (focus (simp; done)) | (focus (simp; omega))) | with_reducible apply Blk.set_ | with_reducible apply Blk.far | with_reducible apply Blk.alloc | with_reducible apply Blk.drew | with_reducible apply Blk.drewN | (first | omega | (focus (simp; done)) | (focus (simp; omega)) | (focus (simp [World.setCell]; omega)))))))
  have q_X_w5 : w4.heap.size < w5.heap.size := HX.out.lt
  have q_G_w5 : w4.heap.size + 1 < w5.heap.size := HG.out.lt
  replace BEL : Hid (Below w.heap.size w w5) := Lib.hid (Below.trans (by repeat (first | with_reducible exact BEL.out | with_reducible apply Below.alloc | with_reducible apply Below.setCell | with_reducible apply Below.drew | with_reducible apply below_drewN | (first | omega | (focus (simp; done)) | (focus (simp; omega)) | (focus (simp [World.setCell]; omega))))) (hb5.mono (by (first | omega | (focus (simp; done)) | (focus (simp; omega)) | (focus (simp [World.setCell]; omega))))))
  have y_w5 : w.heap.size ≤ w5.heap.size := BEL.out.size
  clear hb5
  clear pP0 pP1 pP2 fP0 fP1 fP2 zP zP_1 zP_2 zP_3 pW0 pW1 pW2 fW0 fW1 fW2 zW zW_1 zW_2 zW_3 pN0 pN1 pN2 fN0 fN1 fN2 zN zN_1 zN_2 zN_3
  obtain ⟨pP0, pP1, pP2, fP0, fP1, fP2, zP⟩ := HP.out.three
  have zP_1 : w.heap.size < w5.heap.size + 1 := by omega
  have zP_2 : w.heap.size < w5.heap.size + 1 + 1 := by omega
  have zP_3 : w.heap.size < w5.heap.size + 1 + 1 + 1 := by omega
  obtain ⟨pW0, pW1, pW2, fW0, fW1, fW2, zW⟩ := HW.out.three
  have zW_1 : w2.heap.size < w5.heap.size + 1 := by omega
  have zW_2 : w2.heap.size < w5.heap.size + 1 + 1 := by omega
  have zW_3 : w2.heap.size < w5.heap.size + 1 + 1 + 1 := by omega
  obtain ⟨pN0, pN1, pN2, fN0, fN1, fN2, zN⟩ := HN.out.three
  have zN_1 : w2.heap.size + 1 < w5.heap.size + 1 := by omega
  have zN_2 : w2.heap.size + 1 < w5.heap.size + 1 + 1 := by omega
  have zN_3 : w2.heap.size + 1 < w5.heap.size + 1 + 1 + 1 := by omega
  obtain ⟨pX0, pX1, pX2, fX0, fX1, fX2, zX⟩ := HX.out.three
  have zX_1 : w4.heap.size < w5.heap.size + 1 := by omega
  have zX_2 : w4.heap.size < w5.heap.size + 1 + 1 := by omega
  have zX_3 : w4.heap.size < w5.heap.size + 1 + 1 + 1 := by omega
  obtain ⟨pG0, pG1, pG2, fG0, fG1, fG2, zG⟩ := HG.out.three
  have zG_1 : w4.heap.size + 1 < w5.heap.size + 1 := by omega
  have zG_2 : w4.heap.size + 1 < w5.heap.size + 1 + 1 := by omega
  have zG_3 : w4.heap.size + 1 < w5.heap.size + 1 + 1 + 1 := by omega
  go_wp2_with fail
  refine (refTicks_is A cp l w.heap.size _ (HI.out.below (by repeat (first | with_reducible exact BEL.out | with_reducible apply Below.alloc | with_reducible apply Below.setCell | with_reducible apply Below.drew | with_reducible apply below_drewN | (first | omega | (focus (simp; done)) | (focus (simp; omega)) | (focus (simp [World.setCell]; omega))))) (Nat.le_refl _)) 1 HT.out).mono ?_; rintro e w' ⟨rfl, rfl⟩
  have h0 : 0 < l.length := by
    rcases Nat.eq_zero_or_pos l.length with h | h
    · have := HB.out; rw [List.length_eq_zero_iff.1 h] at this; cases this
    · exact h
  go_wp2_with fail
  refine wp_loop_rounds 1 ?_
  rw [rounds_succ]
  go_wp2_with fail
  refine (prun_bad r c k A cp l _ H.out ((HI.out.below (by repeat (first | with_reducible exact BEL.out | with_reducible apply Below.alloc | with_reducible apply Below.setCell | with_reducible apply Below.drew | with_reducible apply below_drewN | (first | omega | (focus (simp; done)) | (focus (simp; omega)) | (focus (simp [World.setCell]; omega))))) (Nat.le_refl _)).more (by (first | omega | (focus (simp; done)) | (focus (simp; omega)) | (focus (simp [World.setCell]; omega))))) hl HB.out).mono ?_; rintro e w6 ⟨rfl, hb6⟩
  clear HW
  clear HN
  clear HX
  have z_w6 : w5.heap.size ≤ w6.heap.size := Nat.le_trans (by first | with_reducible exact Nat.le_refl _ | (simp; done) | (simp; omega) | (simp [World.setCell]; done)) hb6.size
  have HL := Lib.hid (show Blk w6 (w5.heap.size) 46 _ from by (with_reducible apply Blk.below (hb := hb6); (repeat (first | (with_reducible apply Blk.new'; first | with_reducible rfl | (focus (simp; done)) | (focus (simp; omega))) | with_reducible apply Blk.set_ | with_reducible apply Blk.far | with_reducible apply Blk.alloc | with_reducible apply Blk.drew | with_reducible apply Blk.drewN | (first | omega | (focus (simp; done)) | (focus (simp; omega)) | (focus (simp [World.setCell]; omega)))))))
  replace HP := Lib.hid (show Blk w6 (w.heap.size) 41 _ from by (with_reducible apply Blk.below (hb := hb6); (repeat (first | with_reducible exact HP.out | (with_reducible apply Blk.new'; first | with_reducible rfl | (focus (simp; done)) | (focus (simp; omega))) | with_reducible apply Blk.set_ | with_reducible apply Blk.far | with_reducible apply Blk.alloc | with_reducible apply Blk.drew | with_reducible apply Blk.drewN | (first | omega | (focus (simp; done)) | (focus (simp; omega)) | (focus (simp [World.setCell]; omega)))))))
  replace HG := Lib.hid (show Blk w6 (w4.heap.size + 1) 46 _ from by (with_reducible apply Blk.below (hb := hb6); (repeat (first | with_reducible exact HG.out | (with_reducible apply Blk.new'; first | with_reducible rfl | (focus (simp; done)) | (focus (simp; omega))) | with_reducible apply Blk.set_ | with_reducible apply Blk.far | with_reducible apply Blk.alloc | with_reducible apply Blk.drew | with_reducible apply Blk.drewN | (first | omega | (focus (simp; done)) | (focus (simp; omega)) | (focus (simp [World.setCell]; omega)))))))
  have q_L_w6 : w5.heap.size < w6.heap.size := HL.out.lt
  replace BEL : Hid (Below w.heap.size w w6) := Lib.hid (Below.trans (by repeat (first | with_reducible exact BEL.out | with_reducible apply Below.alloc | with_reducible apply Below.setCell | with_reducible apply Below.drew | with_reducible apply below_drewN | (first | omega | (focus (simp; done)) | (focus (simp; omega)) | (focus (simp [World.setCell]; omega))))) (hb6.mono (by (first | omega | (focus (simp; done)) | (focus (simp; omega)) | (focus (simp [World.setCell]; omega))))))
  have y_w6 : w.heap.size ≤ w6.heap.size := BEL.out.size
  clear hb6
  clear pP0 pP1 pP2 fP0 fP1 fP2 zP zP_1 zP_2 zP_3 pW0 pW1 pW2 fW0 fW1 fW2 zW zW_1 zW_2 zW_3 pN0 pN1 pN2 fN0 fN1 fN2 zN zN_1 zN_2 zN_3 pX0 pX1 pX2 fX0 fX1 fX2 zX zX_1 zX_2 zX_3 pG0 pG1 pG2 fG0 fG1 fG2 zG zG_1 zG_2 zG_3
  obtain ⟨pP0, pP1, pP2, fP0, fP1, fP2, zP⟩ := HP.out.three
  have zP_1 : w.heap.size < w6.heap.size + 1 := by omega
  have zP_2 : w.heap.size < w6.heap.size + 1 + 1 := by omega
  have zP_3 : w.heap.size < w6.heap.size + 1 + 1 + 1 := by omega
  obtain ⟨pG0, pG1, pG2, fG0, fG1, fG2, zG⟩ := HG.out.three
  have zG_1 : w4.heap.size + 1 < w6.heap.size + 1 := by omega
  have zG_2 : w4.heap.size + 1 < w6.heap.size + 1 + 1 := by omega
  have zG_3 : w4.heap.size + 1 < w6.heap.size + 1 + 1 + 1 := by omega
  obtain ⟨pL0, pL1, pL2, fL0, fL1, fL2, zL⟩ := HL.out.three
  have zL_1 : w5.heap.size < w6.heap.size + 1 := by omega
  have zL_2 : w5.heap.size < w6.heap.size + 1 + 1 := by omega
  have zL_3 : w5.heap.size < w6.heap.size + 1 + 1 + 1 := by omega
  go_wp2_with fail
  refine (same_hit 1 _ (LAID.out.below (by repeat (first | with_reducible exact BEL.out | with_reducible apply Below.alloc | with_reducible apply Below.setCell | with_reducible apply Below.drew | with_reducible apply below_drewN | (first | omega | (focus (simp; done)) | (focus (simp; omega)) | (focus (simp [World.setCell]; omega))))))).mono ?_; rintro e w7 ⟨rfl, hb7⟩
  have z_w7 : w6.heap.size ≤ w7.heap.size := Nat.le_trans (by first | with_reducible exact Nat.le_refl _ | (simp; done) | (simp; omega) | (simp [World.setCell]; done)) hb7.size
  replace HP := Lib.hid (show Blk w7 (w.heap.size) 41 _ from by (with_reducible apply Blk.below (hb := hb7); (repeat (first | with_reducible exact HP.out | (with_reducible apply Blk.new'; first | with_reducible rfl | (focus (simp; done)) | (focus (simp; omega))) | with_reducible apply Blk.set_ | with_reducible apply Blk.far | with_reducible apply Blk.alloc | with_reducible apply Blk.drew | with_reducible apply Blk.drewN | (first | omega | (focus (simp; done)) | (focus (simp; omega)) | (focus (simp [World.setCell]; omega)))))))
  replace HG := Lib.hid (show Blk w7 (w4.heap.size + 1) 46 _ from by (with_reducible apply Blk.below (hb := hb7); (repeat (first | with_reducible exact HG.out | (with_reducible apply Blk.new'; first | with_reducible rfl | (focus (simp; done)) | (focus (simp; omega))) | with_reducible apply Blk.set_ | with_reducible apply Blk.far | with_reducible apply Blk.alloc | with_reducible apply Blk.drew | with_reducible apply Blk.drewN | (first | omega | (focus (simp; done)) | (focus (simp; omega)) | (focus (simp [World.setCell]; omega)))))))
  replace HL := Lib.hid (show Blk w7 (w5.heap.size) 46 _ from by (with_reducible apply Blk.below (hb := hb7); (repeat (first | with_reducible exact HL.out | (with_reducible apply Blk.new'; first | with_reducible rfl | (focus (simp; done)) | (focus (simp; omega))) | with_reducible apply Blk.set_ | with_reducible apply Blk.far | with_reducible apply Blk.alloc | with_reducible apply Blk.drew | with_reducible apply Blk.drewN | (first | omega | (focus (simp; done)) | (focus (simp; omega)) | (focus (simp [World.setCell]; omega)))))))
  replace BEL : Hid (Below w.heap.size w w7) := Lib.hid (Below.trans (by repeat (first | with_reducible exact BEL.out | with_reducible apply Below.alloc | with_reducible apply Below.setCell | with_reducible apply Below.drew | with_reducible apply below_drewN | (first | omega | (focus (simp; done)) | (focus (simp; omega)) | (focus (simp [World.setCell]; omega))))) (hb7.mono (by (first | omega | (focus (simp; done)) | (focus (simp; omega)) | (focus (simp [World.setCell]; omega))))))
  have y_w7 : w.heap.size ≤ w7.heap.size := BEL.out.size
  clear hb7
  clear pP0 pP1 pP2 fP0 fP1 fP2 zP zP_1 zP_2 zP_3 pG0 pG1 pG2 fG0 fG1 fG2 zG zG_1 zG_2 zG_3 pL0 pL1 pL2 fL0 fL1 fL2 zL zL_1 zL_2 zL_3
  obtain ⟨pP0, pP1, pP2, fP0, fP1, fP2, zP⟩ := HP.out.three
  have zP_1 : w.heap.size < w7.heap.size + 1 := by omega
  have zP_2 : w.heap.size < w7.heap.size + 1 + 1 := by omega
  have zP_3 : w.heap.size < w7.heap.size + 1 + 1 + 1 := by omega
  obtain ⟨pG0, pG1, pG2, fG0, fG1, fG2, zG⟩ := HG.out.three
  have zG_1 : w4.heap.size + 1 < w7.heap.size + 1 := by omega
  have zG_2 : w4.heap.size + 1 < w7.heap.size + 1 + 1 := by omega
  have zG_3 : w4.heap.size + 1 < w7.heap.size + 1 + 1 + 1 := by omega
  obtain ⟨pL0, pL1, pL2, fL0, fL1, fL2, zL⟩ := HL.out.three
  have zL_1 : w5.heap.size < w7.heap.size + 1 := by omega
  have zL_2 : w5.heap.size < w7.heap.size + 1 + 1 := by omega
  have zL_3 : w5.heap.size < w7.heap.size + 1 + 1 + 1 := by omega
  go_wp2
  go_ret
  exact ⟨rfl, (by repeat (first | with_reducible exact BEL.out | with_reducible apply Below.alloc | with_reducible apply Below.setCell | with_reducible apply Below.drew | with_reducible apply below_drewN | (first | omega | (focus (simp; done)) | (focus (simp; omega)) | (focus (simp [World.setCell]; omega)))))⟩
set_option maxHeartbeats 8000000 in
set_option maxRecDepth 100000 in
theorem poolTells_in_ok (r c k n : Int) (A : Option Addr) (cp : Nat) (l : List Int) (w : World) (hi : Ints w w.heap.size A cp l) (hg : Laid w) (ok : PoolOk r c k) (n0 : 0 ≤ n) (n1 : n ≤ 10000) (hl : l.length ≤ 60) (hb : l.any badRate = false) :
    Calls Tryd.prog 5 #[.agg #[.int .i64 r, .int .i64 c, .int .i64 k], .int .i64 n, .slice A l.length cp] w fun e w' => e = .returned (.bool true) ∧ Below w.heap.size w w' := by
  have LAID := Lib.hid hg; clear hg
  have HI := Lib.hid hi; clear hi
  have H := Lib.hid ok
  obtain ⟨r0, r1, c0, c1, k0, k1⟩ := ok
  obtain ⟨va, hva⟩ : ∃ v, PP.went c k n = v := ⟨_, rfl⟩
  obtain ⟨vb, hvb⟩ : ∃ v, PP.lost r c k n = v := ⟨_, rfl⟩
  obtain ⟨vd, hvd⟩ : ∃ v, PP.left r c k n = v := ⟨_, rfl⟩
  have VA := Lib.hid hva
  have VB := Lib.hid hvb
  have VD := Lib.hid hvd
  clear hva hvb hvd
  have HB := Lib.hid hb; clear hb
  have HT : Hid (ticksErr l = 0) := Lib.hid (by unfold ticksErr; rw [if_neg (by omega), HB.out]; rfl)
  have BEL : Hid (Below w.heap.size w w) := Lib.hid (Below.refl _ _)
  have yB : w.heap.size ≤ w.heap.size := Nat.le_refl _
  go_enter Tryd.func5, Tryd.ntmps5
  go_wp2_with fail
  refine (refPool_yes r c k _ H.out).mono ?_; rintro e w1 ⟨rfl, hb1⟩
  have z_w1 : w.heap.size ≤ w1.heap.size := Nat.le_trans (by first | with_reducible exact Nat.le_refl _ | (simp; done) | (simp; omega) | (simp [World.setCell]; done)) hb1.size
  have HP := Lib.hid (show Blk w1 (w.heap.size) 41 _ from by (with_reducible apply Blk.below (hb := hb1); (repeat (first | (with_reducible apply Blk.new'; first | with_reducible rfl | (focus (simp; done)) | (focus (simp; omega))) | with_reducible apply Blk.set_ | with_reducible apply Blk.far | with_reducible apply Blk.alloc | with_reducible apply Blk.drew | with_reducible apply Blk.drewN | (first | omega | (focus (simp; done)) | (focus (simp; omega)) | (focus (simp [World.setCell]; omega)))))))
  have q_P_w1 : w.heap.size < w1.heap.size := HP.out.lt
  replace BEL : Hid (Below w.heap.size w w1) := Lib.hid (Below.trans (by repeat (first | with_reducible exact BEL.out | with_reducible apply Below.alloc | with_reducible apply Below.setCell | with_reducible apply Below.drew | with_reducible apply below_drewN | (first | omega | (focus (simp; done)) | (focus (simp; omega)) | (focus (simp [World.setCell]; omega))))) (hb1.mono (by (first | omega | (focus (simp; done)) | (focus (simp; omega)) | (focus (simp [World.setCell]; omega))))))
  have y_w1 : w.heap.size ≤ w1.heap.size := BEL.out.size
  clear hb1
  obtain ⟨pP0, pP1, pP2, fP0, fP1, fP2, zP⟩ := HP.out.three
  have zP_1 : w.heap.size < w1.heap.size + 1 := by omega
  have zP_2 : w.heap.size < w1.heap.size + 1 + 1 := by omega
  have zP_3 : w.heap.size < w1.heap.size + 1 + 1 + 1 := by omega
  go_wp2_with fail
  refine (pcheck_yes r c k _ H.out).mono ?_; rintro e w' ⟨rfl, rfl⟩
  go_wp2_with fail
  refine (same_ok _).mono ?_; rintro e w2 ⟨rfl, hb2⟩
  have z_w2 : w1.heap.size ≤ w2.heap.size := Nat.le_trans (by first | with_reducible exact Nat.le_refl _ | (simp; done) | (simp; omega) | (simp [World.setCell]; done)) hb2.size
  replace HP := Lib.hid (show Blk w2 (w.heap.size) 41 _ from by (with_reducible apply Blk.below (hb := hb2); (repeat (first | with_reducible exact HP.out | (with_reducible apply Blk.new'; first | with_reducible rfl | (focus (simp; done)) | (focus (simp; omega))) | with_reducible apply Blk.set_ | with_reducible apply Blk.far | with_reducible apply Blk.alloc | with_reducible apply Blk.drew | with_reducible apply Blk.drewN | (first | omega | (focus (simp; done)) | (focus (simp; omega)) | (focus (simp [World.setCell]; omega)))))))
  replace BEL : Hid (Below w.heap.size w w2) := Lib.hid (Below.trans (by repeat (first | with_reducible exact BEL.out | with_reducible apply Below.alloc | with_reducible apply Below.setCell | with_reducible apply Below.drew | with_reducible apply below_drewN | (first | omega | (focus (simp; done)) | (focus (simp; omega)) | (focus (simp [World.setCell]; omega))))) (hb2.mono (by (first | omega | (focus (simp; done)) | (focus (simp; omega)) | (focus (simp [World.setCell]; omega))))))
  have y_w2 : w.heap.size ≤ w2.heap.size := BEL.out.size
  clear hb2
  clear pP0 pP1 pP2 fP0 fP1 fP2 zP zP_1 zP_2 zP_3
  obtain ⟨pP0, pP1, pP2, fP0, fP1, fP2, zP⟩ := HP.out.three
  have zP_1 : w.heap.size < w2.heap.size + 1 := by omega
  have zP_2 : w.heap.size < w2.heap.size + 1 + 1 := by omega
  have zP_3 : w.heap.size < w2.heap.size + 1 + 1 + 1 := by omega
  go_wp2_with fail
  refine (refFlow_is r c k n va vb vd _ H.out n0 n1 VA.out VB.out VD.out).mono ?_; rintro e w3 ⟨rfl, hb3⟩
  have z_w3 : w2.heap.size ≤ w3.heap.size := Nat.le_trans (by first | with_reducible exact Nat.le_refl _ | (simp; done) | (simp; omega) | (simp [World.setCell]; done)) hb3.size
  have HW := Lib.hid (show Blk w3 (w2.heap.size) 41 _ from by (with_reducible apply Blk.below (hb := hb3); (repeat (first | (with_reducible apply Blk.new'; first | with_reducible rfl | (focus (simp; done)) | (focus (simp; omega))) | with_reducible apply Blk.set_ | with_reducible apply Blk.far | with_reducible apply Blk.alloc | with_reducible apply Blk.drew | with_reducible apply Blk.drewN | (first | omega | (focus (simp; done)) | (focus (simp; omega)) | (focus (simp [World.setCell]; omega)))))))
  have HN := Lib.hid (show Blk w3 (w2.heap.size + 1) 46 _ from by (with_reducible apply Blk.below (hb := hb3); (repeat (first | (with_reducible apply Blk.new'; first | with_reducible rfl | (focus (simp; done)) | (focus (simp; omega))) | with_reducible apply Blk.set_ | with_reducible apply Blk.far | with_reducible apply Blk.alloc | with_reducible apply Blk.drew | with_reducible apply Blk.drewN | (first | omega | (focus (simp; done)) | (focus (simp; omega)) | (focus (simp [World.setCell]; omega)))))))
  replace HP := Lib.hid (show Blk w3 (w.heap.size) 41 _ from by (with_reducible apply Blk.below (hb := hb3); (repeat (first | with_reducible exact HP.out | (with_reducible apply Blk.new'; first | with_reducible rfl | (focus (simp; done)) | (focus (simp; omega))) | with_reducible apply Blk.set_ | with_reducible apply Blk.far | with_reducible apply Blk.alloc | with_reducible apply Blk.drew | with_reducible apply Blk.drewN | (first | omega | (focus (simp; done)) | (focus (simp; omega)) | (focus (simp [World.setCell]; omega)))))))
  have q_W_w3 : w2.heap.size < w3.heap.size := HW.out.lt
  have q_N_w3 : w2.heap.size + 1 < w3.heap.size := HN.out.lt
  replace BEL : Hid (Below w.heap.size w w3) := Lib.hid (Below.trans (by repeat (first | with_reducible exact BEL.out | with_reducible apply Below.alloc | with_reducible apply Below.setCell | with_reducible apply Below.drew | with_reducible apply below_drewN | (first | omega | (focus (simp; done)) | (focus (simp; omega)) | (focus (simp [World.setCell]; omega))))) (hb3.mono (by (first | omega | (focus (simp; done)) | (focus (simp; omega)) | (focus (simp [World.setCell]; omega))))))
  have y_w3 : w.heap.size ≤ w3.heap.size := BEL.out.size
  clear hb3
  clear pP0 pP1 pP2 fP0 fP1 fP2 zP zP_1 zP_2 zP_3
  obtain ⟨pP0, pP1, pP2, fP0, fP1, fP2, zP⟩ := HP.out.three
  have zP_1 : w.heap.size < w3.heap.size + 1 := by omega
  have zP_2 : w.heap.size < w3.heap.size + 1 + 1 := by omega
  have zP_3 : w.heap.size < w3.heap.size + 1 + 1 + 1 := by omega
  obtain ⟨pW0, pW1, pW2, fW0, fW1, fW2, zW⟩ := HW.out.three
  have zW_1 : w2.heap.size < w3.heap.size + 1 := by omega
  have zW_2 : w2.heap.size < w3.heap.size + 1 + 1 := by omega
  have zW_3 : w2.heap.size < w3.heap.size + 1 + 1 + 1 := by omega
  obtain ⟨pN0, pN1, pN2, fN0, fN1, fN2, zN⟩ := HN.out.three
  have zN_1 : w2.heap.size + 1 < w3.heap.size + 1 := by omega
  have zN_2 : w2.heap.size + 1 < w3.heap.size + 1 + 1 := by omega
  have zN_3 : w2.heap.size + 1 < w3.heap.size + 1 + 1 + 1 := by omega
  go_wp2_with fail
  refine (ptick_is r c k n va vb vd _ H.out n0 n1 VA.out VB.out VD.out).mono ?_; rintro e w4 ⟨rfl, hb4⟩
  have z_w4 : w3.heap.size ≤ w4.heap.size := Nat.le_trans (by first | with_reducible exact Nat.le_refl _ | (simp; done) | (simp; omega) | (simp [World.setCell]; done)) hb4.size
  replace HP := Lib.hid (show Blk w4 (w.heap.size) 41 _ from by (with_reducible apply Blk.below (hb := hb4); (repeat (first | with_reducible exact HP.out | (with_reducible apply Blk.new'; first | with_reducible rfl | (focus (simp; done)) | (focus (simp; omega))) | with_reducible apply Blk.set_ | with_reducible apply Blk.far | with_reducible apply Blk.alloc | with_reducible apply Blk.drew | with_reducible apply Blk.drewN | (first | omega | (focus (simp; done)) | (focus (simp; omega)) | (focus (simp [World.setCell]; omega)))))))
  replace HW := Lib.hid (show Blk w4 (w2.heap.size) 41 _ from by (with_reducible apply Blk.below (hb := hb4); (repeat (first | with_reducible exact HW.out | (with_reducible apply Blk.new'; first | with_reducible rfl | (focus (simp; done)) | (focus (simp; omega))) | with_reducible apply Blk.set_ | with_reducible apply Blk.far | with_reducible apply Blk.alloc | with_reducible apply Blk.drew | with_reducible apply Blk.drewN | (first | omega | (focus (simp; done)) | (focus (simp; omega)) | (focus (simp [World.setCell]; omega)))))))
  replace HN := Lib.hid (show Blk w4 (w2.heap.size + 1) 46 _ from by (with_reducible apply Blk.below (hb := hb4); (repeat (first | with_reducible exact HN.out | (with_reducible apply Blk.new'; first | with_reducible rfl | (focus (simp; done)) | (focus (simp; omega))) | with_reducible apply Blk.set_ | with_reducible apply Blk.far | with_reducible apply Blk.alloc | with_reducible apply Blk.drew | with_reducible apply Blk.drewN | (first | omega | (focus (simp; done)) | (focus (simp; omega)) | (focus (simp [World.setCell]; omega)))))))
  replace BEL : Hid (Below w.heap.size w w4) := Lib.hid (Below.trans (by repeat (first | with_reducible exact BEL.out | with_reducible apply Below.alloc | with_reducible apply Below.setCell | with_reducible apply Below.drew | with_reducible apply below_drewN | (first | omega | (focus (simp; done)) | (focus (simp; omega)) | (focus (simp [World.setCell]; omega))))) (hb4.mono (by (first | omega | (focus (simp; done)) | (focus (simp; omega)) | (focus (simp [World.setCell]; omega))))))
  have y_w4 : w.heap.size ≤ w4.heap.size := BEL.out.size
  clear hb4
  clear pP0 pP1 pP2 fP0 fP1 fP2 zP zP_1 zP_2 zP_3 pW0 pW1 pW2 fW0 fW1 fW2 zW zW_1 zW_2 zW_3 pN0 pN1 pN2 fN0 fN1 fN2 zN zN_1 zN_2 zN_3
  obtain ⟨pP0, pP1, pP2, fP0, fP1, fP2, zP⟩ := HP.out.three
  have zP_1 : w.heap.size < w4.heap.size + 1 := by omega
  have zP_2 : w.heap.size < w4.heap.size + 1 + 1 := by omega
  have zP_3 : w.heap.size < w4.heap.size + 1 + 1 + 1 := by omega
  obtain ⟨pW0, pW1, pW2, fW0, fW1, fW2, zW⟩ := HW.out.three
  have zW_1 : w2.heap.size < w4.heap.size + 1 := by omega
  have zW_2 : w2.heap.size < w4.heap.size + 1 + 1 := by omega
  have zW_3 : w2.heap.size < w4.heap.size + 1 + 1 + 1 := by omega
  obtain ⟨pN0, pN1, pN2, fN0, fN1, fN2, zN⟩ := HN.out.three
  have zN_1 : w2.heap.size + 1 < w4.heap.size + 1 := by omega
  have zN_2 : w2.heap.size + 1 < w4.heap.size + 1 + 1 := by omega
  have zN_3 : w2.heap.size + 1 < w4.heap.size + 1 + 1 + 1 := by omega
  go_wp2_with fail
  refine (same_ok _).mono ?_; rintro e w5 ⟨rfl, hb5⟩
  have z_w5 : w4.heap.size ≤ w5.heap.size := Nat.le_trans (by first | with_reducible exact Nat.le_refl _ | (simp; done) | (simp; omega) | (simp [World.setCell]; done)) hb5.size
  have HX := Lib.hid (show Blk w5 (w4.heap.size) 41 _ from by (with_reducible apply Blk.below (hb := hb5); (repeat (first | (with_reducible apply Blk.new'; first | with_reducible rfl | (focus (simp; done)) | (focus (simp; omega))) | with_reducible apply Blk.set_ | with_reducible apply Blk.far | with_reducible apply Blk.alloc | with_reducible apply Blk.drew | with_reducible apply Blk.drewN | (first | omega | (focus (simp; done)) | (focus (simp; omega)) | (focus (simp [World.setCell]; omega)))))))
  have HG := Lib.hid (show Blk w5 (w4.heap.size + 1) 46 _ from by (with_reducible apply Blk.below (hb := hb5); (repeat (first | (with_reducible apply Blk.new'; first | with_reducible rfl | (focus (simp; done)) | (focus (simp; omega))) | with_reducible apply Blk.set_ | with_reducible apply Blk.far | with_reducible apply Blk.alloc | with_reducible apply Blk.drew | with_reducible apply Blk.drewN | (first | omega | (focus (simp; done)) | (focus (simp; omega)) | (focus (simp [World.setCell]; omega)))))))
  replace HP := Lib.hid (show Blk w5 (w.heap.size) 41 _ from by (with_reducible apply Blk.below (hb := hb5); (repeat (first | with_reducible exact HP.out | (with_reducible apply Blk.new'; first | with_reducible rfl | (focus (simp; done)) | (focus (simp; omega))) | with_reducible apply Blk.set_ | with_reducible apply Blk.far | with_reducible apply Blk.alloc | with_reducible apply Blk.drew | with_reducible apply Blk.drewN | (first | omega | (focus (simp; done)) | (focus (simp; omega)) | (focus (simp [World.setCell]; omega)))))))
  replace HW := Lib.hid (show Blk w5 (w2.heap.size) 41 _ from by (with_reducible apply Blk.below (hb := hb5); (repeat (first | with_reducible exact HW.out | (with_reducible apply Blk.new'; first | with_reducible rfl | (focus (simp; done)) | (focus (simp; omega))) | with_reducible apply Blk.set_ | with_reducible apply Blk.far | with_reducible apply Blk.alloc | with_reducible apply Blk.drew | with_reducible apply Blk.drewN | (first | omega | (focus (simp; done)) | (focus (simp; omega)) | (focus (simp [World.setCell]; omega)))))))
  replace HN := Lib.hid (show Blk w5 (w2.heap.size + 1) 46 _ from by (with_reducible apply Blk.below (hb := hb5); (repeat (first | with_reducible exact HN.out | (with_reducible apply Blk.new'; first | with_reducible rfl | (focus (simp; done)) | (focus (simp; omega))) | with_reducible apply Blk.set_ | with_reducible apply Blk.far | with_reducible apply Blk.alloc | with_reducible apply Blk.drew | with_reducible apply Blk.drewN | (first | omega | (focus (simp; done)) | (focus (simp; omega)) | (focus (simp [World.setCell]; omega)))))))
  have q_X_w5 : w4.heap.size < w5.heap.size := HX.out.lt
  have q_G_w5 : w4.heap.size + 1 < w5.heap.size := HG.out.lt
  replace BEL : Hid (Below w.heap.size w w5) := Lib.hid (Below.trans (by repeat (first | with_reducible exact BEL.out | with_reducible apply Below.alloc | with_reducible apply Below.setCell | with_reducible apply Below.drew | with_reducible apply below_drewN | (first | omega | (focus (simp; done)) | (focus (simp; omega)) | (focus (simp [World.setCell]; omega))))) (hb5.mono (by (first | omega | (focus (simp; done)) | (focus (simp; omega)) | (focus (simp [World.setCell]; omega))))))
  have y_w5 : w.heap.size ≤ w5.heap.size := BEL.out.size
  clear hb5
  clear pP0 pP1 pP2 fP0 fP1 fP2 zP zP_1 zP_2 zP_3 pW0 pW1 pW2 fW0 fW1 fW2 zW zW_1 zW_2 zW_3 pN0 pN1 pN2 fN0 fN1 fN2 zN zN_1 zN_2 zN_3
  obtain ⟨pP0, pP1, pP2, fP0, fP1, fP2, zP⟩ := HP.out.three
  have zP_1 : w.heap.size < w5.heap.size + 1 := by omega
  have zP_2 : w.heap.size < w5.heap.size + 1 + 1 := by omega
  have zP_3 : w.heap.size < w5.heap.size + 1 + 1 + 1 := by omega
  obtain ⟨pW0, pW1, pW2, fW0, fW1, fW2, zW⟩ := HW.out.three
  have zW_1 : w2.heap.size < w5.heap.size + 1 := by omega
  have zW_2 : w2.heap.size < w5.heap.size + 1 + 1 := by omega
  have zW_3 : w2.heap.size < w5.heap.size + 1 + 1 + 1 := by omega
  obtain ⟨pN0, pN1, pN2, fN0, fN1, fN2, zN⟩ := HN.out.three
  have zN_1 : w2.heap.size + 1 < w5.heap.size + 1 := by omega
  have zN_2 : w2.heap.size + 1 < w5.heap.size + 1 + 1 := by omega
  have zN_3 : w2.heap.size + 1 < w5.heap.size + 1 + 1 + 1 := by omega
  obtain ⟨pX0, pX1, pX2, fX0, fX1, fX2, zX⟩ := HX.out.three
  have zX_1 : w4.heap.size < w5.heap.size + 1 := by omega
  have zX_2 : w4.heap.size < w5.heap.size + 1 + 1 := by omega
  have zX_3 : w4.heap.size < w5.heap.size + 1 + 1 + 1 := by omega
  obtain ⟨pG0, pG1, pG2, fG0, fG1, fG2, zG⟩ := HG.out.three
  have zG_1 : w4.heap.size + 1 < w5.heap.size + 1 := by omega
  have zG_2 : w4.heap.size + 1 < w5.heap.size + 1 + 1 := by omega
  have zG_3 : w4.heap.size + 1 < w5.heap.size + 1 + 1 + 1 := by omega
  go_wp2_with fail
  refine (refTicks_is A cp l w.heap.size _ (HI.out.below (by repeat (first | with_reducible exact BEL.out | with_reducible apply Below.alloc | with_reducible apply Below.setCell | with_reducible apply Below.drew | with_reducible apply below_drewN | (first | omega | (focus (simp; done)) | (focus (simp; omega)) | (focus (simp [World.setCell]; omega))))) (Nat.le_refl _)) 0 HT.out).mono ?_; rintro e w' ⟨rfl, rfl⟩
  go_wp2_with fail
  go_loopw [18] (fun i wr => ∃ (j : Nat) (a b d : Int), j ≤ l.length ∧ i = .int .i64 j ∧ Hid (PP.run r c k (l.take j) = (a, b, d)) ∧ 0 ≤ a ∧ a ≤ 20000 * j ∧ 0 ≤ b ∧ b ≤ 20000 * j ∧ 0 ≤ d ∧ d ≤ r ∧ Hid (Blk wr (w.heap.size) 41 #[.int .i64 r, .int .i64 c, .int .i64 k]) ∧ Hid (Blk wr (w4.heap.size + 1) 46 #[.int .i64 va, .int .i64 vb, .int .i64 vd]) ∧ Hid (Blk wr (w5.heap.size) 46 #[.int .i64 a, .int .i64 b, .int .i64 d]) ∧ Hid (Blk wr (w5.heap.size + 1) 41 #[.int .i64 r, .int .i64 c, .int .i64 d]) ∧ Hid (Below w.heap.size w wr) ∧ w5.heap.size + 1 < wr.heap.size)
    (fun i _ => l.length - (intOf i).toNat)
  case atStart => exact ⟨0, 0, 0, k, Nat.zero_le _, rfl, rfl, by omega, by omega, by omega, by omega, k0, k1, Lib.hid (Blk.val (by (repeat (first | with_reducible exact HP.out | (with_reducible apply Blk.new'; first | with_reducible rfl | (focus (simp; done)) | (focus (simp; omega))) | with_reducible apply Blk.set_ | with_reducible apply Blk.far | with_reducible apply Blk.alloc | with_reducible apply Blk.drew | with_reducible apply Blk.drewN | (first | omega | (focus (simp; done)) | (focus (simp; omega)) | (focus (simp [World.setCell]; omega)))))) (by first | rfl | simp)), Lib.hid (Blk.val (by (repeat (first | with_reducible exact HG.out | (with_reducible apply Blk.new'; first | with_reducible rfl | (focus (simp; done)) | (focus (simp; omega))) | with_reducible apply Blk.set_ | with_reducible apply Blk.far | with_reducible apply Blk.alloc | with_reducible apply Blk.drew | with_reducible apply Blk.drewN | (first | omega | (focus (simp; done)) | (focus (simp; omega)) | (focus (simp [World.setCell]; omega)))))) (by first | rfl | simp)), Lib.hid (Blk.val (by (repeat (first | (with_reducible apply Blk.new'; first | with_reducible rfl | (focus (simp; done)) | (focus (simp; omega))) | with_reducible apply Blk.set_ | with_reducible apply Blk.far | with_reducible apply Blk.alloc | with_reducible apply Blk.drew | with_reducible apply Blk.drewN | (first | omega | (focus (simp; done)) | (focus (simp; omega)) | (focus (simp [World.setCell]; omega)))))) (by first | rfl | simp)), Lib.hid (Blk.val (by (repeat (first | (with_reducible apply Blk.new'; first | with_reducible rfl | (focus (simp; done)) | (focus (simp; omega))) | with_reducible apply Blk.set_ | with_reducible apply Blk.far | with_reducible apply Blk.alloc | with_reducible apply Blk.drew | with_reducible apply Blk.drewN | (first | omega | (focus (simp; done)) | (focus (simp; omega)) | (focus (simp [World.setCell]; omega)))))) (by first | rfl | simp)), Lib.hid (by repeat (first | with_reducible exact BEL.out | with_reducible apply Below.alloc | with_reducible apply Below.setCell | with_reducible apply Below.drew | with_reducible apply below_drewN | (first | omega | (focus (simp; done)) | (focus (simp; omega)) | (focus (simp [World.setCell]; omega))))), by simp⟩
  clear pP0 pP1 pP2 fP0 fP1 fP2 zP zP_1 zP_2 zP_3 pW0 pW1 pW2 fW0 fW1 fW2 zW zW_1 zW_2 zW_3 pN0 pN1 pN2 fN0 fN1 fN2 zN zN_1 zN_2 zN_3 pX0 pX1 pX2 fX0 fX1 fX2 zX zX_1 zX_2 zX_3 pG0 pG1 pG2 fG0 fG1 fG2 zG zG_1 zG_2 zG_3
  case round =>
    obtain ⟨j, a, b, d, hj, rfl, HR, a0, a1, b0, b1, d0, d1, HP, HG, HL, HY, BEL, zz⟩ := hrel
    have y_wr : w.heap.size ≤ wr.heap.size := BEL.out.size
    have q_P_wr : w.heap.size < wr.heap.size := HP.out.lt
    have q_G_wr : w4.heap.size + 1 < wr.heap.size := HG.out.lt
    have q_L_wr : w5.heap.size < wr.heap.size := HL.out.lt
    have q_Y_wr : w5.heap.size + 1 < wr.heap.size := HY.out.lt
    obtain ⟨pP0, pP1, pP2, fP0, fP1, fP2, zP⟩ := HP.out.three
    have zP_1 : w.heap.size < wr.heap.size + 1 := by omega
    have zP_2 : w.heap.size < wr.heap.size + 1 + 1 := by omega
    have zP_3 : w.heap.size < wr.heap.size + 1 + 1 + 1 := by omega
    obtain ⟨pG0, pG1, pG2, fG0, fG1, fG2, zG⟩ := HG.out.three
    have zG_1 : w4.heap.size + 1 < wr.heap.size + 1 := by omega
    have zG_2 : w4.heap.size + 1 < wr.heap.size + 1 + 1 := by omega
    have zG_3 : w4.heap.size + 1 < wr.heap.size + 1 + 1 + 1 := by omega
    obtain ⟨pL0, pL1, pL2, fL0, fL1, fL2, zL⟩ := HL.out.three
    have zL_1 : w5.heap.size < wr.heap.size + 1 := by omega
    have zL_2 : w5.heap.size < wr.heap.size + 1 + 1 := by omega
    have zL_3 : w5.heap.size < wr.heap.size + 1 + 1 + 1 := by omega
    obtain ⟨pY0, pY1, pY2, fY0, fY1, fY2, zY⟩ := HY.out.three
    have zY_1 : w5.heap.size + 1 < wr.heap.size + 1 := by omega
    have zY_2 : w5.heap.size + 1 < wr.heap.size + 1 + 1 := by omega
    have zY_3 : w5.heap.size + 1 < wr.heap.size + 1 + 1 + 1 := by omega
    by_cases hlt : j < l.length
    · obtain ⟨bb, off, x, rfl, hbb, hc, hx, HT2, HX2⟩ := (HI.out.below BEL.out (Nat.le_refl _)).elem hlt
      have hbb1 : bb < wr.heap.size := by omega
      have hbb2 : bb < wr.heap.size + 1 := by omega
      obtain ⟨x0, x1⟩ := ticks_in HB.out x hx
      obtain ⟨s1, s2, s3, s4, s5, s6⟩ := step_bd r c d x r0 (by omega) d0 x0 (by omega) x1
      have hokd : PoolOk r c d := ⟨H.out.1, H.out.2.1, H.out.2.2.1, H.out.2.2.2.1, d0, d1⟩
      have HD := Lib.hid hokd; clear hokd
      have HS := Lib.hid (PP.run_snoc r c (l.take j) k x)
      clear HX2 hx
      obtain ⟨ua, hua⟩ : ∃ v, PP.went c d x = v := ⟨_, rfl⟩
      obtain ⟨ub, hub⟩ : ∃ v, PP.lost r c d x = v := ⟨_, rfl⟩
      obtain ⟨ud, hud⟩ : ∃ v, PP.left r c d x = v := ⟨_, rfl⟩
      rw [hua] at s1 s2
      rw [hub] at s3 s4
      rw [hud] at s5 s6
      have UA := Lib.hid hua
      have UB := Lib.hid hub
      have UD := Lib.hid hud
      clear hua hub hud
      go_wp2_with fail
      go_region_with (
        (go_at_call 28
         refine (refFlow_is r c d x ua ub ud _ HD.out x0 x1 UA.out UB.out UD.out).mono ?_; rintro e w9 ⟨rfl, hb9⟩
         have z_w9 : wr.heap.size ≤ w9.heap.size := Nat.le_trans (by first | with_reducible exact Nat.le_refl _ | (simp; done) | (simp; omega) | (simp [World.setCell]; done)) hb9.size
         have HZ := Lib.hid (show Blk w9 (wr.heap.size) 46 _ from by (with_reducible apply Blk.below (hb := hb9); (repeat (first | (with_reducible apply Blk.new'; first | with_reducible rfl | (focus (simp; done)) | (focus (simp; omega))) | with_reducible apply Blk.set_ | with_reducible apply Blk.far | with_reducible apply Blk.alloc | with_reducible apply Blk.drew | with_reducible apply Blk.drewN | (first | omega | (focus (simp; done)) | (focus (simp; omega)) | (focus (simp [World.setCell]; omega)))))))
         replace HP := Lib.hid (show Blk w9 (w.heap.size) 41 _ from by (with_reducible apply Blk.below (hb := hb9); (repeat (first | with_reducible exact HP.out | (with_reducible apply Blk.new'; first | with_reducible rfl | (focus (simp; done)) | (focus (simp; omega))) | with_reducible apply Blk.set_ | with_reducible apply Blk.far | with_reducible apply Blk.alloc | with_reducible apply Blk.drew | with_reducible apply Blk.drewN | (first | omega | (focus (simp; done)) | (focus (simp; omega)) | (focus (simp [World.setCell]; omega)))))))
         replace HG := Lib.hid (show Blk w9 (w4.heap.size + 1) 46 _ from by (with_reducible apply Blk.below (hb := hb9); (repeat (first | with_reducible exact HG.out | (with_reducible apply Blk.new'; first | with_reducible rfl | (focus (simp; done)) | (focus (simp; omega))) | with_reducible apply Blk.set_ | with_reducible apply Blk.far | with_reducible apply Blk.alloc | with_reducible apply Blk.drew | with_reducible apply Blk.drewN | (first | omega | (focus (simp; done)) | (focus (simp; omega)) | (focus (simp [World.setCell]; omega)))))))
         replace HL := Lib.hid (show Blk w9 (w5.heap.size) 46 _ from by (with_reducible apply Blk.below (hb := hb9); (repeat (first | with_reducible exact HL.out | (with_reducible apply Blk.new'; first | with_reducible rfl | (focus (simp; done)) | (focus (simp; omega))) | with_reducible apply Blk.set_ | with_reducible apply Blk.far | with_reducible apply Blk.alloc | with_reducible apply Blk.drew | with_reducible apply Blk.drewN | (first | omega | (focus (simp; done)) | (focus (simp; omega)) | (focus (simp [World.setCell]; omega)))))))
         replace HY := Lib.hid (show Blk w9 (w5.heap.size + 1) 41 _ from by (with_reducible apply Blk.below (hb := hb9); (repeat (first | with_reducible exact HY.out | (with_reducible apply Blk.new'; first | with_reducible rfl | (focus (simp; done)) | (focus (simp; omega))) | with_reducible apply Blk.set_ | with_reducible apply Blk.far | with_reducible apply Blk.alloc | with_reducible apply Blk.drew | with_reducible apply Blk.drewN | (first | omega | (focus (simp; done)) | (focus (simp; omega)) | (focus (simp [World.setCell]; omega)))))))
         have q_Z_w9 : wr.heap.size < w9.heap.size := HZ.out.lt
         replace BEL : Hid (Below w.heap.size w w9) := Lib.hid (Below.trans (by repeat (first | with_reducible exact BEL.out | with_reducible apply Below.alloc | with_reducible apply Below.setCell | with_reducible apply Below.drew | with_reducible apply below_drewN | (first | omega | (focus (simp; done)) | (focus (simp; omega)) | (focus (simp [World.setCell]; omega))))) (hb9.mono (by (first | omega | (focus (simp; done)) | (focus (simp; omega)) | (focus (simp [World.setCell]; omega))))))
         have y_w9 : w.heap.size ≤ w9.heap.size := BEL.out.size
         clear hb9
         clear pP0 pP1 pP2 fP0 fP1 fP2 zP zP_1 zP_2 zP_3 pG0 pG1 pG2 fG0 fG1 fG2 zG zG_1 zG_2 zG_3 pL0 pL1 pL2 fL0 fL1 fL2 zL zL_1 zL_2 zL_3 pY0 pY1 pY2 fY0 fY1 fY2 zY zY_1 zY_2 zY_3
         obtain ⟨pP0, pP1, pP2, fP0, fP1, fP2, zP⟩ := HP.out.three
         have zP_1 : w.heap.size < w9.heap.size + 1 := by omega
         have zP_2 : w.heap.size < w9.heap.size + 1 + 1 := by omega
         have zP_3 : w.heap.size < w9.heap.size + 1 + 1 + 1 := by omega
         obtain ⟨pG0, pG1, pG2, fG0, fG1, fG2, zG⟩ := HG.out.three
         have zG_1 : w4.heap.size + 1 < w9.heap.size + 1 := by omega
         have zG_2 : w4.heap.size + 1 < w9.heap.size + 1 + 1 := by omega
         have zG_3 : w4.heap.size + 1 < w9.heap.size + 1 + 1 + 1 := by omega
         obtain ⟨pL0, pL1, pL2, fL0, fL1, fL2, zL⟩ := HL.out.three
         have zL_1 : w5.heap.size < w9.heap.size + 1 := by omega
         have zL_2 : w5.heap.size < w9.heap.size + 1 + 1 := by omega
         have zL_3 : w5.heap.size < w9.heap.size + 1 + 1 + 1 := by omega
         obtain ⟨pY0, pY1, pY2, fY0, fY1, fY2, zY⟩ := HY.out.three
         have zY_1 : w5.heap.size + 1 < w9.heap.size + 1 := by omega
         have zY_2 : w5.heap.size + 1 < w9.heap.size + 1 + 1 := by omega
         have zY_3 : w5.heap.size + 1 < w9.heap.size + 1 + 1 + 1 := by omega
         obtain ⟨pZ0, pZ1, pZ2, fZ0, fZ1, fZ2, zZ⟩ := HZ.out.three
         have zZ_1 : wr.heap.size < w9.heap.size + 1 := by omega
         have zZ_2 : wr.heap.size < w9.heap.size + 1 + 1 := by omega
         have zZ_3 : wr.heap.size < w9.heap.size + 1 + 1 + 1 := by omega))
      all_goals
        go_wp2
        go_roundw
        case rel =>
          refine ⟨j + 1, a + ua, b + ub, ud, by omega, by go_num, ?_, by omega, by omega, by omega, by omega, by omega, by omega, Lib.hid (Blk.val (by (repeat (first | with_reducible exact HP.out | (with_reducible apply Blk.new'; first | with_reducible rfl | (focus (simp; done)) | (focus (simp; omega))) | with_reducible apply Blk.set_ | with_reducible apply Blk.far | with_reducible apply Blk.alloc | with_reducible apply Blk.drew | with_reducible apply Blk.drewN | (first | omega | (focus (simp; done)) | (focus (simp; omega)) | (focus (simp [World.setCell]; omega)))))) (by first | rfl | simp)), Lib.hid (Blk.val (by (repeat (first | with_reducible exact HG.out | (with_reducible apply Blk.new'; first | with_reducible rfl | (focus (simp; done)) | (focus (simp; omega))) | with_reducible apply Blk.set_ | with_reducible apply Blk.far | with_reducible apply Blk.alloc | with_reducible apply Blk.drew | with_reducible apply Blk.drewN | (first | omega | (focus (simp; done)) | (focus (simp; omega)) | (focus (simp [World.setCell]; omega)))))) (by first | rfl | simp)), Lib.hid (Blk.val (by (repeat (first | with_reducible exact HL.out | (with_reducible apply Blk.new'; first | with_reducible rfl | (focus (simp; done)) | (focus (simp; omega))) | with_reducible apply Blk.set_ | with_reducible apply Blk.far | with_reducible apply Blk.alloc | with_reducible apply Blk.drew | with_reducible apply Blk.drewN | (first | omega | (focus (simp; done)) | (focus (simp; omega)) | (focus (simp [World.setCell]; omega)))))) (by first | rfl | simp)), Lib.hid (Blk.val (by (repeat (first | with_reducible exact HY.out | (with_reducible apply Blk.new'; first | with_reducible rfl | (focus (simp; done)) | (focus (simp; omega))) | with_reducible apply Blk.set_ | with_reducible apply Blk.far | with_reducible apply Blk.alloc | with_reducible apply Blk.drew | with_reducible apply Blk.drewN | (first | omega | (focus (simp; done)) | (focus (simp; omega)) | (focus (simp [World.setCell]; omega)))))) (by first | rfl | simp)), Lib.hid (by repeat (first | with_reducible exact BEL.out | with_reducible apply Below.alloc | with_reducible apply Below.setCell | with_reducible apply Below.drew | with_reducible apply below_drewN | (first | omega | (focus (simp; done)) | (focus (simp; omega)) | (focus (simp [World.setCell]; omega))))), ?_⟩
          · show PP.run r c k (l.take (j + 1)) = _
            rw [HT2.out, HS.out, HR.out, ← UA.out, ← UB.out, ← UD.out]
          · simp [World.setCell]; omega
        case measure => simp [intOf]; omega
    · obtain rfl : j = l.length := by omega
      have HE : Hid (PP.run r c k l = (a, b, d)) := Lib.hid (by have := HR.out; rwa [List.take_length] at this)
      go_wp2_with fail
      refine (prun_yes r c k A cp l _ H.out ((HI.out.below (by repeat (first | with_reducible exact BEL.out | with_reducible apply Below.alloc | with_reducible apply Below.setCell | with_reducible apply Below.drew | with_reducible apply below_drewN | (first | omega | (focus (simp; done)) | (focus (simp; omega)) | (focus (simp [World.setCell]; omega))))) (Nat.le_refl _)).more (by (first | omega | (focus (simp; done)) | (focus (simp; omega)) | (focus (simp [World.setCell]; omega))))) hl HB.out).mono ?_; rintro e w6 ⟨rfl, hb6⟩
      have z_w6 : wr.heap.size ≤ w6.heap.size := Nat.le_trans (by first | with_reducible exact Nat.le_refl _ | (simp; done) | (simp; omega) | (simp [World.setCell]; done)) hb6.size
      replace HP := Lib.hid (show Blk w6 (w.heap.size) 41 _ from by (with_reducible apply Blk.below (hb := hb6); (repeat (first | with_reducible exact HP.out | (with_reducible apply Blk.new'; first | with_reducible rfl | (focus (simp; done)) | (focus (simp; omega))) | with_reducible apply Blk.set_ | with_reducible apply Blk.far | with_reducible apply Blk.alloc | with_reducible apply Blk.drew | with_reducible apply Blk.drewN | (first | omega | (focus (simp; done)) | (focus (simp; omega)) | (focus (simp [World.setCell]; omega)))))))
      replace HG := Lib.hid (show Blk w6 (w4.heap.size + 1) 46 _ from by (with_reducible apply Blk.below (hb := hb6); (repeat (first | with_reducible exact HG.out | (with_reducible apply Blk.new'; first | with_reducible rfl | (focus (simp; done)) | (focus (simp; omega))) | with_reducible apply Blk.set_ | with_reducible apply Blk.far | with_reducible apply Blk.alloc | with_reducible apply Blk.drew | with_reducible apply Blk.drewN | (first | omega | (focus (simp; done)) | (focus (simp; omega)) | (focus (simp [World.setCell]; omega)))))))
      replace HL := Lib.hid (show Blk w6 (w5.heap.size) 46 _ from by (with_reducible apply Blk.below (hb := hb6); (repeat (first | with_reducible exact HL.out | (with_reducible apply Blk.new'; first | with_reducible rfl | (focus (simp; done)) | (focus (simp; omega))) | with_reducible apply Blk.set_ | with_reducible apply Blk.far | with_reducible apply Blk.alloc | with_reducible apply Blk.drew | with_reducible apply Blk.drewN | (first | omega | (focus (simp; done)) | (focus (simp; omega)) | (focus (simp [World.setCell]; omega)))))))
      replace HY := Lib.hid (show Blk w6 (w5.heap.size + 1) 41 _ from by (with_reducible apply Blk.below (hb := hb6); (repeat (first | with_reducible exact HY.out | (with_reducible apply Blk.new'; first | with_reducible rfl | (focus (simp; done)) | (focus (simp; omega))) | with_reducible apply Blk.set_ | with_reducible apply Blk.far | with_reducible apply Blk.alloc | with_reducible apply Blk.drew | with_reducible apply Blk.drewN | (first | omega | (focus (simp; done)) | (focus (simp; omega)) | (focus (simp [World.setCell]; omega)))))))
      replace BEL : Hid (Below w.heap.size w w6) := Lib.hid (Below.trans (by repeat (first | with_reducible exact BEL.out | with_reducible apply Below.alloc | with_reducible apply Below.setCell | with_reducible apply Below.drew | with_reducible apply below_drewN | (first | omega | (focus (simp; done)) | (focus (simp; omega)) | (focus (simp [World.setCell]; omega))))) (hb6.mono (by (first | omega | (focus (simp; done)) | (focus (simp; omega)) | (focus (simp [World.setCell]; omega))))))
      have y_w6 : w.heap.size ≤ w6.heap.size := BEL.out.size
      clear hb6
      clear pP0 pP1 pP2 fP0 fP1 fP2 zP zP_1 zP_2 zP_3 pG0 pG1 pG2 fG0 fG1 fG2 zG zG_1 zG_2 zG_3 pL0 pL1 pL2 fL0 fL1 fL2 zL zL_1 zL_2 zL_3 pY0 pY1 pY2 fY0 fY1 fY2 zY zY_1 zY_2 zY_3
      rw [HE.out]
      obtain ⟨pP0, pP1, pP2, fP0, fP1, fP2, zP⟩ := HP.out.three
      have zP_1 : w.heap.size < w6.heap.size + 1 := by omega
      have zP_2 : w.heap.size < w6.heap.size + 1 + 1 := by omega
      have zP_3 : w.heap.size < w6.heap.size + 1 + 1 + 1 := by omega
      obtain ⟨pG0, pG1, pG2, fG0, fG1, fG2, zG⟩ := HG.out.three
      have zG_1 : w4.heap.size + 1 < w6.heap.size + 1 := by omega
      have zG_2 : w4.heap.size + 1 < w6.heap.size + 1 + 1 := by omega
      have zG_3 : w4.heap.size + 1 < w6.heap.size + 1 + 1 + 1 := by omega
      obtain ⟨pL0, pL1, pL2, fL0, fL1, fL2, zL⟩ := HL.out.three
      have zL_1 : w5.heap.size < w6.heap.size + 1 := by omega
      have zL_2 : w5.heap.size < w6.heap.size + 1 + 1 := by omega
      have zL_3 : w5.heap.size < w6.heap.size + 1 + 1 + 1 := by omega
      obtain ⟨pY0, pY1, pY2, fY0, fY1, fY2, zY⟩ := HY.out.three
      have zY_1 : w5.heap.size + 1 < w6.heap.size + 1 := by omega
      have zY_2 : w5.heap.size + 1 < w6.heap.size + 1 + 1 := by omega
      have zY_3 : w5.heap.size + 1 < w6.heap.size + 1 + 1 + 1 := by omega
      go_wp2_with fail
      refine (same_ok _).mono ?_; rintro e w7 ⟨rfl, hb7⟩
      have z_w7 : w6.heap.size ≤ w7.heap.size := Nat.le_trans (by first | with_reducible exact Nat.le_refl _ | (simp; done) | (simp; omega) | (simp [World.setCell]; done)) hb7.size
      replace HP := Lib.hid (show Blk w7 (w.heap.size) 41 _ from by (with_reducible apply Blk.below (hb := hb7); (repeat (first | with_reducible exact HP.out | (with_reducible apply Blk.new'; first | with_reducible rfl | (focus (simp; done)) | (focus (simp; omega))) | with_reducible apply Blk.set_ | with_reducible apply Blk.far | with_reducible apply Blk.alloc | with_reducible apply Blk.drew | with_reducible apply Blk.drewN | (first | omega | (focus (simp; done)) | (focus (simp; omega)) | (focus (simp [World.setCell]; omega)))))))
      replace HG := Lib.hid (show Blk w7 (w4.heap.size + 1) 46 _ from by (with_reducible apply Blk.below (hb := hb7); (repeat (first | with_reducible exact HG.out | (with_reducible apply Blk.new'; first | with_reducible rfl | (focus (simp; done)) | (focus (simp; omega))) | with_reducible apply Blk.set_ | with_reducible apply Blk.far | with_reducible apply Blk.alloc | with_reducible apply Blk.drew | with_reducible apply Blk.drewN | (first | omega | (focus (simp; done)) | (focus (simp; omega)) | (focus (simp [World.setCell]; omega)))))))
      replace HL := Lib.hid (show Blk w7 (w5.heap.size) 46 _ from by (with_reducible apply Blk.below (hb := hb7); (repeat (first | with_reducible exact HL.out | (with_reducible apply Blk.new'; first | with_reducible rfl | (focus (simp; done)) | (focus (simp; omega))) | with_reducible apply Blk.set_ | with_reducible apply Blk.far | with_reducible apply Blk.alloc | with_reducible apply Blk.drew | with_reducible apply Blk.drewN | (first | omega | (focus (simp; done)) | (focus (simp; omega)) | (focus (simp [World.setCell]; omega)))))))
      replace HY := Lib.hid (show Blk w7 (w5.heap.size + 1) 41 _ from by (with_reducible apply Blk.below (hb := hb7); (repeat (first | with_reducible exact HY.out | (with_reducible apply Blk.new'; first | with_reducible rfl | (focus (simp; done)) | (focus (simp; omega))) | with_reducible apply Blk.set_ | with_reducible apply Blk.far | with_reducible apply Blk.alloc | with_reducible apply Blk.drew | with_reducible apply Blk.drewN | (first | omega | (focus (simp; done)) | (focus (simp; omega)) | (focus (simp [World.setCell]; omega)))))))
      replace BEL : Hid (Below w.heap.size w w7) := Lib.hid (Below.trans (by repeat (first | with_reducible exact BEL.out | with_reducible apply Below.alloc | with_reducible apply Below.setCell | with_reducible apply Below.drew | with_reducible apply below_drewN | (first | omega | (focus (simp; done)) | (focus (simp; omega)) | (focus (simp [World.setCell]; omega))))) (hb7.mono (by (first | omega | (focus (simp; done)) | (focus (simp; omega)) | (focus (simp [World.setCell]; omega))))))
      have y_w7 : w.heap.size ≤ w7.heap.size := BEL.out.size
      clear hb7
      clear pP0 pP1 pP2 fP0 fP1 fP2 zP zP_1 zP_2 zP_3 pG0 pG1 pG2 fG0 fG1 fG2 zG zG_1 zG_2 zG_3 pL0 pL1 pL2 fL0 fL1 fL2 zL zL_1 zL_2 zL_3 pY0 pY1 pY2 fY0 fY1 fY2 zY zY_1 zY_2 zY_3
      obtain ⟨pP0, pP1, pP2, fP0, fP1, fP2, zP⟩ := HP.out.three
      have zP_1 : w.heap.size < w7.heap.size + 1 := by omega
      have zP_2 : w.heap.size < w7.heap.size + 1 + 1 := by omega
      have zP_3 : w.heap.size < w7.heap.size + 1 + 1 + 1 := by omega
      obtain ⟨pG0, pG1, pG2, fG0, fG1, fG2, zG⟩ := HG.out.three
      have zG_1 : w4.heap.size + 1 < w7.heap.size + 1 := by omega
      have zG_2 : w4.heap.size + 1 < w7.heap.size + 1 + 1 := by omega
      have zG_3 : w4.heap.size + 1 < w7.heap.size + 1 + 1 + 1 := by omega
      obtain ⟨pL0, pL1, pL2, fL0, fL1, fL2, zL⟩ := HL.out.three
      have zL_1 : w5.heap.size < w7.heap.size + 1 := by omega
      have zL_2 : w5.heap.size < w7.heap.size + 1 + 1 := by omega
      have zL_3 : w5.heap.size < w7.heap.size + 1 + 1 + 1 := by omega
      obtain ⟨pY0, pY1, pY2, fY0, fY1, fY2, zY⟩ := HY.out.three
      have zY_1 : w5.heap.size + 1 < w7.heap.size + 1 := by omega
      have zY_2 : w5.heap.size + 1 < w7.heap.size + 1 + 1 := by omega
      have zY_3 : w5.heap.size + 1 < w7.heap.size + 1 + 1 + 1 := by omega
      go_wp2
      go_ret
      exact ⟨rfl, (by repeat (first | with_reducible exact BEL.out | with_reducible apply Below.alloc | with_reducible apply Below.setCell | with_reducible apply Below.drew | with_reducible apply below_drewN | (first | omega | (focus (simp; done)) | (focus (simp; omega)) | (focus (simp [World.setCell]; omega)))))⟩
theorem poolTells_walk {w : World} (r c k : Int) (_ : (Lit.int .i64 r).wf = true) (_ : (Lit.int .i64 c).wf = true) (_ : (Lit.int .i64 k).wf = true) (n : Int) (_ : (Lit.int .i64 n).wf = true) (A : Option Addr) (cp : Nat) (l : List Int) (hi : Ints w w.heap.size A cp l) (_ : ∀ x ∈ l, (Lit.int .i64 x).wf = true) (hg : Laid w) :
    Calls Tryd.prog 5 #[.agg #[.int .i64 r, .int .i64 c, .int .i64 k], .int .i64 n, .slice A l.length cp] w fun e w' => e = .returned (.bool true) ∧ Below w.heap.size w w' := by
  by_cases ok : PoolOk r c k
  · by_cases hl : l.length ≤ 60
    · cases hb : l.any badRate
      · by_cases a : n < 0
        · exact poolTells_lo_ok r c k n A cp l w hi hg ok a hl hb
        · by_cases b : 10000 < n
          · exact poolTells_hi_ok r c k n A cp l w hi hg ok (by omega) b hl hb
          · exact poolTells_in_ok r c k n A cp l w hi hg ok (by omega) (by omega) hl hb
      · by_cases a : n < 0
        · exact poolTells_lo_bad r c k n A cp l w hi hg ok a hl hb
        · by_cases b : 10000 < n
          · exact poolTells_hi_bad r c k n A cp l w hi hg ok (by omega) b hl hb
          · exact poolTells_in_bad r c k n A cp l w hi hg ok (by omega) (by omega) hl hb
    · by_cases a : n < 0
      · exact poolTells_lo_full r c k n A cp l w hi hg ok a (by omega)
      · by_cases b : 10000 < n
        · exact poolTells_hi_full r c k n A cp l w hi hg ok (by omega) b (by omega)
        · exact poolTells_in_full r c k n A cp l w hi hg ok (by omega) (by omega) (by omega)
  · exact poolTells_no r c k n A cp l w hi hg ok
end Go.Proofs.YtkheobdkmmbjnaaDoor
