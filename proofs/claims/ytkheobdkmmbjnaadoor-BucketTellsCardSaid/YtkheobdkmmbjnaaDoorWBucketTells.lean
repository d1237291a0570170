/- The walk of BucketTells: it returns true for every input. -/
import Derived.Test.YtkheobdkmmbjnaaDoorBucketTells1
namespace Go.Proofs.YtkheobdkmmbjnaaDoor
open Go.RowKit
attribute [local go_sem ↓] run_min_mn run_max_mx
set_option maxHeartbeats 8000000 in
set_option maxRecDepth 100000 in
theorem bucketTells_low_full (s r h n : Int) (A : Option Addr) (cp : Nat) (l : List Int) (w : World) (hi : Ints w w.heap.size A cp l) (hg : Laid w) (ok : BucketOk s r h) (n0 : 0 ≤ n) (n1 : n ≤ 10000) (hn : h < n) (hl : 60 < l.length) :
    Calls Tryd.prog 8 #[.agg #[.int .i64 s, .int .i64 r, .int .i64 h], .int .i64 n, .slice A l.length cp] w fun e w' => e = .returned (.bool true) ∧ Below w.heap.size w w' := by
  have LAID := Lib.hid hg; clear hg
  have HI := Lib.hid hi; clear hi
  have H := Lib.hid ok
  obtain ⟨g1, g2, g3, g4, g5, g6⟩ := ok
  obtain ⟨vt, hvt⟩ : ∃ v, min s (h + r) = v := ⟨_, rfl⟩
  have VT := Lib.hid hvt; clear hvt
  have hm := Nat.le_trans HI.out.le HI.out.cap
  have HT : Hid (ticksErr l = 4) := Lib.hid (by unfold ticksErr; rw [if_pos hl])
  have BEL : Hid (Below w.heap.size w w) := Lib.hid (Below.refl _ _)
  have yB : w.heap.size ≤ w.heap.size := Nat.le_refl _
  go_enter Tryd.func8, Tryd.ntmps8
  go_wp2_with fail
  refine (refBucket_yes s r h _ H.out).mono ?_; rintro e w' ⟨rfl, rfl⟩
  go_wp2_with fail
  refine (bcheck_yes s r h _ H.out).mono ?_; rintro e w' ⟨rfl, rfl⟩
  go_wp2_with fail
  refine (same_ok _).mono ?_; rintro e w1 ⟨rfl, hb1⟩
  have z_w1 : w.heap.size ≤ w1.heap.size := Nat.le_trans (by first | with_reducible exact Nat.le_refl _ | (simp; done) | (simp; omega) | (simp [World.setCell]; done)) hb1.size
  have HP := Lib.hid (show Blk w1 (w.heap.size) 35 _ from by (with_reducible apply Blk.below (hb := hb1); (repeat (first | (with_reducible apply Blk.new'; first | with_reducible rfl | (focus (simp; done)) | (focus (simp; omega))) | with_reducible apply Blk.set_ | with_reducible apply Blk.far | with_reducible apply Blk.alloc | with_reducible apply Blk.drew | with_reducible apply Blk.drewN | (first | omega | (focus (simp; done)) | (focus (simp; omega)) | (focus (simp [World.setCell]; omega)))))))
  have q_P_w1 : w.heap.size < w1.heap.size := HP.out.lt
  replace BEL : Hid (Below w.heap.size w w1) := Lib.hid (Below.trans (by repeat (first | with_reducible exact BEL.out | with_reducible apply Below.alloc | with_reducible apply Below.setCell | with_reducible apply Below.drew | with_reducible apply below_drewN | (first | omega | (focus (simp; done)) | (focus (simp; omega)) | (focus (simp [World.setCell]; omega))))) (hb1.mono (by (first | omega | (focus (simp; done)) | (focus (simp; omega)) | (focus (simp [World.setCell]; omega))))))
  have y_w1 : w.heap.size ≤ w1.heap.size := BEL.out.size
  clear hb1
  obtain ⟨pP0, pP1, pP2, fP0, fP1, fP2, zP⟩ := HP.out.three
  have zP_1 : w.heap.size < w1.heap.size + 1 := by omega
  have zP_2 : w.heap.size < w1.heap.size + 1 + 1 := by omega
  have zP_3 : w.heap.size < w1.heap.size + 1 + 1 + 1 := by omega
  go_wp2_with fail
  refine (refFill_is s r h vt _ (by omega) (by omega) g3 (by omega) VT.out).mono ?_; rintro e w2 ⟨rfl, hb2⟩
  have z_w2 : w1.heap.size ≤ w2.heap.size := Nat.le_trans (by first | with_reducible exact Nat.le_refl _ | (simp; done) | (simp; omega) | (simp [World.setCell]; done)) hb2.size
  have HW := Lib.hid (show Blk w2 (w1.heap.size) 35 _ from by (with_reducible apply Blk.below (hb := hb2); (repeat (first | (with_reducible apply Blk.new'; first | with_reducible rfl | (focus (simp; done)) | (focus (simp; omega))) | with_reducible apply Blk.set_ | with_reducible apply Blk.far | with_reducible apply Blk.alloc | with_reducible apply Blk.drew | with_reducible apply Blk.drewN | (first | omega | (focus (simp; done)) | (focus (simp; omega)) | (focus (simp [World.setCell]; omega)))))))
  replace HP := Lib.hid (show Blk w2 (w.heap.size) 35 _ from by (with_reducible apply Blk.below (hb := hb2); (repeat (first | with_reducible exact HP.out | (with_reducible apply Blk.new'; first | with_reducible rfl | (focus (simp; done)) | (focus (simp; omega))) | with_reducible apply Blk.set_ | with_reducible apply Blk.far | with_reducible apply Blk.alloc | with_reducible apply Blk.drew | with_reducible apply Blk.drewN | (first | omega | (focus (simp; done)) | (focus (simp; omega)) | (focus (simp [World.setCell]; omega)))))))
  have q_W_w2 : w1.heap.size < w2.heap.size := HW.out.lt
  replace BEL : Hid (Below w.heap.size w w2) := Lib.hid (Below.trans (by repeat (first | with_reducible exact BEL.out | with_reducible apply Below.alloc | with_reducible apply Below.setCell | with_reducible apply Below.drew | with_reducible apply below_drewN | (first | omega | (focus (simp; done)) | (focus (simp; omega)) | (focus (simp [World.setCell]; omega))))) (hb2.mono (by (first | omega | (focus (simp; done)) | (focus (simp; omega)) | (focus (simp [World.setCell]; omega))))))
  have y_w2 : w.heap.size ≤ w2.heap.size := BEL.out.size
  clear hb2
  clear pP0 pP1 pP2 fP0 fP1 fP2 zP zP_1 zP_2 zP_3
  obtain ⟨pP0, pP1, pP2, fP0, fP1, fP2, zP⟩ := HP.out.three
  have zP_1 : w.heap.size < w2.heap.size + 1 := by omega
  have zP_2 : w.heap.size < w2.heap.size + 1 + 1 := by omega
  have zP_3 : w.heap.size < w2.heap.size + 1 + 1 + 1 := by omega
  obtain ⟨pW0, pW1, pW2, fW0, fW1, fW2, zW⟩ := HW.out.three
  have zW_1 : w1.heap.size < w2.heap.size + 1 := by omega
  have zW_2 : w1.heap.size < w2.heap.size + 1 + 1 := by omega
  have zW_3 : w1.heap.size < w2.heap.size + 1 + 1 + 1 := by omega
  go_wp2_with fail
  refine (bTick_is s r h vt _ H.out VT.out).mono ?_; rintro e w3 ⟨rfl, hb3⟩
  have z_w3 : w2.heap.size ≤ w3.heap.size := Nat.le_trans (by first | with_reducible exact Nat.le_refl _ | (simp; done) | (simp; omega) | (simp [World.setCell]; done)) hb3.size
  replace HP := Lib.hid (show Blk w3 (w.heap.size) 35 _ from by (with_reducible apply Blk.below (hb := hb3); (repeat (first | with_reducible exact HP.out | (with_reducible apply Blk.new'; first | with_reducible rfl | (focus (simp; done)) | (focus (simp; omega))) | with_reducible apply Blk.set_ | with_reducible apply Blk.far | with_reducible apply Blk.alloc | with_reducible apply Blk.drew | with_reducible apply Blk.drewN | (first | omega | (focus (simp; done)) | (focus (simp; omega)) | (focus (simp [World.setCell]; omega)))))))
  replace HW := Lib.hid (show Blk w3 (w1.heap.size) 35 _ from by (with_reducible apply Blk.below (hb := hb3); (repeat (first | with_reducible exact HW.out | (with_reducible apply Blk.new'; first | with_reducible rfl | (focus (simp; done)) | (focus (simp; omega))) | with_reducible apply Blk.set_ | with_reducible apply Blk.far | with_reducible apply Blk.alloc | with_reducible apply Blk.drew | with_reducible apply Blk.drewN | (first | omega | (focus (simp; done)) | (focus (simp; omega)) | (focus (simp [World.setCell]; omega)))))))
  replace BEL : Hid (Below w.heap.size w w3) := Lib.hid (Below.trans (by repeat (first | with_reducible exact BEL.out | with_reducible apply Below.alloc | with_reducible apply Below.setCell | with_reducible apply Below.drew | with_reducible apply below_drewN | (first | omega | (focus (simp; done)) | (focus (simp; omega)) | (focus (simp [World.setCell]; omega))))) (hb3.mono (by (first | omega | (focus (simp; done)) | (focus (simp; omega)) | (focus (simp [World.setCell]; omega))))))
  have y_w3 : w.heap.size ≤ w3.heap.size := BEL.out.size
  clear hb3
  clear pP0 pP1 pP2 fP0 fP1 fP2 zP zP_1 zP_2 zP_3 pW0 pW1 pW2 fW0 fW1 fW2 zW zW_1 zW_2 zW_3
  obtain ⟨pP0, pP1, pP2, fP0, fP1, fP2, zP⟩ := HP.out.three
  have zP_1 : w.heap.size < w3.heap.size + 1 := by omega
  have zP_2 : w.heap.size < w3.heap.size + 1 + 1 := by omega
  have zP_3 : w.heap.size < w3.heap.size + 1 + 1 + 1 := by omega
  obtain ⟨pW0, pW1, pW2, fW0, fW1, fW2, zW⟩ := HW.out.three
  have zW_1 : w1.heap.size < w3.heap.size + 1 := by omega
  have zW_2 : w1.heap.size < w3.heap.size + 1 + 1 := by omega
  have zW_3 : w1.heap.size < w3.heap.size + 1 + 1 + 1 := by omega
  go_wp2_with fail
  refine (same_ok _).mono ?_; rintro e w4 ⟨rfl, hb4⟩
  have z_w4 : w3.heap.size ≤ w4.heap.size := Nat.le_trans (by first | with_reducible exact Nat.le_refl _ | (simp; done) | (simp; omega) | (simp [World.setCell]; done)) hb4.size
  have HX := Lib.hid (show Blk w4 (w3.heap.size) 35 _ from by (with_reducible apply Blk.below (hb := hb4); (repeat (first | (with_reducible apply Blk.new'; first | with_reducible rfl | (focus (simp; done)) | (focus (simp; omega))) | with_reducible apply Blk.set_ | with_reducible apply Blk.far | with_reducible apply Blk.alloc | with_reducible apply Blk.drew | with_reducible apply Blk.drewN | (first | omega | (focus (simp; done)) | (focus (simp; omega)) | (focus (simp [World.setCell]; omega)))))))
  replace HP := Lib.hid (show Blk w4 (w.heap.size) 35 _ from by (with_reducible apply Blk.below (hb := hb4); (repeat (first | with_reducible exact HP.out | (with_reducible apply Blk.new'; first | with_reducible rfl | (focus (simp; done)) | (focus (simp; omega))) | with_reducible apply Blk.set_ | with_reducible apply Blk.far | with_reducible apply Blk.alloc | with_reducible apply Blk.drew | with_reducible apply Blk.drewN | (first | omega | (focus (simp; done)) | (focus (simp; omega)) | (focus (simp [World.setCell]; omega)))))))
  replace HW := Lib.hid (show Blk w4 (w1.heap.size) 35 _ from by (with_reducible apply Blk.below (hb := hb4); (repeat (first | with_reducible exact HW.out | (with_reducible apply Blk.new'; first | with_reducible rfl | (focus (simp; done)) | (focus (simp; omega))) | with_reducible apply Blk.set_ | with_reducible apply Blk.far | with_reducible apply Blk.alloc | with_reducible apply Blk.drew | with_reducible apply Blk.drewN | (first | omega | (focus (simp; done)) | (focus (simp; omega)) | (focus (simp [World.setCell]; omega)))))))
  have q_X_w4 : w3.heap.size < w4.heap.size := HX.out.lt
  replace BEL : Hid (Below w.heap.size w w4) := Lib.hid (Below.trans (by repeat (first | with_reducible exact BEL.out | with_reducible apply Below.alloc | with_reducible apply Below.setCell | with_reducible apply Below.drew | with_reducible apply below_drewN | (first | omega | (focus (simp; done)) | (focus (simp; omega)) | (focus (simp [World.setCell]; omega))))) (hb4.mono (by (first | omega | (focus (simp; done)) | (focus (simp; omega)) | (focus (simp [World.setCell]; omega))))))
  have y_w4 : w.heap.size ≤ w4.heap.size := BEL.out.size
  clear hb4
  clear pP0 pP1 pP2 fP0 fP1 fP2 zP zP_1 zP_2 zP_3 pW0 pW1 pW2 fW0 fW1 fW2 zW zW_1 zW_2 zW_3
  obtain ⟨pP0, pP1, pP2, fP0, fP1, fP2, zP⟩ := HP.out.three
  have zP_1 : w.heap.size < w4.heap.size + 1 := by omega
  have zP_2 : w.heap.size < w4.heap.size + 1 + 1 := by omega
  have zP_3 : w.heap.size < w4.heap.size + 1 + 1 + 1 := by omega
  obtain ⟨pW0, pW1, pW2, fW0, fW1, fW2, zW⟩ := HW.out.three
  have zW_1 : w1.heap.size < w4.heap.size + 1 := by omega
  have zW_2 : w1.heap.size < w4.heap.size + 1 + 1 := by omega
  have zW_3 : w1.heap.size < w4.heap.size + 1 + 1 + 1 := by omega
  obtain ⟨pX0, pX1, pX2, fX0, fX1, fX2, zX⟩ := HX.out.three
  have zX_1 : w3.heap.size < w4.heap.size + 1 := by omega
  have zX_2 : w3.heap.size < w4.heap.size + 1 + 1 := by omega
  have zX_3 : w3.heap.size < w4.heap.size + 1 + 1 + 1 := by omega
  go_wp2_with fail
  refine (take_low s r h n _ H.out n0 n1 hn).mono ?_; rintro e w5 ⟨rfl, hb5⟩
  have z_w5 : w4.heap.size ≤ w5.heap.size := Nat.le_trans (by first | with_reducible exact Nat.le_refl _ | (simp; done) | (simp; omega) | (simp [World.setCell]; done)) hb5.size
  replace HP := Lib.hid (show Blk w5 (w.heap.size) 35 _ from by (with_reducible apply Blk.below (hb := hb5); (repeat (first | with_reducible exact HP.out | (with_reducible apply Blk.new'; first | with_reducible rfl | (focus (simp; done)) | (focus (simp; omega))) | with_reducible apply Blk.set_ | with_reducible apply Blk.far | with_reducible apply Blk.alloc | with_reducible apply Blk.drew | with_reducible apply Blk.drewN | (first | omega | (focus (simp; done)) | (focus (simp; omega)) | (focus (simp [World.setCell]; omega)))))))
  replace HW := Lib.hid (show Blk w5 (w1.heap.size) 35 _ from by (with_reducible apply Blk.below (hb := hb5); (repeat (first | with_reducible exact HW.out | (with_reducible apply Blk.new'; first | with_reducible rfl | (focus (simp; done)) | (focus (simp; omega))) | with_reducible apply Blk.set_ | with_reducible apply Blk.far | with_reducible apply Blk.alloc | with_reducible apply Blk.drew | with_reducible apply Blk.drewN | (first | omega | (focus (simp; done)) | (focus (simp; omega)) | (focus (simp [World.setCell]; omega)))))))
  replace HX := Lib.hid (show Blk w5 (w3.heap.size) 35 _ from by (with_reducible apply Blk.below (hb := hb5); (repeat (first | with_reducible exact HX.out | (with_reducible apply Blk.new'; first | with_reducible rfl | (focus (simp; done)) | (focus (simp; omega))) | with_reducible apply Blk.set_ | with_reducible apply Blk.far | with_reducible apply Blk.alloc | with_reducible apply Blk.drew | with_reducible apply Blk.drewN | (first | omega | (focus (simp; done)) | (focus (simp; omega)) | (focus (simp [World.setCell]; omega)))))))
  replace BEL : Hid (Below w.heap.size w w5) := Lib.hid (Below.trans (by repeat (first | with_reducible exact BEL.out | with_reducible apply Below.alloc | with_reducible apply Below.setCell | with_reducible apply Below.drew | with_reducible apply below_drewN | (first | omega | (focus (simp; done)) | (focus (simp; omega)) | (focus (simp [World.setCell]; omega))))) (hb5.mono (by (first | omega | (focus (simp; done)) | (focus (simp; omega)) | (focus (simp [World.setCell]; omega))))))
  have y_w5 : w.heap.size ≤ w5.heap.size := BEL.out.size
  clear hb5
  clear pP0 pP1 pP2 fP0 fP1 fP2 zP zP_1 zP_2 zP_3 pW0 pW1 pW2 fW0 fW1 fW2 zW zW_1 zW_2 zW_3 pX0 pX1 pX2 fX0 fX1 fX2 zX zX_1 zX_2 zX_3
  obtain ⟨pP0, pP1, pP2, fP0, fP1, fP2, zP⟩ := HP.out.three
  have zP_1 : w.heap.size < w5.heap.size + 1 := by omega
  have zP_2 : w.heap.size < w5.heap.size + 1 + 1 := by omega
  have zP_3 : w.heap.size < w5.heap.size + 1 + 1 + 1 := by omega
  obtain ⟨pW0, pW1, pW2, fW0, fW1, fW2, zW⟩ := HW.out.three
  have zW_1 : w1.heap.size < w5.heap.size + 1 := by omega
  have zW_2 : w1.heap.size < w5.heap.size + 1 + 1 := by omega
  have zW_3 : w1.heap.size < w5.heap.size + 1 + 1 + 1 := by omega
  obtain ⟨pX0, pX1, pX2, fX0, fX1, fX2, zX⟩ := HX.out.three
  have zX_1 : w3.heap.size < w5.heap.size + 1 := by omega
  have zX_2 : w3.heap.size < w5.heap.size + 1 + 1 := by omega
  have zX_3 : w3.heap.size < w5.heap.size + 1 + 1 + 1 := by omega
  go_wp2_with fail
  refine (same_hit 8 _ (LAID.out.below (by repeat (first | with_reducible exact BEL.out | with_reducible apply Below.alloc | with_reducible apply Below.setCell | with_reducible apply Below.drew | with_reducible apply below_drewN | (first | omega | (focus (simp; done)) | (focus (simp; omega)) | (focus (simp [World.setCell]; omega))))))).mono ?_; rintro e w6 ⟨rfl, hb6⟩
  have z_w6 : w5.heap.size ≤ w6.heap.size := Nat.le_trans (by first | with_reducible exact Nat.le_refl _ | (simp; done) | (simp; omega) | (simp [World.setCell]; done)) hb6.size
  replace HP := Lib.hid (show Blk w6 (w.heap.size) 35 _ from by (with_reducible apply Blk.below (hb := hb6); (repeat (first | with_reducible exact HP.out | (with_reducible apply Blk.new'; first | with_reducible rfl | (focus (simp; done)) | (focus (simp; omega))) | with_reducible apply Blk.set_ | with_reducible apply Blk.far | with_reducible apply Blk.alloc | with_reducible apply Blk.drew | with_reducible apply Blk.drewN | (first | omega | (focus (simp; done)) | (focus (simp; omega)) | (focus (simp [World.setCell]; omega)))))))
  replace HW := Lib.hid (show Blk w6 (w1.heap.size) 35 _ from by (with_reducible apply Blk.below (hb := hb6); (repeat (first | with_reducible exact HW.out | (with_reducible apply Blk.new'; first | with_reducible rfl | (focus (simp; done)) | (focus (simp; omega))) | with_reducible apply Blk.set_ | with_reducible apply Blk.far | with_reducible apply Blk.alloc | with_reducible apply Blk.drew | with_reducible apply Blk.drewN | (first | omega | (focus (simp; done)) | (focus (simp; omega)) | (focus (simp [World.setCell]; omega)))))))
  replace HX := Lib.hid (show Blk w6 (w3.heap.size) 35 _ from by (with_reducible apply Blk.below (hb := hb6); (repeat (first | with_reducible exact HX.out | (with_reducible apply Blk.new'; first | with_reducible rfl | (focus (simp; done)) | (focus (simp; omega))) | with_reducible apply Blk.set_ | with_reducible apply Blk.far | with_reducible apply Blk.alloc | with_reducible apply Blk.drew | with_reducible apply Blk.drewN | (first | omega | (focus (simp; done)) | (focus (simp; omega)) | (focus (simp [World.setCell]; omega)))))))
  replace BEL : Hid (Below w.heap.size w w6) := Lib.hid (Below.trans (by repeat (first | with_reducible exact BEL.out | with_reducible apply Below.alloc | with_reducible apply Below.setCell | with_reducible apply Below.drew | with_reducible apply below_drewN | (first | omega | (focus (simp; done)) | (focus (simp; omega)) | (focus (simp [World.setCell]; omega))))) (hb6.mono (by (first | omega | (focus (simp; done)) | (focus (simp; omega)) | (focus (simp [World.setCell]; omega))))))
  have y_w6 : w.heap.size ≤ w6.heap.size := BEL.out.size
  clear hb6
  clear pP0 pP1 pP2 fP0 fP1 fP2 zP zP_1 zP_2 zP_3 pW0 pW1 pW2 fW0 fW1 fW2 zW zW_1 zW_2 zW_3 pX0 pX1 pX2 fX0 fX1 fX2 zX zX_1 zX_2 zX_3
  obtain ⟨pP0, pP1, pP2, fP0, fP1, fP2, zP⟩ := HP.out.three
  have zP_1 : w.heap.size < w6.heap.size + 1 := by omega
  have zP_2 : w.heap.size < w6.heap.size + 1 + 1 := by omega
  have zP_3 : w.heap.size < w6.heap.size + 1 + 1 + 1 := by omega
  obtain ⟨pW0, pW1, pW2, fW0, fW1, fW2, zW⟩ := HW.out.three
  have zW_1 : w1.heap.size < w6.heap.size + 1 := by omega
  have zW_2 : w1.heap.size < w6.heap.size + 1 + 1 := by omega
  have zW_3 : w1.heap.size < w6.heap.size + 1 + 1 + 1 := by omega
  obtain ⟨pX0, pX1, pX2, fX0, fX1, fX2, zX⟩ := HX.out.three
  have zX_1 : w3.heap.size < w6.heap.size + 1 := by omega
  have zX_2 : w3.heap.size < w6.heap.size + 1 + 1 := by omega
  have zX_3 : w3.heap.size < w6.heap.size + 1 + 1 + 1 := by omega
  go_wp2_with fail
  refine (refTicks_is A cp l w.heap.size _ (HI.out.below (by repeat (first | with_reducible exact BEL.out | with_reducible apply Below.alloc | with_reducible apply Below.setCell | with_reducible apply Below.drew | with_reducible apply below_drewN | (first | omega | (focus (simp; done)) | (focus (simp; omega)) | (focus (simp [World.setCell]; omega))))) (Nat.le_refl _)) 4 HT.out).mono ?_; rintro e w' ⟨rfl, rfl⟩
  go_wp2_with fail
  refine (bsend_full s r h A cp l.length _ H.out hl hm).mono ?_; rintro e w7 ⟨rfl, hb7⟩
  clear HW
  clear HX
  have z_w7 : w6.heap.size ≤ w7.heap.size := Nat.le_trans (by first | with_reducible exact Nat.le_refl _ | (simp; done) | (simp; omega) | (simp [World.setCell]; done)) hb7.size
  replace HP := Lib.hid (show Blk w7 (w.heap.size) 35 _ from by (with_reducible apply Blk.below (hb := hb7); (repeat (first | with_reducible exact HP.out | (with_reducible apply Blk.new'; first | with_reducible rfl | (focus (simp; done)) | (focus (simp; omega))) | with_reducible apply Blk.set_ | with_reducible apply Blk.far | with_reducible apply Blk.alloc | with_reducible apply Blk.drew | with_reducible apply Blk.drewN | (first | omega | (focus (simp; done)) | (focus (simp; omega)) | (focus (simp [World.setCell]; omega)))))))
  replace BEL : Hid (Below w.heap.size w w7) := Lib.hid (Below.trans (by repeat (first | with_reducible exact BEL.out | with_reducible apply Below.alloc | with_reducible apply Below.setCell | with_reducible apply Below.drew | with_reducible apply below_drewN | (first | omega | (focus (simp; done)) | (focus (simp; omega)) | (focus (simp [World.setCell]; omega))))) (hb7.mono (by (first | omega | (focus (simp; done)) | (focus (simp; omega)) | (focus (simp [World.setCell]; omega))))))
  have y_w7 : w.heap.size ≤ w7.heap.size := BEL.out.size
  clear hb7
  clear pP0 pP1 pP2 fP0 fP1 fP2 zP zP_1 zP_2 zP_3 pW0 pW1 pW2 fW0 fW1 fW2 zW zW_1 zW_2 zW_3 pX0 pX1 pX2 fX0 fX1 fX2 zX zX_1 zX_2 zX_3
  obtain ⟨pP0, pP1, pP2, fP0, fP1, fP2, zP⟩ := HP.out.three
  have zP_1 : w.heap.size < w7.heap.size + 1 := by omega
  have zP_2 : w.heap.size < w7.heap.size + 1 + 1 := by omega
  have zP_3 : w.heap.size < w7.heap.size + 1 + 1 + 1 := by omega
  go_wp2_with fail
  refine (same_hit 4 _ (LAID.out.below (by repeat (first | with_reducible exact BEL.out | with_reducible apply Below.alloc | with_reducible apply Below.setCell | with_reducible apply Below.drew | with_reducible apply below_drewN | (first | omega | (focus (simp; done)) | (focus (simp; omega)) | (focus (simp [World.setCell]; omega))))))).mono ?_; rintro e w8 ⟨rfl, hb8⟩
  have z_w8 : w7.heap.size ≤ w8.heap.size := Nat.le_trans (by first | with_reducible exact Nat.le_refl _ | (simp; done) | (simp; omega) | (simp [World.setCell]; done)) hb8.size
  replace HP := Lib.hid (show Blk w8 (w.heap.size) 35 _ from by (with_reducible apply Blk.below (hb := hb8); (repeat (first | with_reducible exact HP.out | (with_reducible apply Blk.new'; first | with_reducible rfl | (focus (simp; done)) | (focus (simp; omega))) | with_reducible apply Blk.set_ | with_reducible apply Blk.far | with_reducible apply Blk.alloc | with_reducible apply Blk.drew | with_reducible apply Blk.drewN | (first | omega | (focus (simp; done)) | (focus (simp; omega)) | (focus (simp [World.setCell]; omega)))))))
  replace BEL : Hid (Below w.heap.size w w8) := Lib.hid (Below.trans (by repeat (first | with_reducible exact BEL.out | with_reducible apply Below.alloc | with_reducible apply Below.setCell | with_reducible apply Below.drew | with_reducible apply below_drewN | (first | omega | (focus (simp; done)) | (focus (simp; omega)) | (focus (simp [World.setCell]; omega))))) (hb8.mono (by (first | omega | (focus (simp; done)) | (focus (simp; omega)) | (focus (simp [World.setCell]; omega))))))
  have y_w8 : w.heap.size ≤ w8.heap.size := BEL.out.size
  clear hb8
  clear pP0 pP1 pP2 fP0 fP1 fP2 zP zP_1 zP_2 zP_3
  obtain ⟨pP0, pP1, pP2, fP0, fP1, fP2, zP⟩ := HP.out.three
  have zP_1 : w.heap.size < w8.heap.size + 1 := by omega
  have zP_2 : w.heap.size < w8.heap.size + 1 + 1 := by omega
  have zP_3 : w.heap.size < w8.heap.size + 1 + 1 + 1 := by omega
  go_wp2_with fail
  refine (sameInts_nil _).mono ?_; rintro e w9 ⟨rfl, hb9⟩
  have z_w9 : w8.heap.size ≤ w9.heap.size := Nat.le_trans (by first | with_reducible exact Nat.le_refl _ | (simp; done) | (simp; omega) | (simp [World.setCell]; done)) hb9.size
  replace HP := Lib.hid (show Blk w9 (w.heap.size) 35 _ from by (with_reducible apply Blk.below (hb := hb9); (repeat (first | with_reducible exact HP.out | (with_reducible apply Blk.new'; first | with_reducible rfl | (focus (simp; done)) | (focus (simp; omega))) | with_reducible apply Blk.set_ | with_reducible apply Blk.far | with_reducible apply Blk.alloc | with_reducible apply Blk.drew | with_reducible apply Blk.drewN | (first | omega | (focus (simp; done)) | (focus (simp; omega)) | (focus (simp [World.setCell]; omega)))))))
  replace BEL : Hid (Below w.heap.size w w9) := Lib.hid (Below.trans (by repeat (first | with_reducible exact BEL.out | with_reducible apply Below.alloc | with_reducible apply Below.setCell | with_reducible apply Below.drew | with_reducible apply below_drewN | (first | omega | (focus (simp; done)) | (focus (simp; omega)) | (focus (simp [World.setCell]; omega))))) (hb9.mono (by (first | omega | (focus (simp; done)) | (focus (simp; omega)) | (focus (simp [World.setCell]; omega))))))
  have y_w9 : w.heap.size ≤ w9.heap.size := BEL.out.size
  clear hb9
  clear pP0 pP1 pP2 fP0 fP1 fP2 zP zP_1 zP_2 zP_3
  obtain ⟨pP0, pP1, pP2, fP0, fP1, fP2, zP⟩ := HP.out.three
  have zP_1 : w.heap.size < w9.heap.size + 1 := by omega
  have zP_2 : w.heap.size < w9.heap.size + 1 + 1 := by omega
  have zP_3 : w.heap.size < w9.heap.size + 1 + 1 + 1 := by omega
  go_wp2
  go_ret
  exact ⟨rfl, (by repeat (first | with_reducible exact BEL.out | with_reducible apply Below.alloc | with_reducible apply Below.setCell | with_reducible apply Below.drew | with_reducible apply below_drewN | (first | omega | (focus (simp; done)) | (focus (simp; omega)) | (focus (simp [World.setCell]; omega)))))⟩
set_option maxHeartbeats 8000000 in
set_option maxRecDepth 100000 in
theorem bucketTells_low_bad (s r h n : Int) (A : Option Addr) (cp : Nat) (l : List Int) (w : World) (hi : Ints w w.heap.size A cp l) (hg : Laid w) (ok : BucketOk s r h) (n0 : 0 ≤ n) (n1 : n ≤ 10000) (hn : h < n) (hl : l.length ≤ 60) (hb : l.any badRate = true) :
    Calls Tryd.prog 8 #[.agg #[.int .i64 s, .int .i64 r, .int .i64 h], .int .i64 n, .slice A l.length cp] w fun e w' => e = .returned (.bool true) ∧ Below w.heap.size w w' := by
  have LAID := Lib.hid hg; clear hg
  have HI := Lib.hid hi; clear hi
  have H := Lib.hid ok
  obtain ⟨g1, g2, g3, g4, g5, g6⟩ := ok
  obtain ⟨vt, hvt⟩ : ∃ v, min s (h + r) = v := ⟨_, rfl⟩
  have VT := Lib.hid hvt; clear hvt
  have HB := Lib.hid hb; clear hb
  have HT : Hid (ticksErr l = 1) := Lib.hid (by unfold ticksErr; rw [if_neg (by omega), HB.out]; rfl)
  have BEL : Hid (Below w.heap.size w w) := Lib.hid (Below.refl _ _)
  have yB : w.heap.size ≤ w.heap.size := Nat.le_refl _
  go_enter Tryd.func8, Tryd.ntmps8
  go_wp2_with fail
  refine (refBucket_yes s r h _ H.out).mono ?_; rintro e w' ⟨rfl, rfl⟩
  go_wp2_with fail
  refine (bcheck_yes s r h _ H.out).mono ?_; rintro e w' ⟨rfl, rfl⟩
  go_wp2_with fail
  refine (same_ok _).mono ?_; rintro e w1 ⟨rfl, hb1⟩
  have z_w1 : w.heap.size ≤ w1.heap.size := Nat.le_trans (by first | with_reducible exact Nat.le_refl _ | (simp; done) | (simp; omega) | (simp [World.setCell]; done)) hb1.size
  have HP := Lib.hid (show Blk w1 (w.heap.size) 35 _ from by (with_reducible apply Blk.below (hb := hb1); (repeat (first | (with_reducible apply Blk.new'; first | with_reducible rfl | (focus (simp; done)) | (focus (simp; omega))) | with_reducible apply Blk.set_ | with_reducible apply Blk.far | with_reducible apply Blk.alloc | with_reducible apply Blk.drew | with_reducible apply Blk.drewN | (first | omega | (focus (simp; done)) | (focus (simp; omega)) | (focus (simp [World.setCell]; omega)))))))
  have q_P_w1 : w.heap.size < w1.heap.size := HP.out.lt
  replace BEL : Hid (Below w.heap.size w w1) := Lib.hid (Below.trans (by repeat (first | with_reducible exact BEL.out | with_reducible apply Below.alloc | with_reducible apply Below.setCell | with_reducible apply Below.drew | with_reducible apply below_drewN | (first | omega | (focus (simp; done)) | (focus (simp; omega)) | (focus (simp [World.setCell]; omega))))) (hb1.mono (by (first | omega | (focus (simp; done)) | (focus (simp; omega)) | (focus (simp [World.setCell]; omega))))))
  have y_w1 : w.heap.size ≤ w1.heap.size := BEL.out.size
  clear hb1
  obtain ⟨pP0, pP1, pP2, fP0, fP1, fP2, zP⟩ := HP.out.three
  have zP_1 : w.heap.size < w1.heap.size + 1 := by omega
  have zP_2 : w.heap.size < w1.heap.size + 1 + 1 := by omega
  have zP_3 : w.heap.size < w1.heap.size + 1 + 1 + 1 := by omega
  go_wp2_with fail
  refine (refFill_is s r h vt _ (by omega) (by omega) g3 (by omega) VT.out).mono ?_; rintro e w2 ⟨rfl, hb2⟩
  have z_w2 : w1.heap.size ≤ w2.heap.size := Nat.le_trans (by first | with_reducible exact Nat.le_refl _ | (simp; done) | (simp; omega) | (simp [World.setCell]; done)) hb2.size
  have HW := Lib.hid (show Blk w2 (w1.heap.size) 35 _ from by (with_reducible apply Blk.below (hb := hb2); (repeat (first | (with_reducible apply Blk.new'; first | with_reducible rfl | (focus (simp; done)) | (focus (simp; omega))) | with_reducible apply Blk.set_ | with_reducible apply Blk.far | with_reducible apply Blk.alloc | with_reducible apply Blk.drew | with_reducible apply Blk.drewN | (first | omega | (focus (simp; done)) | (focus (simp; omega)) | (focus (simp [World.setCell]; omega)))))))
  replace HP := Lib.hid (show Blk w2 (w.heap.size) 35 _ from by (with_reducible apply Blk.below (hb := hb2); (repeat (first | with_reducible exact HP.out | (with_reducible apply Blk.new'; first | with_reducible rfl | (focus (simp; done)) | (focus (simp; omega))) | with_reducible apply Blk.set_ | with_reducible apply Blk.far | with_reducible apply Blk.alloc | with_reducible apply Blk.drew | with_reducible apply Blk.drewN | (first | omega | (focus (simp; done)) | (focus (simp; omega)) | (focus (simp [World.setCell]; omega)))))))
  have q_W_w2 : w1.heap.size < w2.heap.size := HW.out.lt
  replace BEL : Hid (Below w.heap.size w w2) := Lib.hid (Below.trans (by repeat (first | with_reducible exact BEL.out | with_reducible apply Below.alloc | with_reducible apply Below.setCell | with_reducible apply Below.drew | with_reducible apply below_drewN | (first | omega | (focus (simp; done)) | (focus (simp; omega)) | (focus (simp [World.setCell]; omega))))) (hb2.mono (by (first | omega | (focus (simp; done)) | (focus (simp; omega)) | (focus (simp [World.setCell]; omega))))))
  have y_w2 : w.heap.size ≤ w2.heap.size := BEL.out.size
  clear hb2
  clear pP0 pP1 pP2 fP0 fP1 fP2 zP zP_1 zP_2 zP_3
  obtain ⟨pP0, pP1, pP2, fP0, fP1, fP2, zP⟩ := HP.out.three
  have zP_1 : w.heap.size < w2.heap.size + 1 := by omega
  have zP_2 : w.heap.size < w2.heap.size + 1 + 1 := by omega
  have zP_3 : w.heap.size < w2.heap.size + 1 + 1 + 1 := by omega
  obtain ⟨pW0, pW1, pW2, fW0, fW1, fW2, zW⟩ := HW.out.three
  have zW_1 : w1.heap.size < w2.heap.size + 1 := by omega
  have zW_2 : w1.heap.size < w2.heap.size + 1 + 1 := by omega
  have zW_3 : w1.heap.size < w2.heap.size + 1 + 1 + 1 := by omega
  go_wp2_with fail
  refine (bTick_is s r h vt _ H.out VT.out).mono ?_; rintro e w3 ⟨rfl, hb3⟩
  have z_w3 : w2.heap.size ≤ w3.heap.size := Nat.le_trans (by first | with_reducible exact Nat.le_refl _ | (simp; done) | (simp; omega) | (simp [World.setCell]; done)) hb3.size
  replace HP := Lib.hid (show Blk w3 (w.heap.size) 35 _ from by (with_reducible apply Blk.below (hb := hb3); (repeat (first | with_reducible exact HP.out | (with_reducible apply Blk.new'; first | with_reducible rfl | (focus (simp; done)) | (focus (simp; omega))) | with_reducible apply Blk.set_ | with_reducible apply Blk.far | with_reducible apply Blk.alloc | with_reducible apply Blk.drew | with_reducible apply Blk.drewN | (first | omega | (focus (simp; done)) | (focus (simp; omega)) | (focus (simp [World.setCell]; omega)))))))
  replace HW := Lib.hid (show Blk w3 (w1.heap.size) 35 _ from by (with_reducible apply Blk.below (hb := hb3); (repeat (first | with_reducible exact HW.out | (with_reducible apply Blk.new'; first | with_reducible rfl | (focus (simp; done)) | (focus (simp; omega))) | with_reducible apply Blk.set_ | with_reducible apply Blk.far | with_reducible apply Blk.alloc | with_reducible apply Blk.drew | with_reducible apply Blk.drewN | (first | omega | (focus (simp; done)) | (focus (simp; omega)) | (focus (simp [World.setCell]; omega)))))))
  replace BEL : Hid (Below w.heap.size w w3) := Lib.hid (Below.trans (by repeat (first | with_reducible exact BEL.out | with_reducible apply Below.alloc | with_reducible apply Below.setCell | with_reducible apply Below.drew | with_reducible apply below_drewN | (first | omega | (focus (simp; done)) | (focus (simp; omega)) | (focus (simp [World.setCell]; omega))))) (hb3.mono (by (first | omega | (focus (simp; done)) | (focus (simp; omega)) | (focus (simp [World.setCell]; omega))))))
  have y_w3 : w.heap.size ≤ w3.heap.size := BEL.out.size
  clear hb3
  clear pP0 pP1 pP2 fP0 fP1 fP2 zP zP_1 zP_2 zP_3 pW0 pW1 pW2 fW0 fW1 fW2 zW zW_1 zW_2 zW_3
  obtain ⟨pP0, pP1, pP2, fP0, fP1, fP2, zP⟩ := HP.out.three
  have zP_1 : w.heap.size < w3.heap.size + 1 := by omega
  have zP_2 : w.heap.size < w3.heap.size + 1 + 1 := by omega
  have zP_3 : w.heap.size < w3.heap.size + 1 + 1 + 1 := by omega
  obtain ⟨pW0, pW1, pW2, fW0, fW1, fW2, zW⟩ := HW.out.three
  have zW_1 : w1.heap.size < w3.heap.size + 1 := by omega
  have zW_2 : w1.heap.size < w3.heap.size + 1 + 1 := by omega
  have zW_3 : w1.heap.size < w3.heap.size + 1 + 1 + 1 := by omega
  go_wp2_with fail
  refine (same_ok _).mono ?_; rintro e w4 ⟨rfl, hb4⟩
  have z_w4 : w3.heap.size ≤ w4.heap.size := Nat.le_trans (by first | with_reducible exact Nat.le_refl _ | (simp; done) | (simp; omega) | (simp [World.setCell]; done)) hb4.size
  have HX := Lib.hid (show Blk w4 (w3.heap.size) 35 _ from by (with_reducible apply Blk.below (hb := hb4); (repeat (first | (with_reducible apply Blk.new'; first | with_reducible rfl | (focus (simp; done)) | (focus (simp; omega))) | with_reducible apply Blk.set_ | with_reducible apply Blk.far | with_reducible apply Blk.alloc | with_reducible apply Blk.drew | with_reducible apply Blk.drewN | (first | omega | (focus (simp; done)) | (focus (simp; omega)) | (focus (simp [World.setCell]; omega)))))))
  replace HP := Lib.hid (show Blk w4 (w.heap.size) 35 _ from by (with_reducible apply Blk.below (hb := hb4); (repeat (first | with_reducible exact HP.out | (with_reducible apply Blk.new'; first | with_reducible rfl | (focus (simp; done)) | (focus (simp; omega))) | with_reducible apply Blk.set_ | with_reducible apply Blk.far | with_reducible apply Blk.alloc | with_reducible apply Blk.drew | with_reducible apply Blk.drewN | (first | omega | (focus (simp; done)) | (focus (simp; omega)) | (focus (simp [World.setCell]; omega)))))))
  replace HW := Lib.hid (show Blk w4 (w1.heap.size) 35 _ from by (with_reducible apply Blk.below (hb := hb4); (repeat (first | with_reducible exact HW.out | (with_reducible apply Blk.new'; first | with_reducible rfl | (focus (simp; done)) | (focus (simp; omega))) | with_reducible apply Blk.set_ | with_reducible apply Blk.far | with_reducible apply Blk.alloc | with_reducible apply Blk.drew | with_reducible apply Blk.drewN | (first | omega | (focus (simp; done)) | (focus (simp; omega)) | (focus (simp [World.setCell]; omega)))))))
  have q_X_w4 : w3.heap.size < w4.heap.size := HX.out.lt
  replace BEL : Hid (Below w.heap.size w w4) := Lib.hid (Below.trans (by repeat (first | with_reducible exact BEL.out | with_reducible apply Below.alloc | with_reducible apply Below.setCell | with_reducible apply Below.drew | with_reducible apply below_drewN | (first | omega | (focus (simp; done)) | (focus (simp; omega)) | (focus (simp [World.setCell]; omega))))) (hb4.mono (by (first | omega | (focus (simp; done)) | (focus (simp; omega)) | (focus (simp [World.setCell]; omega))))))
  have y_w4 : w.heap.size ≤ w4.heap.size := BEL.out.size
  clear hb4
  clear pP0 pP1 pP2 fP0 fP1 fP2 zP zP_1 zP_2 zP_3 pW0 pW1 pW2 fW0 fW1 fW2 zW zW_1 zW_2 zW_3
  obtain ⟨pP0, pP1, pP2, fP0, fP1, fP2, zP⟩ := HP.out.three
  have zP_1 : w.heap.size < w4.heap.size + 1 := by omega
  have zP_2 : w.heap.size < w4.heap.size + 1 + 1 := by omega
  have zP_3 : w.heap.size < w4.heap.size + 1 + 1 + 1 := by omega
  obtain ⟨pW0, pW1, pW2, fW0, fW1, fW2, zW⟩ := HW.out.three
  have zW_1 : w1.heap.size < w4.heap.size + 1 := by omega
  have zW_2 : w1.heap.size < w4.heap.size + 1 + 1 := by omega
  have zW_3 : w1.heap.size < w4.heap.size + 1 + 1 + 1 := by omega
  obtain ⟨pX0, pX1, pX2, fX0, fX1, fX2, zX⟩ := HX.out.three
  have zX_1 : w3.heap.size < w4.heap.size + 1 := by omega
  have zX_2 : w3.heap.size < w4.heap.size + 1 + 1 := by omega
  have zX_3 : w3.heap.size < w4.heap.size + 1 + 1 + 1 := by omega
  go_wp2_with fail
  refine (take_low s r h n _ H.out n0 n1 hn).mono ?_; rintro e w5 ⟨rfl, hb5⟩
  have z_w5 : w4.heap.size ≤ w5.heap.size := Nat.le_trans (by first | with_reducible exact Nat.le_refl _ | (simp; done) | (simp; omega) | (simp [World.setCell]; done)) hb5.size
  replace HP := Lib.hid (show Blk w5 (w.heap.size) 35 _ from by (with_reducible apply Blk.below (hb := hb5); (repeat (first | with_reducible exact HP.out | (with_reducible apply Blk.new'; first | with_reducible rfl | (focus (simp; done)) | (focus (simp; omega))) | with_reducible apply Blk.set_ | with_reducible apply Blk.far | with_reducible apply Blk.alloc | with_reducible apply Blk.drew | with_reducible apply Blk.drewN | (first | omega | (focus (simp; done)) | (focus (simp; omega)) | (focus (simp [World.setCell]; omega)))))))
  replace HW := Lib.hid (show Blk w5 (w1.heap.size) 35 _ from by (with_reducible apply Blk.below (hb := hb5); (repeat (first | with_reducible exact HW.out | (with_reducible apply Blk.new'; first | with_reducible rfl | (focus (simp; done)) | (focus (simp; omega))) | with_reducible apply Blk.set_ | with_reducible apply Blk.far | with_reducible apply Blk.alloc | with_reducible apply Blk.drew | with_reducible apply Blk.drewN | (first | omega | (focus (simp; done)) | (focus (simp; omega)) | (focus (simp [World.setCell]; omega)))))))
  replace HX := Lib.hid (show Blk w5 (w3.heap.size) 35 _ from by (with_reducible apply Blk.below (hb := hb5); (repeat (first | with_reducible exact HX.out | (with_reducible apply Blk.new'; first | with_reducible rfl | (focus (simp; done)) | (focus (simp; omega))) | with_reducible apply Blk.set_ | with_reducible apply Blk.far | with_reducible apply Blk.alloc | with_reducible apply Blk.drew | with_reducible apply Blk.drewN | (first | omega | (focus (simp; done)) | (focus (simp; omega)) | (focus (simp [World.setCell]; omega)))))))
  replace BEL : Hid (Below w.heap.size w w5) := Lib.hid (Below.trans (by repeat (first | with_reducible exact BEL.out | with_reducible apply Below.alloc | with_reducible apply Below.setCell | with_reducible apply Below.drew | with_reducible apply below_drewN | (first | omega | (focus (simp; done)) | (focus (simp; omega)) | (focus (simp [World.setCell]; omega))))) (hb5.mono (by (first | omega | (focus (simp; done)) | (focus (simp; omega)) | (focus (simp [World.setCell]; omega))))))
  have y_w5 : w.heap.size ≤ w5.heap.size := BEL.out.size
  clear hb5
  clear pP0 pP1 pP2 fP0 fP1 fP2 zP zP_1 zP_2 zP_3 pW0 pW1 pW2 fW0 fW1 fW2 zW zW_1 zW_2 zW_3 pX0 pX1 pX2 fX0 fX1 fX2 zX zX_1 zX_2 zX_3
  obtain ⟨pP0, pP1, pP2, fP0, fP1, fP2, zP⟩ := HP.out.three
  have zP_1 : w.heap.size < w5.heap.size + 1 := by omega
  have zP_2 : w.heap.size < w5.heap.size + 1 + 1 := by omega
  have zP_3 : w.heap.size < w5.heap.size + 1 + 1 + 1 := by omega
  obtain ⟨pW0, pW1, pW2, fW0, fW1, fW2, zW⟩ := HW.out.three
  have zW_1 : w1.heap.size < w5.heap.size + 1 := by omega
  have zW_2 : w1.heap.size < w5.heap.size + 1 + 1 := by omega
  have zW_3 : w1.heap.size < w5.heap.size + 1 + 1 + 1 := by omega
  obtain ⟨pX0, pX1, pX2, fX0, fX1, fX2, zX⟩ := HX.out.three
  have zX_1 : w3.heap.size < w5.heap.size + 1 := by omega
  have zX_2 : w3.heap.size < w5.heap.size + 1 + 1 := by omega
  have zX_3 : w3.heap.size < w5.heap.size + 1 + 1 + 1 := by omega
  go_wp2_with fail
  refine (same_hit 8 _ (LAID.out.below (by repeat (first | with_reducible exact BEL.out | with_reducible apply Below.alloc | with_reducible apply Below.setCell | with_reducible apply Below.drew | with_reducible apply below_drewN | (first | omega | (focus (simp; done)) | (focus (simp; omega)) | (focus (simp [World.setCell]; omega))))))).mono ?_; rintro e w6 ⟨rfl, hb6⟩
  have z_w6 : w5.heap.size ≤ w6.heap.size := Nat.le_trans (by first | with_reducible exact Nat.le_refl _ | (simp; done) | (simp; omega) | (simp [World.setCell]; done)) hb6.size
  replace HP := Lib.hid (show Blk w6 (w.heap.size) 35 _ from by (with_reducible apply Blk.below (hb := hb6); (repeat (first | with_reducible exact HP.out | (with_reducible apply Blk.new'; first | with_reducible rfl | (focus (simp; done)) | (focus (simp; omega))) | with_reducible apply Blk.set_ | with_reducible apply Blk.far | with_reducible apply Blk.alloc | with_reducible apply Blk.drew | with_reducible apply Blk.drewN | (first | omega | (focus (simp; done)) | (focus (simp; omega)) | (focus (simp [World.setCell]; omega)))))))
  replace HW := Lib.hid (show Blk w6 (w1.heap.size) 35 _ from by (with_reducible apply Blk.below (hb := hb6); (repeat (first | with_reducible exact HW.out | (with_reducible apply Blk.new'; first | with_reducible rfl | (focus (simp; done)) | (focus (simp; omega))) | with_reducible apply Blk.set_ | with_reducible apply Blk.far | with_reducible apply Blk.alloc | with_reducible apply Blk.drew | with_reducible apply Blk.drewN | (first | omega | (focus (simp; done)) | (focus (simp; omega)) | (focus (simp [World.setCell]; omega)))))))
  replace HX := Lib.hid (show Blk w6 (w3.heap.size) 35 _ from by (with_reducible apply Blk.below (hb := hb6); (repeat (first | with_reducible exact HX.out | (with_reducible apply Blk.new'; first | with_reducible rfl | (focus (simp; done)) | (focus (simp; omega))) | with_reducible apply Blk.set_ | with_reducible apply Blk.far | with_reducible apply Blk.alloc | with_reducible apply Blk.drew | with_reducible apply Blk.drewN | (first | omega | (focus (simp; done)) | (focus (simp; omega)) | (focus (simp [World.setCell]; omega)))))))
  replace BEL : Hid (Below w.heap.size w w6) := Lib.hid (Below.trans (by repeat (first | with_reducible exact BEL.out | with_reducible apply Below.alloc | with_reducible apply Below.setCell | with_reducible apply Below.drew | with_reducible apply below_drewN | (first | omega | (focus (simp; done)) | (focus (simp; omega)) | (focus (simp [World.setCell]; omega))))) (hb6.mono (by (first | omega | (focus (simp; done)) | (focus (simp; omega)) | (focus (simp [World.setCell]; omega))))))
  have y_w6 : w.heap.size ≤ w6.heap.size := BEL.out.size
  clear hb6
  clear pP0 pP1 pP2 fP0 fP1 fP2 zP zP_1 zP_2 zP_3 pW0 pW1 pW2 fW0 fW1 fW2 zW zW_1 zW_2 zW_3 pX0 pX1 pX2 fX0 fX1 fX2 zX zX_1 zX_2 zX_3
  obtain ⟨pP0, pP1, pP2, fP0, fP1, fP2, zP⟩ := HP.out.three
  have zP_1 : w.heap.size < w6.heap.size + 1 := by omega
  have zP_2 : w.heap.size < w6.heap.size + 1 + 1 := by omega
  have zP_3 : w.heap.size < w6.heap.size + 1 + 1 + 1 := by omega
  obtain ⟨pW0, pW1, pW2, fW0, fW1, fW2, zW⟩ := HW.out.three
  have zW_1 : w1.heap.size < w6.heap.size + 1 := by omega
  have zW_2 : w1.heap.size < w6.heap.size + 1 + 1 := by omega
  have zW_3 : w1.heap.size < w6.heap.size + 1 + 1 + 1 := by omega
  obtain ⟨pX0, pX1, pX2, fX0, fX1, fX2, zX⟩ := HX.out.three
  have zX_1 : w3.heap.size < w6.heap.size + 1 := by omega
  have zX_2 : w3.heap.size < w6.heap.size + 1 + 1 := by omega
  have zX_3 : w3.heap.size < w6.heap.size + 1 + 1 + 1 := by omega
  go_wp2_with fail
  refine (refTicks_is A cp l w.heap.size _ (HI.out.below (by repeat (first | with_reducible exact BEL.out | with_reducible apply Below.alloc | with_reducible apply Below.setCell | with_reducible apply Below.drew | with_reducible apply below_drewN | (first | omega | (focus (simp; done)) | (focus (simp; omega)) | (focus (simp [World.setCell]; omega))))) (Nat.le_refl _)) 1 HT.out).mono ?_; rintro e w' ⟨rfl, rfl⟩
  go_wp2_with fail
  refine (bsend_bad s r h A cp l _ H.out ((HI.out.below (by repeat (first | with_reducible exact BEL.out | with_reducible apply Below.alloc | with_reducible apply Below.setCell | with_reducible apply Below.drew | with_reducible apply below_drewN | (first | omega | (focus (simp; done)) | (focus (simp; omega)) | (focus (simp [World.setCell]; omega))))) (Nat.le_refl _)).more (by (first | omega | (focus (simp; done)) | (focus (simp; omega)) | (focus (simp [World.setCell]; omega))))) hl HB.out).mono ?_; rintro e w7 ⟨rfl, hb7⟩
  clear HW
  clear HX
  have z_w7 : w6.heap.size ≤ w7.heap.size := Nat.le_trans (by first | with_reducible exact Nat.le_refl _ | (simp; done) | (simp; omega) | (simp [World.setCell]; done)) hb7.size
  replace HP := Lib.hid (show Blk w7 (w.heap.size) 35 _ from by (with_reducible apply Blk.below (hb := hb7); (repeat (first | with_reducible exact HP.out | (with_reducible apply Blk.new'; first | with_reducible rfl | (focus (simp; done)) | (focus (simp; omega))) | with_reducible apply Blk.set_ | with_reducible apply Blk.far | with_reducible apply Blk.alloc | with_reducible apply Blk.drew | with_reducible apply Blk.drewN | (first | omega | (focus (simp; done)) | (focus (simp; omega)) | (focus (simp [World.setCell]; omega)))))))
  replace BEL : Hid (Below w.heap.size w w7) := Lib.hid (Below.trans (by repeat (first | with_reducible exact BEL.out | with_reducible apply Below.alloc | with_reducible apply Below.setCell | with_reducible apply Below.drew | with_reducible apply below_drewN | (first | omega | (focus (simp; done)) | (focus (simp; omega)) | (focus (simp [World.setCell]; omega))))) (hb7.mono (by (first | omega | (focus (simp; done)) | (focus (simp; omega)) | (focus (simp [World.setCell]; omega))))))
  have y_w7 : w.heap.size ≤ w7.heap.size := BEL.out.size
  clear hb7
  clear pP0 pP1 pP2 fP0 fP1 fP2 zP zP_1 zP_2 zP_3 pW0 pW1 pW2 fW0 fW1 fW2 zW zW_1 zW_2 zW_3 pX0 pX1 pX2 fX0 fX1 fX2 zX zX_1 zX_2 zX_3
  obtain ⟨pP0, pP1, pP2, fP0, fP1, fP2, zP⟩ := HP.out.three
  have zP_1 : w.heap.size < w7.heap.size + 1 := by omega
  have zP_2 : w.heap.size < w7.heap.size + 1 + 1 := by omega
  have zP_3 : w.heap.size < w7.heap.size + 1 + 1 + 1 := by omega
  go_wp2_with fail
  refine (same_hit 1 _ (LAID.out.below (by repeat (first | with_reducible exact BEL.out | with_reducible apply Below.alloc | with_reducible apply Below.setCell | with_reducible apply Below.drew | with_reducible apply below_drewN | (first | omega | (focus (simp; done)) | (focus (simp; omega)) | (focus (simp [World.setCell]; omega))))))).mono ?_; rintro e w8 ⟨rfl, hb8⟩
  have z_w8 : w7.heap.size ≤ w8.heap.size := Nat.le_trans (by first | with_reducible exact Nat.le_refl _ | (simp; done) | (simp; omega) | (simp [World.setCell]; done)) hb8.size
  replace HP := Lib.hid (show Blk w8 (w.heap.size) 35 _ from by (with_reducible apply Blk.below (hb := hb8); (repeat (first | with_reducible exact HP.out | (with_reducible apply Blk.new'; first | with_reducible rfl | (focus (simp; done)) | (focus (simp; omega))) | with_reducible apply Blk.set_ | with_reducible apply Blk.far | with_reducible apply Blk.alloc | with_reducible apply Blk.drew | with_reducible apply Blk.drewN | (first | omega | (focus (simp; done)) | (focus (simp; omega)) | (focus (simp [World.setCell]; omega)))))))
  replace BEL : Hid (Below w.heap.size w w8) := Lib.hid (Below.trans (by repeat (first | with_reducible exact BEL.out | with_reducible apply Below.alloc | with_reducible apply Below.setCell | with_reducible apply Below.drew | with_reducible apply below_drewN | (first | omega | (focus (simp; done)) | (focus (simp; omega)) | (focus (simp [World.setCell]; omega))))) (hb8.mono (by (first | omega | (focus (simp; done)) | (focus (simp; omega)) | (focus (simp [World.setCell]; omega))))))
  have y_w8 : w.heap.size ≤ w8.heap.size := BEL.out.size
  clear hb8
  clear pP0 pP1 pP2 fP0 fP1 fP2 zP zP_1 zP_2 zP_3
  obtain ⟨pP0, pP1, pP2, fP0, fP1, fP2, zP⟩ := HP.out.three
  have zP_1 : w.heap.size < w8.heap.size + 1 := by omega
  have zP_2 : w.heap.size < w8.heap.size + 1 + 1 := by omega
  have zP_3 : w.heap.size < w8.heap.size + 1 + 1 + 1 := by omega
  go_wp2_with fail
  refine (sameInts_nil _).mono ?_; rintro e w9 ⟨rfl, hb9⟩
  have z_w9 : w8.heap.size ≤ w9.heap.size := Nat.le_trans (by first | with_reducible exact Nat.le_refl _ | (simp; done) | (simp; omega) | (simp [World.setCell]; done)) hb9.size
  replace HP := Lib.hid (show Blk w9 (w.heap.size) 35 _ from by (with_reducible apply Blk.below (hb := hb9); (repeat (first | with_reducible exact HP.out | (with_reducible apply Blk.new'; first | with_reducible rfl | (focus (simp; done)) | (focus (simp; omega))) | with_reducible apply Blk.set_ | with_reducible apply Blk.far | with_reducible apply Blk.alloc | with_reducible apply Blk.drew | with_reducible apply Blk.drewN | (first | omega | (focus (simp; done)) | (focus (simp; omega)) | (focus (simp [World.setCell]; omega)))))))
  replace BEL : Hid (Below w.heap.size w w9) := Lib.hid (Below.trans (by repeat (first | with_reducible exact BEL.out | with_reducible apply Below.alloc | with_reducible apply Below.setCell | with_reducible apply Below.drew | with_reducible apply below_drewN | (first | omega | (focus (simp; done)) | (focus (simp; omega)) | (focus (simp [World.setCell]; omega))))) (hb9.mono (by (first | omega | (focus (simp; done)) | (focus (simp; omega)) | (focus (simp [World.setCell]; omega))))))
  have y_w9 : w.heap.size ≤ w9.heap.size := BEL.out.size
  clear hb9
  clear pP0 pP1 pP2 fP0 fP1 fP2 zP zP_1 zP_2 zP_3
  obtain ⟨pP0, pP1, pP2, fP0, fP1, fP2, zP⟩ := HP.out.three
  have zP_1 : w.heap.size < w9.heap.size + 1 := by omega
  have zP_2 : w.heap.size < w9.heap.size + 1 + 1 := by omega
  have zP_3 : w.heap.size < w9.heap.size + 1 + 1 + 1 := by omega
  go_wp2
  go_ret
  exact ⟨rfl, (by repeat (first | with_reducible exact BEL.out | with_reducible apply Below.alloc | with_reducible apply Below.setCell | with_reducible apply Below.drew | with_reducible apply below_drewN | (first | omega | (focus (simp; done)) | (focus (simp; omega)) | (focus (simp [World.setCell]; omega)))))⟩
set_option maxHeartbeats 8000000 in
set_option maxRecDepth 100000 in
theorem bucketTells_low_ok (s r h n : Int) (A : Option Addr) (cp : Nat) (l : List Int) (w : World) (hi : Ints w w.heap.size A cp l) (hg : Laid w) (ok : BucketOk s r h) (n0 : 0 ≤ n) (n1 : n ≤ 10000) (hn : h < n) (hl : l.length ≤ 60) (hb : l.any badRate = false) :
    Calls Tryd.prog 8 #[.agg #[.int .i64 s, .int .i64 r, .int .i64 h], .int .i64 n, .slice A l.length cp] w fun e w' => e = .returned (.bool true) ∧ Below w.heap.size w w' := by
  have LAID := Lib.hid hg; clear hg
  have HI := Lib.hid hi; clear hi
  have H := Lib.hid ok
  obtain ⟨g1, g2, g3, g4, g5, g6⟩ := ok
  obtain ⟨vt, hvt⟩ : ∃ v, min s (h + r) = v := ⟨_, rfl⟩
  have VT := Lib.hid hvt; clear hvt
  have HB := Lib.hid hb; clear hb
  have HT : Hid (ticksErr l = 0) := Lib.hid (by unfold ticksErr; rw [if_neg (by omega), HB.out]; rfl)
  have BEL : Hid (Below w.heap.size w w) := Lib.hid (Below.refl _ _)
  have yB : w.heap.size ≤ w.heap.size := Nat.le_refl _
  go_enter Tryd.func8, Tryd.ntmps8
  go_wp2_with fail
  refine (refBucket_yes s r h _ H.out).mono ?_; rintro e w' ⟨rfl, rfl⟩
  go_wp2_with fail
  refine (bcheck_yes s r h _ H.out).mono ?_; rintro e w' ⟨rfl, rfl⟩
  go_wp2_with fail
  refine (same_ok _).mono ?_; rintro e w1 ⟨rfl, hb1⟩
  have z_w1 : w.heap.size ≤ w1.heap.size := Nat.le_trans (by first | with_reducible exact Nat.le_refl _ | (simp; done) | (simp; omega) | (simp [World.setCell]; done)) hb1.size
  have HP := Lib.hid (show Blk w1 (w.heap.size) 35 _ from by (with_reducible apply Blk.below (hb := hb1); (repeat (first | (with_reducible apply Blk.new'; first | with_reducible rfl | (focus (simp; done)) | (focus (simp; omega))) | with_reducible apply Blk.set_ | with_reducible apply Blk.far | with_reducible apply Blk.alloc | with_reducible apply Blk.drew | with_reducible apply Blk.drewN | (first | omega | (focus (simp; done)) | (focus (simp; omega)) | (focus (simp [World.setCell]; omega)))))))
  have q_P_w1 : w.heap.size < w1.heap.size := HP.out.lt
  replace BEL : Hid (Below w.heap.size w w1) := Lib.hid (Below.trans (by repeat (first | with_reducible exact BEL.out | with_reducible apply Below.alloc | with_reducible apply Below.setCell | with_reducible apply Below.drew | with_reducible apply below_drewN | (first | omega | (focus (simp; done)) | (focus (simp; omega)) | (focus (simp [World.setCell]; omega))))) (hb1.mono (by (first | omega | (focus (simp; done)) | (focus (simp; omega)) | (focus (simp [World.setCell]; omega))))))
  have y_w1 : w.heap.size ≤ w1.heap.size := BEL.out.size
  clear hb1
  obtain ⟨pP0, pP1, pP2, fP0, fP1, fP2, zP⟩ := HP.out.three
  have zP_1 : w.heap.size < w1.heap.size + 1 := by omega
  have zP_2 : w.heap.size < w1.heap.size + 1 + 1 := by omega
  have zP_3 : w.heap.size < w1.heap.size + 1 + 1 + 1 := by omega
  go_wp2_with fail
  refine (refFill_is s r h vt _ (by omega) (by omega) g3 (by omega) VT.out).mono ?_; rintro e w2 ⟨rfl, hb2⟩
  have z_w2 : w1.heap.size ≤ w2.heap.size := Nat.le_trans (by first | with_reducible exact Nat.le_refl _ | (simp; done) | (simp; omega) | (simp [World.setCell]; done)) hb2.size
  have HW := Lib.hid (show Blk w2 (w1.heap.size) 35 _ from by (with_reducible apply Blk.below (hb := hb2); (repeat (first | (with_reducible apply Blk.new'; first | with_reducible rfl | (focus (simp; done)) | (focus (simp; omega))) | with_reducible apply Blk.set_ | with_reducible apply Blk.far | with_reducible apply Blk.alloc | with_reducible apply Blk.drew | with_reducible apply Blk.drewN | (first | omega | (focus (simp; done)) | (focus (simp; omega)) | (focus (simp [World.setCell]; omega)))))))
  replace HP := Lib.hid (show Blk w2 (w.heap.size) 35 _ from by (with_reducible apply Blk.below (hb := hb2); (repeat (first | with_reducible exact HP.out | (with_reducible apply Blk.new'; first | with_reducible rfl | (focus (simp; done)) | (focus (simp; omega))) | with_reducible apply Blk.set_ | with_reducible apply Blk.far | with_reducible apply Blk.alloc | with_reducible apply Blk.drew | with_reducible apply Blk.drewN | (first | omega | (focus (simp; done)) | (focus (simp; omega)) | (focus (simp [World.setCell]; omega)))))))
  have q_W_w2 : w1.heap.size < w2.heap.size := HW.out.lt
  replace BEL : Hid (Below w.heap.size w w2) := Lib.hid (Below.trans (by repeat (first | with_reducible exact BEL.out | with_reducible apply Below.alloc | with_reducible apply Below.setCell | with_reducible apply Below.drew | with_reducible apply below_drewN | (first | omega | (focus (simp; done)) | (focus (simp; omega)) | (focus (simp [World.setCell]; omega))))) (hb2.mono (by (first | omega | (focus (simp; done)) | (focus (simp; omega)) | (focus (simp [World.setCell]; omega))))))
  have y_w2 : w.heap.size ≤ w2.heap.size := BEL.out.size
  clear hb2
  clear pP0 pP1 pP2 fP0 fP1 fP2 zP zP_1 zP_2 zP_3
  obtain ⟨pP0, pP1, pP2, fP0, fP1, fP2, zP⟩ := HP.out.three
  have zP_1 : w.heap.size < w2.heap.size + 1 := by omega
  have zP_2 : w.heap.size < w2.heap.size + 1 + 1 := by omega
  have zP_3 : w.heap.size < w2.heap.size + 1 + 1 + 1 := by omega
  obtain ⟨pW0, pW1, pW2, fW0, fW1, fW2, zW⟩ := HW.out.three
  have zW_1 : w1.heap.size < w2.heap.size + 1 := by omega
  have zW_2 : w1.heap.size < w2.heap.size + 1 + 1 := by omega
  have zW_3 : w1.heap.size < w2.heap.size + 1 + 1 + 1 := by omega
  go_wp2_with fail
  refine (bTick_is s r h vt _ H.out VT.out).mono ?_; rintro e w3 ⟨rfl, hb3⟩
  have z_w3 : w2.heap.size ≤ w3.heap.size := Nat.le_trans (by first | with_reducible exact Nat.le_refl _ | (simp; done) | (simp; omega) | (simp [World.setCell]; done)) hb3.size
  replace HP := Lib.hid (show Blk w3 (w.heap.size) 35 _ from by (with_reducible apply Blk.below (hb := hb3); (repeat (first | with_reducible exact HP.out | (with_reducible apply Blk.new'; first | with_reducible rfl | (focus (simp; done)) | (focus (simp; omega))) | with_reducible apply Blk.set_ | with_reducible apply Blk.far | with_reducible apply Blk.alloc | with_reducible apply Blk.drew | with_reducible apply Blk.drewN | (first | omega | (focus (simp; done)) | (focus (simp; omega)) | (focus (simp [World.setCell]; omega)))))))
  replace HW := Lib.hid (show Blk w3 (w1.heap.size) 35 _ from by (with_reducible apply Blk.below (hb := hb3); (repeat (first | with_reducible exact HW.out | (with_reducible apply Blk.new'; first | with_reducible rfl | (focus (simp; done)) | (focus (simp; omega))) | with_reducible apply Blk.set_ | with_reducible apply Blk.far | with_reducible apply Blk.alloc | with_reducible apply Blk.drew | with_reducible apply Blk.drewN | (first | omega | (focus (simp; done)) | (focus (simp; omega)) | (focus (simp [World.setCell]; omega)))))))
  replace BEL : Hid (Below w.heap.size w w3) := Lib.hid (Below.trans (by repeat (first | with_reducible exact BEL.out | with_reducible apply Below.alloc | with_reducible apply Below.setCell | with_reducible apply Below.drew | with_reducible apply below_drewN | (first | omega | (focus (simp; done)) | (focus (simp; omega)) | (focus (simp [World.setCell]; omega))))) (hb3.mono (by (first | omega | (focus (simp; done)) | (focus (simp; omega)) | (focus (simp [World.setCell]; omega))))))
  have y_w3 : w.heap.size ≤ w3.heap.size := BEL.out.size
  clear hb3
  clear pP0 pP1 pP2 fP0 fP1 fP2 zP zP_1 zP_2 zP_3 pW0 pW1 pW2 fW0 fW1 fW2 zW zW_1 zW_2 zW_3
  obtain ⟨pP0, pP1, pP2, fP0, fP1, fP2, zP⟩ := HP.out.three
  have zP_1 : w.heap.size < w3.heap.size + 1 := by omega
  have zP_2 : w.heap.size < w3.heap.size + 1 + 1 := by omega
  have zP_3 : w.heap.size < w3.heap.size + 1 + 1 + 1 := by omega
  obtain ⟨pW0, pW1, pW2, fW0, fW1, fW2, zW⟩ := HW.out.three
  have zW_1 : w1.heap.size < w3.heap.size + 1 := by omega
  have zW_2 : w1.heap.size < w3.heap.size + 1 + 1 := by omega
  have zW_3 : w1.heap.size < w3.heap.size + 1 + 1 + 1 := by omega
  go_wp2_with fail
  refine (same_ok _).mono ?_; rintro e w4 ⟨rfl, hb4⟩
  have z_w4 : w3.heap.size ≤ w4.heap.size := Nat.le_trans (by first | with_reducible exact Nat.le_refl _ | (simp; done) | (simp; omega) | (simp [World.setCell]; done)) hb4.size
  have HX := Lib.hid (show Blk w4 (w3.heap.size) 35 _ from by (with_reducible apply Blk.below (hb := hb4); (repeat (first | (with_reducible apply Blk.new'; first | with_reducible rfl | (focus (simp; done)) | (focus (simp; omega))) | with_reducible apply Blk.set_ | with_reducible apply Blk.far | with_reducible apply Blk.alloc | with_reducible apply Blk.drew | with_reducible apply Blk.drewN | (first | omega | (focus (simp; done)) | (focus (simp; omega)) | (focus (simp [World.setCell]; omega)))))))
  replace HP := Lib.hid (show Blk w4 (w.heap.size) 35 _ from by (with_reducible apply Blk.below (hb := hb4); (repeat (first | with_reducible exact HP.out | (with_reducible apply Blk.new'; first | with_reducible rfl | (focus (simp; done)) | (focus (simp; omega))) | with_reducible apply Blk.set_ | with_reducible apply Blk.far | with_reducible apply Blk.alloc | with_reducible apply Blk.drew | with_reducible apply Blk.drewN | (first | omega | (focus (simp; done)) | (focus (simp; omega)) | (focus (simp [World.setCell]; omega)))))))
  replace HW := Lib.hid (show Blk w4 (w1.heap.size) 35 _ from by (with_reducible apply Blk.below (hb := hb4); (repeat (first | with_reducible exact HW.out | (with_reducible apply Blk.new'; first | with_reducible rfl | (focus (simp; done)) | (focus (simp; omega))) | with_reducible apply Blk.set_ | with_reducible apply Blk.far | with_reducible apply Blk.alloc | with_reducible apply Blk.drew | with_reducible apply Blk.drewN | (first | omega | (focus (simp; done)) | (focus (simp; omega)) | (focus (simp [World.setCell]; omega)))))))
  have q_X_w4 : w3.heap.size < w4.heap.size := HX.out.lt
  replace BEL : Hid (Below w.heap.size w w4) := Lib.hid (Below.trans (by repeat (first | with_reducible exact BEL.out | with_reducible apply Below.alloc | with_reducible apply Below.setCell | with_reducible apply Below.drew | with_reducible apply below_drewN | (first | omega | (focus (simp; done)) | (focus (simp; omega)) | (focus (simp [World.setCell]; omega))))) (hb4.mono (by (first | omega | (focus (simp; done)) | (focus (simp; omega)) | (focus (simp [World.setCell]; omega))))))
  have y_w4 : w.heap.size ≤ w4.heap.size := BEL.out.size
  clear hb4
  clear pP0 pP1 pP2 fP0 fP1 fP2 zP zP_1 zP_2 zP_3 pW0 pW1 pW2 fW0 fW1 fW2 zW zW_1 zW_2 zW_3
  obtain ⟨pP0, pP1, pP2, fP0, fP1, fP2, zP⟩ := HP.out.three
  have zP_1 : w.heap.size < w4.heap.size + 1 := by omega
  have zP_2 : w.heap.size < w4.heap.size + 1 + 1 := by omega
  have zP_3 : w.heap.size < w4.heap.size + 1 + 1 + 1 := by omega
  obtain ⟨pW0, pW1, pW2, fW0, fW1, fW2, zW⟩ := HW.out.three
  have zW_1 : w1.heap.size < w4.heap.size + 1 := by omega
  have zW_2 : w1.heap.size < w4.heap.size + 1 + 1 := by omega
  have zW_3 : w1.heap.size < w4.heap.size + 1 + 1 + 1 := by omega
  obtain ⟨pX0, pX1, pX2, fX0, fX1, fX2, zX⟩ := HX.out.three
  have zX_1 : w3.heap.size < w4.heap.size + 1 := by omega
  have zX_2 : w3.heap.size < w4.heap.size + 1 + 1 := by omega
  have zX_3 : w3.heap.size < w4.heap.size + 1 + 1 + 1 := by omega
  go_wp2_with fail
  refine (take_low s r h n _ H.out n0 n1 hn).mono ?_; rintro e w5 ⟨rfl, hb5⟩
  have z_w5 : w4.heap.size ≤ w5.heap.size := Nat.le_trans (by first | with_reducible exact Nat.le_refl _ | (simp; done) | (simp; omega) | (simp [World.setCell]; done)) hb5.size
  replace HP := Lib.hid (show Blk w5 (w.heap.size) 35 _ from by (with_reducible apply Blk.below (hb := hb5); (repeat (first | with_reducible exact HP.out | (with_reducible apply Blk.new'; first | with_reducible rfl | (focus (simp; done)) | (focus (simp; omega))) | with_reducible apply Blk.set_ | with_reducible apply Blk.far | with_reducible apply Blk.alloc | with_reducible apply Blk.drew | with_reducible apply Blk.drewN | (first | omega | (focus (simp; done)) | (focus (simp; omega)) | (focus (simp [World.setCell]; omega)))))))
  replace HW := Lib.hid (show Blk w5 (w1.heap.size) 35 _ from by (with_reducible apply Blk.below (hb := hb5); (repeat (first | with_reducible exact HW.out | (with_reducible apply Blk.new'; first | with_reducible rfl | (focus (simp; done)) | (focus (simp; omega))) | with_reducible apply Blk.set_ | with_reducible apply Blk.far | with_reducible apply Blk.alloc | with_reducible apply Blk.drew | with_reducible apply Blk.drewN | (first | omega | (focus (simp; done)) | (focus (simp; omega)) | (focus (simp [World.setCell]; omega)))))))
  replace HX := Lib.hid (show Blk w5 (w3.heap.size) 35 _ from by (with_reducible apply Blk.below (hb := hb5); (repeat (first | with_reducible exact HX.out | (with_reducible apply Blk.new'; first | with_reducible rfl | (focus (simp; done)) | (focus (simp; omega))) | with_reducible apply Blk.set_ | with_reducible apply Blk.far | with_reducible apply Blk.alloc | with_reducible apply Blk.drew | with_reducible apply Blk.drewN | (first | omega | (focus (simp; done)) | (focus (simp; omega)) | (focus (simp [World.setCell]; omega)))))))
  replace BEL : Hid (Below w.heap.size w w5) := Lib.hid (Below.trans (by repeat (first | with_reducible exact BEL.out | with_reducible apply Below.alloc | with_reducible apply Below.setCell | with_reducible apply Below.drew | with_reducible apply below_drewN | (first | omega | (focus (simp; done)) | (focus (simp; omega)) | (focus (simp [World.setCell]; omega))))) (hb5.mono (by (first | omega | (focus (simp; done)) | (focus (simp; omega)) | (focus (simp [World.setCell]; omega))))))
  have y_w5 : w.heap.size ≤ w5.heap.size := BEL.out.size
  clear hb5
  clear pP0 pP1 pP2 fP0 fP1 fP2 zP zP_1 zP_2 zP_3 pW0 pW1 pW2 fW0 fW1 fW2 zW zW_1 zW_2 zW_3 pX0 pX1 pX2 fX0 fX1 fX2 zX zX_1 zX_2 zX_3
  obtain ⟨pP0, pP1, pP2, fP0, fP1, fP2, zP⟩ := HP.out.three
  have zP_1 : w.heap.size < w5.heap.size + 1 := by omega
  have zP_2 : w.heap.size < w5.heap.size + 1 + 1 := by omega
  have zP_3 : w.heap.size < w5.heap.size + 1 + 1 + 1 := by omega
  obtain ⟨pW0, pW1, pW2, fW0, fW1, fW2, zW⟩ := HW.out.three
  have zW_1 : w1.heap.size < w5.heap.size + 1 := by omega
  have zW_2 : w1.heap.size < w5.heap.size + 1 + 1 := by omega
  have zW_3 : w1.heap.size < w5.heap.size + 1 + 1 + 1 := by omega
  obtain ⟨pX0, pX1, pX2, fX0, fX1, fX2, zX⟩ := HX.out.three
  have zX_1 : w3.heap.size < w5.heap.size + 1 := by omega
  have zX_2 : w3.heap.size < w5.heap.size + 1 + 1 := by omega
  have zX_3 : w3.heap.size < w5.heap.size + 1 + 1 + 1 := by omega
  go_wp2_with fail
  refine (same_hit 8 _ (LAID.out.below (by repeat (first | with_reducible exact BEL.out | with_reducible apply Below.alloc | with_reducible apply Below.setCell | with_reducible apply Below.drew | with_reducible apply below_drewN | (first | omega | (focus (simp; done)) | (focus (simp; omega)) | (focus (simp [World.setCell]; omega))))))).mono ?_; rintro e w6 ⟨rfl, hb6⟩
  have z_w6 : w5.heap.size ≤ w6.heap.size := Nat.le_trans (by first | with_reducible exact Nat.le_refl _ | (simp; done) | (simp; omega) | (simp [World.setCell]; done)) hb6.size
  replace HP := Lib.hid (show Blk w6 (w.heap.size) 35 _ from by (with_reducible apply Blk.below (hb := hb6); (repeat (first | with_reducible exact HP.out | (with_reducible apply Blk.new'; first | with_reducible rfl | (focus (simp; done)) | (focus (simp; omega))) | with_reducible apply Blk.set_ | with_reducible apply Blk.far | with_reducible apply Blk.alloc | with_reducible apply Blk.drew | with_reducible apply Blk.drewN | (first | omega | (focus (simp; done)) | (focus (simp; omega)) | (focus (simp [World.setCell]; omega)))))))
  replace HW := Lib.hid (show Blk w6 (w1.heap.size) 35 _ from by (with_reducible apply Blk.below (hb := hb6); (repeat (first | with_reducible exact HW.out | (with_reducible apply Blk.new'; first | with_reducible rfl | (focus (simp; done)) | (focus (simp; omega))) | with_reducible apply Blk.set_ | with_reducible apply Blk.far | with_reducible apply Blk.alloc | with_reducible apply Blk.drew | with_reducible apply Blk.drewN | (first | omega | (focus (simp; done)) | (focus (simp; omega)) | (focus (simp [World.setCell]; omega)))))))
  replace HX := Lib.hid (show Blk w6 (w3.heap.size) 35 _ from by (with_reducible apply Blk.below (hb := hb6); (repeat (first | with_reducible exact HX.out | (with_reducible apply Blk.new'; first | with_reducible rfl | (focus (simp; done)) | (focus (simp; omega))) | with_reducible apply Blk.set_ | with_reducible apply Blk.far | with_reducible apply Blk.alloc | with_reducible apply Blk.drew | with_reducible apply Blk.drewN | (first | omega | (focus (simp; done)) | (focus (simp; omega)) | (focus (simp [World.setCell]; omega)))))))
  replace BEL : Hid (Below w.heap.size w w6) := Lib.hid (Below.trans (by repeat (first | with_reducible exact BEL.out | with_reducible apply Below.alloc | with_reducible apply Below.setCell | with_reducible apply Below.drew | with_reducible apply below_drewN | (first | omega | (focus (simp; done)) | (focus (simp; omega)) | (focus (simp [World.setCell]; omega))))) (hb6.mono (by (first | omega | (focus (simp; done)) | (focus (simp; omega)) | (focus (simp [World.setCell]; omega))))))
  have y_w6 : w.heap.size ≤ w6.heap.size := BEL.out.size
  clear hb6
  clear pP0 pP1 pP2 fP0 fP1 fP2 zP zP_1 zP_2 zP_3 pW0 pW1 pW2 fW0 fW1 fW2 zW zW_1 zW_2 zW_3 pX0 pX1 pX2 fX0 fX1 fX2 zX zX_1 zX_2 zX_3
  obtain ⟨pP0, pP1, pP2, fP0, fP1, fP2, zP⟩ := HP.out.three
  have zP_1 : w.heap.size < w6.heap.size + 1 := by omega
  have zP_2 : w.heap.size < w6.heap.size + 1 + 1 := by omega
  have zP_3 : w.heap.size < w6.heap.size + 1 + 1 + 1 := by omega
  obtain ⟨pW0, pW1, pW2, fW0, fW1, fW2, zW⟩ := HW.out.three
  have zW_1 : w1.heap.size < w6.heap.size + 1 := by omega
  have zW_2 : w1.heap.size < w6.heap.size + 1 + 1 := by omega
  have zW_3 : w1.heap.size < w6.heap.size + 1 + 1 + 1 := by omega
  obtain ⟨pX0, pX1, pX2, fX0, fX1, fX2, zX⟩ := HX.out.three
  have zX_1 : w3.heap.size < w6.heap.size + 1 := by omega
  have zX_2 : w3.heap.size < w6.heap.size + 1 + 1 := by omega
  have zX_3 : w3.heap.size < w6.heap.size + 1 + 1 + 1 := by omega
  go_wp2_with fail
  refine (refTicks_is A cp l w.heap.size _ (HI.out.below (by repeat (first | with_reducible exact BEL.out | with_reducible apply Below.alloc | with_reducible apply Below.setCell | with_reducible apply Below.drew | with_reducible apply below_drewN | (first | omega | (focus (simp; done)) | (focus (simp; omega)) | (focus (simp [World.setCell]; omega))))) (Nat.le_refl _)) 0 HT.out).mono ?_; rintro e w' ⟨rfl, rfl⟩
  clear HW HX
  clear pW0 pW1 pW2 fW0 fW1 fW2 zW zW_1 zW_2 zW_3 pX0 pX1 pX2 fX0 fX1 fX2 zX zX_1 zX_2 zX_3
  go_wp2_with fail
  refine (refSent s r h A cp l _ H.out ((HI.out.below (by repeat (first | with_reducible exact BEL.out | with_reducible apply Below.alloc | with_reducible apply Below.setCell | with_reducible apply Below.drew | with_reducible apply below_drewN | (first | omega | (focus (simp; done)) | (focus (simp; omega)) | (focus (simp [World.setCell]; omega))))) (Nat.le_refl _)).more (by (first | omega | (focus (simp; done)) | (focus (simp; omega)) | (focus (simp [World.setCell]; omega))))) hl HB.out).mono ?_; rintro e w7 ⟨u1, rfl, ho1, hb7⟩
  have HO1 := Lib.hid ho1; clear ho1
  have z_w7 : w6.heap.size ≤ w7.heap.size := Nat.le_trans (by first | with_reducible exact Nat.le_refl _ | (simp; done) | (simp; omega) | (simp [World.setCell]; done)) hb7.size
  replace HP := Lib.hid (show Blk w7 (w.heap.size) 35 _ from by (with_reducible apply Blk.below (hb := hb7); (repeat (first | with_reducible exact HP.out | (with_reducible apply Blk.new'; first | with_reducible rfl | (focus (simp; done)) | (focus (simp; omega))) | with_reducible apply Blk.set_ | with_reducible apply Blk.far | with_reducible apply Blk.alloc | with_reducible apply Blk.drew | with_reducible apply Blk.drewN | (first | omega | (focus (simp; done)) | (focus (simp; omega)) | (focus (simp [World.setCell]; omega)))))))
  replace BEL : Hid (Below w.heap.size w w7) := Lib.hid (Below.trans (by repeat (first | with_reducible exact BEL.out | with_reducible apply Below.alloc | with_reducible apply Below.setCell | with_reducible apply Below.drew | with_reducible apply below_drewN | (first | omega | (focus (simp; done)) | (focus (simp; omega)) | (focus (simp [World.setCell]; omega))))) (hb7.mono (by (first | omega | (focus (simp; done)) | (focus (simp; omega)) | (focus (simp [World.setCell]; omega))))))
  have y_w7 : w.heap.size ≤ w7.heap.size := BEL.out.size
  clear hb7
  clear pP0 pP1 pP2 fP0 fP1 fP2 zP zP_1 zP_2 zP_3
  obtain ⟨pP0, pP1, pP2, fP0, fP1, fP2, zP⟩ := HP.out.three
  have zP_1 : w.heap.size < w7.heap.size + 1 := by omega
  have zP_2 : w.heap.size < w7.heap.size + 1 + 1 := by omega
  have zP_3 : w.heap.size < w7.heap.size + 1 + 1 + 1 := by omega
  obtain ⟨A1, c1, rfl, hln1, hi1⟩ := owns_ints' HO1.out
  have HI1 := Lib.hid hi1
  have HLN1 := Lib.hid hln1
  clear hln1 hi1
  go_wp2_with fail
  refine (bsend_yes s r h A cp l _ H.out ((HI.out.below (by repeat (first | with_reducible exact BEL.out | with_reducible apply Below.alloc | with_reducible apply Below.setCell | with_reducible apply Below.drew | with_reducible apply below_drewN | (first | omega | (focus (simp; done)) | (focus (simp; omega)) | (focus (simp [World.setCell]; omega))))) (Nat.le_refl _)).more (by (first | omega | (focus (simp; done)) | (focus (simp; omega)) | (focus (simp [World.setCell]; omega))))) hl HB.out).mono ?_; rintro e w8 ⟨u2, rfl, ho2, hb8⟩
  have HO2 := Lib.hid ho2; clear ho2
  have HI1 := Lib.hid (HI1.out.below hb8 (Nat.le_refl _))
  have z_w8 : w7.heap.size ≤ w8.heap.size := Nat.le_trans (by first | with_reducible exact Nat.le_refl _ | (simp; done) | (simp; omega) | (simp [World.setCell]; done)) hb8.size
  replace HP := Lib.hid (show Blk w8 (w.heap.size) 35 _ from by (with_reducible apply Blk.below (hb := hb8); (repeat (first | with_reducible exact HP.out | (with_reducible apply Blk.new'; first | with_reducible rfl | (focus (simp; done)) | (focus (simp; omega))) | with_reducible apply Blk.set_ | with_reducible apply Blk.far | with_reducible apply Blk.alloc | with_reducible apply Blk.drew | with_reducible apply Blk.drewN | (first | omega | (focus (simp; done)) | (focus (simp; omega)) | (focus (simp [World.setCell]; omega)))))))
  replace BEL : Hid (Below w.heap.size w w8) := Lib.hid (Below.trans (by repeat (first | with_reducible exact BEL.out | with_reducible apply Below.alloc | with_reducible apply Below.setCell | with_reducible apply Below.drew | with_reducible apply below_drewN | (first | omega | (focus (simp; done)) | (focus (simp; omega)) | (focus (simp [World.setCell]; omega))))) (hb8.mono (by (first | omega | (focus (simp; done)) | (focus (simp; omega)) | (focus (simp [World.setCell]; omega))))))
  have y_w8 : w.heap.size ≤ w8.heap.size := BEL.out.size
  clear hb8
  clear pP0 pP1 pP2 fP0 fP1 fP2 zP zP_1 zP_2 zP_3
  obtain ⟨pP0, pP1, pP2, fP0, fP1, fP2, zP⟩ := HP.out.three
  have zP_1 : w.heap.size < w8.heap.size + 1 := by omega
  have zP_2 : w.heap.size < w8.heap.size + 1 + 1 := by omega
  have zP_3 : w.heap.size < w8.heap.size + 1 + 1 + 1 := by omega
  obtain ⟨A2, c2, rfl, hln2, hi2⟩ := owns_ints' HO2.out
  have HI2 := Lib.hid hi2
  have HLN2 := Lib.hid hln2
  clear hln2 hi2
  go_wp2_with fail
  refine (same_ok _).mono ?_; rintro e w9 ⟨rfl, hb9⟩
  have HI1 := Lib.hid (HI1.out.below (hb9.mono (by (first | omega | (focus (simp; done)) | (focus (simp; omega)) | (focus (simp [World.setCell]; omega))))) (Nat.le_refl _))
  have HI2 := Lib.hid (HI2.out.below hb9 (Nat.le_refl _))
  have z_w9 : w8.heap.size ≤ w9.heap.size := Nat.le_trans (by first | with_reducible exact Nat.le_refl _ | (simp; done) | (simp; omega) | (simp [World.setCell]; done)) hb9.size
  replace HP := Lib.hid (show Blk w9 (w.heap.size) 35 _ from by (with_reducible apply Blk.below (hb := hb9); (repeat (first | with_reducible exact HP.out | (with_reducible apply Blk.new'; first | with_reducible rfl | (focus (simp; done)) | (focus (simp; omega))) | with_reducible apply Blk.set_ | with_reducible apply Blk.far | with_reducible apply Blk.alloc | with_reducible apply Blk.drew | with_reducible apply Blk.drewN | (first | omega | (focus (simp; done)) | (focus (simp; omega)) | (focus (simp [World.setCell]; omega)))))))
  replace BEL : Hid (Below w.heap.size w w9) := Lib.hid (Below.trans (by repeat (first | with_reducible exact BEL.out | with_reducible apply Below.alloc | with_reducible apply Below.setCell | with_reducible apply Below.drew | with_reducible apply below_drewN | (first | omega | (focus (simp; done)) | (focus (simp; omega)) | (focus (simp [World.setCell]; omega))))) (hb9.mono (by (first | omega | (focus (simp; done)) | (focus (simp; omega)) | (focus (simp [World.setCell]; omega))))))
  have y_w9 : w.heap.size ≤ w9.heap.size := BEL.out.size
  clear hb9
  clear pP0 pP1 pP2 fP0 fP1 fP2 zP zP_1 zP_2 zP_3
  obtain ⟨pP0, pP1, pP2, fP0, fP1, fP2, zP⟩ := HP.out.three
  have zP_1 : w.heap.size < w9.heap.size + 1 := by omega
  have zP_2 : w.heap.size < w9.heap.size + 1 + 1 := by omega
  have zP_3 : w.heap.size < w9.heap.size + 1 + 1 + 1 := by omega
  go_wp2_with fail
  refine (sameInts_b _ _ _ _ _ _ (PB.send s r h 0 l) _ _ _ HI2.out HI1.out HLN2.out HLN1.out).mono ?_; rintro e w10 ⟨rfl, hb10⟩
  have z_w10 : w9.heap.size ≤ w10.heap.size := Nat.le_trans (by first | with_reducible exact Nat.le_refl _ | (simp; done) | (simp; omega) | (simp [World.setCell]; done)) hb10.size
  replace HP := Lib.hid (show Blk w10 (w.heap.size) 35 _ from by (with_reducible apply Blk.below (hb := hb10); (repeat (first | with_reducible exact HP.out | (with_reducible apply Blk.new'; first | with_reducible rfl | (focus (simp; done)) | (focus (simp; omega))) | with_reducible apply Blk.set_ | with_reducible apply Blk.far | with_reducible apply Blk.alloc | with_reducible apply Blk.drew | with_reducible apply Blk.drewN | (first | omega | (focus (simp; done)) | (focus (simp; omega)) | (focus (simp [World.setCell]; omega)))))))
  replace BEL : Hid (Below w.heap.size w w10) := Lib.hid (Below.trans (by repeat (first | with_reducible exact BEL.out | with_reducible apply Below.alloc | with_reducible apply Below.setCell | with_reducible apply Below.drew | with_reducible apply below_drewN | (first | omega | (focus (simp; done)) | (focus (simp; omega)) | (focus (simp [World.setCell]; omega))))) (hb10.mono (by (first | omega | (focus (simp; done)) | (focus (simp; omega)) | (focus (simp [World.setCell]; omega))))))
  have y_w10 : w.heap.size ≤ w10.heap.size := BEL.out.size
  clear hb10
  clear pP0 pP1 pP2 fP0 fP1 fP2 zP zP_1 zP_2 zP_3
  obtain ⟨pP0, pP1, pP2, fP0, fP1, fP2, zP⟩ := HP.out.three
  have zP_1 : w.heap.size < w10.heap.size + 1 := by omega
  have zP_2 : w.heap.size < w10.heap.size + 1 + 1 := by omega
  have zP_3 : w.heap.size < w10.heap.size + 1 + 1 + 1 := by omega
  go_wp2
  go_ret
  exact ⟨rfl, (by repeat (first | with_reducible exact BEL.out | with_reducible apply Below.alloc | with_reducible apply Below.setCell | with_reducible apply Below.drew | with_reducible apply below_drewN | (first | omega | (focus (simp; done)) | (focus (simp; omega)) | (focus (simp [World.setCell]; omega)))))⟩
set_option maxHeartbeats 8000000 in
set_option maxRecDepth 100000 in
theorem bucketTells_in_full (s r h n : Int) (A : Option Addr) (cp : Nat) (l : List Int) (w : World) (hi : Ints w w.heap.size A cp l) (hg : Laid w) (ok : BucketOk s r h) (n0 : 0 ≤ n) (n1 : n ≤ 10000) (hn : n ≤ h) (hl : 60 < l.length) :
    Calls Tryd.prog 8 #[.agg #[.int .i64 s, .int .i64 r, .int .i64 h], .int .i64 n, .slice A l.length cp] w fun e w' => e = .returned (.bool true) ∧ Below w.heap.size w w' := by
  have LAID := Lib.hid hg; clear hg
  have HI := Lib.hid hi; clear hi
  have H := Lib.hid ok
  obtain ⟨g1, g2, g3, g4, g5, g6⟩ := ok
  obtain ⟨vt, hvt⟩ : ∃ v, min s (h + r) = v := ⟨_, rfl⟩
  have VT := Lib.hid hvt; clear hvt
  have hm := Nat.le_trans HI.out.le HI.out.cap
  have HT : Hid (ticksErr l = 4) := Lib.hid (by unfold ticksErr; rw [if_pos hl])
  have BEL : Hid (Below w.heap.size w w) := Lib.hid (Below.refl _ _)
  have yB : w.heap.size ≤ w.heap.size := Nat.le_refl _
  go_enter Tryd.func8, Tryd.ntmps8
  go_wp2_with fail
  refine (refBucket_yes s r h _ H.out).mono ?_; rintro e w' ⟨rfl, rfl⟩
  go_wp2_with fail
  refine (bcheck_yes s r h _ H.out).mono ?_; rintro e w' ⟨rfl, rfl⟩
  go_wp2_with fail
  refine (same_ok _).mono ?_; rintro e w1 ⟨rfl, hb1⟩
  have z_w1 : w.heap.size ≤ w1.heap.size := Nat.le_trans (by first | with_reducible exact Nat.le_refl _ | (simp; done) | (simp; omega) | (simp [World.setCell]; done)) hb1.size
  have HP := Lib.hid (show Blk w1 (w.heap.size) 35 _ from by (with_reducible apply Blk.below (hb := hb1); (repeat (first | (with_reducible apply Blk.new'; first | with_reducible rfl | (focus (simp; done)) | (focus (simp; omega))) | with_reducible apply Blk.set_ | with_reducible apply Blk.far | with_reducible apply Blk.alloc | with_reducible apply Blk.drew | with_reducible apply Blk.drewN | (first | omega | (focus (simp; done)) | (focus (simp; omega)) | (focus (simp [World.setCell]; omega)))))))
  have q_P_w1 : w.heap.size < w1.heap.size := HP.out.lt
  replace BEL : Hid (Below w.heap.size w w1) := Lib.hid (Below.trans (by repeat (first | with_reducible exact BEL.out | with_reducible apply Below.alloc | with_reducible apply Below.setCell | with_reducible apply Below.drew | with_reducible apply below_drewN | (first | omega | (focus (simp; done)) | (focus (simp; omega)) | (focus (simp [World.setCell]; omega))))) (hb1.mono (by (first | omega | (focus (simp; done)) | (focus (simp; omega)) | (focus (simp [World.setCell]; omega))))))
  have y_w1 : w.heap.size ≤ w1.heap.size := BEL.out.size
  clear hb1
  obtain ⟨pP0, pP1, pP2, fP0, fP1, fP2, zP⟩ := HP.out.three
  have zP_1 : w.heap.size < w1.heap.size + 1 := by omega
  have zP_2 : w.heap.size < w1.heap.size + 1 + 1 := by omega
  have zP_3 : w.heap.size < w1.heap.size + 1 + 1 + 1 := by omega
  go_wp2_with fail
  refine (refFill_is s r h vt _ (by omega) (by omega) g3 (by omega) VT.out).mono ?_; rintro e w2 ⟨rfl, hb2⟩
  have z_w2 : w1.heap.size ≤ w2.heap.size := Nat.le_trans (by first | with_reducible exact Nat.le_refl _ | (simp; done) | (simp; omega) | (simp [World.setCell]; done)) hb2.size
  have HW := Lib.hid (show Blk w2 (w1.heap.size) 35 _ from by (with_reducible apply Blk.below (hb := hb2); (repeat (first | (with_reducible apply Blk.new'; first | with_reducible rfl | (focus (simp; done)) | (focus (simp; omega))) | with_reducible apply Blk.set_ | with_reducible apply Blk.far | with_reducible apply Blk.alloc | with_reducible apply Blk.drew | with_reducible apply Blk.drewN | (first | omega | (focus (simp; done)) | (focus (simp; omega)) | (focus (simp [World.setCell]; omega)))))))
  replace HP := Lib.hid (show Blk w2 (w.heap.size) 35 _ from by (with_reducible apply Blk.below (hb := hb2); (repeat (first | with_reducible exact HP.out | (with_reducible apply Blk.new'; first | with_reducible rfl | (focus (simp; done)) | (focus (simp; omega))) | with_reducible apply Blk.set_ | with_reducible apply Blk.far | with_reducible apply Blk.alloc | with_reducible apply Blk.drew | with_reducible apply Blk.drewN | (first | omega | (focus (simp; done)) | (focus (simp; omega)) | (focus (simp [World.setCell]; omega)))))))
  have q_W_w2 : w1.heap.size < w2.heap.size := HW.out.lt
  replace BEL : Hid (Below w.heap.size w w2) := Lib.hid (Below.trans (by repeat (first | with_reducible exact BEL.out | with_reducible apply Below.alloc | with_reducible apply Below.setCell | with_reducible apply Below.drew | with_reducible apply below_drewN | (first | omega | (focus (simp; done)) | (focus (simp; omega)) | (focus (simp [World.setCell]; omega))))) (hb2.mono (by (first | omega | (focus (simp; done)) | (focus (simp; omega)) | (focus (simp [World.setCell]; omega))))))
  have y_w2 : w.heap.size ≤ w2.heap.size := BEL.out.size
  clear hb2
  clear pP0 pP1 pP2 fP0 fP1 fP2 zP zP_1 zP_2 zP_3
  obtain ⟨pP0, pP1, pP2, fP0, fP1, fP2, zP⟩ := HP.out.three
  have zP_1 : w.heap.size < w2.heap.size + 1 := by omega
  have zP_2 : w.heap.size < w2.heap.size + 1 + 1 := by omega
  have zP_3 : w.heap.size < w2.heap.size + 1 + 1 + 1 := by omega
  obtain ⟨pW0, pW1, pW2, fW0, fW1, fW2, zW⟩ := HW.out.three
  have zW_1 : w1.heap.size < w2.heap.size + 1 := by omega
  have zW_2 : w1.heap.size < w2.heap.size + 1 + 1 := by omega
  have zW_3 : w1.heap.size < w2.heap.size + 1 + 1 + 1 := by omega
  go_wp2_with fail
  refine (bTick_is s r h vt _ H.out VT.out).mono ?_; rintro e w3 ⟨rfl, hb3⟩
  have z_w3 : w2.heap.size ≤ w3.heap.size := Nat.le_trans (by first | with_reducible exact Nat.le_refl _ | (simp; done) | (simp; omega) | (simp [World.setCell]; done)) hb3.size
  replace HP := Lib.hid (show Blk w3 (w.heap.size) 35 _ from by (with_reducible apply Blk.below (hb := hb3); (repeat (first | with_reducible exact HP.out | (with_reducible apply Blk.new'; first | with_reducible rfl | (focus (simp; done)) | (focus (simp; omega))) | with_reducible apply Blk.set_ | with_reducible apply Blk.far | with_reducible apply Blk.alloc | with_reducible apply Blk.drew | with_reducible apply Blk.drewN | (first | omega | (focus (simp; done)) | (focus (simp; omega)) | (focus (simp [World.setCell]; omega)))))))
  replace HW := Lib.hid (show Blk w3 (w1.heap.size) 35 _ from by (with_reducible apply Blk.below (hb := hb3); (repeat (first | with_reducible exact HW.out | (with_reducible apply Blk.new'; first | with_reducible rfl | (focus (simp; done)) | (focus (simp; omega))) | with_reducible apply Blk.set_ | with_reducible apply Blk.far | with_reducible apply Blk.alloc | with_reducible apply Blk.drew | with_reducible apply Blk.drewN | (first | omega | (focus (simp; done)) | (focus (simp; omega)) | (focus (simp [World.setCell]; omega)))))))
  replace BEL : Hid (Below w.heap.size w w3) := Lib.hid (Below.trans (by repeat (first | with_reducible exact BEL.out | with_reducible apply Below.alloc | with_reducible apply Below.setCell | with_reducible apply Below.drew | with_reducible apply below_drewN | (first | omega | (focus (simp; done)) | (focus (simp; omega)) | (focus (simp [World.setCell]; omega))))) (hb3.mono (by (first | omega | (focus (simp; done)) | (focus (simp; omega)) | (focus (simp [World.setCell]; omega))))))
  have y_w3 : w.heap.size ≤ w3.heap.size := BEL.out.size
  clear hb3
  clear pP0 pP1 pP2 fP0 fP1 fP2 zP zP_1 zP_2 zP_3 pW0 pW1 pW2 fW0 fW1 fW2 zW zW_1 zW_2 zW_3
  obtain ⟨pP0, pP1, pP2, fP0, fP1, fP2, zP⟩ := HP.out.three
  have zP_1 : w.heap.size < w3.heap.size + 1 := by omega
  have zP_2 : w.heap.size < w3.heap.size + 1 + 1 := by omega
  have zP_3 : w.heap.size < w3.heap.size + 1 + 1 + 1 := by omega
  obtain ⟨pW0, pW1, pW2, fW0, fW1, fW2, zW⟩ := HW.out.three
  have zW_1 : w1.heap.size < w3.heap.size + 1 := by omega
  have zW_2 : w1.heap.size < w3.heap.size + 1 + 1 := by omega
  have zW_3 : w1.heap.size < w3.heap.size + 1 + 1 + 1 := by omega
  go_wp2_with fail
  refine (same_ok _).mono ?_; rintro e w4 ⟨rfl, hb4⟩
  have z_w4 : w3.heap.size ≤ w4.heap.size := Nat.le_trans (by first | with_reducible exact Nat.le_refl _ | (simp; done) | (simp; omega) | (simp [World.setCell]; done)) hb4.size
  have HX := Lib.hid (show Blk w4 (w3.heap.size) 35 _ from by (with_reducible apply Blk.below (hb := hb4); (repeat (first | (with_reducible apply Blk.new'; first | with_reducible rfl | (focus (simp; done)) | (focus (simp; omega))) | with_reducible apply Blk.set_ | with_reducible apply Blk.far | with_reducible apply Blk.alloc | with_reducible apply Blk.drew | with_reducible apply Blk.drewN | (first | omega | (focus (simp; done)) | (focus (simp; omega)) | (focus (simp [World.setCell]; omega)))))))
  replace HP := Lib.hid (show Blk w4 (w.heap.size) 35 _ from by (with_reducible apply Blk.below (hb := hb4); (repeat (first | with_reducible exact HP.out | (with_reducible apply Blk.new'; first | with_reducible rfl | (focus (simp; done)) | (focus (simp; omega))) | with_reducible apply Blk.set_ | with_reducible apply Blk.far | with_reducible apply Blk.alloc | with_reducible apply Blk.drew | with_reducible apply Blk.drewN | (first | omega | (focus (simp; done)) | (focus (simp; omega)) | (focus (simp [World.setCell]; omega)))))))
  replace HW := Lib.hid (show Blk w4 (w1.heap.size) 35 _ from by (with_reducible apply Blk.below (hb := hb4); (repeat (first | with_reducible exact HW.out | (with_reducible apply Blk.new'; first | with_reducible rfl | (focus (simp; done)) | (focus (simp; omega))) | with_reducible apply Blk.set_ | with_reducible apply Blk.far | with_reducible apply Blk.alloc | with_reducible apply Blk.drew | with_reducible apply Blk.drewN | (first | omega | (focus (simp; done)) | (focus (simp; omega)) | (focus (simp [World.setCell]; omega)))))))
  have q_X_w4 : w3.heap.size < w4.heap.size := HX.out.lt
  replace BEL : Hid (Below w.heap.size w w4) := Lib.hid (Below.trans (by repeat (first | with_reducible exact BEL.out | with_reducible apply Below.alloc | with_reducible apply Below.setCell | with_reducible apply Below.drew | with_reducible apply below_drewN | (first | omega | (focus (simp; done)) | (focus (simp; omega)) | (focus (simp [World.setCell]; omega))))) (hb4.mono (by (first | omega | (focus (simp; done)) | (focus (simp; omega)) | (focus (simp [World.setCell]; omega))))))
  have y_w4 : w.heap.size ≤ w4.heap.size := BEL.out.size
  clear hb4
  clear pP0 pP1 pP2 fP0 fP1 fP2 zP zP_1 zP_2 zP_3 pW0 pW1 pW2 fW0 fW1 fW2 zW zW_1 zW_2 zW_3
  obtain ⟨pP0, pP1, pP2, fP0, fP1, fP2, zP⟩ := HP.out.three
  have zP_1 : w.heap.size < w4.heap.size + 1 := by omega
  have zP_2 : w.heap.size < w4.heap.size + 1 + 1 := by omega
  have zP_3 : w.heap.size < w4.heap.size + 1 + 1 + 1 := by omega
  obtain ⟨pW0, pW1, pW2, fW0, fW1, fW2, zW⟩ := HW.out.three
  have zW_1 : w1.heap.size < w4.heap.size + 1 := by omega
  have zW_2 : w1.heap.size < w4.heap.size + 1 + 1 := by omega
  have zW_3 : w1.heap.size < w4.heap.size + 1 + 1 + 1 := by omega
  obtain ⟨pX0, pX1, pX2, fX0, fX1, fX2, zX⟩ := HX.out.three
  have zX_1 : w3.heap.size < w4.heap.size + 1 := by omega
  have zX_2 : w3.heap.size < w4.heap.size + 1 + 1 := by omega
  have zX_3 : w3.heap.size < w4.heap.size + 1 + 1 + 1 := by omega
  go_upto_region 10 with fail
  replace HP := Lib.hid (show Blk (((w4.setCell ⟨w1.heap.size, 0, none⟩ (.int .i64 0)).setCell ⟨w1.heap.size, 1, none⟩ (.int .i64 0)).setCell ⟨w1.heap.size, 2, none⟩ (.int .i64 0)) (w.heap.size) 35 _ from by (repeat (first | with_reducible exact HP.out | (with_reducible apply Blk.new'; first | with_reducible rfl | (focus (simp; done)) | (focus (simp; omega))) | with_reducible apply Blk.set_ | with_reducible apply Blk.far | with_reducible apply Blk.alloc | with_reducible apply Blk.drew | with_reducible apply Blk.drewN | (first | omega | (focus (simp; done)) | (focus (simp; omega)) | (focus (simp [World.setCell]; omega))))))
  replace HW := Lib.hid (show Blk (((w4.setCell ⟨w1.heap.size, 0, none⟩ (.int .i64 0)).setCell ⟨w1.heap.size, 1, none⟩ (.int .i64 0)).setCell ⟨w1.heap.size, 2, none⟩ (.int .i64 0)) (w1.heap.size) 35 #[.int .i64 0, .int .i64 0, .int .i64 0] from Blk.val (by (repeat (first | with_reducible exact HW.out | (with_reducible apply Blk.new'; first | with_reducible rfl | (focus (simp; done)) | (focus (simp; omega))) | with_reducible apply Blk.set_ | with_reducible apply Blk.far | with_reducible apply Blk.alloc | with_reducible apply Blk.drew | with_reducible apply Blk.drewN | (first | omega | (focus (simp; done)) | (focus (simp; omega)) | (focus (simp [World.setCell]; omega)))))) (by first | rfl | simp))
  replace HX := Lib.hid (show Blk (((w4.setCell ⟨w1.heap.size, 0, none⟩ (.int .i64 0)).setCell ⟨w1.heap.size, 1, none⟩ (.int .i64 0)).setCell ⟨w1.heap.size, 2, none⟩ (.int .i64 0)) (w3.heap.size) 35 _ from by (repeat (first | with_reducible exact HX.out | (with_reducible apply Blk.new'; first | with_reducible rfl | (focus (simp; done)) | (focus (simp; omega))) | with_reducible apply Blk.set_ | with_reducible apply Blk.far | with_reducible apply Blk.alloc | with_reducible apply Blk.drew | with_reducible apply Blk.drewN | (first | omega | (focus (simp; done)) | (focus (simp; omega)) | (focus (simp [World.setCell]; omega))))))
  replace BEL : Hid (Below w.heap.size w (((w4.setCell ⟨w1.heap.size, 0, none⟩ (.int .i64 0)).setCell ⟨w1.heap.size, 1, none⟩ (.int .i64 0)).setCell ⟨w1.heap.size, 2, none⟩ (.int .i64 0))) := Lib.hid (by repeat (first | with_reducible exact BEL.out | with_reducible apply Below.alloc | with_reducible apply Below.setCell | with_reducible apply Below.drew | with_reducible apply below_drewN | (first | omega | (focus (simp; done)) | (focus (simp; omega)) | (focus (simp [World.setCell]; omega)))))
  have z_x5 : w4.heap.size ≤ (((w4.setCell ⟨w1.heap.size, 0, none⟩ (.int .i64 0)).setCell ⟨w1.heap.size, 1, none⟩ (.int .i64 0)).setCell ⟨w1.heap.size, 2, none⟩ (.int .i64 0)).heap.size := by simp [World.setCell]
  clear pP0 pP1 pP2 fP0 fP1 fP2 zP zP_1 zP_2 zP_3 pW0 pW1 pW2 fW0 fW1 fW2 zW zW_1 zW_2 zW_3 pX0 pX1 pX2 fX0 fX1 fX2 zX zX_1 zX_2 zX_3
  obtain ⟨x5, hx5⟩ : ∃ x, x = (((w4.setCell ⟨w1.heap.size, 0, none⟩ (.int .i64 0)).setCell ⟨w1.heap.size, 1, none⟩ (.int .i64 0)).setCell ⟨w1.heap.size, 2, none⟩ (.int .i64 0)) := ⟨_, rfl⟩
  rw [← hx5] at HP HW HX BEL z_x5 ⊢
  clear hx5
  have y_x5 : w.heap.size ≤ x5.heap.size := BEL.out.size
  obtain ⟨pP0, pP1, pP2, fP0, fP1, fP2, zP⟩ := HP.out.three
  have zP_1 : w.heap.size < x5.heap.size + 1 := by omega
  have zP_2 : w.heap.size < x5.heap.size + 1 + 1 := by omega
  have zP_3 : w.heap.size < x5.heap.size + 1 + 1 + 1 := by omega
  obtain ⟨pW0, pW1, pW2, fW0, fW1, fW2, zW⟩ := HW.out.three
  have zW_1 : w1.heap.size < x5.heap.size + 1 := by omega
  have zW_2 : w1.heap.size < x5.heap.size + 1 + 1 := by omega
  have zW_3 : w1.heap.size < x5.heap.size + 1 + 1 + 1 := by omega
  obtain ⟨pX0, pX1, pX2, fX0, fX1, fX2, zX⟩ := HX.out.three
  have zX_1 : w3.heap.size < x5.heap.size + 1 := by omega
  have zX_2 : w3.heap.size < x5.heap.size + 1 + 1 := by omega
  have zX_3 : w3.heap.size < x5.heap.size + 1 + 1 + 1 := by omega
  go_upto_region 16 with fail
  replace HP := Lib.hid (show Blk (((x5.setCell ⟨w1.heap.size, 0, none⟩ (.int .i64 s)).setCell ⟨w1.heap.size, 1, none⟩ (.int .i64 r)).setCell ⟨w1.heap.size, 2, none⟩ (.int .i64 h)) (w.heap.size) 35 _ from by (repeat (first | with_reducible exact HP.out | (with_reducible apply Blk.new'; first | with_reducible rfl | (focus (simp; done)) | (focus (simp; omega))) | with_reducible apply Blk.set_ | with_reducible apply Blk.far | with_reducible apply Blk.alloc | with_reducible apply Blk.drew | with_reducible apply Blk.drewN | (first | omega | (focus (simp; done)) | (focus (simp; omega)) | (focus (simp [World.setCell]; omega))))))
  replace HW := Lib.hid (show Blk (((x5.setCell ⟨w1.heap.size, 0, none⟩ (.int .i64 s)).setCell ⟨w1.heap.size, 1, none⟩ (.int .i64 r)).setCell ⟨w1.heap.size, 2, none⟩ (.int .i64 h)) (w1.heap.size) 35 #[.int .i64 s, .int .i64 r, .int .i64 h] from Blk.val (by (repeat (first | with_reducible exact HW.out | (with_reducible apply Blk.new'; first | with_reducible rfl | (focus (simp; done)) | (focus (simp; omega))) | with_reducible apply Blk.set_ | with_reducible apply Blk.far | with_reducible apply Blk.alloc | with_reducible apply Blk.drew | with_reducible apply Blk.drewN | (first | omega | (focus (simp; done)) | (focus (simp; omega)) | (focus (simp [World.setCell]; omega)))))) (by first | rfl | simp))
  replace HX := Lib.hid (show Blk (((x5.setCell ⟨w1.heap.size, 0, none⟩ (.int .i64 s)).setCell ⟨w1.heap.size, 1, none⟩ (.int .i64 r)).setCell ⟨w1.heap.size, 2, none⟩ (.int .i64 h)) (w3.heap.size) 35 _ from by (repeat (first | with_reducible exact HX.out | (with_reducible apply Blk.new'; first | with_reducible rfl | (focus (simp; done)) | (focus (simp; omega))) | with_reducible apply Blk.set_ | with_reducible apply Blk.far | with_reducible apply Blk.alloc | with_reducible apply Blk.drew | with_reducible apply Blk.drewN | (first | omega | (focus (simp; done)) | (focus (simp; omega)) | (focus (simp [World.setCell]; omega))))))
  replace BEL : Hid (Below w.heap.size w (((x5.setCell ⟨w1.heap.size, 0, none⟩ (.int .i64 s)).setCell ⟨w1.heap.size, 1, none⟩ (.int .i64 r)).setCell ⟨w1.heap.size, 2, none⟩ (.int .i64 h))) := Lib.hid (by repeat (first | with_reducible exact BEL.out | with_reducible apply Below.alloc | with_reducible apply Below.setCell | with_reducible apply Below.drew | with_reducible apply below_drewN | (first | omega | (focus (simp; done)) | (focus (simp; omega)) | (focus (simp [World.setCell]; omega)))))
  have z_x6 : x5.heap.size ≤ (((x5.setCell ⟨w1.heap.size, 0, none⟩ (.int .i64 s)).setCell ⟨w1.heap.size, 1, none⟩ (.int .i64 r)).setCell ⟨w1.heap.size, 2, none⟩ (.int .i64 h)).heap.size := by simp [World.setCell]
  clear pP0 pP1 pP2 fP0 fP1 fP2 zP zP_1 zP_2 zP_3 pW0 pW1 pW2 fW0 fW1 fW2 zW zW_1 zW_2 zW_3 pX0 pX1 pX2 fX0 fX1 fX2 zX zX_1 zX_2 zX_3
  obtain ⟨x6, hx6⟩ : ∃ x, x = (((x5.setCell ⟨w1.heap.size, 0, none⟩ (.int .i64 s)).setCell ⟨w1.heap.size, 1, none⟩ (.int .i64 r)).setCell ⟨w1.heap.size, 2, none⟩ (.int .i64 h)) := ⟨_, rfl⟩
  rw [← hx6] at HP HW HX BEL z_x6 ⊢
  clear hx6
  have y_x6 : w.heap.size ≤ x6.heap.size := BEL.out.size
  obtain ⟨pP0, pP1, pP2, fP0, fP1, fP2, zP⟩ := HP.out.three
  have zP_1 : w.heap.size < x6.heap.size + 1 := by omega
  have zP_2 : w.heap.size < x6.heap.size + 1 + 1 := by omega
  have zP_3 : w.heap.size < x6.heap.size + 1 + 1 + 1 := by omega
  obtain ⟨pW0, pW1, pW2, fW0, fW1, fW2, zW⟩ := HW.out.three
  have zW_1 : w1.heap.size < x6.heap.size + 1 := by omega
  have zW_2 : w1.heap.size < x6.heap.size + 1 + 1 := by omega
  have zW_3 : w1.heap.size < x6.heap.size + 1 + 1 + 1 := by omega
  obtain ⟨pX0, pX1, pX2, fX0, fX1, fX2, zX⟩ := HX.out.three
  have zX_1 : w3.heap.size < x6.heap.size + 1 := by omega
  have zX_2 : w3.heap.size < x6.heap.size + 1 + 1 := by omega
  have zX_3 : w3.heap.size < x6.heap.size + 1 + 1 + 1 := by omega
  go_upto_region 17 with fail
  replace HP := Lib.hid (show Blk (x6.setCell ⟨w1.heap.size, 2, none⟩ (.int .i64 (h - n))) (w.heap.size) 35 _ from by (repeat (first | with_reducible exact HP.out | (with_reducible apply Blk.new'; first | with_reducible rfl | (focus (simp; done)) | (focus (simp; omega))) | with_reducible apply Blk.set_ | with_reducible apply Blk.far | with_reducible apply Blk.alloc | with_reducible apply Blk.drew | with_reducible apply Blk.drewN | (first | omega | (focus (simp; done)) | (focus (simp; omega)) | (focus (simp [World.setCell]; omega))))))
  replace HW := Lib.hid (show Blk (x6.setCell ⟨w1.heap.size, 2, none⟩ (.int .i64 (h - n))) (w1.heap.size) 35 #[.int .i64 s, .int .i64 r, .int .i64 (h - n)] from Blk.val (by (repeat (first | with_reducible exact HW.out | (with_reducible apply Blk.new'; first | with_reducible rfl | (focus (simp; done)) | (focus (simp; omega))) | with_reducible apply Blk.set_ | with_reducible apply Blk.far | with_reducible apply Blk.alloc | with_reducible apply Blk.drew | with_reducible apply Blk.drewN | (first | omega | (focus (simp; done)) | (focus (simp; omega)) | (focus (simp [World.setCell]; omega)))))) (by first | rfl | simp))
  replace HX := Lib.hid (show Blk (x6.setCell ⟨w1.heap.size, 2, none⟩ (.int .i64 (h - n))) (w3.heap.size) 35 _ from by (repeat (first | with_reducible exact HX.out | (with_reducible apply Blk.new'; first | with_reducible rfl | (focus (simp; done)) | (focus (simp; omega))) | with_reducible apply Blk.set_ | with_reducible apply Blk.far | with_reducible apply Blk.alloc | with_reducible apply Blk.drew | with_reducible apply Blk.drewN | (first | omega | (focus (simp; done)) | (focus (simp; omega)) | (focus (simp [World.setCell]; omega))))))
  replace BEL : Hid (Below w.heap.size w (x6.setCell ⟨w1.heap.size, 2, none⟩ (.int .i64 (h - n)))) := Lib.hid (by repeat (first | with_reducible exact BEL.out | with_reducible apply Below.alloc | with_reducible apply Below.setCell | with_reducible apply Below.drew | with_reducible apply below_drewN | (first | omega | (focus (simp; done)) | (focus (simp; omega)) | (focus (simp [World.setCell]; omega)))))
  have z_x7 : x6.heap.size ≤ (x6.setCell ⟨w1.heap.size, 2, none⟩ (.int .i64 (h - n))).heap.size := by simp [World.setCell]
  clear pP0 pP1 pP2 fP0 fP1 fP2 zP zP_1 zP_2 zP_3 pW0 pW1 pW2 fW0 fW1 fW2 zW zW_1 zW_2 zW_3 pX0 pX1 pX2 fX0 fX1 fX2 zX zX_1 zX_2 zX_3
  obtain ⟨x7, hx7⟩ : ∃ x, x = (x6.setCell ⟨w1.heap.size, 2, none⟩ (.int .i64 (h - n))) := ⟨_, rfl⟩
  rw [← hx7] at HP HW HX BEL z_x7 ⊢
  clear hx7
  have y_x7 : w.heap.size ≤ x7.heap.size := BEL.out.size
  obtain ⟨pP0, pP1, pP2, fP0, fP1, fP2, zP⟩ := HP.out.three
  have zP_1 : w.heap.size < x7.heap.size + 1 := by omega
  have zP_2 : w.heap.size < x7.heap.size + 1 + 1 := by omega
  have zP_3 : w.heap.size < x7.heap.size + 1 + 1 + 1 := by omega
  obtain ⟨pW0, pW1, pW2, fW0, fW1, fW2, zW⟩ := HW.out.three
  have zW_1 : w1.heap.size < x7.heap.size + 1 := by omega
  have zW_2 : w1.heap.size < x7.heap.size + 1 + 1 := by omega
  have zW_3 : w1.heap.size < x7.heap.size + 1 + 1 + 1 := by omega
  obtain ⟨pX0, pX1, pX2, fX0, fX1, fX2, zX⟩ := HX.out.three
  have zX_1 : w3.heap.size < x7.heap.size + 1 := by omega
  have zX_2 : w3.heap.size < x7.heap.size + 1 + 1 := by omega
  have zX_3 : w3.heap.size < x7.heap.size + 1 + 1 + 1 := by omega
  go_wp2_with fail
  refine (take_yes s r h n _ H.out n0 n1 hn).mono ?_; rintro e w8 ⟨rfl, hb8⟩
  have z_w8 : x7.heap.size ≤ w8.heap.size := Nat.le_trans (by first | with_reducible exact Nat.le_refl _ | (simp; done) | (simp; omega) | (simp [World.setCell]; done)) hb8.size
  replace HP := Lib.hid (show Blk w8 (w.heap.size) 35 _ from by (with_reducible apply Blk.below (hb := hb8); (repeat (first | with_reducible exact HP.out | (with_reducible apply Blk.new'; first | with_reducible rfl | (focus (simp; done)) | (focus (simp; omega))) | with_reducible apply Blk.set_ | with_reducible apply Blk.far | with_reducible apply Blk.alloc | with_reducible apply Blk.drew | with_reducible apply Blk.drewN | (first | omega | (focus (simp; done)) | (focus (simp; omega)) | (focus (simp [World.setCell]; omega)))))))
  replace HW := Lib.hid (show Blk w8 (w1.heap.size) 35 _ from by (with_reducible apply Blk.below (hb := hb8); (repeat (first | with_reducible exact HW.out | (with_reducible apply Blk.new'; first | with_reducible rfl | (focus (simp; done)) | (focus (simp; omega))) | with_reducible apply Blk.set_ | with_reducible apply Blk.far | with_reducible apply Blk.alloc | with_reducible apply Blk.drew | with_reducible apply Blk.drewN | (first | omega | (focus (simp; done)) | (focus (simp; omega)) | (focus (simp [World.setCell]; omega)))))))
  replace HX := Lib.hid (show Blk w8 (w3.heap.size) 35 _ from by (with_reducible apply Blk.below (hb := hb8); (repeat (first | with_reducible exact HX.out | (with_reducible apply Blk.new'; first | with_reducible rfl | (focus (simp; done)) | (focus (simp; omega))) | with_reducible apply Blk.set_ | with_reducible apply Blk.far | with_reducible apply Blk.alloc | with_reducible apply Blk.drew | with_reducible apply Blk.drewN | (first | omega | (focus (simp; done)) | (focus (simp; omega)) | (focus (simp [World.setCell]; omega)))))))
  replace BEL : Hid (Below w.heap.size w w8) := Lib.hid (Below.trans (by repeat (first | with_reducible exact BEL.out | with_reducible apply Below.alloc | with_reducible apply Below.setCell | with_reducible apply Below.drew | with_reducible apply below_drewN | (first | omega | (focus (simp; done)) | (focus (simp; omega)) | (focus (simp [World.setCell]; omega))))) (hb8.mono (by (first | omega | (focus (simp; done)) | (focus (simp; omega)) | (focus (simp [World.setCell]; omega))))))
  have y_w8 : w.heap.size ≤ w8.heap.size := BEL.out.size
  clear hb8
  clear pP0 pP1 pP2 fP0 fP1 fP2 zP zP_1 zP_2 zP_3 pW0 pW1 pW2 fW0 fW1 fW2 zW zW_1 zW_2 zW_3 pX0 pX1 pX2 fX0 fX1 fX2 zX zX_1 zX_2 zX_3
  obtain ⟨pP0, pP1, pP2, fP0, fP1, fP2, zP⟩ := HP.out.three
  have zP_1 : w.heap.size < w8.heap.size + 1 := by omega
  have zP_2 : w.heap.size < w8.heap.size + 1 + 1 := by omega
  have zP_3 : w.heap.size < w8.heap.size + 1 + 1 + 1 := by omega
  obtain ⟨pW0, pW1, pW2, fW0, fW1, fW2, zW⟩ := HW.out.three
  have zW_1 : w1.heap.size < w8.heap.size + 1 := by omega
  have zW_2 : w1.heap.size < w8.heap.size + 1 + 1 := by omega
  have zW_3 : w1.heap.size < w8.heap.size + 1 + 1 + 1 := by omega
  obtain ⟨pX0, pX1, pX2, fX0, fX1, fX2, zX⟩ := HX.out.three
  have zX_1 : w3.heap.size < w8.heap.size + 1 := by omega
  have zX_2 : w3.heap.size < w8.heap.size + 1 + 1 := by omega
  have zX_3 : w3.heap.size < w8.heap.size + 1 + 1 + 1 := by omega
  go_wp2_with fail
  refine (same_ok _).mono ?_; rintro e w9 ⟨rfl, hb9⟩
  have z_w9 : w8.heap.size ≤ w9.heap.size := Nat.le_trans (by first | with_reducible exact Nat.le_refl _ | (simp; done) | (simp; omega) | (simp [World.setCell]; done)) hb9.size
  replace HP := Lib.hid (show Blk w9 (w.heap.size) 35 _ from by (with_reducible apply Blk.below (hb := hb9); (repeat (first | with_reducible exact HP.out | (with_reducible apply Blk.new'; first | with_reducible rfl | (focus (simp; done)) | (focus (simp; omega))) | with_reducible apply Blk.set_ | with_reducible apply Blk.far | with_reducible apply Blk.alloc | with_reducible apply Blk.drew | with_reducible apply Blk.drewN | (first | omega | (focus (simp; done)) | (focus (simp; omega)) | (focus (simp [World.setCell]; omega)))))))
  replace HW := Lib.hid (show Blk w9 (w1.heap.size) 35 _ from by (with_reducible apply Blk.below (hb := hb9); (repeat (first | with_reducible exact HW.out | (with_reducible apply Blk.new'; first | with_reducible rfl | (focus (simp; done)) | (focus (simp; omega))) | with_reducible apply Blk.set_ | with_reducible apply Blk.far | with_reducible apply Blk.alloc | with_reducible apply Blk.drew | with_reducible apply Blk.drewN | (first | omega | (focus (simp; done)) | (focus (simp; omega)) | (focus (simp [World.setCell]; omega)))))))
  replace HX := Lib.hid (show Blk w9 (w3.heap.size) 35 _ from by (with_reducible apply Blk.below (hb := hb9); (repeat (first | with_reducible exact HX.out | (with_reducible apply Blk.new'; first | with_reducible rfl | (focus (simp; done)) | (focus (simp; omega))) | with_reducible apply Blk.set_ | with_reducible apply Blk.far | with_reducible apply Blk.alloc | with_reducible apply Blk.drew | with_reducible apply Blk.drewN | (first | omega | (focus (simp; done)) | (focus (simp; omega)) | (focus (simp [World.setCell]; omega)))))))
  replace BEL : Hid (Below w.heap.size w w9) := Lib.hid (Below.trans (by repeat (first | with_reducible exact BEL.out | with_reducible apply Below.alloc | with_reducible apply Below.setCell | with_reducible apply Below.drew | with_reducible apply below_drewN | (first | omega | (focus (simp; done)) | (focus (simp; omega)) | (focus (simp [World.setCell]; omega))))) (hb9.mono (by (first | omega | (focus (simp; done)) | (focus (simp; omega)) | (focus (simp [World.setCell]; omega))))))
  have y_w9 : w.heap.size ≤ w9.heap.size := BEL.out.size
  clear hb9
  clear pP0 pP1 pP2 fP0 fP1 fP2 zP zP_1 zP_2 zP_3 pW0 pW1 pW2 fW0 fW1 fW2 zW zW_1 zW_2 zW_3 pX0 pX1 pX2 fX0 fX1 fX2 zX zX_1 zX_2 zX_3
  obtain ⟨pP0, pP1, pP2, fP0, fP1, fP2, zP⟩ := HP.out.three
  have zP_1 : w.heap.size < w9.heap.size + 1 := by omega
  have zP_2 : w.heap.size < w9.heap.size + 1 + 1 := by omega
  have zP_3 : w.heap.size < w9.heap.size + 1 + 1 + 1 := by omega
  obtain ⟨pW0, pW1, pW2, fW0, fW1, fW2, zW⟩ := HW.out.three
  have zW_1 : w1.heap.size < w9.heap.size + 1 := by omega
  have zW_2 : w1.heap.size < w9.heap.size + 1 + 1 := by omega
  have zW_3 : w1.heap.size < w9.heap.size + 1 + 1 + 1 := by omega
  obtain ⟨pX0, pX1, pX2, fX0, fX1, fX2, zX⟩ := HX.out.three
  have zX_1 : w3.heap.size < w9.heap.size + 1 := by omega
  have zX_2 : w3.heap.size < w9.heap.size + 1 + 1 := by omega
  have zX_3 : w3.heap.size < w9.heap.size + 1 + 1 + 1 := by omega
  go_wp2_with fail
  refine (refTicks_is A cp l w.heap.size _ (HI.out.below (by repeat (first | with_reducible exact BEL.out | with_reducible apply Below.alloc | with_reducible apply Below.setCell | with_reducible apply Below.drew | with_reducible apply below_drewN | (first | omega | (focus (simp; done)) | (focus (simp; omega)) | (focus (simp [World.setCell]; omega))))) (Nat.le_refl _)) 4 HT.out).mono ?_; rintro e w' ⟨rfl, rfl⟩
  go_wp2_with fail
  refine (bsend_full s r h A cp l.length _ H.out hl hm).mono ?_; rintro e w10 ⟨rfl, hb10⟩
  clear HW
  clear HX
  have z_w10 : w9.heap.size ≤ w10.heap.size := Nat.le_trans (by first | with_reducible exact Nat.le_refl _ | (simp; done) | (simp; omega) | (simp [World.setCell]; done)) hb10.size
  replace HP := Lib.hid (show Blk w10 (w.heap.size) 35 _ from by (with_reducible apply Blk.below (hb := hb10); (repeat (first | with_reducible exact HP.out | (with_reducible apply Blk.new'; first | with_reducible rfl | (focus (simp; done)) | (focus (simp; omega))) | with_reducible apply Blk.set_ | with_reducible apply Blk.far | with_reducible apply Blk.alloc | with_reducible apply Blk.drew | with_reducible apply Blk.drewN | (first | omega | (focus (simp; done)) | (focus (simp; omega)) | (focus (simp [World.setCell]; omega)))))))
  replace BEL : Hid (Below w.heap.size w w10) := Lib.hid (Below.trans (by repeat (first | with_reducible exact BEL.out | with_reducible apply Below.alloc | with_reducible apply Below.setCell | with_reducible apply Below.drew | with_reducible apply below_drewN | (first | omega | (focus (simp; done)) | (focus (simp; omega)) | (focus (simp [World.setCell]; omega))))) (hb10.mono (by (first | omega | (focus (simp; done)) | (focus (simp; omega)) | (focus (simp [World.setCell]; omega))))))
  have y_w10 : w.heap.size ≤ w10.heap.size := BEL.out.size
  clear hb10
  clear pP0 pP1 pP2 fP0 fP1 fP2 zP zP_1 zP_2 zP_3 pW0 pW1 pW2 fW0 fW1 fW2 zW zW_1 zW_2 zW_3 pX0 pX1 pX2 fX0 fX1 fX2 zX zX_1 zX_2 zX_3
  obtain ⟨pP0, pP1, pP2, fP0, fP1, fP2, zP⟩ := HP.out.three
  have zP_1 : w.heap.size < w10.heap.size + 1 := by omega
  have zP_2 : w.heap.size < w10.heap.size + 1 + 1 := by omega
  have zP_3 : w.heap.size < w10.heap.size + 1 + 1 + 1 := by omega
  go_wp2_with fail
  refine (same_hit 4 _ (LAID.out.below (by repeat (first | with_reducible exact BEL.out | with_reducible apply Below.alloc | with_reducible apply Below.setCell | with_reducible apply Below.drew | with_reducible apply below_drewN | (first | omega | (focus (simp; done)) | (focus (simp; omega)) | (focus (simp [World.setCell]; omega))))))).mono ?_; rintro e w11 ⟨rfl, hb11⟩
  have z_w11 : w10.heap.size ≤ w11.heap.size := Nat.le_trans (by first | with_reducible exact Nat.le_refl _ | (simp; done) | (simp; omega) | (simp [World.setCell]; done)) hb11.size
  replace HP := Lib.hid (show Blk w11 (w.heap.size) 35 _ from by (with_reducible apply Blk.below (hb := hb11); (repeat (first | with_reducible exact HP.out | (with_reducible apply Blk.new'; first | with_reducible rfl | (focus (simp; done)) | (focus (simp; omega))) | with_reducible apply Blk.set_ | with_reducible apply Blk.far | with_reducible apply Blk.alloc | with_reducible apply Blk.drew | with_reducible apply Blk.drewN | (first | omega | (focus (simp; done)) | (focus (simp; omega)) | (focus (simp [World.setCell]; omega)))))))
  replace BEL : Hid (Below w.heap.size w w11) := Lib.hid (Below.trans (by repeat (first | with_reducible exact BEL.out | with_reducible apply Below.alloc | with_reducible apply Below.setCell | with_reducible apply Below.drew | with_reducible apply below_drewN | (first | omega | (focus (simp; done)) | (focus (simp; omega)) | (focus (simp [World.setCell]; omega))))) (hb11.mono (by (first | omega | (focus (simp; done)) | (focus (simp; omega)) | (focus (simp [World.setCell]; omega))))))
  have y_w11 : w.heap.size ≤ w11.heap.size := BEL.out.size
  clear hb11
  clear pP0 pP1 pP2 fP0 fP1 fP2 zP zP_1 zP_2 zP_3
  obtain ⟨pP0, pP1, pP2, fP0, fP1, fP2, zP⟩ := HP.out.three
  have zP_1 : w.heap.size < w11.heap.size + 1 := by omega
  have zP_2 : w.heap.size < w11.heap.size + 1 + 1 := by omega
  have zP_3 : w.heap.size < w11.heap.size + 1 + 1 + 1 := by omega
  go_wp2_with fail
  refine (sameInts_nil _).mono ?_; rintro e w12 ⟨rfl, hb12⟩
  have z_w12 : w11.heap.size ≤ w12.heap.size := Nat.le_trans (by first | with_reducible exact Nat.le_refl _ | (simp; done) | (simp; omega) | (simp [World.setCell]; done)) hb12.size
  replace HP := Lib.hid (show Blk w12 (w.heap.size) 35 _ from by (with_reducible apply Blk.below (hb := hb12); (repeat (first | with_reducible exact HP.out | (with_reducible apply Blk.new'; first | with_reducible rfl | (focus (simp; done)) | (focus (simp; omega))) | with_reducible apply Blk.set_ | with_reducible apply Blk.far | with_reducible apply Blk.alloc | with_reducible apply Blk.drew | with_reducible apply Blk.drewN | (first | omega | (focus (simp; done)) | (focus (simp; omega)) | (focus (simp [World.setCell]; omega)))))))
  replace BEL : Hid (Below w.heap.size w w12) := Lib.hid (Below.trans (by repeat (first | with_reducible exact BEL.out | with_reducible apply Below.alloc | with_reducible apply Below.setCell | with_reducible apply Below.drew | with_reducible apply below_drewN | (first | omega | (focus (simp; done)) | (focus (simp; omega)) | (focus (simp [World.setCell]; omega))))) (hb12.mono (by (first | omega | (focus (simp; done)) | (focus (simp; omega)) | (focus (simp [World.setCell]; omega))))))
  have y_w12 : w.heap.size ≤ w12.heap.size := BEL.out.size
  clear hb12
  clear pP0 pP1 pP2 fP0 fP1 fP2 zP zP_1 zP_2 zP_3
  obtain ⟨pP0, pP1, pP2, fP0, fP1, fP2, zP⟩ := HP.out.three
  have zP_1 : w.heap.size < w12.heap.size + 1 := by omega
  have zP_2 : w.heap.size < w12.heap.size + 1 + 1 := by omega
  have zP_3 : w.heap.size < w12.heap.size + 1 + 1 + 1 := by omega
  go_wp2
  go_ret
  exact ⟨rfl, (by repeat (first | with_reducible exact BEL.out | with_reducible apply Below.alloc | with_reducible apply Below.setCell | with_reducible apply Below.drew | with_reducible apply below_drewN | (first | omega | (focus (simp; done)) | (focus (simp; omega)) | (focus (simp [World.setCell]; omega)))))⟩
set_option maxHeartbeats 8000000 in
set_option maxRecDepth 100000 in
theorem bucketTells_in_bad (s r h n : Int) (A : Option Addr) (cp : Nat) (l : List Int) (w : World) (hi : Ints w w.heap.size A cp l) (hg : Laid w) (ok : BucketOk s r h) (n0 : 0 ≤ n) (n1 : n ≤ 10000) (hn : n ≤ h) (hl : l.length ≤ 60) (hb : l.any badRate = true) :
    Calls Tryd.prog 8 #[.agg #[.int .i64 s, .int .i64 r, .int .i64 h], .int .i64 n, .slice A l.length cp] w fun e w' => e = .returned (.bool true) ∧ Below w.heap.size w w' := by
  have LAID := Lib.hid hg; clear hg
  have HI := Lib.hid hi; clear hi
  have H := Lib.hid ok
  obtain ⟨g1, g2, g3, g4, g5, g6⟩ := ok
  obtain ⟨vt, hvt⟩ : ∃ v, min s (h + r) = v := ⟨_, rfl⟩
  have VT := Lib.hid hvt; clear hvt
  have HB := Lib.hid hb; clear hb
  have HT : Hid (ticksErr l = 1) := Lib.hid (by unfold ticksErr; rw [if_neg (by omega), HB.out]; rfl)
  have BEL : Hid (Below w.heap.size w w) := Lib.hid (Below.refl _ _)
  have yB : w.heap.size ≤ w.heap.size := Nat.le_refl _
  go_enter Tryd.func8, Tryd.ntmps8
  go_wp2_with fail
  refine (refBucket_yes s r h _ H.out).mono ?_; rintro e w' ⟨rfl, rfl⟩
  go_wp2_with fail
  refine (bcheck_yes s r h _ H.out).mono ?_; rintro e w' ⟨rfl, rfl⟩
  go_wp2_with fail
  refine (same_ok _).mono ?_; rintro e w1 ⟨rfl, hb1⟩
  have z_w1 : w.heap.size ≤ w1.heap.size := Nat.le_trans (by first | with_reducible exact Nat.le_refl _ | (simp; done) | (simp; omega) | (simp [World.setCell]; done)) hb1.size
  have HP := Lib.hid (show Blk w1 (w.heap.size) 35 _ from by (with_reducible apply Blk.below (hb := hb1); (repeat (first | (with_reducible apply Blk.new'; first | with_reducible rfl | (focus (simp; done)) | (focus (simp; omega))) | with_reducible apply Blk.set_ | with_reducible apply Blk.far | with_reducible apply Blk.alloc | with_reducible apply Blk.drew | with_reducible apply Blk.drewN | (first | omega | (focus (simp; done)) | (focus (simp; omega)) | (focus (simp [World.setCell]; omega)))))))
  have q_P_w1 : w.heap.size < w1.heap.size := HP.out.lt
  replace BEL : Hid (Below w.heap.size w w1) := Lib.hid (Below.trans (by repeat (first | with_reducible exact BEL.out | with_reducible apply Below.alloc | with_reducible apply Below.setCell | with_reducible apply Below.drew | with_reducible apply below_drewN | (first | omega | (focus (simp; done)) | (focus (simp; omega)) | (focus (simp [World.setCell]; omega))))) (hb1.mono (by (first | omega | (focus (simp; done)) | (focus (simp; omega)) | (focus (simp [World.setCell]; omega))))))
  have y_w1 : w.heap.size ≤ w1.heap.size := BEL.out.size
  clear hb1
  obtain ⟨pP0, pP1, pP2, fP0, fP1, fP2, zP⟩ := HP.out.three
  have zP_1 : w.heap.size < w1.heap.size + 1 := by omega
  have zP_2 : w.heap.size < w1.heap.size + 1 + 1 := by omega
  have zP_3 : w.heap.size < w1.heap.size + 1 + 1 + 1 := by omega
  go_wp2_with fail
  refine (refFill_is s r h vt _ (by omega) (by omega) g3 (by omega) VT.out).mono ?_; rintro e w2 ⟨rfl, hb2⟩
  have z_w2 : w1.heap.size ≤ w2.heap.size := Nat.le_trans (by first | with_reducible exact Nat.le_refl _ | (simp; done) | (simp; omega) | (simp [World.setCell]; done)) hb2.size
  have HW := Lib.hid (show Blk w2 (w1.heap.size) 35 _ from by (with_reducible apply Blk.below (hb := hb2); (repeat (first | (with_reducible apply Blk.new'; first | with_reducible rfl | (focus (simp; done)) | (focus (simp; omega))) | with_reducible apply Blk.set_ | with_reducible apply Blk.far | with_reducible apply Blk.alloc | with_reducible apply Blk.drew | with_reducible apply Blk.drewN | (first | omega | (focus (simp; done)) | (focus (simp; omega)) | (focus (simp [World.setCell]; omega)))))))
  replace HP := Lib.hid (show Blk w2 (w.heap.size) 35 _ from by (with_reducible apply Blk.below (hb := hb2); (repeat (first | with_reducible exact HP.out | (with_reducible apply Blk.new'; first | with_reducible rfl | (focus (simp; done)) | (focus (simp; omega))) | with_reducible apply Blk.set_ | with_reducible apply Blk.far | with_reducible apply Blk.alloc | with_reducible apply Blk.drew | with_reducible apply Blk.drewN | (first | omega | (focus (simp; done)) | (focus (simp; omega)) | (focus (simp [World.setCell]; omega)))))))
  have q_W_w2 : w1.heap.size < w2.heap.size := HW.out.lt
  replace BEL : Hid (Below w.heap.size w w2) := Lib.hid (Below.trans (by repeat (first | with_reducible exact BEL.out | with_reducible apply Below.alloc | with_reducible apply Below.setCell | with_reducible apply Below.drew | with_reducible apply below_drewN | (first | omega | (focus (simp; done)) | (focus (simp; omega)) | (focus (simp [World.setCell]; omega))))) (hb2.mono (by (first | omega | (focus (simp; done)) | (focus (simp; omega)) | (focus (simp [World.setCell]; omega))))))
  have y_w2 : w.heap.size ≤ w2.heap.size := BEL.out.size
  clear hb2
  clear pP0 pP1 pP2 fP0 fP1 fP2 zP zP_1 zP_2 zP_3
  obtain ⟨pP0, pP1, pP2, fP0, fP1, fP2, zP⟩ := HP.out.three
  have zP_1 : w.heap.size < w2.heap.size + 1 := by omega
  have zP_2 : w.heap.size < w2.heap.size + 1 + 1 := by omega
  have zP_3 : w.heap.size < w2.heap.size + 1 + 1 + 1 := by omega
  obtain ⟨pW0, pW1, pW2, fW0, fW1, fW2, zW⟩ := HW.out.three
  have zW_1 : w1.heap.size < w2.heap.size + 1 := by omega
  have zW_2 : w1.heap.size < w2.heap.size + 1 + 1 := by omega
  have zW_3 : w1.heap.size < w2.heap.size + 1 + 1 + 1 := by omega
  go_wp2_with fail
  refine (bTick_is s r h vt _ H.out VT.out).mono ?_; rintro e w3 ⟨rfl, hb3⟩
  have z_w3 : w2.heap.size ≤ w3.heap.size := Nat.le_trans (by first | with_reducible exact Nat.le_refl _ | (simp; done) | (simp; omega) | (simp [World.setCell]; done)) hb3.size
  replace HP := Lib.hid (show Blk w3 (w.heap.size) 35 _ from by (with_reducible apply Blk.below (hb := hb3); (repeat (first | with_reducible exact HP.out | (with_reducible apply Blk.new'; first | with_reducible rfl | (focus (simp; done)) | (focus (simp; omega))) | with_reducible apply Blk.set_ | with_reducible apply Blk.far | with_reducible apply Blk.alloc | with_reducible apply Blk.drew | with_reducible apply Blk.drewN | (first | omega | (focus (simp; done)) | (focus (simp; omega)) | (focus (simp [World.setCell]; omega)))))))
  replace HW := Lib.hid (show Blk w3 (w1.heap.size) 35 _ from by (with_reducible apply Blk.below (hb := hb3); (repeat (first | with_reducible exact HW.out | (with_reducible apply Blk.new'; first | with_reducible rfl | (focus (simp; done)) | (focus (simp; omega))) | with_reducible apply Blk.set_ | with_reducible apply Blk.far | with_reducible apply Blk.alloc | with_reducible apply Blk.drew | with_reducible apply Blk.drewN | (first | omega | (focus (simp; done)) | (focus (simp; omega)) | (focus (simp [World.setCell]; omega)))))))
  replace BEL : Hid (Below w.heap.size w w3) := Lib.hid (Below.trans (by repeat (first | with_reducible exact BEL.out | with_reducible apply Below.alloc | with_reducible apply Below.setCell | with_reducible apply Below.drew | with_reducible apply below_drewN | (first | omega | (focus (simp; done)) | (focus (simp; omega)) | (focus (simp [World.setCell]; omega))))) (hb3.mono (by (first | omega | (focus (simp; done)) | (focus (simp; omega)) | (focus (simp [World.setCell]; omega))))))
  have y_w3 : w.heap.size ≤ w3.heap.size := BEL.out.size
  clear hb3
  clear pP0 pP1 pP2 fP0 fP1 fP2 zP zP_1 zP_2 zP_3 pW0 pW1 pW2 fW0 fW1 fW2 zW zW_1 zW_2 zW_3
  obtain ⟨pP0, pP1, pP2, fP0, fP1, fP2, zP⟩ := HP.out.three
  have zP_1 : w.heap.size < w3.heap.size + 1 := by omega
  have zP_2 : w.heap.size < w3.heap.size + 1 + 1 := by omega
  have zP_3 : w.heap.size < w3.heap.size + 1 + 1 + 1 := by omega
  obtain ⟨pW0, pW1, pW2, fW0, fW1, fW2, zW⟩ := HW.out.three
  have zW_1 : w1.heap.size < w3.heap.size + 1 := by omega
  have zW_2 : w1.heap.size < w3.heap.size + 1 + 1 := by omega
  have zW_3 : w1.heap.size < w3.heap.size + 1 + 1 + 1 := by omega
  go_wp2_with fail
  refine (same_ok _).mono ?_; rintro e w4 ⟨rfl, hb4⟩
  have z_w4 : w3.heap.size ≤ w4.heap.size := Nat.le_trans (by first | with_reducible exact Nat.le_refl _ | (simp; done) | (simp; omega) | (simp [World.setCell]; done)) hb4.size
  have HX := Lib.hid (show Blk w4 (w3.heap.size) 35 _ from by (with_reducible apply Blk.below (hb := hb4); (repeat (first | (with_reducible apply Blk.new'; first | with_reducible rfl | (focus (simp; done)) | (focus (simp; omega))) | with_reducible apply Blk.set_ | with_reducible apply Blk.far | with_reducible apply Blk.alloc | with_reducible apply Blk.drew | with_reducible apply Blk.drewN | (first | omega | (focus (simp; done)) | (focus (simp; omega)) | (focus (simp [World.setCell]; omega)))))))
  replace HP := Lib.hid (show Blk w4 (w.heap.size) 35 _ from by (with_reducible apply Blk.below (hb := hb4); (repeat (first | with_reducible exact HP.out | (with_reducible apply Blk.new'; first | with_reducible rfl | (focus (simp; done)) | (focus (simp; omega))) | with_reducible apply Blk.set_ | with_reducible apply Blk.far | with_reducible apply Blk.alloc | with_reducible apply Blk.drew | with_reducible apply Blk.drewN | (first | omega | (focus (simp; done)) | (focus (simp; omega)) | (focus (simp [World.setCell]; omega)))))))
  replace HW := Lib.hid (show Blk w4 (w1.heap.size) 35 _ from by (with_reducible apply Blk.below (hb := hb4); (repeat (first | with_reducible exact HW.out | (with_reducible apply Blk.new'; first | with_reducible rfl | (focus (simp; done)) | (focus (simp; omega))) | with_reducible apply Blk.set_ | with_reducible apply Blk.far | with_reducible apply Blk.alloc | with_reducible apply Blk.drew | with_reducible apply Blk.drewN | (first | omega | (focus (simp; done)) | (focus (simp; omega)) | (focus (simp [World.setCell]; omega)))))))
  have q_X_w4 : w3.heap.size < w4.heap.size := HX.out.lt
  replace BEL : Hid (Below w.heap.size w w4) := Lib.hid (Below.trans (by repeat (first | with_reducible exact BEL.out | with_reducible apply Below.alloc | with_reducible apply Below.setCell | with_reducible apply Below.drew | with_reducible apply below_drewN | (first | omega | (focus (simp; done)) | (focus (simp; omega)) | (focus (simp [World.setCell]; omega))))) (hb4.mono (by (first | omega | (focus (simp; done)) | (focus (simp; omega)) | (focus (simp [World.setCell]; omega))))))
  have y_w4 : w.heap.size ≤ w4.heap.size := BEL.out.size
  clear hb4
  clear pP0 pP1 pP2 fP0 fP1 fP2 zP zP_1 zP_2 zP_3 pW0 pW1 pW2 fW0 fW1 fW2 zW zW_1 zW_2 zW_3
  obtain ⟨pP0, pP1, pP2, fP0, fP1, fP2, zP⟩ := HP.out.three
  have zP_1 : w.heap.size < w4.heap.size + 1 := by omega
  have zP_2 : w.heap.size < w4.heap.size + 1 + 1 := by omega
  have zP_3 : w.heap.size < w4.heap.size + 1 + 1 + 1 := by omega
  obtain ⟨pW0, pW1, pW2, fW0, fW1, fW2, zW⟩ := HW.out.three
  have zW_1 : w1.heap.size < w4.heap.size + 1 := by omega
  have zW_2 : w1.heap.size < w4.heap.size + 1 + 1 := by omega
  have zW_3 : w1.heap.size < w4.heap.size + 1 + 1 + 1 := by omega
  obtain ⟨pX0, pX1, pX2, fX0, fX1, fX2, zX⟩ := HX.out.three
  have zX_1 : w3.heap.size < w4.heap.size + 1 := by omega
  have zX_2 : w3.heap.size < w4.heap.size + 1 + 1 := by omega
  have zX_3 : w3.heap.size < w4.heap.size + 1 + 1 + 1 := by omega
  go_upto_region 10 with fail
  replace HP := Lib.hid (show Blk (((w4.setCell ⟨w1.heap.size, 0, none⟩ (.int .i64 0)).setCell ⟨w1.heap.size, 1, none⟩ (.int .i64 0)).setCell ⟨w1.heap.size, 2, none⟩ (.int .i64 0)) (w.heap.size) 35 _ from by (repeat (first | with_reducible exact HP.out | (with_reducible apply Blk.new'; first | with_reducible rfl | (focus (simp; done)) | (focus (simp; omega))) | with_reducible apply Blk.set_ | with_reducible apply Blk.far | with_reducible apply Blk.alloc | with_reducible apply Blk.drew | with_reducible apply Blk.drewN | (first | omega | (focus (simp; done)) | (focus (simp; omega)) | (focus (simp [World.setCell]; omega))))))
  replace HW := Lib.hid (show Blk (((w4.setCell ⟨w1.heap.size, 0, none⟩ (.int .i64 0)).setCell ⟨w1.heap.size, 1, none⟩ (.int .i64 0)).setCell ⟨w1.heap.size, 2, none⟩ (.int .i64 0)) (w1.heap.size) 35 #[.int .i64 0, .int .i64 0, .int .i64 0] from Blk.val (by (repeat (first | with_reducible exact HW.out | (with_reducible apply Blk.new'; first | with_reducible rfl | (focus (simp; done)) | (focus (simp; omega))) | with_reducible apply Blk.set_ | with_reducible apply Blk.far | with_reducible apply Blk.alloc | with_reducible apply Blk.drew | with_reducible apply Blk.drewN | (first | omega | (focus (simp; done)) | (focus (simp; omega)) | (focus (simp [World.setCell]; omega)))))) (by first | rfl | simp))
  replace HX := Lib.hid (show Blk (((w4.setCell ⟨w1.heap.size, 0, none⟩ (.int .i64 0)).setCell ⟨w1.heap.size, 1, none⟩ (.int .i64 0)).setCell ⟨w1.heap.size, 2, none⟩ (.int .i64 0)) (w3.heap.size) 35 _ from by (repeat (first | with_reducible exact HX.out | (with_reducible apply Blk.new'; first | with_reducible rfl | (focus (simp; done)) | (focus (simp; omega))) | with_reducible apply Blk.set_ | with_reducible apply Blk.far | with_reducible apply Blk.alloc | with_reducible apply Blk.drew | with_reducible apply Blk.drewN | (first | omega | (focus (simp; done)) | (focus (simp; omega)) | (focus (simp [World.setCell]; omega))))))
  replace BEL : Hid (Below w.heap.size w (((w4.setCell ⟨w1.heap.size, 0, none⟩ (.int .i64 0)).setCell ⟨w1.heap.size, 1, none⟩ (.int .i64 0)).setCell ⟨w1.heap.size, 2, none⟩ (.int .i64 0))) := Lib.hid (by repeat (first | with_reducible exact BEL.out | with_reducible apply Below.alloc | with_reducible apply Below.setCell | with_reducible apply Below.drew | with_reducible apply below_drewN | (first | omega | (focus (simp; done)) | (focus (simp; omega)) | (focus (simp [World.setCell]; omega)))))
  have z_x5 : w4.heap.size ≤ (((w4.setCell ⟨w1.heap.size, 0, none⟩ (.int .i64 0)).setCell ⟨w1.heap.size, 1, none⟩ (.int .i64 0)).setCell ⟨w1.heap.size, 2, none⟩ (.int .i64 0)).heap.size := by simp [World.setCell]
  clear pP0 pP1 pP2 fP0 fP1 fP2 zP zP_1 zP_2 zP_3 pW0 pW1 pW2 fW0 fW1 fW2 zW zW_1 zW_2 zW_3 pX0 pX1 pX2 fX0 fX1 fX2 zX zX_1 zX_2 zX_3
  obtain ⟨x5, hx5⟩ : ∃ x, x = (((w4.setCell ⟨w1.heap.size, 0, none⟩ (.int .i64 0)).setCell ⟨w1.heap.size, 1, none⟩ (.int .i64 0)).setCell ⟨w1.heap.size, 2, none⟩ (.int .i64 0)) := ⟨_, rfl⟩
  rw [← hx5] at HP HW HX BEL z_x5 ⊢
  clear hx5
  have y_x5 : w.heap.size ≤ x5.heap.size := BEL.out.size
  obtain ⟨pP0, pP1, pP2, fP0, fP1, fP2, zP⟩ := HP.out.three
  have zP_1 : w.heap.size < x5.heap.size + 1 := by omega
  have zP_2 : w.heap.size < x5.heap.size + 1 + 1 := by omega
  have zP_3 : w.heap.size < x5.heap.size + 1 + 1 + 1 := by omega
  obtain ⟨pW0, pW1, pW2, fW0, fW1, fW2, zW⟩ := HW.out.three
  have zW_1 : w1.heap.size < x5.heap.size + 1 := by omega
  have zW_2 : w1.heap.size < x5.heap.size + 1 + 1 := by omega
  have zW_3 : w1.heap.size < x5.heap.size + 1 + 1 + 1 := by omega
  obtain ⟨pX0, pX1, pX2, fX0, fX1, fX2, zX⟩ := HX.out.three
  have zX_1 : w3.heap.size < x5.heap.size + 1 := by omega
  have zX_2 : w3.heap.size < x5.heap.size + 1 + 1 := by omega
  have zX_3 : w3.heap.size < x5.heap.size + 1 + 1 + 1 := by omega
  go_upto_region 16 with fail
  replace HP := Lib.hid (show Blk (((x5.setCell ⟨w1.heap.size, 0, none⟩ (.int .i64 s)).setCell ⟨w1.heap.size, 1, none⟩ (.int .i64 r)).setCell ⟨w1.heap.size, 2, none⟩ (.int .i64 h)) (w.heap.size) 35 _ from by (repeat (first | with_reducible exact HP.out | (with_reducible apply Blk.new'; first | with_reducible rfl | (focus (simp; done)) | (focus (simp; omega))) | with_reducible apply Blk.set_ | with_reducible apply Blk.far | with_reducible apply Blk.alloc | with_reducible apply Blk.drew | with_reducible apply Blk.drewN | (first | omega | (focus (simp; done)) | (focus (simp; omega)) | (focus (simp [World.setCell]; omega))))))
  replace HW := Lib.hid (show Blk (((x5.setCell ⟨w1.heap.size, 0, none⟩ (.int .i64 s)).setCell ⟨w1.heap.size, 1, none⟩ (.int .i64 r)).setCell ⟨w1.heap.size, 2, none⟩ (.int .i64 h)) (w1.heap.size) 35 #[.int .i64 s, .int .i64 r, .int .i64 h] from Blk.val (by (repeat (first | with_reducible exact HW.out | (with_reducible apply Blk.new'; first | with_reducible rfl | (focus (simp; done)) | (focus (simp; omega))) | with_reducible apply Blk.set_ | with_reducible apply Blk.far | with_reducible apply Blk.alloc | with_reducible apply Blk.drew | with_reducible apply Blk.drewN | (first | omega | (focus (simp; done)) | (focus (simp; omega)) | (focus (simp [World.setCell]; omega)))))) (by first | rfl | simp))
  replace HX := Lib.hid (show Blk (((x5.setCell ⟨w1.heap.size, 0, none⟩ (.int .i64 s)).setCell ⟨w1.heap.size, 1, none⟩ (.int .i64 r)).setCell ⟨w1.heap.size, 2, none⟩ (.int .i64 h)) (w3.heap.size) 35 _ from by (repeat (first | with_reducible exact HX.out | (with_reducible apply Blk.new'; first | with_reducible rfl | (focus (simp; done)) | (focus (simp; omega))) | with_reducible apply Blk.set_ | with_reducible apply Blk.far | with_reducible apply Blk.alloc | with_reducible apply Blk.drew | with_reducible apply Blk.drewN | (first | omega | (focus (simp; done)) | (focus (simp; omega)) | (focus (simp [World.setCell]; omega))))))
  replace BEL : Hid (Below w.heap.size w (((x5.setCell ⟨w1.heap.size, 0, none⟩ (.int .i64 s)).setCell ⟨w1.heap.size, 1, none⟩ (.int .i64 r)).setCell ⟨w1.heap.size, 2, none⟩ (.int .i64 h))) := Lib.hid (by repeat (first | with_reducible exact BEL.out | with_reducible apply Below.alloc | with_reducible apply Below.setCell | with_reducible apply Below.drew | with_reducible apply below_drewN | (first | omega | (focus (simp; done)) | (focus (simp; omega)) | (focus (simp [World.setCell]; omega)))))
  have z_x6 : x5.heap.size ≤ (((x5.setCell ⟨w1.heap.size, 0, none⟩ (.int .i64 s)).setCell ⟨w1.heap.size, 1, none⟩ (.int .i64 r)).setCell ⟨w1.heap.size, 2, none⟩ (.int .i64 h)).heap.size := by simp [World.setCell]
  clear pP0 pP1 pP2 fP0 fP1 fP2 zP zP_1 zP_2 zP_3 pW0 pW1 pW2 fW0 fW1 fW2 zW zW_1 zW_2 zW_3 pX0 pX1 pX2 fX0 fX1 fX2 zX zX_1 zX_2 zX_3
  obtain ⟨x6, hx6⟩ : ∃ x, x = (((x5.setCell ⟨w1.heap.size, 0, none⟩ (.int .i64 s)).setCell ⟨w1.heap.size, 1, none⟩ (.int .i64 r)).setCell ⟨w1.heap.size, 2, none⟩ (.int .i64 h)) := ⟨_, rfl⟩
  rw [← hx6] at HP HW HX BEL z_x6 ⊢
  clear hx6
  have y_x6 : w.heap.size ≤ x6.heap.size := BEL.out.size
  obtain ⟨pP0, pP1, pP2, fP0, fP1, fP2, zP⟩ := HP.out.three
  have zP_1 : w.heap.size < x6.heap.size + 1 := by omega
  have zP_2 : w.heap.size < x6.heap.size + 1 + 1 := by omega
  have zP_3 : w.heap.size < x6.heap.size + 1 + 1 + 1 := by omega
  obtain ⟨pW0, pW1, pW2, fW0, fW1, fW2, zW⟩ := HW.out.three
  have zW_1 : w1.heap.size < x6.heap.size + 1 := by omega
  have zW_2 : w1.heap.size < x6.heap.size + 1 + 1 := by omega
  have zW_3 : w1.heap.size < x6.heap.size + 1 + 1 + 1 := by omega
  obtain ⟨pX0, pX1, pX2, fX0, fX1, fX2, zX⟩ := HX.out.three
  have zX_1 : w3.heap.size < x6.heap.size + 1 := by omega
  have zX_2 : w3.heap.size < x6.heap.size + 1 + 1 := by omega
  have zX_3 : w3.heap.size < x6.heap.size + 1 + 1 + 1 := by omega
  go_upto_region 17 with fail
  replace HP := Lib.hid (show Blk (x6.setCell ⟨w1.heap.size, 2, none⟩ (.int .i64 (h - n))) (w.heap.size) 35 _ from by (repeat (first | with_reducible exact HP.out | (with_reducible apply Blk.new'; first | with_reducible rfl | (focus (simp; done)) | (focus (simp; omega))) | with_reducible apply Blk.set_ | with_reducible apply Blk.far | with_reducible apply Blk.alloc | with_reducible apply Blk.drew | with_reducible apply Blk.drewN | (first | omega | (focus (simp; done)) | (focus (simp; omega)) | (focus (simp [World.setCell]; omega))))))
  replace HW := Lib.hid (show Blk (x6.setCell ⟨w1.heap.size, 2, none⟩ (.int .i64 (h - n))) (w1.heap.size) 35 #[.int .i64 s, .int .i64 r, .int .i64 (h - n)] from Blk.val (by (repeat (first | with_reducible exact HW.out | (with_reducible apply Blk.new'; first | with_reducible rfl | (focus (simp; done)) | (focus (simp; omega))) | with_reducible apply Blk.set_ | with_reducible apply Blk.far | with_reducible apply Blk.alloc | with_reducible apply Blk.drew | with_reducible apply Blk.drewN | (first | omega | (focus (simp; done)) | (focus (simp; omega)) | (focus (simp [World.setCell]; omega)))))) (by first | rfl | simp))
  replace HX := Lib.hid (show Blk (x6.setCell ⟨w1.heap.size, 2, none⟩ (.int .i64 (h - n))) (w3.heap.size) 35 _ from by (repeat (first | with_reducible exact HX.out | (with_reducible apply Blk.new'; first | with_reducible rfl | (focus (simp; done)) | (focus (simp; omega))) | with_reducible apply Blk.set_ | with_reducible apply Blk.far | with_reducible apply Blk.alloc | with_reducible apply Blk.drew | with_reducible apply Blk.drewN | (first | omega | (focus (simp; done)) | (focus (simp; omega)) | (focus (simp [World.setCell]; omega))))))
  replace BEL : Hid (Below w.heap.size w (x6.setCell ⟨w1.heap.size, 2, none⟩ (.int .i64 (h - n)))) := Lib.hid (by repeat (first | with_reducible exact BEL.out | with_reducible apply Below.alloc | with_reducible apply Below.setCell | with_reducible apply Below.drew | with_reducible apply below_drewN | (first | omega | (focus (simp; done)) | (focus (simp; omega)) | (focus (simp [World.setCell]; omega)))))
  have z_x7 : x6.heap.size ≤ (x6.setCell ⟨w1.heap.size, 2, none⟩ (.int .i64 (h - n))).heap.size := by simp [World.setCell]
  clear pP0 pP1 pP2 fP0 fP1 fP2 zP zP_1 zP_2 zP_3 pW0 pW1 pW2 fW0 fW1 fW2 zW zW_1 zW_2 zW_3 pX0 pX1 pX2 fX0 fX1 fX2 zX zX_1 zX_2 zX_3
  obtain ⟨x7, hx7⟩ : ∃ x, x = (x6.setCell ⟨w1.heap.size, 2, none⟩ (.int .i64 (h - n))) := ⟨_, rfl⟩
  rw [← hx7] at HP HW HX BEL z_x7 ⊢
  clear hx7
  have y_x7 : w.heap.size ≤ x7.heap.size := BEL.out.size
  obtain ⟨pP0, pP1, pP2, fP0, fP1, fP2, zP⟩ := HP.out.three
  have zP_1 : w.heap.size < x7.heap.size + 1 := by omega
  have zP_2 : w.heap.size < x7.heap.size + 1 + 1 := by omega
  have zP_3 : w.heap.size < x7.heap.size + 1 + 1 + 1 := by omega
  obtain ⟨pW0, pW1, pW2, fW0, fW1, fW2, zW⟩ := HW.out.three
  have zW_1 : w1.heap.size < x7.heap.size + 1 := by omega
  have zW_2 : w1.heap.size < x7.heap.size + 1 + 1 := by omega
  have zW_3 : w1.heap.size < x7.heap.size + 1 + 1 + 1 := by omega
  obtain ⟨pX0, pX1, pX2, fX0, fX1, fX2, zX⟩ := HX.out.three
  have zX_1 : w3.heap.size < x7.heap.size + 1 := by omega
  have zX_2 : w3.heap.size < x7.heap.size + 1 + 1 := by omega
  have zX_3 : w3.heap.size < x7.heap.size + 1 + 1 + 1 := by omega
  go_wp2_with fail
  refine (take_yes s r h n _ H.out n0 n1 hn).mono ?_; rintro e w8 ⟨rfl, hb8⟩
  have z_w8 : x7.heap.size ≤ w8.heap.size := Nat.le_trans (by first | with_reducible exact Nat.le_refl _ | (simp; done) | (simp; omega) | (simp [World.setCell]; done)) hb8.size
  replace HP := Lib.hid (show Blk w8 (w.heap.size) 35 _ from by (with_reducible apply Blk.below (hb := hb8); (repeat (first | with_reducible exact HP.out | (with_reducible apply Blk.new'; first | with_reducible rfl | (focus (simp; done)) | (focus (simp; omega))) | with_reducible apply Blk.set_ | with_reducible apply Blk.far | with_reducible apply Blk.alloc | with_reducible apply Blk.drew | with_reducible apply Blk.drewN | (first | omega | (focus (simp; done)) | (focus (simp; omega)) | (focus (simp [World.setCell]; omega)))))))
  replace HW := Lib.hid (show Blk w8 (w1.heap.size) 35 _ from by (with_reducible apply Blk.below (hb := hb8); (repeat (first | with_reducible exact HW.out | (with_reducible apply Blk.new'; first | with_reducible rfl | (focus (simp; done)) | (focus (simp; omega))) | with_reducible apply Blk.set_ | with_reducible apply Blk.far | with_reducible apply Blk.alloc | with_reducible apply Blk.drew | with_reducible apply Blk.drewN | (first | omega | (focus (simp; done)) | (focus (simp; omega)) | (focus (simp [World.setCell]; omega)))))))
  replace HX := Lib.hid (show Blk w8 (w3.heap.size) 35 _ from by (with_reducible apply Blk.below (hb := hb8); (repeat (first | with_reducible exact HX.out | (with_reducible apply Blk.new'; first | with_reducible rfl | (focus (simp; done)) | (focus (simp; omega))) | with_reducible apply Blk.set_ | with_reducible apply Blk.far | with_reducible apply Blk.alloc | with_reducible apply Blk.drew | with_reducible apply Blk.drewN | (first | omega | (focus (simp; done)) | (focus (simp; omega)) | (focus (simp [World.setCell]; omega)))))))
  replace BEL : Hid (Below w.heap.size w w8) := Lib.hid (Below.trans (by repeat (first | with_reducible exact BEL.out | with_reducible apply Below.alloc | with_reducible apply Below.setCell | with_reducible apply Below.drew | with_reducible apply below_drewN | (first | omega | (focus (simp; done)) | (focus (simp; omega)) | (focus (simp [World.setCell]; omega))))) (hb8.mono (by (first | omega | (focus (simp; done)) | (focus (simp; omega)) | (focus (simp [World.setCell]; omega))))))
  have y_w8 : w.heap.size ≤ w8.heap.size := BEL.out.size
  clear hb8
  clear pP0 pP1 pP2 fP0 fP1 fP2 zP zP_1 zP_2 zP_3 pW0 pW1 pW2 fW0 fW1 fW2 zW zW_1 zW_2 zW_3 pX0 pX1 pX2 fX0 fX1 fX2 zX zX_1 zX_2 zX_3
  obtain ⟨pP0, pP1, pP2, fP0, fP1, fP2, zP⟩ := HP.out.three
  have zP_1 : w.heap.size < w8.heap.size + 1 := by omega
  have zP_2 : w.heap.size < w8.heap.size + 1 + 1 := by omega
  have zP_3 : w.heap.size < w8.heap.size + 1 + 1 + 1 := by omega
  obtain ⟨pW0, pW1, pW2, fW0, fW1, fW2, zW⟩ := HW.out.three
  have zW_1 : w1.heap.size < w8.heap.size + 1 := by omega
  have zW_2 : w1.heap.size < w8.heap.size + 1 + 1 := by omega
  have zW_3 : w1.heap.size < w8.heap.size + 1 + 1 + 1 := by omega
  obtain ⟨pX0, pX1, pX2, fX0, fX1, fX2, zX⟩ := HX.out.three
  have zX_1 : w3.heap.size < w8.heap.size + 1 := by omega
  have zX_2 : w3.heap.size < w8.heap.size + 1 + 1 := by omega
  have zX_3 : w3.heap.size < w8.heap.size + 1 + 1 + 1 := by omega
  go_wp2_with fail
  refine (same_ok _).mono ?_; rintro e w9 ⟨rfl, hb9⟩
  have z_w9 : w8.heap.size ≤ w9.heap.size := Nat.le_trans (by first | with_reducible exact Nat.le_refl _ | (simp; done) | (simp; omega) | (simp [World.setCell]; done)) hb9.size
  replace HP := Lib.hid (show Blk w9 (w.heap.size) 35 _ from by (with_reducible apply Blk.below (hb := hb9); (repeat (first | with_reducible exact HP.out | (with_reducible apply Blk.new'; first | with_reducible rfl | (focus (simp; done)) | (focus (simp; omega))) | with_reducible apply Blk.set_ | with_reducible apply Blk.far | with_reducible apply Blk.alloc | with_reducible apply Blk.drew | with_reducible apply Blk.drewN | (first | omega | (focus (simp; done)) | (focus (simp; omega)) | (focus (simp [World.setCell]; omega)))))))
  replace HW := Lib.hid (show Blk w9 (w1.heap.size) 35 _ from by (with_reducible apply Blk.below (hb := hb9); (repeat (first | with_reducible exact HW.out | (with_reducible apply Blk.new'; first | with_reducible rfl | (focus (simp; done)) | (focus (simp; omega))) | with_reducible apply Blk.set_ | with_reducible apply Blk.far | with_reducible apply Blk.alloc | with_reducible apply Blk.drew | with_reducible apply Blk.drewN | (first | omega | (focus (simp; done)) | (focus (simp; omega)) | (focus (simp [World.setCell]; omega)))))))
  replace HX := Lib.hid (show Blk w9 (w3.heap.size) 35 _ from by (with_reducible apply Blk.below (hb := hb9); (repeat (first | with_reducible exact HX.out | (with_reducible apply Blk.new'; first | with_reducible rfl | (focus (simp; done)) | (focus (simp; omega))) | with_reducible apply Blk.set_ | with_reducible apply Blk.far | with_reducible apply Blk.alloc | with_reducible apply Blk.drew | with_reducible apply Blk.drewN | (first | omega | (focus (simp; done)) | (focus (simp; omega)) | (focus (simp [World.setCell]; omega)))))))
  replace BEL : Hid (Below w.heap.size w w9) := Lib.hid (Below.trans (by repeat (first | with_reducible exact BEL.out | with_reducible apply Below.alloc | with_reducible apply Below.setCell | with_reducible apply Below.drew | with_reducible apply below_drewN | (first | omega | (focus (simp; done)) | (focus (simp; omega)) | (focus (simp [World.setCell]; omega))))) (hb9.mono (by (first | omega | (focus (simp; done)) | (focus (simp; omega)) | (focus (simp [World.setCell]; omega))))))
  have y_w9 : w.heap.size ≤ w9.heap.size := BEL.out.size
  clear hb9
  clear pP0 pP1 pP2 fP0 fP1 fP2 zP zP_1 zP_2 zP_3 pW0 pW1 pW2 fW0 fW1 fW2 zW zW_1 zW_2 zW_3 pX0 pX1 pX2 fX0 fX1 fX2 zX zX_1 zX_2 zX_3
  obtain ⟨pP0, pP1, pP2, fP0, fP1, fP2, zP⟩ := HP.out.three
  have zP_1 : w.heap.size < w9.heap.size + 1 := by omega
  have zP_2 : w.heap.size < w9.heap.size + 1 + 1 := by omega
  have zP_3 : w.heap.size < w9.heap.size + 1 + 1 + 1 := by omega
  obtain ⟨pW0, pW1, pW2, fW0, fW1, fW2, zW⟩ := HW.out.three
  have zW_1 : w1.heap.size < w9.heap.size + 1 := by omega
  have zW_2 : w1.heap.size < w9.heap.size + 1 + 1 := by omega
  have zW_3 : w1.heap.size < w9.heap.size + 1 + 1 + 1 := by omega
  obtain ⟨pX0, pX1, pX2, fX0, fX1, fX2, zX⟩ := HX.out.three
  have zX_1 : w3.heap.size < w9.heap.size + 1 := by omega
  have zX_2 : w3.heap.size < w9.heap.size + 1 + 1 := by omega
  have zX_3 : w3.heap.size < w9.heap.size + 1 + 1 + 1 := by omega
  go_wp2_with fail
  refine (refTicks_is A cp l w.heap.size _ (HI.out.below (by repeat (first | with_reducible exact BEL.out | with_reducible apply Below.alloc | with_reducible apply Below.setCell | with_reducible apply Below.drew | with_reducible apply below_drewN | (first | omega | (focus (simp; done)) | (focus (simp; omega)) | (focus (simp [World.setCell]; omega))))) (Nat.le_refl _)) 1 HT.out).mono ?_; rintro e w' ⟨rfl, rfl⟩
  go_wp2_with fail
  refine (bsend_bad s r h A cp l _ H.out ((HI.out.below (by repeat (first | with_reducible exact BEL.out | with_reducible apply Below.alloc | with_reducible apply Below.setCell | with_reducible apply Below.drew | with_reducible apply below_drewN | (first | omega | (focus (simp; done)) | (focus (simp; omega)) | (focus (simp [World.setCell]; omega))))) (Nat.le_refl _)).more (by (first | omega | (focus (simp; done)) | (focus (simp; omega)) | (focus (simp [World.setCell]; omega))))) hl HB.out).mono ?_; rintro e w10 ⟨rfl, hb10⟩
  clear HW
  clear HX
  have z_w10 : w9.heap.size ≤ w10.heap.size := Nat.le_trans (by first | with_reducible exact Nat.le_refl _ | (simp; done) | (simp; omega) | (simp [World.setCell]; done)) hb10.size
  replace HP := Lib.hid (show Blk w10 (w.heap.size) 35 _ from by (with_reducible apply Blk.below (hb := hb10); (repeat (first | with_reducible exact HP.out | (with_reducible apply Blk.new'; first | with_reducible rfl | (focus (simp; done)) | (focus (simp; omega))) | with_reducible apply Blk.set_ | with_reducible apply Blk.far | with_reducible apply Blk.alloc | with_reducible apply Blk.drew | with_reducible apply Blk.drewN | (first | omega | (focus (simp; done)) | (focus (simp; omega)) | (focus (simp [World.setCell]; omega)))))))
  replace BEL : Hid (Below w.heap.size w w10) := Lib.hid (Below.trans (by repeat (first | with_reducible exact BEL.out | with_reducible apply Below.alloc | with_reducible apply Below.setCell | with_reducible apply Below.drew | with_reducible apply below_drewN | (first | omega | (focus (simp; done)) | (focus (simp; omega)) | (focus (simp [World.setCell]; omega))))) (hb10.mono (by (first | omega | (focus (simp; done)) | (focus (simp; omega)) | (focus (simp [World.setCell]; omega))))))
  have y_w10 : w.heap.size ≤ w10.heap.size := BEL.out.size
  clear hb10
  clear pP0 pP1 pP2 fP0 fP1 fP2 zP zP_1 zP_2 zP_3 pW0 pW1 pW2 fW0 fW1 fW2 zW zW_1 zW_2 zW_3 pX0 pX1 pX2 fX0 fX1 fX2 zX zX_1 zX_2 zX_3
  obtain ⟨pP0, pP1, pP2, fP0, fP1, fP2, zP⟩ := HP.out.three
  have zP_1 : w.heap.size < w10.heap.size + 1 := by omega
  have zP_2 : w.heap.size < w10.heap.size + 1 + 1 := by omega
  have zP_3 : w.heap.size < w10.heap.size + 1 + 1 + 1 := by omega
  go_wp2_with fail
  refine (same_hit 1 _ (LAID.out.below (by repeat (first | with_reducible exact BEL.out | with_reducible apply Below.alloc | with_reducible apply Below.setCell | with_reducible apply Below.drew | with_reducible apply below_drewN | (first | omega | (focus (simp; done)) | (focus (simp; omega)) | (focus (simp [World.setCell]; omega))))))).mono ?_; rintro e w11 ⟨rfl, hb11⟩
  have z_w11 : w10.heap.size ≤ w11.heap.size := Nat.le_trans (by first | with_reducible exact Nat.le_refl _ | (simp; done) | (simp; omega) | (simp [World.setCell]; done)) hb11.size
  replace HP := Lib.hid (show Blk w11 (w.heap.size) 35 _ from by (with_reducible apply Blk.below (hb := hb11); (repeat (first | with_reducible exact HP.out | (with_reducible apply Blk.new'; first | with_reducible rfl | (focus (simp; done)) | (focus (simp; omega))) | with_reducible apply Blk.set_ | with_reducible apply Blk.far | with_reducible apply Blk.alloc | with_reducible apply Blk.drew | with_reducible apply Blk.drewN | (first | omega | (focus (simp; done)) | (focus (simp; omega)) | (focus (simp [World.setCell]; omega)))))))
  replace BEL : Hid (Below w.heap.size w w11) := Lib.hid (Below.trans (by repeat (first | with_reducible exact BEL.out | with_reducible apply Below.alloc | with_reducible apply Below.setCell | with_reducible apply Below.drew | with_reducible apply below_drewN | (first | omega | (focus (simp; done)) | (focus (simp; omega)) | (focus (simp [World.setCell]; omega))))) (hb11.mono (by (first | omega | (focus (simp; done)) | (focus (simp; omega)) | (focus (simp [World.setCell]; omega))))))
  have y_w11 : w.heap.size ≤ w11.heap.size := BEL.out.size
  clear hb11
  clear pP0 pP1 pP2 fP0 fP1 fP2 zP zP_1 zP_2 zP_3
  obtain ⟨pP0, pP1, pP2, fP0, fP1, fP2, zP⟩ := HP.out.three
  have zP_1 : w.heap.size < w11.heap.size + 1 := by omega
  have zP_2 : w.heap.size < w11.heap.size + 1 + 1 := by omega
  have zP_3 : w.heap.size < w11.heap.size + 1 + 1 + 1 := by omega
  go_wp2_with fail
  refine (sameInts_nil _).mono ?_; rintro e w12 ⟨rfl, hb12⟩
  have z_w12 : w11.heap.size ≤ w12.heap.size := Nat.le_trans (by first | with_reducible exact Nat.le_refl _ | (simp; done) | (simp; omega) | (simp [World.setCell]; done)) hb12.size
  replace HP := Lib.hid (show Blk w12 (w.heap.size) 35 _ from by (with_reducible apply Blk.below (hb := hb12); (repeat (first | with_reducible exact HP.out | (with_reducible apply Blk.new'; first | with_reducible rfl | (focus (simp; done)) | (focus (simp; omega))) | with_reducible apply Blk.set_ | with_reducible apply Blk.far | with_reducible apply Blk.alloc | with_reducible apply Blk.drew | with_reducible apply Blk.drewN | (first | omega | (focus (simp; done)) | (focus (simp; omega)) | (focus (simp [World.setCell]; omega)))))))
  replace BEL : Hid (Below w.heap.size w w12) := Lib.hid (Below.trans (by repeat (first | with_reducible exact BEL.out | with_reducible apply Below.alloc | with_reducible apply Below.setCell | with_reducible apply Below.drew | with_reducible apply below_drewN | (first | omega | (focus (simp; done)) | (focus (simp; omega)) | (focus (simp [World.setCell]; omega))))) (hb12.mono (by (first | omega | (focus (simp; done)) | (focus (simp; omega)) | (focus (simp [World.setCell]; omega))))))
  have y_w12 : w.heap.size ≤ w12.heap.size := BEL.out.size
  clear hb12
  clear pP0 pP1 pP2 fP0 fP1 fP2 zP zP_1 zP_2 zP_3
  obtain ⟨pP0, pP1, pP2, fP0, fP1, fP2, zP⟩ := HP.out.three
  have zP_1 : w.heap.size < w12.heap.size + 1 := by omega
  have zP_2 : w.heap.size < w12.heap.size + 1 + 1 := by omega
  have zP_3 : w.heap.size < w12.heap.size + 1 + 1 + 1 := by omega
  go_wp2
  go_ret
  exact ⟨rfl, (by repeat (first | with_reducible exact BEL.out | with_reducible apply Below.alloc | with_reducible apply Below.setCell | with_reducible apply Below.drew | with_reducible apply below_drewN | (first | omega | (focus (simp; done)) | (focus (simp; omega)) | (focus (simp [World.setCell]; omega)))))⟩
set_option maxHeartbeats 8000000 in
set_option maxRecDepth 100000 in
theorem bucketTells_in_ok (s r h n : Int) (A : Option Addr) (cp : Nat) (l : List Int) (w : World) (hi : Ints w w.heap.size A cp l) (hg : Laid w) (ok : BucketOk s r h) (n0 : 0 ≤ n) (n1 : n ≤ 10000) (hn : n ≤ h) (hl : l.length ≤ 60) (hb : l.any badRate = false) :
    Calls Tryd.prog 8 #[.agg #[.int .i64 s, .int .i64 r, .int .i64 h], .int .i64 n, .slice A l.length cp] w fun e w' => e = .returned (.bool true) ∧ Below w.heap.size w w' := by
  have LAID := Lib.hid hg; clear hg
  have HI := Lib.hid hi; clear hi
  have H := Lib.hid ok
  obtain ⟨g1, g2, g3, g4, g5, g6⟩ := ok
  obtain ⟨vt, hvt⟩ : ∃ v, min s (h + r) = v := ⟨_, rfl⟩
  have VT := Lib.hid hvt; clear hvt
  have HB := Lib.hid hb; clear hb
  have HT : Hid (ticksErr l = 0) := Lib.hid (by unfold ticksErr; rw [if_neg (by omega), HB.out]; rfl)
  have BEL : Hid (Below w.heap.size w w) := Lib.hid (Below.refl _ _)
  have yB : w.heap.size ≤ w.heap.size := Nat.le_refl _
  go_enter Tryd.func8, Tryd.ntmps8
  go_wp2_with fail
  refine (refBucket_yes s r h _ H.out).mono ?_; rintro e w' ⟨rfl, rfl⟩
  go_wp2_with fail
  refine (bcheck_yes s r h _ H.out).mono ?_; rintro e w' ⟨rfl, rfl⟩
  go_wp2_with fail
  refine (same_ok _).mono ?_; rintro e w1 ⟨rfl, hb1⟩
  have z_w1 : w.heap.size ≤ w1.heap.size := Nat.le_trans (by first | with_reducible exact Nat.le_refl _ | (simp; done) | (simp; omega) | (simp [World.setCell]; done)) hb1.size
  have HP := Lib.hid (show Blk w1 (w.heap.size) 35 _ from by (with_reducible apply Blk.below (hb := hb1); (repeat (first | (with_reducible apply Blk.new'; first | with_reducible rfl | (focus (simp; done)) | (focus (simp; omega))) | with_reducible apply Blk.set_ | with_reducible apply Blk.far | with_reducible apply Blk.alloc | with_reducible apply Blk.drew | with_reducible apply Blk.drewN | (first | omega | (focus (simp; done)) | (focus (simp; omega)) | (focus (simp [World.setCell]; omega)))))))
  have q_P_w1 : w.heap.size < w1.heap.size := HP.out.lt
  replace BEL : Hid (Below w.heap.size w w1) := Lib.hid (Below.trans (by repeat (first | with_reducible exact BEL.out | with_reducible apply Below.alloc | with_reducible apply Below.setCell | with_reducible apply Below.drew | with_reducible apply below_drewN | (first | omega | (focus (simp; done)) | (focus (simp; omega)) | (focus (simp [World.setCell]; omega))))) (hb1.mono (by (first | omega | (focus (simp; done)) | (focus (simp; omega)) | (focus (simp [World.setCell]; omega))))))
  have y_w1 : w.heap.size ≤ w1.heap.size := BEL.out.size
  clear hb1
  obtain ⟨pP0, pP1, pP2, fP0, fP1, fP2, zP⟩ := HP.out.three
  have zP_1 : w.heap.size < w1.heap.size + 1 := by omega
  have zP_2 : w.heap.size < w1.heap.size + 1 + 1 := by omega
  have zP_3 : w.heap.size < w1.heap.size + 1 + 1 + 1 := by omega
  go_wp2_with fail
  refine (refFill_is s r h vt _ (by omega) (by omega) g3 (by omega) VT.out).mono ?_; rintro e w2 ⟨rfl, hb2⟩
  have z_w2 : w1.heap.size ≤ w2.heap.size := Nat.le_trans (by first | with_reducible exact Nat.le_refl _ | (simp; done) | (simp; omega) | (simp [World.setCell]; done)) hb2.size
  have HW := Lib.hid (show Blk w2 (w1.heap.size) 35 _ from by (with_reducible apply Blk.below (hb := hb2); (repeat (first | (with_reducible apply Blk.new'; first | with_reducible rfl | (focus (simp; done)) | (focus (simp; omega))) | with_reducible apply Blk.set_ | with_reducible apply Blk.far | with_reducible apply Blk.alloc | with_reducible apply Blk.drew | with_reducible apply Blk.drewN | (first | omega | (focus (simp; done)) | (focus (simp; omega)) | (focus (simp [World.setCell]; omega)))))))
  replace HP := Lib.hid (show Blk w2 (w.heap.size) 35 _ from by (with_reducible apply Blk.below (hb := hb2); (repeat (first | with_reducible exact HP.out | (with_reducible apply Blk.new'; first | with_reducible rfl | (focus (simp; done)) | (focus (simp; omega))) | with_reducible apply Blk.set_ | with_reducible apply Blk.far | with_reducible apply Blk.alloc | with_reducible apply Blk.drew | with_reducible apply Blk.drewN | (first | omega | (focus (simp; done)) | (focus (simp; omega)) | (focus (simp [World.setCell]; omega)))))))
  have q_W_w2 : w1.heap.size < w2.heap.size := HW.out.lt
  replace BEL : Hid (Below w.heap.size w w2) := Lib.hid (Below.trans (by repeat (first | with_reducible exact BEL.out | with_reducible apply Below.alloc | with_reducible apply Below.setCell | with_reducible apply Below.drew | with_reducible apply below_drewN | (first | omega | (focus (simp; done)) | (focus (simp; omega)) | (focus (simp [World.setCell]; omega))))) (hb2.mono (by (first | omega | (focus (simp; done)) | (focus (simp; omega)) | (focus (simp [World.setCell]; omega))))))
  have y_w2 : w.heap.size ≤ w2.heap.size := BEL.out.size
  clear hb2
  clear pP0 pP1 pP2 fP0 fP1 fP2 zP zP_1 zP_2 zP_3
  obtain ⟨pP0, pP1, pP2, fP0, fP1, fP2, zP⟩ := HP.out.three
  have zP_1 : w.heap.size < w2.heap.size + 1 := by omega
  have zP_2 : w.heap.size < w2.heap.size + 1 + 1 := by omega
  have zP_3 : w.heap.size < w2.heap.size + 1 + 1 + 1 := by omega
  obtain ⟨pW0, pW1, pW2, fW0, fW1, fW2, zW⟩ := HW.out.three
  have zW_1 : w1.heap.size < w2.heap.size + 1 := by omega
  have zW_2 : w1.heap.size < w2.heap.size + 1 + 1 := by omega
  have zW_3 : w1.heap.size < w2.heap.size + 1 + 1 + 1 := by omega
  go_wp2_with fail
  refine (bTick_is s r h vt _ H.out VT.out).mono ?_; rintro e w3 ⟨rfl, hb3⟩
  have z_w3 : w2.heap.size ≤ w3.heap.size := Nat.le_trans (by first | with_reducible exact Nat.le_refl _ | (simp; done) | (simp; omega) | (simp [World.setCell]; done)) hb3.size
  replace HP := Lib.hid (show Blk w3 (w.heap.size) 35 _ from by (with_reducible apply Blk.below (hb := hb3); (repeat (first | with_reducible exact HP.out | (with_reducible apply Blk.new'; first | with_reducible rfl | (focus (simp; done)) | (focus (simp; omega))) | with_reducible apply Blk.set_ | with_reducible apply Blk.far | with_reducible apply Blk.alloc | with_reducible apply Blk.drew | with_reducible apply Blk.drewN | (first | omega | (focus (simp; done)) | (focus (simp; omega)) | (focus (simp [World.setCell]; omega)))))))
  replace HW := Lib.hid (show Blk w3 (w1.heap.size) 35 _ from by (with_reducible apply Blk.below (hb := hb3); (repeat (first | with_reducible exact HW.out | (with_reducible apply Blk.new'; first | with_reducible rfl | (focus (simp; done)) | (focus (simp; omega))) | with_reducible apply Blk.set_ | with_reducible apply Blk.far | with_reducible apply Blk.alloc | with_reducible apply Blk.drew | with_reducible apply Blk.drewN | (first | omega | (focus (simp; done)) | (focus (simp; omega)) | (focus (simp [World.setCell]; omega)))))))
  replace BEL : Hid (Below w.heap.size w w3) := Lib.hid (Below.trans (by repeat (first | with_reducible exact BEL.out | with_reducible apply Below.alloc | with_reducible apply Below.setCell | with_reducible apply Below.drew | with_reducible apply below_drewN | (first | omega | (focus (simp; done)) | (focus (simp; omega)) | (focus (simp [World.setCell]; omega))))) (hb3.mono (by (first | omega | (focus (simp; done)) | (focus (simp; omega)) | (focus (simp [World.setCell]; omega))))))
  have y_w3 : w.heap.size ≤ w3.heap.size := BEL.out.size
  clear hb3
  clear pP0 pP1 pP2 fP0 fP1 fP2 zP zP_1 zP_2 zP_3 pW0 pW1 pW2 fW0 fW1 fW2 zW zW_1 zW_2 zW_3
  obtain ⟨pP0, pP1, pP2, fP0, fP1, fP2, zP⟩ := HP.out.three
  have zP_1 : w.heap.size < w3.heap.size + 1 := by omega
  have zP_2 : w.heap.size < w3.heap.size + 1 + 1 := by omega
  have zP_3 : w.heap.size < w3.heap.size + 1 + 1 + 1 := by omega
  obtain ⟨pW0, pW1, pW2, fW0, fW1, fW2, zW⟩ := HW.out.three
  have zW_1 : w1.heap.size < w3.heap.size + 1 := by omega
  have zW_2 : w1.heap.size < w3.heap.size + 1 + 1 := by omega
  have zW_3 : w1.heap.size < w3.heap.size + 1 + 1 + 1 := by omega
  go_wp2_with fail
  refine (same_ok _).mono ?_; rintro e w4 ⟨rfl, hb4⟩
  have z_w4 : w3.heap.size ≤ w4.heap.size := Nat.le_trans (by first | with_reducible exact Nat.le_refl _ | (simp; done) | (simp; omega) | (simp [World.setCell]; done)) hb4.size
  have HX := Lib.hid (show Blk w4 (w3.heap.size) 35 _ from by (with_reducible apply Blk.below (hb := hb4); (repeat (first | (with_reducible apply Blk.new'; first | with_reducible rfl | (focus (simp; done)) | (focus (simp; omega))) | with_reducible apply Blk.set_ | with_reducible apply Blk.far | with_reducible apply Blk.alloc | with_reducible apply Blk.drew | with_reducible apply Blk.drewN | (first | omega | (focus (simp; done)) | (focus (simp; omega)) | (focus (simp [World.setCell]; omega)))))))
  replace HP := Lib.hid (show Blk w4 (w.heap.size) 35 _ from by (with_reducible apply Blk.below (hb := hb4); (repeat (first | with_reducible exact HP.out | (with_reducible apply Blk.new'; first | with_reducible rfl | (focus (simp; done)) | (focus (simp; omega))) | with_reducible apply Blk.set_ | with_reducible apply Blk.far | with_reducible apply Blk.alloc | with_reducible apply Blk.drew | with_reducible apply Blk.drewN | (first | omega | (focus (simp; done)) | (focus (simp; omega)) | (focus (simp [World.setCell]; omega)))))))
  replace HW := Lib.hid (show Blk w4 (w1.heap.size) 35 _ from by (with_reducible apply Blk.below (hb := hb4); (repeat (first | with_reducible exact HW.out | (with_reducible apply Blk.new'; first | with_reducible rfl | (focus (simp; done)) | (focus (simp; omega))) | with_reducible apply Blk.set_ | with_reducible apply Blk.far | with_reducible apply Blk.alloc | with_reducible apply Blk.drew | with_reducible apply Blk.drewN | (first | omega | (focus (simp; done)) | (focus (simp; omega)) | (focus (simp [World.setCell]; omega)))))))
  have q_X_w4 : w3.heap.size < w4.heap.size := HX.out.lt
  replace BEL : Hid (Below w.heap.size w w4) := Lib.hid (Below.trans (by repeat (first | with_reducible exact BEL.out | with_reducible apply Below.alloc | with_reducible apply Below.setCell | with_reducible apply Below.drew | with_reducible apply below_drewN | (first | omega | (focus (simp; done)) | (focus (simp; omega)) | (focus (simp [World.setCell]; omega))))) (hb4.mono (by (first | omega | (focus (simp; done)) | (focus (simp; omega)) | (focus (simp [World.setCell]; omega))))))
  have y_w4 : w.heap.size ≤ w4.heap.size := BEL.out.size
  clear hb4
  clear pP0 pP1 pP2 fP0 fP1 fP2 zP zP_1 zP_2 zP_3 pW0 pW1 pW2 fW0 fW1 fW2 zW zW_1 zW_2 zW_3
  obtain ⟨pP0, pP1, pP2, fP0, fP1, fP2, zP⟩ := HP.out.three
  have zP_1 : w.heap.size < w4.heap.size + 1 := by omega
  have zP_2 : w.heap.size < w4.heap.size + 1 + 1 := by omega
  have zP_3 : w.heap.size < w4.heap.size + 1 + 1 + 1 := by omega
  obtain ⟨pW0, pW1, pW2, fW0, fW1, fW2, zW⟩ := HW.out.three
  have zW_1 : w1.heap.size < w4.heap.size + 1 := by omega
  have zW_2 : w1.heap.size < w4.heap.size + 1 + 1 := by omega
  have zW_3 : w1.heap.size < w4.heap.size + 1 + 1 + 1 := by omega
  obtain ⟨pX0, pX1, pX2, fX0, fX1, fX2, zX⟩ := HX.out.three
  have zX_1 : w3.heap.size < w4.heap.size + 1 := by omega
  have zX_2 : w3.heap.size < w4.heap.size + 1 + 1 := by omega
  have zX_3 : w3.heap.size < w4.heap.size + 1 + 1 + 1 := by omega
  go_upto_region 10 with fail
  replace HP := Lib.hid (show Blk (((w4.setCell ⟨w1.heap.size, 0, none⟩ (.int .i64 0)).setCell ⟨w1.heap.size, 1, none⟩ (.int .i64 0)).setCell ⟨w1.heap.size, 2, none⟩ (.int .i64 0)) (w.heap.size) 35 _ from by (repeat (first | with_reducible exact HP.out | (with_reducible apply Blk.new'; first | with_reducible rfl | (focus (simp; done)) | (focus (simp; omega))) | with_reducible apply Blk.set_ | with_reducible apply Blk.far | with_reducible apply Blk.alloc | with_reducible apply Blk.drew | with_reducible apply Blk.drewN | (first | omega | (focus (simp; done)) | (focus (simp; omega)) | (focus (simp [World.setCell]; omega))))))
  replace HW := Lib.hid (show Blk (((w4.setCell ⟨w1.heap.size, 0, none⟩ (.int .i64 0)).setCell ⟨w1.heap.size, 1, none⟩ (.int .i64 0)).setCell ⟨w1.heap.size, 2, none⟩ (.int .i64 0)) (w1.heap.size) 35 #[.int .i64 0, .int .i64 0, .int .i64 0] from Blk.val (by (repeat (first | with_reducible exact HW.out | (with_reducible apply Blk.new'; first | with_reducible rfl | (focus (simp; done)) | (focus (simp; omega))) | with_reducible apply Blk.set_ | with_reducible apply Blk.far | with_reducible apply Blk.alloc | with_reducible apply Blk.drew | with_reducible apply Blk.drewN | (first | omega | (focus (simp; done)) | (focus (simp; omega)) | (focus (simp [World.setCell]; omega)))))) (by first | rfl | simp))
  replace HX := Lib.hid (show Blk (((w4.setCell ⟨w1.heap.size, 0, none⟩ (.int .i64 0)).setCell ⟨w1.heap.size, 1, none⟩ (.int .i64 0)).setCell ⟨w1.heap.size, 2, none⟩ (.int .i64 0)) (w3.heap.size) 35 _ from by (repeat (first | with_reducible exact HX.out | (with_reducible apply Blk.new'; first | with_reducible rfl | (focus (simp; done)) | (focus (simp; omega))) | with_reducible apply Blk.set_ | with_reducible apply Blk.far | with_reducible apply Blk.alloc | with_reducible apply Blk.drew | with_reducible apply Blk.drewN | (first | omega | (focus (simp; done)) | (focus (simp; omega)) | (focus (simp [World.setCell]; omega))))))
  replace BEL : Hid (Below w.heap.size w (((w4.setCell ⟨w1.heap.size, 0, none⟩ (.int .i64 0)).setCell ⟨w1.heap.size, 1, none⟩ (.int .i64 0)).setCell ⟨w1.heap.size, 2, none⟩ (.int .i64 0))) := Lib.hid (by repeat (first | with_reducible exact BEL.out | with_reducible apply Below.alloc | with_reducible apply Below.setCell | with_reducible apply Below.drew | with_reducible apply below_drewN | (first | omega | (focus (simp; done)) | (focus (simp; omega)) | (focus (simp [World.setCell]; omega)))))
  have z_x5 : w4.heap.size ≤ (((w4.setCell ⟨w1.heap.size, 0, none⟩ (.int .i64 0)).setCell ⟨w1.heap.size, 1, none⟩ (.int .i64 0)).setCell ⟨w1.heap.size, 2, none⟩ (.int .i64 0)).heap.size := by simp [World.setCell]
  clear pP0 pP1 pP2 fP0 fP1 fP2 zP zP_1 zP_2 zP_3 pW0 pW1 pW2 fW0 fW1 fW2 zW zW_1 zW_2 zW_3 pX0 pX1 pX2 fX0 fX1 fX2 zX zX_1 zX_2 zX_3
  obtain ⟨x5, hx5⟩ : ∃ x, x = (((w4.setCell ⟨w1.heap.size, 0, none⟩ (.int .i64 0)).setCell ⟨w1.heap.size, 1, none⟩ (.int .i64 0)).setCell ⟨w1.heap.size, 2, none⟩ (.int .i64 0)) := ⟨_, rfl⟩
  rw [← hx5] at HP HW HX BEL z_x5 ⊢
  clear hx5
  have y_x5 : w.heap.size ≤ x5.heap.size := BEL.out.size
  obtain ⟨pP0, pP1, pP2, fP0, fP1, fP2, zP⟩ := HP.out.three
  have zP_1 : w.heap.size < x5.heap.size + 1 := by omega
  have zP_2 : w.heap.size < x5.heap.size + 1 + 1 := by omega
  have zP_3 : w.heap.size < x5.heap.size + 1 + 1 + 1 := by omega
  obtain ⟨pW0, pW1, pW2, fW0, fW1, fW2, zW⟩ := HW.out.three
  have zW_1 : w1.heap.size < x5.heap.size + 1 := by omega
  have zW_2 : w1.heap.size < x5.heap.size + 1 + 1 := by omega
  have zW_3 : w1.heap.size < x5.heap.size + 1 + 1 + 1 := by omega
  obtain ⟨pX0, pX1, pX2, fX0, fX1, fX2, zX⟩ := HX.out.three
  have zX_1 : w3.heap.size < x5.heap.size + 1 := by omega
  have zX_2 : w3.heap.size < x5.heap.size + 1 + 1 := by omega
  have zX_3 : w3.heap.size < x5.heap.size + 1 + 1 + 1 := by omega
  go_upto_region 16 with fail
  replace HP := Lib.hid (show Blk (((x5.setCell ⟨w1.heap.size, 0, none⟩ (.int .i64 s)).setCell ⟨w1.heap.size, 1, none⟩ (.int .i64 r)).setCell ⟨w1.heap.size, 2, none⟩ (.int .i64 h)) (w.heap.size) 35 _ from by (repeat (first | with_reducible exact HP.out | (with_reducible apply Blk.new'; first | with_reducible rfl | (focus (simp; done)) | (focus (simp; omega))) | with_reducible apply Blk.set_ | with_reducible apply Blk.far | with_reducible apply Blk.alloc | with_reducible apply Blk.drew | with_reducible apply Blk.drewN | (first | omega | (focus (simp; done)) | (focus (simp; omega)) | (focus (simp [World.setCell]; omega))))))
  replace HW := Lib.hid (show Blk (((x5.setCell ⟨w1.heap.size, 0, none⟩ (.int .i64 s)).setCell ⟨w1.heap.size, 1, none⟩ (.int .i64 r)).setCell ⟨w1.heap.size, 2, none⟩ (.int .i64 h)) (w1.heap.size) 35 #[.int .i64 s, .int .i64 r, .int .i64 h] from Blk.val (by (repeat (first | with_reducible exact HW.out | (with_reducible apply Blk.new'; first | with_reducible rfl | (focus (simp; done)) | (focus (simp; omega))) | with_reducible apply Blk.set_ | with_reducible apply Blk.far | with_reducible apply Blk.alloc | with_reducible apply Blk.drew | with_reducible apply Blk.drewN | (first | omega | (focus (simp; done)) | (focus (simp; omega)) | (focus (simp [World.setCell]; omega)))))) (by first | rfl | simp))
  replace HX := Lib.hid (show Blk (((x5.setCell ⟨w1.heap.size, 0, none⟩ (.int .i64 s)).setCell ⟨w1.heap.size, 1, none⟩ (.int .i64 r)).setCell ⟨w1.heap.size, 2, none⟩ (.int .i64 h)) (w3.heap.size) 35 _ from by (repeat (first | with_reducible exact HX.out | (with_reducible apply Blk.new'; first | with_reducible rfl | (focus (simp; done)) | (focus (simp; omega))) | with_reducible apply Blk.set_ | with_reducible apply Blk.far | with_reducible apply Blk.alloc | with_reducible apply Blk.drew | with_reducible apply Blk.drewN | (first | omega | (focus (simp; done)) | (focus (simp; omega)) | (focus (simp [World.setCell]; omega))))))
  replace BEL : Hid (Below w.heap.size w (((x5.setCell ⟨w1.heap.size, 0, none⟩ (.int .i64 s)).setCell ⟨w1.heap.size, 1, none⟩ (.int .i64 r)).setCell ⟨w1.heap.size, 2, none⟩ (.int .i64 h))) := Lib.hid (by repeat (first | with_reducible exact BEL.out | with_reducible apply Below.alloc | with_reducible apply Below.setCell | with_reducible apply Below.drew | with_reducible apply below_drewN | (first | omega | (focus (simp; done)) | (focus (simp; omega)) | (focus (simp [World.setCell]; omega)))))
  have z_x6 : x5.heap.size ≤ (((x5.setCell ⟨w1.heap.size, 0, none⟩ (.int .i64 s)).setCell ⟨w1.heap.size, 1, none⟩ (.int .i64 r)).setCell ⟨w1.heap.size, 2, none⟩ (.int .i64 h)).heap.size := by simp [World.setCell]
  clear pP0 pP1 pP2 fP0 fP1 fP2 zP zP_1 zP_2 zP_3 pW0 pW1 pW2 fW0 fW1 fW2 zW zW_1 zW_2 zW_3 pX0 pX1 pX2 fX0 fX1 fX2 zX zX_1 zX_2 zX_3
  obtain ⟨x6, hx6⟩ : ∃ x, x = (((x5.setCell ⟨w1.heap.size, 0, none⟩ (.int .i64 s)).setCell ⟨w1.heap.size, 1, none⟩ (.int .i64 r)).setCell ⟨w1.heap.size, 2, none⟩ (.int .i64 h)) := ⟨_, rfl⟩
  rw [← hx6] at HP HW HX BEL z_x6 ⊢
  clear hx6
  have y_x6 : w.heap.size ≤ x6.heap.size := BEL.out.size
  obtain ⟨pP0, pP1, pP2, fP0, fP1, fP2, zP⟩ := HP.out.three
  have zP_1 : w.heap.size < x6.heap.size + 1 := by omega
  have zP_2 : w.heap.size < x6.heap.size + 1 + 1 := by omega
  have zP_3 : w.heap.size < x6.heap.size + 1 + 1 + 1 := by omega
  obtain ⟨pW0, pW1, pW2, fW0, fW1, fW2, zW⟩ := HW.out.three
  have zW_1 : w1.heap.size < x6.heap.size + 1 := by omega
  have zW_2 : w1.heap.size < x6.heap.size + 1 + 1 := by omega
  have zW_3 : w1.heap.size < x6.heap.size + 1 + 1 + 1 := by omega
  obtain ⟨pX0, pX1, pX2, fX0, fX1, fX2, zX⟩ := HX.out.three
  have zX_1 : w3.heap.size < x6.heap.size + 1 := by omega
  have zX_2 : w3.heap.size < x6.heap.size + 1 + 1 := by omega
  have zX_3 : w3.heap.size < x6.heap.size + 1 + 1 + 1 := by omega
  go_upto_region 17 with fail
  replace HP := Lib.hid (show Blk (x6.setCell ⟨w1.heap.size, 2, none⟩ (.int .i64 (h - n))) (w.heap.size) 35 _ from by (repeat (first | with_reducible exact HP.out | (with_reducible apply Blk.new'; first | with_reducible rfl | (focus (simp; done)) | (focus (simp; omega))) | with_reducible apply Blk.set_ | with_reducible apply Blk.far | with_reducible apply Blk.alloc | with_reducible apply Blk.drew | with_reducible apply Blk.drewN | (first | omega | (focus (simp; done)) | (focus (simp; omega)) | (focus (simp [World.setCell]; omega))))))
  replace HW := Lib.hid (show Blk (x6.setCell ⟨w1.heap.size, 2, none⟩ (.int .i64 (h - n))) (w1.heap.size) 35 #[.int .i64 s, .int .i64 r, .int .i64 (h - n)] from Blk.val (by (repeat (first | with_reducible exact HW.out | (with_reducible apply Blk.new'; first | with_reducible rfl | (focus (simp; done)) | (focus (simp; omega))) | with_reducible apply Blk.set_ | with_reducible apply Blk.far | with_reducible apply Blk.alloc | with_reducible apply Blk.drew | with_reducible apply Blk.drewN | (first | omega | (focus (simp; done)) | (focus (simp; omega)) | (focus (simp [World.setCell]; omega)))))) (by first | rfl | simp))
  replace HX := Lib.hid (show Blk (x6.setCell ⟨w1.heap.size, 2, none⟩ (.int .i64 (h - n))) (w3.heap.size) 35 _ from by (repeat (first | with_reducible exact HX.out | (with_reducible apply Blk.new'; first | with_reducible rfl | (focus (simp; done)) | (focus (simp; omega))) | with_reducible apply Blk.set_ | with_reducible apply Blk.far | with_reducible apply Blk.alloc | with_reducible apply Blk.drew | with_reducible apply Blk.drewN | (first | omega | (focus (simp; done)) | (focus (simp; omega)) | (focus (simp [World.setCell]; omega))))))
  replace BEL : Hid (Below w.heap.size w (x6.setCell ⟨w1.heap.size, 2, none⟩ (.int .i64 (h - n)))) := Lib.hid (by repeat (first | with_reducible exact BEL.out | with_reducible apply Below.alloc | with_reducible apply Below.setCell | with_reducible apply Below.drew | with_reducible apply below_drewN | (first | omega | (focus (simp; done)) | (focus (simp; omega)) | (focus (simp [World.setCell]; omega)))))
  have z_x7 : x6.heap.size ≤ (x6.setCell ⟨w1.heap.size, 2, none⟩ (.int .i64 (h - n))).heap.size := by simp [World.setCell]
  clear pP0 pP1 pP2 fP0 fP1 fP2 zP zP_1 zP_2 zP_3 pW0 pW1 pW2 fW0 fW1 fW2 zW zW_1 zW_2 zW_3 pX0 pX1 pX2 fX0 fX1 fX2 zX zX_1 zX_2 zX_3
  obtain ⟨x7, hx7⟩ : ∃ x, x = (x6.setCell ⟨w1.heap.size, 2, none⟩ (.int .i64 (h - n))) := ⟨_, rfl⟩
  rw [← hx7] at HP HW HX BEL z_x7 ⊢
  clear hx7
  have y_x7 : w.heap.size ≤ x7.heap.size := BEL.out.size
  obtain ⟨pP0, pP1, pP2, fP0, fP1, fP2, zP⟩ := HP.out.three
  have zP_1 : w.heap.size < x7.heap.size + 1 := by omega
  have zP_2 : w.heap.size < x7.heap.size + 1 + 1 := by omega
  have zP_3 : w.heap.size < x7.heap.size + 1 + 1 + 1 := by omega
  obtain ⟨pW0, pW1, pW2, fW0, fW1, fW2, zW⟩ := HW.out.three
  have zW_1 : w1.heap.size < x7.heap.size + 1 := by omega
  have zW_2 : w1.heap.size < x7.heap.size + 1 + 1 := by omega
  have zW_3 : w1.heap.size < x7.heap.size + 1 + 1 + 1 := by omega
  obtain ⟨pX0, pX1, pX2, fX0, fX1, fX2, zX⟩ := HX.out.three
  have zX_1 : w3.heap.size < x7.heap.size + 1 := by omega
  have zX_2 : w3.heap.size < x7.heap.size + 1 + 1 := by omega
  have zX_3 : w3.heap.size < x7.heap.size + 1 + 1 + 1 := by omega
  go_wp2_with fail
  refine (take_yes s r h n _ H.out n0 n1 hn).mono ?_; rintro e w8 ⟨rfl, hb8⟩
  have z_w8 : x7.heap.size ≤ w8.heap.size := Nat.le_trans (by first | with_reducible exact Nat.le_refl _ | (simp; done) | (simp; omega) | (simp [World.setCell]; done)) hb8.size
  replace HP := Lib.hid (show Blk w8 (w.heap.size) 35 _ from by (with_reducible apply Blk.below (hb := hb8); (repeat (first | with_reducible exact HP.out | (with_reducible apply Blk.new'; first | with_reducible rfl | (focus (simp; done)) | (focus (simp; omega))) | with_reducible apply Blk.set_ | with_reducible apply Blk.far | with_reducible apply Blk.alloc | with_reducible apply Blk.drew | with_reducible apply Blk.drewN | (first | omega | (focus (simp; done)) | (focus (simp; omega)) | (focus (simp [World.setCell]; omega)))))))
  replace HW := Lib.hid (show Blk w8 (w1.heap.size) 35 _ from by (with_reducible apply Blk.below (hb := hb8); (repeat (first | with_reducible exact HW.out | (with_reducible apply Blk.new'; first | with_reducible rfl | (focus (simp; done)) | (focus (simp; omega))) | with_reducible apply Blk.set_ | with_reducible apply Blk.far | with_reducible apply Blk.alloc | with_reducible apply Blk.drew | with_reducible apply Blk.drewN | (first | omega | (focus (simp; done)) | (focus (simp; omega)) | (focus (simp [World.setCell]; omega)))))))
  replace HX := Lib.hid (show Blk w8 (w3.heap.size) 35 _ from by (with_reducible apply Blk.below (hb := hb8); (repeat (first | with_reducible exact HX.out | (with_reducible apply Blk.new'; first | with_reducible rfl | (focus (simp; done)) | (focus (simp; omega))) | with_reducible apply Blk.set_ | with_reducible apply Blk.far | with_reducible apply Blk.alloc | with_reducible apply Blk.drew | with_reducible apply Blk.drewN | (first | omega | (focus (simp; done)) | (focus (simp; omega)) | (focus (simp [World.setCell]; omega)))))))
  replace BEL : Hid (Below w.heap.size w w8) := Lib.hid (Below.trans (by repeat (first | with_reducible exact BEL.out | with_reducible apply Below.alloc | with_reducible apply Below.setCell | with_reducible apply Below.drew | with_reducible apply below_drewN | (first | omega | (focus (simp; done)) | (focus (simp; omega)) | (focus (simp [World.setCell]; omega))))) (hb8.mono (by (first | omega | (focus (simp; done)) | (focus (simp; omega)) | (focus (simp [World.setCell]; omega))))))
  have y_w8 : w.heap.size ≤ w8.heap.size := BEL.out.size
  clear hb8
  clear pP0 pP1 pP2 fP0 fP1 fP2 zP zP_1 zP_2 zP_3 pW0 pW1 pW2 fW0 fW1 fW2 zW zW_1 zW_2 zW_3 pX0 pX1 pX2 fX0 fX1 fX2 zX zX_1 zX_2 zX_3
  obtain ⟨pP0, pP1, pP2, fP0, fP1, fP2, zP⟩ := HP.out.three
  have zP_1 : w.heap.size < w8.heap.size + 1 := by omega
  have zP_2 : w.heap.size < w8.heap.size + 1 + 1 := by omega
  have zP_3 : w.heap.size < w8.heap.size + 1 + 1 + 1 := by omega
  obtain ⟨pW0, pW1, pW2, fW0, fW1, fW2, zW⟩ := HW.out.three
  have zW_1 : w1.heap.size < w8.heap.size + 1 := by omega
  have zW_2 : w1.heap.size < w8.heap.size + 1 + 1 := by omega
  have zW_3 : w1.heap.size < w8.heap.size + 1 + 1 + 1 := by omega
  obtain ⟨pX0, pX1, pX2, fX0, fX1, fX2, zX⟩ := HX.out.three
  have zX_1 : w3.heap.size < w8.heap.size + 1 := by omega
  have zX_2 : w3.heap.size < w8.heap.size + 1 + 1 := by omega
  have zX_3 : w3.heap.size < w8.heap.size + 1 + 1 + 1 := by omega
  go_wp2_with fail
  refine (same_ok _).mono ?_; rintro e w9 ⟨rfl, hb9⟩
  have z_w9 : w8.heap.size ≤ w9.heap.size := Nat.le_trans (by first | with_reducible exact Nat.le_refl _ | (simp; done) | (simp; omega) | (simp [World.setCell]; done)) hb9.size
  replace HP := Lib.hid (show Blk w9 (w.heap.size) 35 _ from by (with_reducible apply Blk.below (hb := hb9); (repeat (first | with_reducible exact HP.out | (with_reducible apply Blk.new'; first | with_reducible rfl | (focus (simp; done)) | (focus (simp; omega))) | with_reducible apply Blk.set_ | with_reducible apply Blk.far | with_reducible apply Blk.alloc | with_reducible apply Blk.drew | with_reducible apply Blk.drewN | (first | omega | (focus (simp; done)) | (focus (simp; omega)) | (focus (simp [World.setCell]; omega)))))))
  replace HW := Lib.hid (show Blk w9 (w1.heap.size) 35 _ from by (with_reducible apply Blk.below (hb := hb9); (repeat (first | with_reducible exact HW.out | (with_reducible apply Blk.new'; first | with_reducible rfl | (focus (simp; done)) | (focus (simp; omega))) | with_reducible apply Blk.set_ | with_reducible apply Blk.far | with_reducible apply Blk.alloc | with_reducible apply Blk.drew | with_reducible apply Blk.drewN | (first | omega | (focus (simp; done)) | (focus (simp; omega)) | (focus (simp [World.setCell]; omega)))))))
  replace HX := Lib.hid (show Blk w9 (w3.heap.size) 35 _ from by (with_reducible apply Blk.below (hb := hb9); (repeat (first | with_reducible exact HX.out | (with_reducible apply Blk.new'; first | with_reducible rfl | (focus (simp; done)) | (focus (simp; omega))) | with_reducible apply Blk.set_ | with_reducible apply Blk.far | with_reducible apply Blk.alloc | with_reducible apply Blk.drew | with_reducible apply Blk.drewN | (first | omega | (focus (simp; done)) | (focus (simp; omega)) | (focus (simp [World.setCell]; omega)))))))
  replace BEL : Hid (Below w.heap.size w w9) := Lib.hid (Below.trans (by repeat (first | with_reducible exact BEL.out | with_reducible apply Below.alloc | with_reducible apply Below.setCell | with_reducible apply Below.drew | with_reducible apply below_drewN | (first | omega | (focus (simp; done)) | (focus (simp; omega)) | (focus (simp [World.setCell]; omega))))) (hb9.mono (by (first | omega | (focus (simp; done)) | (focus (simp; omega)) | (focus (simp [World.setCell]; omega))))))
  have y_w9 : w.heap.size ≤ w9.heap.size := BEL.out.size
  clear hb9
  clear pP0 pP1 pP2 fP0 fP1 fP2 zP zP_1 zP_2 zP_3 pW0 pW1 pW2 fW0 fW1 fW2 zW zW_1 zW_2 zW_3 pX0 pX1 pX2 fX0 fX1 fX2 zX zX_1 zX_2 zX_3
  obtain ⟨pP0, pP1, pP2, fP0, fP1, fP2, zP⟩ := HP.out.three
  have zP_1 : w.heap.size < w9.heap.size + 1 := by omega
  have zP_2 : w.heap.size < w9.heap.size + 1 + 1 := by omega
  have zP_3 : w.heap.size < w9.heap.size + 1 + 1 + 1 := by omega
  obtain ⟨pW0, pW1, pW2, fW0, fW1, fW2, zW⟩ := HW.out.three
  have zW_1 : w1.heap.size < w9.heap.size + 1 := by omega
  have zW_2 : w1.heap.size < w9.heap.size + 1 + 1 := by omega
  have zW_3 : w1.heap.size < w9.heap.size + 1 + 1 + 1 := by omega
  obtain ⟨pX0, pX1, pX2, fX0, fX1, fX2, zX⟩ := HX.out.three
  have zX_1 : w3.heap.size < w9.heap.size + 1 := by omega
  have zX_2 : w3.heap.size < w9.heap.size + 1 + 1 := by omega
  have zX_3 : w3.heap.size < w9.heap.size + 1 + 1 + 1 := by omega
  go_wp2_with fail
  refine (refTicks_is A cp l w.heap.size _ (HI.out.below (by repeat (first | with_reducible exact BEL.out | with_reducible apply Below.alloc | with_reducible apply Below.setCell | with_reducible apply Below.drew | with_reducible apply below_drewN | (first | omega | (focus (simp; done)) | (focus (simp; omega)) | (focus (simp [World.setCell]; omega))))) (Nat.le_refl _)) 0 HT.out).mono ?_; rintro e w' ⟨rfl, rfl⟩
  clear HW HX
  clear pW0 pW1 pW2 fW0 fW1 fW2 zW zW_1 zW_2 zW_3 pX0 pX1 pX2 fX0 fX1 fX2 zX zX_1 zX_2 zX_3
  go_wp2_with fail
  refine (refSent s r h A cp l _ H.out ((HI.out.below (by repeat (first | with_reducible exact BEL.out | with_reducible apply Below.alloc | with_reducible apply Below.setCell | with_reducible apply Below.drew | with_reducible apply below_drewN | (first | omega | (focus (simp; done)) | (focus (simp; omega)) | (focus (simp [World.setCell]; omega))))) (Nat.le_refl _)).more (by (first | omega | (focus (simp; done)) | (focus (simp; omega)) | (focus (simp [World.setCell]; omega))))) hl HB.out).mono ?_; rintro e w10 ⟨u1, rfl, ho1, hb10⟩
  have HO1 := Lib.hid ho1; clear ho1
  have z_w10 : w9.heap.size ≤ w10.heap.size := Nat.le_trans (by first | with_reducible exact Nat.le_refl _ | (simp; done) | (simp; omega) | (simp [World.setCell]; done)) hb10.size
  replace HP := Lib.hid (show Blk w10 (w.heap.size) 35 _ from by (with_reducible apply Blk.below (hb := hb10); (repeat (first | with_reducible exact HP.out | (with_reducible apply Blk.new'; first | with_reducible rfl | (focus (simp; done)) | (focus (simp; omega))) | with_reducible apply Blk.set_ | with_reducible apply Blk.far | with_reducible apply Blk.alloc | with_reducible apply Blk.drew | with_reducible apply Blk.drewN | (first | omega | (focus (simp; done)) | (focus (simp; omega)) | (focus (simp [World.setCell]; omega)))))))
  replace BEL : Hid (Below w.heap.size w w10) := Lib.hid (Below.trans (by repeat (first | with_reducible exact BEL.out | with_reducible apply Below.alloc | with_reducible apply Below.setCell | with_reducible apply Below.drew | with_reducible apply below_drewN | (first | omega | (focus (simp; done)) | (focus (simp; omega)) | (focus (simp [World.setCell]; omega))))) (hb10.mono (by (first | omega | (focus (simp; done)) | (focus (simp; omega)) | (focus (simp [World.setCell]; omega))))))
  have y_w10 : w.heap.size ≤ w10.heap.size := BEL.out.size
  clear hb10
  clear pP0 pP1 pP2 fP0 fP1 fP2 zP zP_1 zP_2 zP_3
  obtain ⟨pP0, pP1, pP2, fP0, fP1, fP2, zP⟩ := HP.out.three
  have zP_1 : w.heap.size < w10.heap.size + 1 := by omega
  have zP_2 : w.heap.size < w10.heap.size + 1 + 1 := by omega
  have zP_3 : w.heap.size < w10.heap.size + 1 + 1 + 1 := by omega
  obtain ⟨A1, c1, rfl, hln1, hi1⟩ := owns_ints' HO1.out
  have HI1 := Lib.hid hi1
  have HLN1 := Lib.hid hln1
  clear hln1 hi1
  go_wp2_with fail
  refine (bsend_yes s r h A cp l _ H.out ((HI.out.below (by repeat (first | with_reducible exact BEL.out | with_reducible apply Below.alloc | with_reducible apply Below.setCell | with_reducible apply Below.drew | with_reducible apply below_drewN | (first | omega | (focus (simp; done)) | (focus (simp; omega)) | (focus (simp [World.setCell]; omega))))) (Nat.le_refl _)).more (by (first | omega | (focus (simp; done)) | (focus (simp; omega)) | (focus (simp [World.setCell]; omega))))) hl HB.out).mono ?_; rintro e w11 ⟨u2, rfl, ho2, hb11⟩
  have HO2 := Lib.hid ho2; clear ho2
  have HI1 := Lib.hid (HI1.out.below hb11 (Nat.le_refl _))
  have z_w11 : w10.heap.size ≤ w11.heap.size := Nat.le_trans (by first | with_reducible exact Nat.le_refl _ | (simp; done) | (simp; omega) | (simp [World.setCell]; done)) hb11.size
  replace HP := Lib.hid (show Blk w11 (w.heap.size) 35 _ from by (with_reducible apply Blk.below (hb := hb11); (repeat (first | with_reducible exact HP.out | (with_reducible apply Blk.new'; first | with_reducible rfl | (focus (simp; done)) | (focus (simp; omega))) | with_reducible apply Blk.set_ | with_reducible apply Blk.far | with_reducible apply Blk.alloc | with_reducible apply Blk.drew | with_reducible apply Blk.drewN | (first | omega | (focus (simp; done)) | (focus (simp; omega)) | (focus (simp [World.setCell]; omega)))))))
  replace BEL : Hid (Below w.heap.size w w11) := Lib.hid (Below.trans (by repeat (first | with_reducible exact BEL.out | with_reducible apply Below.alloc | with_reducible apply Below.setCell | with_reducible apply Below.drew | with_reducible apply below_drewN | (first | omega | (focus (simp; done)) | (focus (simp; omega)) | (focus (simp [World.setCell]; omega))))) (hb11.mono (by (first | omega | (focus (simp; done)) | (focus (simp; omega)) | (focus (simp [World.setCell]; omega))))))
  have y_w11 : w.heap.size ≤ w11.heap.size := BEL.out.size
  clear hb11
  clear pP0 pP1 pP2 fP0 fP1 fP2 zP zP_1 zP_2 zP_3
  obtain ⟨pP0, pP1, pP2, fP0, fP1, fP2, zP⟩ := HP.out.three
  have zP_1 : w.heap.size < w11.heap.size + 1 := by omega
  have zP_2 : w.heap.size < w11.heap.size + 1 + 1 := by omega
  have zP_3 : w.heap.size < w11.heap.size + 1 + 1 + 1 := by omega
  obtain ⟨A2, c2, rfl, hln2, hi2⟩ := owns_ints' HO2.out
  have HI2 := Lib.hid hi2
  have HLN2 := Lib.hid hln2
  clear hln2 hi2
  go_wp2_with fail
  refine (same_ok _).mono ?_; rintro e w12 ⟨rfl, hb12⟩
  have HI1 := Lib.hid (HI1.out.below (hb12.mono (by (first | omega | (focus (simp; done)) | (focus (simp; omega)) | (focus (simp [World.setCell]; omega))))) (Nat.le_refl _))
  have HI2 := Lib.hid (HI2.out.below hb12 (Nat.le_refl _))
  have z_w12 : w11.heap.size ≤ w12.heap.size := Nat.le_trans (by first | with_reducible exact Nat.le_refl _ | (simp; done) | (simp; omega) | (simp [World.setCell]; done)) hb12.size
  replace HP := Lib.hid (show Blk w12 (w.heap.size) 35 _ from by (with_reducible apply Blk.below (hb := hb12); (repeat (first | with_reducible exact HP.out | (with_reducible apply Blk.new'; first | with_reducible rfl | (focus (simp; done)) | (focus (simp; omega))) | with_reducible apply Blk.set_ | with_reducible apply Blk.far | with_reducible apply Blk.alloc | with_reducible apply Blk.drew | with_reducible apply Blk.drewN | (first | omega | (focus (simp; done)) | (focus (simp; omega)) | (focus (simp [World.setCell]; omega)))))))
  replace BEL : Hid (Below w.heap.size w w12) := Lib.hid (Below.trans (by repeat (first | with_reducible exact BEL.out | with_reducible apply Below.alloc | with_reducible apply Below.setCell | with_reducible apply Below.drew | with_reducible apply below_drewN | (first | omega | (focus (simp; done)) | (focus (simp; omega)) | (focus (simp [World.setCell]; omega))))) (hb12.mono (by (first | omega | (focus (simp; done)) | (focus (simp; omega)) | (focus (simp [World.setCell]; omega))))))
  have y_w12 : w.heap.size ≤ w12.heap.size := BEL.out.size
  clear hb12
  clear pP0 pP1 pP2 fP0 fP1 fP2 zP zP_1 zP_2 zP_3
  obtain ⟨pP0, pP1, pP2, fP0, fP1, fP2, zP⟩ := HP.out.three
  have zP_1 : w.heap.size < w12.heap.size + 1 := by omega
  have zP_2 : w.heap.size < w12.heap.size + 1 + 1 := by omega
  have zP_3 : w.heap.size < w12.heap.size + 1 + 1 + 1 := by omega
  go_wp2_with fail
  refine (sameInts_b _ _ _ _ _ _ (PB.send s r h 0 l) _ _ _ HI2.out HI1.out HLN2.out HLN1.out).mono ?_; rintro e w13 ⟨rfl, hb13⟩
  have z_w13 : w12.heap.size ≤ w13.heap.size := Nat.le_trans (by first | with_reducible exact Nat.le_refl _ | (simp; done) | (simp; omega) | (simp [World.setCell]; done)) hb13.size
  replace HP := Lib.hid (show Blk w13 (w.heap.size) 35 _ from by (with_reducible apply Blk.below (hb := hb13); (repeat (first | with_reducible exact HP.out | (with_reducible apply Blk.new'; first | with_reducible rfl | (focus (simp; done)) | (focus (simp; omega))) | with_reducible apply Blk.set_ | with_reducible apply Blk.far | with_reducible apply Blk.alloc | with_reducible apply Blk.drew | with_reducible apply Blk.drewN | (first | omega | (focus (simp; done)) | (focus (simp; omega)) | (focus (simp [World.setCell]; omega)))))))
  replace BEL : Hid (Below w.heap.size w w13) := Lib.hid (Below.trans (by repeat (first | with_reducible exact BEL.out | with_reducible apply Below.alloc | with_reducible apply Below.setCell | with_reducible apply Below.drew | with_reducible apply below_drewN | (first | omega | (focus (simp; done)) | (focus (simp; omega)) | (focus (simp [World.setCell]; omega))))) (hb13.mono (by (first | omega | (focus (simp; done)) | (focus (simp; omega)) | (focus (simp [World.setCell]; omega))))))
  have y_w13 : w.heap.size ≤ w13.heap.size := BEL.out.size
  clear hb13
  clear pP0 pP1 pP2 fP0 fP1 fP2 zP zP_1 zP_2 zP_3
  obtain ⟨pP0, pP1, pP2, fP0, fP1, fP2, zP⟩ := HP.out.three
  have zP_1 : w.heap.size < w13.heap.size + 1 := by omega
  have zP_2 : w.heap.size < w13.heap.size + 1 + 1 := by omega
  have zP_3 : w.heap.size < w13.heap.size + 1 + 1 + 1 := by omega
  go_wp2
  go_ret
  exact ⟨rfl, (by repeat (first | with_reducible exact BEL.out | with_reducible apply Below.alloc | with_reducible apply Below.setCell | with_reducible apply Below.drew | with_reducible apply below_drewN | (first | omega | (focus (simp; done)) | (focus (simp; omega)) | (focus (simp [World.setCell]; omega)))))⟩
theorem bucketTells_walk {w : World} (s r h : Int) (_ : (Lit.int .i64 s).wf = true) (_ : (Lit.int .i64 r).wf = true) (_ : (Lit.int .i64 h).wf = true) (n : Int) (_ : (Lit.int .i64 n).wf = true) (A : Option Addr) (cp : Nat) (l : List Int) (hi : Ints w w.heap.size A cp l) (_ : ∀ x ∈ l, (Lit.int .i64 x).wf = true) (hg : Laid w) :
    Calls Tryd.prog 8 #[.agg #[.int .i64 s, .int .i64 r, .int .i64 h], .int .i64 n, .slice A l.length cp] w fun e w' => e = .returned (.bool true) ∧ Below w.heap.size w w' := by
  by_cases ok : BucketOk s r h
  · by_cases hl : l.length ≤ 60
    · cases hb : l.any badRate
      · by_cases a : n < 0
        · exact bucketTells_lo_ok s r h n A cp l w hi hg ok a hl hb
        · by_cases b : 10000 < n
          · exact bucketTells_hi_ok s r h n A cp l w hi hg ok (by omega) b hl hb
          · by_cases c : h < n
            · exact bucketTells_low_ok s r h n A cp l w hi hg ok (by omega) (by omega) c hl hb
            · exact bucketTells_in_ok s r h n A cp l w hi hg ok (by omega) (by omega) (by omega) hl hb
      · by_cases a : n < 0
        · exact bucketTells_lo_bad s r h n A cp l w hi hg ok a hl hb
        · by_cases b : 10000 < n
          · exact bucketTells_hi_bad s r h n A cp l w hi hg ok (by omega) b hl hb
          · by_cases c : h < n
            · exact bucketTells_low_bad s r h n A cp l w hi hg ok (by omega) (by omega) c hl hb
            · exact bucketTells_in_bad s r h n A cp l w hi hg ok (by omega) (by omega) (by omega) hl hb
    · by_cases a : n < 0
      · exact bucketTells_lo_full s r h n A cp l w hi hg ok a (by omega)
      · by_cases b : 10000 < n
        · exact bucketTells_hi_full s r h n A cp l w hi hg ok (by omega) b (by omega)
        · by_cases c : h < n
          · exact bucketTells_low_full s r h n A cp l w hi hg ok (by omega) (by omega) c (by omega)
          · exact bucketTells_in_full s r h n A cp l w hi hg ok (by omega) (by omega) (by omega) (by omega)
  · exact bucketTells_no s r h n A cp l w hi hg ok
end Go.Proofs.YtkheobdkmmbjnaaDoor
