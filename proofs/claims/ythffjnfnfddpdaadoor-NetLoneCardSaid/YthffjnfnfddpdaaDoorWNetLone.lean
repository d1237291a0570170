/- The walk of NetLone: it returns true for every input. -/
import Derived.Test.YthffjnfnfddpdaaDoorLibM
import Derived.Test.YthffjnfnfddpdaaDoorLibL
import Derived.Test.YthffjnfnfddpdaaDoorTold
namespace Go.Proofs.YthffjnfnfddpdaaDoor
open Go.RowKit
attribute [local go_sem ↓] run_min_mn run_max_mx
theorem lone_facts {caps path : List (Int)} (h : netErr caps [path] = 0) : dropErr caps [path] 0 = 5 ∧ addErr caps [path] path = 0 ∧ netErr caps [path, path] = 0 := by
  have hp : pathErr caps.length path = 0 := (netErr_ok h).2.2.2.2.2 path (by simp)
  have ha : addErr caps [path] path = 0 := by unfold addErr; rw [if_pos h, if_neg (by simp)]; exact hp
  refine ⟨?_, ha, (addErr_ok ha).2.2.2⟩
  unfold dropErr; rw [if_pos h, if_neg (by simp), if_pos (by simp)]
set_option maxHeartbeats 8000000 in
set_option maxRecDepth 100000 in
theorem netLone_err (C : Option Addr) (cc : Nat) (caps : List Int) (A : Option Addr) (c : Nat) (l : List Int) (w : World) (hg : Laid w) (hc : Ints w w.heap.size C cc caps) (hi : Ints w w.heap.size A c l) (er : Int) (he : netErr caps [l] = er) (h0 : er ≠ 0) :
    Calls Tryd.prog 5 #[.slice C caps.length cc, .slice A l.length c] w fun e w' => e = .returned (.bool true) ∧ Below w.heap.size w w' := by
  have LAID := Lib.hid hg
  have HC := Lib.hid hc
  have HI := Lib.hid hi
  clear hg hc hi
  have HE := Lib.hid he; have H0 := Lib.hid h0; clear he h0
  have BEL : Hid (Below w.heap.size w w) := Lib.hid (Below.refl _ _)
  have yB : w.heap.size ≤ w.heap.size := Nat.le_refl _
  go_enter Tryd.func5, Tryd.ntmps5
  go_wp2_with fail
  refine (ncheck_er C cc caps (some ⟨w.heap.size, 0, none⟩) 1 [l] (w.heap.size + 1) _ er (by first | omega | (focus (simp; done)) | (simp; omega)) ((HC.out.below (by repeat (first | with_reducible exact BEL.out | with_reducible apply Below.alloc | with_reducible apply Below.setCell | with_reducible apply Below.drew | with_reducible apply below_drewN | (first | omega | (focus (simp; done)) | (focus (simp; omega)) | (focus (simp [World.setCell]; omega))))) (Nat.le_refl _)).more (Nat.le_succ _)) (Rows2.blk1 (l1 := l) (by repeat (first | (with_reducible apply Blk.new'; first | with_reducible rfl | (focus (simp; done))) | with_reducible apply Blk.alloc)) ((HI.out.below (by repeat (first | with_reducible exact BEL.out | with_reducible apply Below.alloc | with_reducible apply Below.setCell | with_reducible apply Below.drew | with_reducible apply below_drewN | (first | omega | (focus (simp; done)) | (focus (simp; omega)) | (focus (simp [World.setCell]; omega))))) (Nat.le_refl _)).more (Nat.le_succ _)) (Nat.lt_succ_self _)) HE.out H0.out).mono ?_; rintro e w1 ⟨rfl, hb1⟩
  have hk : Below w.heap.size w w1 := Below.trans (by repeat (first | with_reducible exact Below.refl _ _ | with_reducible apply Below.drew | with_reducible apply below_drewN | with_reducible apply Below.alloc | omega | (focus (simp; done)) | (simp; omega))) (hb1.mono (by first | omega | (simp; done) | (simp; omega)))
  replace BEL : Hid (Below w.heap.size w w1) := Lib.hid (BEL.out.trans (hk.mono BEL.out.size))
  have z_w1 := hk.size; have y_w1 := BEL.out.size; clear hk hb1
  go_wp2
  go_ret
  exact ⟨rfl, (by repeat (first | with_reducible exact BEL.out | with_reducible apply Below.alloc | with_reducible apply Below.setCell | with_reducible apply Below.drew | with_reducible apply below_drewN | (first | omega | (focus (simp; done)) | (focus (simp; omega)) | (focus (simp [World.setCell]; omega)))))⟩
set_option maxHeartbeats 8000000 in
set_option maxRecDepth 100000 in
theorem netLone_yes (C : Option Addr) (cc : Nat) (caps : List Int) (A : Option Addr) (c : Nat) (l : List Int) (w : World) (hg : Laid w) (hc : Ints w w.heap.size C cc caps) (hi : Ints w w.heap.size A c l) (he : netErr caps [l] = 0) :
    Calls Tryd.prog 5 #[.slice C caps.length cc, .slice A l.length c] w fun e w' => e = .returned (.bool true) ∧ Below w.heap.size w w' := by
  have LAID := Lib.hid hg
  have HC := Lib.hid hc
  have HI := Lib.hid hi
  clear hg hc hi
  obtain ⟨hd, ha, h2⟩ := lone_facts he
  have HE := Lib.hid he; have HD := Lib.hid hd; have HA := Lib.hid ha; have H2 := Lib.hid h2; clear he hd ha h2
  have BEL : Hid (Below w.heap.size w w) := Lib.hid (Below.refl _ _)
  have yB : w.heap.size ≤ w.heap.size := Nat.le_refl _
  go_enter Tryd.func5, Tryd.ntmps5
  go_wp2_with fail
  refine (ncheck_ok C cc caps (some ⟨w.heap.size, 0, none⟩) 1 [l] (w.heap.size + 1) _ (by first | omega | (focus (simp; done)) | (simp; omega)) ((HC.out.below (by repeat (first | with_reducible exact BEL.out | with_reducible apply Below.alloc | with_reducible apply Below.setCell | with_reducible apply Below.drew | with_reducible apply below_drewN | (first | omega | (focus (simp; done)) | (focus (simp; omega)) | (focus (simp [World.setCell]; omega))))) (Nat.le_refl _)).more (Nat.le_succ _)) (Rows2.blk1 (l1 := l) (by repeat (first | (with_reducible apply Blk.new'; first | with_reducible rfl | (focus (simp; done))) | with_reducible apply Blk.alloc)) ((HI.out.below (by repeat (first | with_reducible exact BEL.out | with_reducible apply Below.alloc | with_reducible apply Below.setCell | with_reducible apply Below.drew | with_reducible apply below_drewN | (first | omega | (focus (simp; done)) | (focus (simp; omega)) | (focus (simp [World.setCell]; omega))))) (Nat.le_refl _)).more (Nat.le_succ _)) (Nat.lt_succ_self _)) HE.out).mono ?_; rintro e w1 ⟨rfl, hb1⟩
  have hk : Below w.heap.size w w1 := Below.trans (by repeat (first | with_reducible exact Below.refl _ _ | with_reducible apply Below.drew | with_reducible apply below_drewN | with_reducible apply Below.alloc | omega | (focus (simp; done)) | (simp; omega))) (hb1.mono (by first | omega | (simp; done) | (simp; omega)))
  have HR := Lib.hid (show Blk w1 (w.heap.size) 33 _ from Blk.go (by repeat (first | (with_reducible apply Blk.new'; first | with_reducible rfl | (focus (simp; done))) | with_reducible apply Blk.alloc | with_reducible apply Blk.drew | with_reducible apply Blk.drewN)) hb1)
  have HX := Lib.hid (show Blk w1 (w.heap.size + 1) 64 _ from Blk.go (by repeat (first | (with_reducible apply Blk.new'; first | with_reducible rfl | (focus (simp; done))) | with_reducible apply Blk.alloc | with_reducible apply Blk.drew | with_reducible apply Blk.drewN)) hb1)
  replace BEL : Hid (Below w.heap.size w w1) := Lib.hid (BEL.out.trans (hk.mono BEL.out.size))
  have z_w1 := hk.size; have y_w1 := BEL.out.size; clear hk hb1
  obtain ⟨pR0, fR0, zR, zR_1, zR_2, zR_3⟩ := HR.out.one'
  obtain ⟨pX0, pX1, fX0, fX1, zX, zX_1, zX_2, zX_3⟩ := HX.out.two'
  go_wp2_with fail
  refine (drop_no C cc caps (some ⟨w.heap.size, 0, none⟩) 1 [l] 0 (w.heap.size + 1) _ 5 (by first | omega | (focus (simp; done)) | (simp; omega)) ((HC.out.below (by repeat (first | with_reducible exact BEL.out | with_reducible apply Below.alloc | with_reducible apply Below.setCell | with_reducible apply Below.drew | with_reducible apply below_drewN | (first | omega | (focus (simp; done)) | (focus (simp; omega)) | (focus (simp [World.setCell]; omega))))) (Nat.le_refl _)).more (Nat.le_succ _)) (Rows2.blk1 (l1 := l) (by repeat (first | with_reducible exact HR.out | with_reducible apply Blk.alloc)) ((HI.out.below (by repeat (first | with_reducible exact BEL.out | with_reducible apply Below.alloc | with_reducible apply Below.setCell | with_reducible apply Below.drew | with_reducible apply below_drewN | (first | omega | (focus (simp; done)) | (focus (simp; omega)) | (focus (simp [World.setCell]; omega))))) (Nat.le_refl _)).more (Nat.le_succ _)) (Nat.lt_succ_self _)) HD.out (by decide)).mono ?_; rintro e w2 ⟨rfl, hb2⟩
  have hk : Below w1.heap.size w1 w2 := Below.trans (by repeat (first | with_reducible exact Below.refl _ _ | with_reducible apply Below.drew | with_reducible apply below_drewN | with_reducible apply Below.alloc | omega | (focus (simp; done)) | (simp; omega))) (hb2.mono (by first | omega | (simp; done) | (simp; omega)))
  replace HR := Lib.hid (HR.out.go hk)
  replace HX := Lib.hid (HX.out.go hk)
  replace BEL : Hid (Below w.heap.size w w2) := Lib.hid (BEL.out.trans (hk.mono BEL.out.size))
  have z_w2 := hk.size; have y_w2 := BEL.out.size; clear hk hb2
  clear pR0 fR0 zR zR_1 zR_2 zR_3 pX0 pX1 fX0 fX1 zX zX_1 zX_2 zX_3
  obtain ⟨pR0, fR0, zR, zR_1, zR_2, zR_3⟩ := HR.out.one'
  obtain ⟨pX0, pX1, fX0, fX1, zX, zX_1, zX_2, zX_3⟩ := HX.out.two'
  go_wp2_with fail
  refine (add_yes' C cc caps (some ⟨w.heap.size, 0, none⟩) 1 [l] A c l (w.heap.size + 1) _ (by first | omega | (focus (simp; done)) | (simp; omega)) ((HC.out.below (by repeat (first | with_reducible exact BEL.out | with_reducible apply Below.alloc | with_reducible apply Below.setCell | with_reducible apply Below.drew | with_reducible apply below_drewN | (first | omega | (focus (simp; done)) | (focus (simp; omega)) | (focus (simp [World.setCell]; omega))))) (Nat.le_refl _)).more (Nat.le_succ _)) (Rows2.blk1 (l1 := l) (by repeat (first | with_reducible exact HR.out | with_reducible apply Blk.alloc)) ((HI.out.below (by repeat (first | with_reducible exact BEL.out | with_reducible apply Below.alloc | with_reducible apply Below.setCell | with_reducible apply Below.drew | with_reducible apply below_drewN | (first | omega | (focus (simp; done)) | (focus (simp; omega)) | (focus (simp [World.setCell]; omega))))) (Nat.le_refl _)).more (Nat.le_succ _)) (Nat.lt_succ_self _)) ((HI.out.below (by repeat (first | with_reducible exact BEL.out | with_reducible apply Below.alloc | with_reducible apply Below.setCell | with_reducible apply Below.drew | with_reducible apply below_drewN | (first | omega | (focus (simp; done)) | (focus (simp; omega)) | (focus (simp [World.setCell]; omega))))) (Nat.le_refl _)).more (Nat.le_succ _)) HA.out).mono ?_; rintro e w3 ⟨C1, cc1, P1, cp1, rfl, hc1, hp1, hb3⟩
  have hk : Below w2.heap.size w2 w3 := Below.trans (by repeat (first | with_reducible exact Below.refl _ _ | with_reducible apply Below.drew | with_reducible apply below_drewN | with_reducible apply Below.alloc | omega | (focus (simp; done)) | (simp; omega))) (hb3.mono (by first | omega | (simp; done) | (simp; omega)))
  replace HR := Lib.hid (HR.out.go hk)
  replace HX := Lib.hid (HX.out.go hk)
  replace BEL : Hid (Below w.heap.size w w3) := Lib.hid (BEL.out.trans (hk.mono BEL.out.size))
  have z_w3 := hk.size; have y_w3 := BEL.out.size; clear hk hb3
  clear pR0 fR0 zR zR_1 zR_2 zR_3 pX0 pX1 fX0 fX1 zX zX_1 zX_2 zX_3
  obtain ⟨pR0, fR0, zR, zR_1, zR_2, zR_3⟩ := HR.out.one'
  obtain ⟨pX0, pX1, fX0, fX1, zX, zX_1, zX_2, zX_3⟩ := HX.out.two'
  have HC1 := Lib.hid hc1; have HP1 := Lib.hid hp1; clear hc1 hp1
  go_wp2_with fail
  refine (drop_yes' C1 cc1 caps P1 cp1 [l, l] [l] 0 2 _ _ (Nat.le_refl _) (HC1.out.at' (by repeat (first | with_reducible exact Below.refl _ _ | with_reducible apply Below.drew | with_reducible apply below_drewN | with_reducible apply Below.alloc | omega | (focus (simp; done)) | (simp; omega)))) (HP1.out.at' (by repeat (first | with_reducible exact Below.refl _ _ | with_reducible apply Below.drew | with_reducible apply below_drewN | with_reducible apply Below.alloc | omega | (focus (simp; done)) | (simp; omega)))) H2.out (by simp) (by simp) rfl rfl).mono ?_; rintro e w4 ⟨C2, cc2, P2, cp2, rfl, hc2, hp2, hb4⟩
  have hk : Below w3.heap.size w3 w4 := Below.trans (by repeat (first | with_reducible exact Below.refl _ _ | with_reducible apply Below.drew | with_reducible apply below_drewN | with_reducible apply Below.alloc | omega | (focus (simp; done)) | (simp; omega))) (hb4.mono (by first | omega | (simp; done) | (simp; omega)))
  replace HR := Lib.hid (HR.out.go hk)
  replace HX := Lib.hid (HX.out.go hk)
  replace HC1 := Lib.hid (HC1.out.at' hk)
  replace HP1 := Lib.hid (HP1.out.at' hk)
  have HM := Lib.hid (show Blk w4 (w3.heap.size) 64 _ from Blk.go (by repeat (first | (with_reducible apply Blk.new'; first | with_reducible rfl | (focus (simp; done))) | with_reducible apply Blk.alloc | with_reducible apply Blk.drew | with_reducible apply Blk.drewN)) hb4)
  replace BEL : Hid (Below w.heap.size w w4) := Lib.hid (BEL.out.trans (hk.mono BEL.out.size))
  have z_w4 := hk.size; have y_w4 := BEL.out.size; clear hk hb4
  clear pR0 fR0 zR zR_1 zR_2 zR_3 pX0 pX1 fX0 fX1 zX zX_1 zX_2 zX_3
  obtain ⟨pR0, fR0, zR, zR_1, zR_2, zR_3⟩ := HR.out.one'
  obtain ⟨pX0, pX1, fX0, fX1, zX, zX_1, zX_2, zX_3⟩ := HX.out.two'
  obtain ⟨pM0, pM1, fM0, fM1, zM, zM_1, zM_2, zM_3⟩ := HM.out.two'
  have HC2 := Lib.hid hc2; have HP2 := Lib.hid hp2; clear hc2 hp2
  go_wp2_with fail
  refine (same_hit 5 _ (LAID.out.below (by repeat (first | with_reducible exact BEL.out | with_reducible apply Below.alloc | with_reducible apply Below.setCell | with_reducible apply Below.drew | with_reducible apply below_drewN | (first | omega | (focus (simp; done)) | (focus (simp; omega)) | (focus (simp [World.setCell]; omega))))))).mono ?_; rintro e w5 ⟨rfl, hb5⟩
  have hk : Below w4.heap.size w4 w5 := Below.trans (by repeat (first | with_reducible exact Below.refl _ _ | with_reducible apply Below.drew | with_reducible apply below_drewN | with_reducible apply Below.alloc | omega | (focus (simp; done)) | (simp; omega))) (hb5.mono (by first | omega | (simp; done) | (simp; omega)))
  replace HR := Lib.hid (HR.out.go hk)
  replace HX := Lib.hid (HX.out.go hk)
  replace HM := Lib.hid (HM.out.go hk)
  replace HC1 := Lib.hid (HC1.out.at' hk)
  replace HP1 := Lib.hid (HP1.out.at' hk)
  replace HC2 := Lib.hid (HC2.out.at' hk)
  replace HP2 := Lib.hid (HP2.out.at' hk)
  have HY := Lib.hid (show Blk w5 (w4.heap.size) 64 _ from Blk.go (by repeat (first | (with_reducible apply Blk.new'; first | with_reducible rfl | (focus (simp; done))) | with_reducible apply Blk.alloc | with_reducible apply Blk.drew | with_reducible apply Blk.drewN)) hb5)
  replace BEL : Hid (Below w.heap.size w w5) := Lib.hid (BEL.out.trans (hk.mono BEL.out.size))
  have z_w5 := hk.size; have y_w5 := BEL.out.size; clear hk hb5
  clear pR0 fR0 zR zR_1 zR_2 zR_3 pX0 pX1 fX0 fX1 zX zX_1 zX_2 zX_3 pM0 pM1 fM0 fM1 zM zM_1 zM_2 zM_3
  obtain ⟨pR0, fR0, zR, zR_1, zR_2, zR_3⟩ := HR.out.one'
  obtain ⟨pX0, pX1, fX0, fX1, zX, zX_1, zX_2, zX_3⟩ := HX.out.two'
  obtain ⟨pM0, pM1, fM0, fM1, zM, zM_1, zM_2, zM_3⟩ := HM.out.two'
  obtain ⟨pY0, pY1, fY0, fY1, zY, zY_1, zY_2, zY_3⟩ := HY.out.two'
  go_wp2_with fail
  refine (sameNet_n C2 C P2 (some ⟨w.heap.size, 0, none⟩) cc2 cc cp2 1 _ _ _ _ caps [l] _ (w.heap.size + 1) _ (HC2.out.at' (by repeat (first | with_reducible exact Below.refl _ _ | with_reducible apply Below.drew | with_reducible apply below_drewN | with_reducible apply Below.alloc | omega | (focus (simp; done)) | (simp; omega)))) ((HC.out.below (by repeat (first | with_reducible exact BEL.out | with_reducible apply Below.alloc | with_reducible apply Below.setCell | with_reducible apply Below.drew | with_reducible apply below_drewN | (first | omega | (focus (simp; done)) | (focus (simp; omega)) | (focus (simp [World.setCell]; omega))))) (Nat.le_refl _)).more (Nat.le_succ _)) (HP2.out.at' (by repeat (first | with_reducible exact Below.refl _ _ | with_reducible apply Below.drew | with_reducible apply below_drewN | with_reducible apply Below.alloc | omega | (focus (simp; done)) | (simp; omega)))) (Rows2.blk1 (l1 := l) (by repeat (first | with_reducible exact HR.out | with_reducible apply Blk.alloc)) ((HI.out.below (by repeat (first | with_reducible exact BEL.out | with_reducible apply Below.alloc | with_reducible apply Below.setCell | with_reducible apply Below.drew | with_reducible apply below_drewN | (first | omega | (focus (simp; done)) | (focus (simp; omega)) | (focus (simp [World.setCell]; omega))))) (Nat.le_refl _)).more (Nat.le_succ _)) (Nat.lt_succ_self _)) (Nat.le_refl _) (by first | omega | (focus (simp; done)) | (simp; omega)) rfl rfl rfl rfl).mono ?_; rintro e w6 ⟨rfl, hb6⟩
  have hk : Below w5.heap.size w5 w6 := Below.trans (by repeat (first | with_reducible exact Below.refl _ _ | with_reducible apply Below.drew | with_reducible apply below_drewN | with_reducible apply Below.alloc | omega | (focus (simp; done)) | (simp; omega))) (hb6.mono (by first | omega | (simp; done) | (simp; omega)))
  replace HR := Lib.hid (HR.out.go hk)
  replace HX := Lib.hid (HX.out.go hk)
  replace HM := Lib.hid (HM.out.go hk)
  replace HY := Lib.hid (HY.out.go hk)
  replace HC1 := Lib.hid (HC1.out.at' hk)
  replace HP1 := Lib.hid (HP1.out.at' hk)
  replace HC2 := Lib.hid (HC2.out.at' hk)
  replace HP2 := Lib.hid (HP2.out.at' hk)
  replace BEL : Hid (Below w.heap.size w w6) := Lib.hid (BEL.out.trans (hk.mono BEL.out.size))
  have z_w6 := hk.size; have y_w6 := BEL.out.size; clear hk hb6
  clear pR0 fR0 zR zR_1 zR_2 zR_3 pX0 pX1 fX0 fX1 zX zX_1 zX_2 zX_3 pM0 pM1 fM0 fM1 zM zM_1 zM_2 zM_3 pY0 pY1 fY0 fY1 zY zY_1 zY_2 zY_3
  obtain ⟨pR0, fR0, zR, zR_1, zR_2, zR_3⟩ := HR.out.one'
  obtain ⟨pX0, pX1, fX0, fX1, zX, zX_1, zX_2, zX_3⟩ := HX.out.two'
  obtain ⟨pM0, pM1, fM0, fM1, zM, zM_1, zM_2, zM_3⟩ := HM.out.two'
  obtain ⟨pY0, pY1, fY0, fY1, zY, zY_1, zY_2, zY_3⟩ := HY.out.two'
  go_wp2
  go_ret
  exact ⟨rfl, (by repeat (first | with_reducible exact BEL.out | with_reducible apply Below.alloc | with_reducible apply Below.setCell | with_reducible apply Below.drew | with_reducible apply below_drewN | (first | omega | (focus (simp; done)) | (focus (simp; omega)) | (focus (simp [World.setCell]; omega)))))⟩
theorem netLone_walk (w : World) (C : Option Addr) (cc : Nat) (caps : List Int) (hc : Ints w w.heap.size C cc caps) (_ : ∀ n ∈ caps, (Lit.int .i64 n).wf = true) (A : Option Addr) (c : Nat) (l : List Int) (hi : Ints w w.heap.size A c l) (_ : ∀ n ∈ l, (Lit.int .i64 n).wf = true) (hg : Laid w) :
    Calls Tryd.prog 5 #[.slice C caps.length cc, .slice A l.length c] w fun e w' => e = .returned (.bool true) ∧ Below w.heap.size w w' := by
  by_cases he : netErr caps [l] = 0
  · exact netLone_yes C cc caps A c l w hg hc hi he
  · exact netLone_err C cc caps A c l w hg hc hi _ rfl he
end Go.Proofs.YthffjnfnfddpdaaDoor
