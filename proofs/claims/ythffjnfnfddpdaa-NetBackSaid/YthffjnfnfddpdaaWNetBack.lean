/- The walk of NetBack: it returns true for every input. -/
import Derived.Test.YthffjnfnfddpdaaNetLaw
namespace Go.Proofs.Ythffjnfnfddpdaa
open Go.RowKit
attribute [local go_sem ↓] run_min_mn run_max_mx
theorem back_fact (g1 g2 g3 g4 : Nat) (w : World) (h1 : Blk w g1 3 #[.int .i64 5, .int .i64 5]) (h2 : Blk w g2 3 #[.int .i64 0]) (h3 : Blk w g3 3 #[.int .i64 1, .int .i64 0]) (h4 : Blk w g4 38 #[.slice (some ⟨g2, 0, none⟩) 1 1, .slice (some ⟨g3, 0, none⟩) 2 2]) :
    Calls Try.prog 34 #[.agg #[.slice (some ⟨g1, 0, none⟩) 2 2, .slice (some ⟨g4, 0, none⟩) 2 2], .int .i64 0] w fun e w' => ∃ g c, e = .returned (.tuple #[.slice (some ⟨g, 0, none⟩) 2 c, .nilIface]) ∧ w'.cell? ⟨g, 1, none⟩ = some (.int .i64 1) ∧ 1 < c ∧ Below w.heap.size w w' := by
  have i1 := Ints.blk (l := [5, 5]) (B := w.heap.size) h1 h1.lt (by decide)
  have i2 := Ints.blk (l := [0]) (B := w.heap.size) h2 h2.lt (by decide)
  have i3 := Ints.blk (l := [1, 0]) (B := w.heap.size) h3 h3.lt (by decide)
  refine (users_yes _ 2 [5, 5] _ 2 [[0], [1, 0]] 0 w.heap.size w (Nat.le_refl _) i1 (Rows2.blk2 (l1 := [0]) (l2 := [1, 0]) h4 i2 i3 h4.lt) (by decide)).mono ?_
  rintro e w' ⟨v, he, hv, hb⟩
  have hu : users [[0], [1, 0]] 0 = [0, 1] := by decide
  rw [hu] at hv
  obtain ⟨g, cap, rfl, _, _, hc, _⟩ := own_form hv (by decide)
  exact ⟨g, cap, he, hv.cellAt 1 (by decide), hc, hb⟩
set_option maxHeartbeats 8000000 in
set_option maxRecDepth 100000 in
theorem netBack_err (C : Option Addr) (cc : Nat) (caps : List Int) (P : Option Addr) (cp : Nat) (paths : List (List Int)) (A : Option Addr) (c : Nat) (l : List Int) (x : Int) (w : World) (hc : Ints w w.heap.size C cc caps) (hp : Rows2 w w.heap.size P cp paths) (hi : Ints w w.heap.size A c l) (er : Int) (he : addErr caps paths l = er) (h0 : er ≠ 0) :
    Calls Try.prog 7 #[.agg #[.slice C caps.length cc, .slice P paths.length cp], .slice A l.length c, .int .i64 x] w fun e w' => e = .returned (.bool true) ∧ Below w.heap.size w w' := by
  have HC := Lib.hid hc
  have HP := Lib.hid hp
  have HI := Lib.hid hi
  clear hc hp hi
  have HE := Lib.hid he; have H0 := Lib.hid h0; clear he h0
  have BEL : Hid (Below w.heap.size w w) := Lib.hid (Below.refl _ _)
  have yB : w.heap.size ≤ w.heap.size := Nat.le_refl _
  go_enter Try.func7, Try.ntmps7
  go_wp2_with fail
  refine (back_fact (w.heap.size + 1) (w.heap.size + 1 + 1) (w.heap.size + 1 + 1 + 1) (w.heap.size + 1 + 1 + 1 + 1) _ (by repeat (first | (with_reducible apply Blk.new'; first | with_reducible rfl | (focus (simp; done))) | with_reducible apply Blk.alloc)) (by repeat (first | (with_reducible apply Blk.new'; first | with_reducible rfl | (focus (simp; done))) | with_reducible apply Blk.alloc)) (by repeat (first | (with_reducible apply Blk.new'; first | with_reducible rfl | (focus (simp; done))) | with_reducible apply Blk.alloc)) (by repeat (first | (with_reducible apply Blk.new'; first | with_reducible rfl | (focus (simp; done))) | with_reducible apply Blk.alloc))).mono ?_; rintro e w1 ⟨g0, c0, rfl, hcell, hc0, hb1⟩
  have hk : Below w.heap.size w w1 := Below.trans (by repeat (first | with_reducible exact Below.refl _ _ | with_reducible apply Below.drew | with_reducible apply below_drewN | with_reducible apply Below.alloc | omega | (focus (simp; done)) | (simp; omega))) (hb1.mono (by first | omega | (simp; done) | (simp; omega)))
  have HN := Lib.hid (show Blk w1 (w.heap.size) 56 _ from Blk.go (by repeat (first | (with_reducible apply Blk.new'; first | with_reducible rfl | (focus (simp; done))) | with_reducible apply Blk.alloc | with_reducible apply Blk.drew | with_reducible apply Blk.drewN)) hb1)
  replace BEL : Hid (Below w.heap.size w w1) := Lib.hid (BEL.out.trans (hk.mono BEL.out.size))
  have z_w1 := hk.size; have y_w1 := BEL.out.size; clear hk hb1
  obtain ⟨pN0, pN1, fN0, fN1, zN, zN_1, zN_2, zN_3⟩ := HN.out.two'
  have hcell0 := Lib.hid hcell
  have d0 : (1 : Int) < (2 : Int) := by omega
  go_wp2_with fail
  refine (add_no C cc caps P cp paths A c l w.heap.size _ er (by first | omega | (focus (simp; done)) | (simp; omega)) (HC.out.below (by repeat (first | with_reducible exact BEL.out | with_reducible apply Below.alloc | with_reducible apply Below.setCell | with_reducible apply Below.drew | with_reducible apply below_drewN | (first | omega | (focus (simp; done)) | (focus (simp; omega)) | (focus (simp [World.setCell]; omega))))) (Nat.le_refl _)) (HP.out.below (by repeat (first | with_reducible exact BEL.out | with_reducible apply Below.alloc | with_reducible apply Below.setCell | with_reducible apply Below.drew | with_reducible apply below_drewN | (first | omega | (focus (simp; done)) | (focus (simp; omega)) | (focus (simp [World.setCell]; omega))))) (Nat.le_refl _)) (HI.out.below (by repeat (first | with_reducible exact BEL.out | with_reducible apply Below.alloc | with_reducible apply Below.setCell | with_reducible apply Below.drew | with_reducible apply below_drewN | (first | omega | (focus (simp; done)) | (focus (simp; omega)) | (focus (simp [World.setCell]; omega))))) (Nat.le_refl _)) HE.out H0.out).mono ?_; rintro e w2 ⟨rfl, hb2⟩
  have hk : Below w1.heap.size w1 w2 := Below.trans (by repeat (first | with_reducible exact Below.refl _ _ | with_reducible apply Below.drew | with_reducible apply below_drewN | with_reducible apply Below.alloc | omega | (focus (simp; done)) | (simp; omega))) (hb2.mono (by first | omega | (simp; done) | (simp; omega)))
  replace HN := Lib.hid (HN.out.go hk)
  replace BEL : Hid (Below w.heap.size w w2) := Lib.hid (BEL.out.trans (hk.mono BEL.out.size))
  have z_w2 := hk.size; have y_w2 := BEL.out.size; clear hk hb2
  clear pN0 pN1 fN0 fN1 zN zN_1 zN_2 zN_3
  obtain ⟨pN0, pN1, fN0, fN1, zN, zN_1, zN_2, zN_3⟩ := HN.out.two'
  go_wp2
  go_ret
  exact ⟨rfl, (by repeat (first | with_reducible exact BEL.out | with_reducible apply Below.alloc | with_reducible apply Below.setCell | with_reducible apply Below.drew | with_reducible apply below_drewN | (first | omega | (focus (simp; done)) | (focus (simp; omega)) | (focus (simp [World.setCell]; omega)))))⟩
set_option maxHeartbeats 8000000 in
set_option maxRecDepth 100000 in
theorem netBack_bad1 (C : Option Addr) (cc : Nat) (caps : List Int) (P : Option Addr) (cp : Nat) (paths : List (List Int)) (A : Option Addr) (c : Nat) (l : List Int) (x : Int) (w : World) (hc : Ints w w.heap.size C cc caps) (hp : Rows2 w w.heap.size P cp paths) (hi : Ints w w.heap.size A c l) (he : addErr caps paths l = 0) (hx : x < 0) :
    Calls Try.prog 7 #[.agg #[.slice C caps.length cc, .slice P paths.length cp], .slice A l.length c, .int .i64 x] w fun e w' => e = .returned (.bool true) ∧ Below w.heap.size w w' := by
  have HC := Lib.hid hc
  have HP := Lib.hid hp
  have HI := Lib.hid hi
  clear hc hp hi
  have e1 : usersErr caps (paths ++ [l]) x = 1 := by unfold usersErr; rw [if_pos (addErr_ok he).2.2.2, if_pos (by omega)]
  have e2 : usersErr caps paths x = 1 := by unfold usersErr; rw [if_pos (addErr_ok he).1, if_pos (by omega)]
  have E1 := Lib.hid e1; have E2 := Lib.hid e2; clear e1 e2
  have hA := addErr_ok he
  obtain ⟨a1, a2, a3, a4⟩ := hA
  obtain ⟨k0, k1, k2, k3, _, _⟩ := netErr_ok a1
  have A4 := Lib.hid a4; have HE := Lib.hid he; clear a1 a2 a3 a4 he
  have BEL : Hid (Below w.heap.size w w) := Lib.hid (Below.refl _ _)
  have yB : w.heap.size ≤ w.heap.size := Nat.le_refl _
  go_enter Try.func7, Try.ntmps7
  go_wp2_with fail
  refine (back_fact (w.heap.size + 1) (w.heap.size + 1 + 1) (w.heap.size + 1 + 1 + 1) (w.heap.size + 1 + 1 + 1 + 1) _ (by repeat (first | (with_reducible apply Blk.new'; first | with_reducible rfl | (focus (simp; done))) | with_reducible apply Blk.alloc)) (by repeat (first | (with_reducible apply Blk.new'; first | with_reducible rfl | (focus (simp; done))) | with_reducible apply Blk.alloc)) (by repeat (first | (with_reducible apply Blk.new'; first | with_reducible rfl | (focus (simp; done))) | with_reducible apply Blk.alloc)) (by repeat (first | (with_reducible apply Blk.new'; first | with_reducible rfl | (focus (simp; done))) | with_reducible apply Blk.alloc))).mono ?_; rintro e w1 ⟨g0, c0, rfl, hcell, hc0, hb1⟩
  have hk : Below w.heap.size w w1 := Below.trans (by repeat (first | with_reducible exact Below.refl _ _ | with_reducible apply Below.drew | with_reducible apply below_drewN | with_reducible apply Below.alloc | omega | (focus (simp; done)) | (simp; omega))) (hb1.mono (by first | omega | (simp; done) | (simp; omega)))
  have HN := Lib.hid (show Blk w1 (w.heap.size) 56 _ from Blk.go (by repeat (first | (with_reducible apply Blk.new'; first | with_reducible rfl | (focus (simp; done))) | with_reducible apply Blk.alloc | with_reducible apply Blk.drew | with_reducible apply Blk.drewN)) hb1)
  replace BEL : Hid (Below w.heap.size w w1) := Lib.hid (BEL.out.trans (hk.mono BEL.out.size))
  have z_w1 := hk.size; have y_w1 := BEL.out.size; clear hk hb1
  obtain ⟨pN0, pN1, fN0, fN1, zN, zN_1, zN_2, zN_3⟩ := HN.out.two'
  have hcell0 := Lib.hid hcell
  have d0 : (1 : Int) < (2 : Int) := by omega
  go_wp2_with fail
  refine (add_yes' C cc caps P cp paths A c l w.heap.size _ (by first | omega | (focus (simp; done)) | (simp; omega)) (HC.out.below (by repeat (first | with_reducible exact BEL.out | with_reducible apply Below.alloc | with_reducible apply Below.setCell | with_reducible apply Below.drew | with_reducible apply below_drewN | (first | omega | (focus (simp; done)) | (focus (simp; omega)) | (focus (simp [World.setCell]; omega))))) (Nat.le_refl _)) (HP.out.below (by repeat (first | with_reducible exact BEL.out | with_reducible apply Below.alloc | with_reducible apply Below.setCell | with_reducible apply Below.drew | with_reducible apply below_drewN | (first | omega | (focus (simp; done)) | (focus (simp; omega)) | (focus (simp [World.setCell]; omega))))) (Nat.le_refl _)) (HI.out.below (by repeat (first | with_reducible exact BEL.out | with_reducible apply Below.alloc | with_reducible apply Below.setCell | with_reducible apply Below.drew | with_reducible apply below_drewN | (first | omega | (focus (simp; done)) | (focus (simp; omega)) | (focus (simp [World.setCell]; omega))))) (Nat.le_refl _)) HE.out).mono ?_; rintro e w2 ⟨C1, cc1, P1, cp1, rfl, hc1, hp1, hb2⟩
  have hk : Below w1.heap.size w1 w2 := Below.trans (by repeat (first | with_reducible exact Below.refl _ _ | with_reducible apply Below.drew | with_reducible apply below_drewN | with_reducible apply Below.alloc | omega | (focus (simp; done)) | (simp; omega))) (hb2.mono (by first | omega | (simp; done) | (simp; omega)))
  replace HN := Lib.hid (HN.out.go hk)
  replace BEL : Hid (Below w.heap.size w w2) := Lib.hid (BEL.out.trans (hk.mono BEL.out.size))
  have z_w2 := hk.size; have y_w2 := BEL.out.size; clear hk hb2
  clear pN0 pN1 fN0 fN1 zN zN_1 zN_2 zN_3
  obtain ⟨pN0, pN1, fN0, fN1, zN, zN_1, zN_2, zN_3⟩ := HN.out.two'
  have HC1 := Lib.hid hc1; have HP1 := Lib.hid hp1; clear hc1 hp1 hcell
  go_wp2_with fail
  refine (drop_yes' C1 cc1 caps P1 cp1 (paths ++ [l]) paths paths.length (paths.length + 1) _ _ (Nat.le_refl _) (HC1.out.at' (by repeat (first | with_reducible exact Below.refl _ _ | with_reducible apply Below.drew | with_reducible apply below_drewN | with_reducible apply Below.alloc | omega | (focus (simp; done)) | (simp; omega)))) (HP1.out.at' (by repeat (first | with_reducible exact Below.refl _ _ | with_reducible apply Below.drew | with_reducible apply below_drewN | with_reducible apply Below.alloc | omega | (focus (simp; done)) | (simp; omega)))) A4.out (by simp) (by rw [List.length_append]; simp only [List.length_cons, List.length_nil]; omega) (by simp) (erase_last _ _)).mono ?_; rintro e w3 ⟨C2, cc2, P2, cp2, rfl, hc2, hp2, hb3⟩
  have hk : Below w2.heap.size w2 w3 := Below.trans (by repeat (first | with_reducible exact Below.refl _ _ | with_reducible apply Below.drew | with_reducible apply below_drewN | with_reducible apply Below.alloc | omega | (focus (simp; done)) | (simp; omega))) (hb3.mono (by first | omega | (simp; done) | (simp; omega)))
  replace HN := Lib.hid (HN.out.go hk)
  replace HC1 := Lib.hid (HC1.out.at' hk)
  replace HP1 := Lib.hid (HP1.out.at' hk)
  have HX := Lib.hid (show Blk w3 (w2.heap.size) 56 _ from Blk.go (by repeat (first | (with_reducible apply Blk.new'; first | with_reducible rfl | (focus (simp; done))) | with_reducible apply Blk.alloc | with_reducible apply Blk.drew | with_reducible apply Blk.drewN)) hb3)
  replace BEL : Hid (Below w.heap.size w w3) := Lib.hid (BEL.out.trans (hk.mono BEL.out.size))
  have z_w3 := hk.size; have y_w3 := BEL.out.size; clear hk hb3
  clear pN0 pN1 fN0 fN1 zN zN_1 zN_2 zN_3
  obtain ⟨pN0, pN1, fN0, fN1, zN, zN_1, zN_2, zN_3⟩ := HN.out.two'
  obtain ⟨pX0, pX1, fX0, fX1, zX, zX_1, zX_2, zX_3⟩ := HX.out.two'
  have HC2 := Lib.hid hc2; have HP2 := Lib.hid hp2; clear hc2 hp2
  go_wp2_with fail
  refine (sameNet_n C2 C P2 P cc2 cc cp2 cp _ _ _ _ caps paths _ w.heap.size _ (HC2.out.at' (by repeat (first | with_reducible exact Below.refl _ _ | with_reducible apply Below.drew | with_reducible apply below_drewN | with_reducible apply Below.alloc | omega | (focus (simp; done)) | (simp; omega)))) (HC.out.below (by repeat (first | with_reducible exact BEL.out | with_reducible apply Below.alloc | with_reducible apply Below.setCell | with_reducible apply Below.drew | with_reducible apply below_drewN | (first | omega | (focus (simp; done)) | (focus (simp; omega)) | (focus (simp [World.setCell]; omega))))) (Nat.le_refl _)) (HP2.out.at' (by repeat (first | with_reducible exact Below.refl _ _ | with_reducible apply Below.drew | with_reducible apply below_drewN | with_reducible apply Below.alloc | omega | (focus (simp; done)) | (simp; omega)))) (HP.out.below (by repeat (first | with_reducible exact BEL.out | with_reducible apply Below.alloc | with_reducible apply Below.setCell | with_reducible apply Below.drew | with_reducible apply below_drewN | (first | omega | (focus (simp; done)) | (focus (simp; omega)) | (focus (simp [World.setCell]; omega))))) (Nat.le_refl _)) (Nat.le_refl _) (by first | omega | (focus (simp; done)) | (simp; omega)) rfl rfl rfl rfl).mono ?_; rintro e w4 ⟨rfl, hb4⟩
  have hk : Below w3.heap.size w3 w4 := Below.trans (by repeat (first | with_reducible exact Below.refl _ _ | with_reducible apply Below.drew | with_reducible apply below_drewN | with_reducible apply Below.alloc | omega | (focus (simp; done)) | (simp; omega))) (hb4.mono (by first | omega | (simp; done) | (simp; omega)))
  replace HN := Lib.hid (HN.out.go hk)
  replace HX := Lib.hid (HX.out.go hk)
  replace HC1 := Lib.hid (HC1.out.at' hk)
  replace HP1 := Lib.hid (HP1.out.at' hk)
  replace HC2 := Lib.hid (HC2.out.at' hk)
  replace HP2 := Lib.hid (HP2.out.at' hk)
  have HY := Lib.hid (show Blk w4 (w3.heap.size) 56 _ from Blk.go (by repeat (first | (with_reducible apply Blk.new'; first | with_reducible rfl | (focus (simp; done))) | with_reducible apply Blk.alloc | with_reducible apply Blk.drew | with_reducible apply Blk.drewN)) hb4)
  replace BEL : Hid (Below w.heap.size w w4) := Lib.hid (BEL.out.trans (hk.mono BEL.out.size))
  have z_w4 := hk.size; have y_w4 := BEL.out.size; clear hk hb4
  clear pN0 pN1 fN0 fN1 zN zN_1 zN_2 zN_3 pX0 pX1 fX0 fX1 zX zX_1 zX_2 zX_3
  obtain ⟨pN0, pN1, fN0, fN1, zN, zN_1, zN_2, zN_3⟩ := HN.out.two'
  obtain ⟨pX0, pX1, fX0, fX1, zX, zX_1, zX_2, zX_3⟩ := HX.out.two'
  obtain ⟨pY0, pY1, fY0, fY1, zY, zY_1, zY_2, zY_3⟩ := HY.out.two'
  go_wp2_with fail
  refine (users_no' C1 cc1 caps P1 cp1 (paths.length + 1) (paths ++ [l]) x _ _ 1 (Nat.le_refl _) (HC1.out.at' (by repeat (first | with_reducible exact Below.refl _ _ | with_reducible apply Below.drew | with_reducible apply below_drewN | with_reducible apply Below.alloc | omega | (focus (simp; done)) | (simp; omega)))) (HP1.out.at' (by repeat (first | with_reducible exact Below.refl _ _ | with_reducible apply Below.drew | with_reducible apply below_drewN | with_reducible apply Below.alloc | omega | (focus (simp; done)) | (simp; omega)))) (by simp) E1.out (by decide)).mono ?_; rintro e w5 ⟨rfl, hb5⟩
  have hk : Below w4.heap.size w4 w5 := Below.trans (by repeat (first | with_reducible exact Below.refl _ _ | with_reducible apply Below.drew | with_reducible apply below_drewN | with_reducible apply Below.alloc | omega | (focus (simp; done)) | (simp; omega))) (hb5.mono (by first | omega | (simp; done) | (simp; omega)))
  replace HN := Lib.hid (HN.out.go hk)
  replace HX := Lib.hid (HX.out.go hk)
  replace HY := Lib.hid (HY.out.go hk)
  replace HC1 := Lib.hid (HC1.out.at' hk)
  replace HP1 := Lib.hid (HP1.out.at' hk)
  replace HC2 := Lib.hid (HC2.out.at' hk)
  replace HP2 := Lib.hid (HP2.out.at' hk)
  replace BEL : Hid (Below w.heap.size w w5) := Lib.hid (BEL.out.trans (hk.mono BEL.out.size))
  have z_w5 := hk.size; have y_w5 := BEL.out.size; clear hk hb5
  clear pN0 pN1 fN0 fN1 zN zN_1 zN_2 zN_3 pX0 pX1 fX0 fX1 zX zX_1 zX_2 zX_3 pY0 pY1 fY0 fY1 zY zY_1 zY_2 zY_3
  obtain ⟨pN0, pN1, fN0, fN1, zN, zN_1, zN_2, zN_3⟩ := HN.out.two'
  obtain ⟨pX0, pX1, fX0, fX1, zX, zX_1, zX_2, zX_3⟩ := HX.out.two'
  obtain ⟨pY0, pY1, fY0, fY1, zY, zY_1, zY_2, zY_3⟩ := HY.out.two'
  go_wp2_with fail
  refine (users_no' C cc caps P cp paths.length paths x w.heap.size _ 1 (by first | omega | (focus (simp; done)) | (simp; omega)) (HC.out.below (by repeat (first | with_reducible exact BEL.out | with_reducible apply Below.alloc | with_reducible apply Below.setCell | with_reducible apply Below.drew | with_reducible apply below_drewN | (first | omega | (focus (simp; done)) | (focus (simp; omega)) | (focus (simp [World.setCell]; omega))))) (Nat.le_refl _)) (HP.out.below (by repeat (first | with_reducible exact BEL.out | with_reducible apply Below.alloc | with_reducible apply Below.setCell | with_reducible apply Below.drew | with_reducible apply below_drewN | (first | omega | (focus (simp; done)) | (focus (simp; omega)) | (focus (simp [World.setCell]; omega))))) (Nat.le_refl _)) rfl E2.out (by decide)).mono ?_; rintro e w6 ⟨rfl, hb6⟩
  have hk : Below w5.heap.size w5 w6 := Below.trans (by repeat (first | with_reducible exact Below.refl _ _ | with_reducible apply Below.drew | with_reducible apply below_drewN | with_reducible apply Below.alloc | omega | (focus (simp; done)) | (simp; omega))) (hb6.mono (by first | omega | (simp; done) | (simp; omega)))
  replace HN := Lib.hid (HN.out.go hk)
  replace HX := Lib.hid (HX.out.go hk)
  replace HY := Lib.hid (HY.out.go hk)
  replace HC1 := Lib.hid (HC1.out.at' hk)
  replace HP1 := Lib.hid (HP1.out.at' hk)
  replace HC2 := Lib.hid (HC2.out.at' hk)
  replace HP2 := Lib.hid (HP2.out.at' hk)
  replace BEL : Hid (Below w.heap.size w w6) := Lib.hid (BEL.out.trans (hk.mono BEL.out.size))
  have z_w6 := hk.size; have y_w6 := BEL.out.size; clear hk hb6
  clear pN0 pN1 fN0 fN1 zN zN_1 zN_2 zN_3 pX0 pX1 fX0 fX1 zX zX_1 zX_2 zX_3 pY0 pY1 fY0 fY1 zY zY_1 zY_2 zY_3
  obtain ⟨pN0, pN1, fN0, fN1, zN, zN_1, zN_2, zN_3⟩ := HN.out.two'
  obtain ⟨pX0, pX1, fX0, fX1, zX, zX_1, zX_2, zX_3⟩ := HX.out.two'
  obtain ⟨pY0, pY1, fY0, fY1, zY, zY_1, zY_2, zY_3⟩ := HY.out.two'
  go_wp2
  go_ret
  exact ⟨rfl, (by repeat (first | with_reducible exact BEL.out | with_reducible apply Below.alloc | with_reducible apply Below.setCell | with_reducible apply Below.drew | with_reducible apply below_drewN | (first | omega | (focus (simp; done)) | (focus (simp; omega)) | (focus (simp [World.setCell]; omega)))))⟩
set_option maxHeartbeats 8000000 in
set_option maxRecDepth 100000 in
theorem netBack_bad2 (C : Option Addr) (cc : Nat) (caps : List Int) (P : Option Addr) (cp : Nat) (paths : List (List Int)) (A : Option Addr) (c : Nat) (l : List Int) (x : Int) (w : World) (hc : Ints w w.heap.size C cc caps) (hp : Rows2 w w.heap.size P cp paths) (hi : Ints w w.heap.size A c l) (he : addErr caps paths l = 0) (hx0 : ¬ x < 0) (hx : (caps.length : Int) ≤ x) :
    Calls Try.prog 7 #[.agg #[.slice C caps.length cc, .slice P paths.length cp], .slice A l.length c, .int .i64 x] w fun e w' => e = .returned (.bool true) ∧ Below w.heap.size w w' := by
  have HC := Lib.hid hc
  have HP := Lib.hid hp
  have HI := Lib.hid hi
  clear hc hp hi
  have e1 : usersErr caps (paths ++ [l]) x = 1 := by unfold usersErr; rw [if_pos (addErr_ok he).2.2.2, if_pos (by omega)]
  have e2 : usersErr caps paths x = 1 := by unfold usersErr; rw [if_pos (addErr_ok he).1, if_pos (by omega)]
  have E1 := Lib.hid e1; have E2 := Lib.hid e2; clear e1 e2
  have hA := addErr_ok he
  obtain ⟨a1, a2, a3, a4⟩ := hA
  obtain ⟨k0, k1, k2, k3, _, _⟩ := netErr_ok a1
  have A4 := Lib.hid a4; have HE := Lib.hid he; clear a1 a2 a3 a4 he
  have BEL : Hid (Below w.heap.size w w) := Lib.hid (Below.refl _ _)
  have yB : w.heap.size ≤ w.heap.size := Nat.le_refl _
  go_enter Try.func7, Try.ntmps7
  go_wp2_with fail
  refine (back_fact (w.heap.size + 1) (w.heap.size + 1 + 1) (w.heap.size + 1 + 1 + 1) (w.heap.size + 1 + 1 + 1 + 1) _ (by repeat (first | (with_reducible apply Blk.new'; first | with_reducible rfl | (focus (simp; done))) | with_reducible apply Blk.alloc)) (by repeat (first | (with_reducible apply Blk.new'; first | with_reducible rfl | (focus (simp; done))) | with_reducible apply Blk.alloc)) (by repeat (first | (with_reducible apply Blk.new'; first | with_reducible rfl | (focus (simp; done))) | with_reducible apply Blk.alloc)) (by repeat (first | (with_reducible apply Blk.new'; first | with_reducible rfl | (focus (simp; done))) | with_reducible apply Blk.alloc))).mono ?_; rintro e w1 ⟨g0, c0, rfl, hcell, hc0, hb1⟩
  have hk : Below w.heap.size w w1 := Below.trans (by repeat (first | with_reducible exact Below.refl _ _ | with_reducible apply Below.drew | with_reducible apply below_drewN | with_reducible apply Below.alloc | omega | (focus (simp; done)) | (simp; omega))) (hb1.mono (by first | omega | (simp; done) | (simp; omega)))
  have HN := Lib.hid (show Blk w1 (w.heap.size) 56 _ from Blk.go (by repeat (first | (with_reducible apply Blk.new'; first | with_reducible rfl | (focus (simp; done))) | with_reducible apply Blk.alloc | with_reducible apply Blk.drew | with_reducible apply Blk.drewN)) hb1)
  replace BEL : Hid (Below w.heap.size w w1) := Lib.hid (BEL.out.trans (hk.mono BEL.out.size))
  have z_w1 := hk.size; have y_w1 := BEL.out.size; clear hk hb1
  obtain ⟨pN0, pN1, fN0, fN1, zN, zN_1, zN_2, zN_3⟩ := HN.out.two'
  have hcell0 := Lib.hid hcell
  have d0 : (1 : Int) < (2 : Int) := by omega
  go_wp2_with fail
  refine (add_yes' C cc caps P cp paths A c l w.heap.size _ (by first | omega | (focus (simp; done)) | (simp; omega)) (HC.out.below (by repeat (first | with_reducible exact BEL.out | with_reducible apply Below.alloc | with_reducible apply Below.setCell | with_reducible apply Below.drew | with_reducible apply below_drewN | (first | omega | (focus (simp; done)) | (focus (simp; omega)) | (focus (simp [World.setCell]; omega))))) (Nat.le_refl _)) (HP.out.below (by repeat (first | with_reducible exact BEL.out | with_reducible apply Below.alloc | with_reducible apply Below.setCell | with_reducible apply Below.drew | with_reducible apply below_drewN | (first | omega | (focus (simp; done)) | (focus (simp; omega)) | (focus (simp [World.setCell]; omega))))) (Nat.le_refl _)) (HI.out.below (by repeat (first | with_reducible exact BEL.out | with_reducible apply Below.alloc | with_reducible apply Below.setCell | with_reducible apply Below.drew | with_reducible apply below_drewN | (first | omega | (focus (simp; done)) | (focus (simp; omega)) | (focus (simp [World.setCell]; omega))))) (Nat.le_refl _)) HE.out).mono ?_; rintro e w2 ⟨C1, cc1, P1, cp1, rfl, hc1, hp1, hb2⟩
  have hk : Below w1.heap.size w1 w2 := Below.trans (by repeat (first | with_reducible exact Below.refl _ _ | with_reducible apply Below.drew | with_reducible apply below_drewN | with_reducible apply Below.alloc | omega | (focus (simp; done)) | (simp; omega))) (hb2.mono (by first | omega | (simp; done) | (simp; omega)))
  replace HN := Lib.hid (HN.out.go hk)
  replace BEL : Hid (Below w.heap.size w w2) := Lib.hid (BEL.out.trans (hk.mono BEL.out.size))
  have z_w2 := hk.size; have y_w2 := BEL.out.size; clear hk hb2
  clear pN0 pN1 fN0 fN1 zN zN_1 zN_2 zN_3
  obtain ⟨pN0, pN1, fN0, fN1, zN, zN_1, zN_2, zN_3⟩ := HN.out.two'
  have HC1 := Lib.hid hc1; have HP1 := Lib.hid hp1; clear hc1 hp1 hcell
  go_wp2_with fail
  refine (drop_yes' C1 cc1 caps P1 cp1 (paths ++ [l]) paths paths.length (paths.length + 1) _ _ (Nat.le_refl _) (HC1.out.at' (by repeat (first | with_reducible exact Below.refl _ _ | with_reducible apply Below.drew | with_reducible apply below_drewN | with_reducible apply Below.alloc | omega | (focus (simp; done)) | (simp; omega)))) (HP1.out.at' (by repeat (first | with_reducible exact Below.refl _ _ | with_reducible apply Below.drew | with_reducible apply below_drewN | with_reducible apply Below.alloc | omega | (focus (simp; done)) | (simp; omega)))) A4.out (by simp) (by rw [List.length_append]; simp only [List.length_cons, List.length_nil]; omega) (by simp) (erase_last _ _)).mono ?_; rintro e w3 ⟨C2, cc2, P2, cp2, rfl, hc2, hp2, hb3⟩
  have hk : Below w2.heap.size w2 w3 := Below.trans (by repeat (first | with_reducible exact Below.refl _ _ | with_reducible apply Below.drew | with_reducible apply below_drewN | with_reducible apply Below.alloc | omega | (focus (simp; done)) | (simp; omega))) (hb3.mono (by first | omega | (simp; done) | (simp; omega)))
  replace HN := Lib.hid (HN.out.go hk)
  replace HC1 := Lib.hid (HC1.out.at' hk)
  replace HP1 := Lib.hid (HP1.out.at' hk)
  have HX := Lib.hid (show Blk w3 (w2.heap.size) 56 _ from Blk.go (by repeat (first | (with_reducible apply Blk.new'; first | with_reducible rfl | (focus (simp; done))) | with_reducible apply Blk.alloc | with_reducible apply Blk.drew | with_reducible apply Blk.drewN)) hb3)
  replace BEL : Hid (Below w.heap.size w w3) := Lib.hid (BEL.out.trans (hk.mono BEL.out.size))
  have z_w3 := hk.size; have y_w3 := BEL.out.size; clear hk hb3
  clear pN0 pN1 fN0 fN1 zN zN_1 zN_2 zN_3
  obtain ⟨pN0, pN1, fN0, fN1, zN, zN_1, zN_2, zN_3⟩ := HN.out.two'
  obtain ⟨pX0, pX1, fX0, fX1, zX, zX_1, zX_2, zX_3⟩ := HX.out.two'
  have HC2 := Lib.hid hc2; have HP2 := Lib.hid hp2; clear hc2 hp2
  go_wp2_with fail
  refine (sameNet_n C2 C P2 P cc2 cc cp2 cp _ _ _ _ caps paths _ w.heap.size _ (HC2.out.at' (by repeat (first | with_reducible exact Below.refl _ _ | with_reducible apply Below.drew | with_reducible apply below_drewN | with_reducible apply Below.alloc | omega | (focus (simp; done)) | (simp; omega)))) (HC.out.below (by repeat (first | with_reducible exact BEL.out | with_reducible apply Below.alloc | with_reducible apply Below.setCell | with_reducible apply Below.drew | with_reducible apply below_drewN | (first | omega | (focus (simp; done)) | (focus (simp; omega)) | (focus (simp [World.setCell]; omega))))) (Nat.le_refl _)) (HP2.out.at' (by repeat (first | with_reducible exact Below.refl _ _ | with_reducible apply Below.drew | with_reducible apply below_drewN | with_reducible apply Below.alloc | omega | (focus (simp; done)) | (simp; omega)))) (HP.out.below (by repeat (first | with_reducible exact BEL.out | with_reducible apply Below.alloc | with_reducible apply Below.setCell | with_reducible apply Below.drew | with_reducible apply below_drewN | (first | omega | (focus (simp; done)) | (focus (simp; omega)) | (focus (simp [World.setCell]; omega))))) (Nat.le_refl _)) (Nat.le_refl _) (by first | omega | (focus (simp; done)) | (simp; omega)) rfl rfl rfl rfl).mono ?_; rintro e w4 ⟨rfl, hb4⟩
  have hk : Below w3.heap.size w3 w4 := Below.trans (by repeat (first | with_reducible exact Below.refl _ _ | with_reducible apply Below.drew | with_reducible apply below_drewN | with_reducible apply Below.alloc | omega | (focus (simp; done)) | (simp; omega))) (hb4.mono (by first | omega | (simp; done) | (simp; omega)))
  replace HN := Lib.hid (HN.out.go hk)
  replace HX := Lib.hid (HX.out.go hk)
  replace HC1 := Lib.hid (HC1.out.at' hk)
  replace HP1 := Lib.hid (HP1.out.at' hk)
  replace HC2 := Lib.hid (HC2.out.at' hk)
  replace HP2 := Lib.hid (HP2.out.at' hk)
  have HY := Lib.hid (show Blk w4 (w3.heap.size) 56 _ from Blk.go (by repeat (first | (with_reducible apply Blk.new'; first | with_reducible rfl | (focus (simp; done))) | with_reducible apply Blk.alloc | with_reducible apply Blk.drew | with_reducible apply Blk.drewN)) hb4)
  replace BEL : Hid (Below w.heap.size w w4) := Lib.hid (BEL.out.trans (hk.mono BEL.out.size))
  have z_w4 := hk.size; have y_w4 := BEL.out.size; clear hk hb4
  clear pN0 pN1 fN0 fN1 zN zN_1 zN_2 zN_3 pX0 pX1 fX0 fX1 zX zX_1 zX_2 zX_3
  obtain ⟨pN0, pN1, fN0, fN1, zN, zN_1, zN_2, zN_3⟩ := HN.out.two'
  obtain ⟨pX0, pX1, fX0, fX1, zX, zX_1, zX_2, zX_3⟩ := HX.out.two'
  obtain ⟨pY0, pY1, fY0, fY1, zY, zY_1, zY_2, zY_3⟩ := HY.out.two'
  go_wp2_with fail
  refine (users_no' C1 cc1 caps P1 cp1 (paths.length + 1) (paths ++ [l]) x _ _ 1 (Nat.le_refl _) (HC1.out.at' (by repeat (first | with_reducible exact Below.refl _ _ | with_reducible apply Below.drew | with_reducible apply below_drewN | with_reducible apply Below.alloc | omega | (focus (simp; done)) | (simp; omega)))) (HP1.out.at' (by repeat (first | with_reducible exact Below.refl _ _ | with_reducible apply Below.drew | with_reducible apply below_drewN | with_reducible apply Below.alloc | omega | (focus (simp; done)) | (simp; omega)))) (by simp) E1.out (by decide)).mono ?_; rintro e w5 ⟨rfl, hb5⟩
  have hk : Below w4.heap.size w4 w5 := Below.trans (by repeat (first | with_reducible exact Below.refl _ _ | with_reducible apply Below.drew | with_reducible apply below_drewN | with_reducible apply Below.alloc | omega | (focus (simp; done)) | (simp; omega))) (hb5.mono (by first | omega | (simp; done) | (simp; omega)))
  replace HN := Lib.hid (HN.out.go hk)
  replace HX := Lib.hid (HX.out.go hk)
  replace HY := Lib.hid (HY.out.go hk)
  replace HC1 := Lib.hid (HC1.out.at' hk)
  replace HP1 := Lib.hid (HP1.out.at' hk)
  replace HC2 := Lib.hid (HC2.out.at' hk)
  replace HP2 := Lib.hid (HP2.out.at' hk)
  replace BEL : Hid (Below w.heap.size w w5) := Lib.hid (BEL.out.trans (hk.mono BEL.out.size))
  have z_w5 := hk.size; have y_w5 := BEL.out.size; clear hk hb5
  clear pN0 pN1 fN0 fN1 zN zN_1 zN_2 zN_3 pX0 pX1 fX0 fX1 zX zX_1 zX_2 zX_3 pY0 pY1 fY0 fY1 zY zY_1 zY_2 zY_3
  obtain ⟨pN0, pN1, fN0, fN1, zN, zN_1, zN_2, zN_3⟩ := HN.out.two'
  obtain ⟨pX0, pX1, fX0, fX1, zX, zX_1, zX_2, zX_3⟩ := HX.out.two'
  obtain ⟨pY0, pY1, fY0, fY1, zY, zY_1, zY_2, zY_3⟩ := HY.out.two'
  go_wp2_with fail
  refine (users_no' C cc caps P cp paths.length paths x w.heap.size _ 1 (by first | omega | (focus (simp; done)) | (simp; omega)) (HC.out.below (by repeat (first | with_reducible exact BEL.out | with_reducible apply Below.alloc | with_reducible apply Below.setCell | with_reducible apply Below.drew | with_reducible apply below_drewN | (first | omega | (focus (simp; done)) | (focus (simp; omega)) | (focus (simp [World.setCell]; omega))))) (Nat.le_refl _)) (HP.out.below (by repeat (first | with_reducible exact BEL.out | with_reducible apply Below.alloc | with_reducible apply Below.setCell | with_reducible apply Below.drew | with_reducible apply below_drewN | (first | omega | (focus (simp; done)) | (focus (simp; omega)) | (focus (simp [World.setCell]; omega))))) (Nat.le_refl _)) rfl E2.out (by decide)).mono ?_; rintro e w6 ⟨rfl, hb6⟩
  have hk : Below w5.heap.size w5 w6 := Below.trans (by repeat (first | with_reducible exact Below.refl _ _ | with_reducible apply Below.drew | with_reducible apply below_drewN | with_reducible apply Below.alloc | omega | (focus (simp; done)) | (simp; omega))) (hb6.mono (by first | omega | (simp; done) | (simp; omega)))
  replace HN := Lib.hid (HN.out.go hk)
  replace HX := Lib.hid (HX.out.go hk)
  replace HY := Lib.hid (HY.out.go hk)
  replace HC1 := Lib.hid (HC1.out.at' hk)
  replace HP1 := Lib.hid (HP1.out.at' hk)
  replace HC2 := Lib.hid (HC2.out.at' hk)
  replace HP2 := Lib.hid (HP2.out.at' hk)
  replace BEL : Hid (Below w.heap.size w w6) := Lib.hid (BEL.out.trans (hk.mono BEL.out.size))
  have z_w6 := hk.size; have y_w6 := BEL.out.size; clear hk hb6
  clear pN0 pN1 fN0 fN1 zN zN_1 zN_2 zN_3 pX0 pX1 fX0 fX1 zX zX_1 zX_2 zX_3 pY0 pY1 fY0 fY1 zY zY_1 zY_2 zY_3
  obtain ⟨pN0, pN1, fN0, fN1, zN, zN_1, zN_2, zN_3⟩ := HN.out.two'
  obtain ⟨pX0, pX1, fX0, fX1, zX, zX_1, zX_2, zX_3⟩ := HX.out.two'
  obtain ⟨pY0, pY1, fY0, fY1, zY, zY_1, zY_2, zY_3⟩ := HY.out.two'
  go_wp2
  go_ret
  exact ⟨rfl, (by repeat (first | with_reducible exact BEL.out | with_reducible apply Below.alloc | with_reducible apply Below.setCell | with_reducible apply Below.drew | with_reducible apply below_drewN | (first | omega | (focus (simp; done)) | (focus (simp; omega)) | (focus (simp [World.setCell]; omega)))))⟩
set_option maxHeartbeats 8000000 in
set_option maxRecDepth 100000 in
theorem netBack_over (C : Option Addr) (cc : Nat) (caps : List Int) (P : Option Addr) (cp : Nat) (paths : List (List Int)) (A : Option Addr) (c : Nat) (l : List Int) (x : Int) (w : World) (hc : Ints w w.heap.size C cc caps) (hp : Rows2 w w.heap.size P cp paths) (hi : Ints w w.heap.size A c l) (he : addErr caps paths l = 0) (x0 : ¬ x < 0) (x1 : ¬ (caps.length : Int) ≤ x) (hin : inL l x = true) :
    Calls Try.prog 7 #[.agg #[.slice C caps.length cc, .slice P paths.length cp], .slice A l.length c, .int .i64 x] w fun e w' => e = .returned (.bool true) ∧ Below w.heap.size w w' := by
  have HC := Lib.hid hc
  have HP := Lib.hid hp
  have HI := Lib.hid hi
  clear hc hp hi
  have e1 : usersErr caps (paths ++ [l]) x = 0 := by unfold usersErr; rw [if_pos (addErr_ok he).2.2.2, if_neg (by omega)]
  have e2 : usersErr caps paths x = 0 := by unfold usersErr; rw [if_pos (addErr_ok he).1, if_neg (by omega)]
  obtain ⟨U, hU⟩ : ∃ U, users paths x = U := ⟨_, rfl⟩
  have hU1 : users (paths ++ [l]) x = U ++ [paths.length] := by rw [users_snoc_yes hin, hU]
  have hul : U.length ≤ 6 := by have := usersTo_le paths x paths.length; have h2 := (netErr_ok (addErr_ok he).1).2.2.2.1; rw [← hU]; unfold users; omega
  have E1 := Lib.hid e1; have E2 := Lib.hid e2; have HU := Lib.hid hU; have HU1 := Lib.hid hU1; have HIN := Lib.hid hin; clear e1 e2 hU hU1 hin
  have hA := addErr_ok he
  obtain ⟨a1, a2, a3, a4⟩ := hA
  obtain ⟨k0, k1, k2, k3, _, _⟩ := netErr_ok a1
  have A4 := Lib.hid a4; have HE := Lib.hid he; clear a1 a2 a3 a4 he
  have BEL : Hid (Below w.heap.size w w) := Lib.hid (Below.refl _ _)
  have yB : w.heap.size ≤ w.heap.size := Nat.le_refl _
  go_enter Try.func7, Try.ntmps7
  go_wp2_with fail
  refine (back_fact (w.heap.size + 1) (w.heap.size + 1 + 1) (w.heap.size + 1 + 1 + 1) (w.heap.size + 1 + 1 + 1 + 1) _ (by repeat (first | (with_reducible apply Blk.new'; first | with_reducible rfl | (focus (simp; done))) | with_reducible apply Blk.alloc)) (by repeat (first | (with_reducible apply Blk.new'; first | with_reducible rfl | (focus (simp; done))) | with_reducible apply Blk.alloc)) (by repeat (first | (with_reducible apply Blk.new'; first | with_reducible rfl | (focus (simp; done))) | with_reducible apply Blk.alloc)) (by repeat (first | (with_reducible apply Blk.new'; first | with_reducible rfl | (focus (simp; done))) | with_reducible apply Blk.alloc))).mono ?_; rintro e w1 ⟨g0, c0, rfl, hcell, hc0, hb1⟩
  have hk : Below w.heap.size w w1 := Below.trans (by repeat (first | with_reducible exact Below.refl _ _ | with_reducible apply Below.drew | with_reducible apply below_drewN | with_reducible apply Below.alloc | omega | (focus (simp; done)) | (simp; omega))) (hb1.mono (by first | omega | (simp; done) | (simp; omega)))
  have HN := Lib.hid (show Blk w1 (w.heap.size) 56 _ from Blk.go (by repeat (first | (with_reducible apply Blk.new'; first | with_reducible rfl | (focus (simp; done))) | with_reducible apply Blk.alloc | with_reducible apply Blk.drew | with_reducible apply Blk.drewN)) hb1)
  replace BEL : Hid (Below w.heap.size w w1) := Lib.hid (BEL.out.trans (hk.mono BEL.out.size))
  have z_w1 := hk.size; have y_w1 := BEL.out.size; clear hk hb1
  obtain ⟨pN0, pN1, fN0, fN1, zN, zN_1, zN_2, zN_3⟩ := HN.out.two'
  have hcell0 := Lib.hid hcell
  have d0 : (1 : Int) < (2 : Int) := by omega
  go_wp2_with fail
  refine (add_yes' C cc caps P cp paths A c l w.heap.size _ (by first | omega | (focus (simp; done)) | (simp; omega)) (HC.out.below (by repeat (first | with_reducible exact BEL.out | with_reducible apply Below.alloc | with_reducible apply Below.setCell | with_reducible apply Below.drew | with_reducible apply below_drewN | (first | omega | (focus (simp; done)) | (focus (simp; omega)) | (focus (simp [World.setCell]; omega))))) (Nat.le_refl _)) (HP.out.below (by repeat (first | with_reducible exact BEL.out | with_reducible apply Below.alloc | with_reducible apply Below.setCell | with_reducible apply Below.drew | with_reducible apply below_drewN | (first | omega | (focus (simp; done)) | (focus (simp; omega)) | (focus (simp [World.setCell]; omega))))) (Nat.le_refl _)) (HI.out.below (by repeat (first | with_reducible exact BEL.out | with_reducible apply Below.alloc | with_reducible apply Below.setCell | with_reducible apply Below.drew | with_reducible apply below_drewN | (first | omega | (focus (simp; done)) | (focus (simp; omega)) | (focus (simp [World.setCell]; omega))))) (Nat.le_refl _)) HE.out).mono ?_; rintro e w2 ⟨C1, cc1, P1, cp1, rfl, hc1, hp1, hb2⟩
  have hk : Below w1.heap.size w1 w2 := Below.trans (by repeat (first | with_reducible exact Below.refl _ _ | with_reducible apply Below.drew | with_reducible apply below_drewN | with_reducible apply Below.alloc | omega | (focus (simp; done)) | (simp; omega))) (hb2.mono (by first | omega | (simp; done) | (simp; omega)))
  replace HN := Lib.hid (HN.out.go hk)
  replace BEL : Hid (Below w.heap.size w w2) := Lib.hid (BEL.out.trans (hk.mono BEL.out.size))
  have z_w2 := hk.size; have y_w2 := BEL.out.size; clear hk hb2
  clear pN0 pN1 fN0 fN1 zN zN_1 zN_2 zN_3
  obtain ⟨pN0, pN1, fN0, fN1, zN, zN_1, zN_2, zN_3⟩ := HN.out.two'
  have HC1 := Lib.hid hc1; have HP1 := Lib.hid hp1; clear hc1 hp1 hcell
  go_wp2_with fail
  refine (drop_yes' C1 cc1 caps P1 cp1 (paths ++ [l]) paths paths.length (paths.length + 1) _ _ (Nat.le_refl _) (HC1.out.at' (by repeat (first | with_reducible exact Below.refl _ _ | with_reducible apply Below.drew | with_reducible apply below_drewN | with_reducible apply Below.alloc | omega | (focus (simp; done)) | (simp; omega)))) (HP1.out.at' (by repeat (first | with_reducible exact Below.refl _ _ | with_reducible apply Below.drew | with_reducible apply below_drewN | with_reducible apply Below.alloc | omega | (focus (simp; done)) | (simp; omega)))) A4.out (by simp) (by rw [List.length_append]; simp only [List.length_cons, List.length_nil]; omega) (by simp) (erase_last _ _)).mono ?_; rintro e w3 ⟨C2, cc2, P2, cp2, rfl, hc2, hp2, hb3⟩
  have hk : Below w2.heap.size w2 w3 := Below.trans (by repeat (first | with_reducible exact Below.refl _ _ | with_reducible apply Below.drew | with_reducible apply below_drewN | with_reducible apply Below.alloc | omega | (focus (simp; done)) | (simp; omega))) (hb3.mono (by first | omega | (simp; done) | (simp; omega)))
  replace HN := Lib.hid (HN.out.go hk)
  replace HC1 := Lib.hid (HC1.out.at' hk)
  replace HP1 := Lib.hid (HP1.out.at' hk)
  have HX := Lib.hid (show Blk w3 (w2.heap.size) 56 _ from Blk.go (by repeat (first | (with_reducible apply Blk.new'; first | with_reducible rfl | (focus (simp; done))) | with_reducible apply Blk.alloc | with_reducible apply Blk.drew | with_reducible apply Blk.drewN)) hb3)
  replace BEL : Hid (Below w.heap.size w w3) := Lib.hid (BEL.out.trans (hk.mono BEL.out.size))
  have z_w3 := hk.size; have y_w3 := BEL.out.size; clear hk hb3
  clear pN0 pN1 fN0 fN1 zN zN_1 zN_2 zN_3
  obtain ⟨pN0, pN1, fN0, fN1, zN, zN_1, zN_2, zN_3⟩ := HN.out.two'
  obtain ⟨pX0, pX1, fX0, fX1, zX, zX_1, zX_2, zX_3⟩ := HX.out.two'
  have HC2 := Lib.hid hc2; have HP2 := Lib.hid hp2; clear hc2 hp2
  go_wp2_with fail
  refine (sameNet_n C2 C P2 P cc2 cc cp2 cp _ _ _ _ caps paths _ w.heap.size _ (HC2.out.at' (by repeat (first | with_reducible exact Below.refl _ _ | with_reducible apply Below.drew | with_reducible apply below_drewN | with_reducible apply Below.alloc | omega | (focus (simp; done)) | (simp; omega)))) (HC.out.below (by repeat (first | with_reducible exact BEL.out | with_reducible apply Below.alloc | with_reducible apply Below.setCell | with_reducible apply Below.drew | with_reducible apply below_drewN | (first | omega | (focus (simp; done)) | (focus (simp; omega)) | (focus (simp [World.setCell]; omega))))) (Nat.le_refl _)) (HP2.out.at' (by repeat (first | with_reducible exact Below.refl _ _ | with_reducible apply Below.drew | with_reducible apply below_drewN | with_reducible apply Below.alloc | omega | (focus (simp; done)) | (simp; omega)))) (HP.out.below (by repeat (first | with_reducible exact BEL.out | with_reducible apply Below.alloc | with_reducible apply Below.setCell | with_reducible apply Below.drew | with_reducible apply below_drewN | (first | omega | (focus (simp; done)) | (focus (simp; omega)) | (focus (simp [World.setCell]; omega))))) (Nat.le_refl _)) (Nat.le_refl _) (by first | omega | (focus (simp; done)) | (simp; omega)) rfl rfl rfl rfl).mono ?_; rintro e w4 ⟨rfl, hb4⟩
  have hk : Below w3.heap.size w3 w4 := Below.trans (by repeat (first | with_reducible exact Below.refl _ _ | with_reducible apply Below.drew | with_reducible apply below_drewN | with_reducible apply Below.alloc | omega | (focus (simp; done)) | (simp; omega))) (hb4.mono (by first | omega | (simp; done) | (simp; omega)))
  replace HN := Lib.hid (HN.out.go hk)
  replace HX := Lib.hid (HX.out.go hk)
  replace HC1 := Lib.hid (HC1.out.at' hk)
  replace HP1 := Lib.hid (HP1.out.at' hk)
  replace HC2 := Lib.hid (HC2.out.at' hk)
  replace HP2 := Lib.hid (HP2.out.at' hk)
  have HY := Lib.hid (show Blk w4 (w3.heap.size) 56 _ from Blk.go (by repeat (first | (with_reducible apply Blk.new'; first | with_reducible rfl | (focus (simp; done))) | with_reducible apply Blk.alloc | with_reducible apply Blk.drew | with_reducible apply Blk.drewN)) hb4)
  replace BEL : Hid (Below w.heap.size w w4) := Lib.hid (BEL.out.trans (hk.mono BEL.out.size))
  have z_w4 := hk.size; have y_w4 := BEL.out.size; clear hk hb4
  clear pN0 pN1 fN0 fN1 zN zN_1 zN_2 zN_3 pX0 pX1 fX0 fX1 zX zX_1 zX_2 zX_3
  obtain ⟨pN0, pN1, fN0, fN1, zN, zN_1, zN_2, zN_3⟩ := HN.out.two'
  obtain ⟨pX0, pX1, fX0, fX1, zX, zX_1, zX_2, zX_3⟩ := HX.out.two'
  obtain ⟨pY0, pY1, fY0, fY1, zY, zY_1, zY_2, zY_3⟩ := HY.out.two'
  go_wp2_with fail
  refine (users_yes' C1 cc1 caps P1 cp1 (paths.length + 1) (paths ++ [l]) x _ (U.length + 1) _ _ (Nat.le_refl _) (HC1.out.at' (by repeat (first | with_reducible exact Below.refl _ _ | with_reducible apply Below.drew | with_reducible apply below_drewN | with_reducible apply Below.alloc | omega | (focus (simp; done)) | (simp; omega)))) (HP1.out.at' (by repeat (first | with_reducible exact Below.refl _ _ | with_reducible apply Below.drew | with_reducible apply below_drewN | with_reducible apply Below.alloc | omega | (focus (simp; done)) | (simp; omega)))) (by simp) E1.out HU1.out (by simp)).mono ?_; rintro e w5 ⟨A3, c3, rfl, hi3, hb5⟩
  have hk : Below w4.heap.size w4 w5 := Below.trans (by repeat (first | with_reducible exact Below.refl _ _ | with_reducible apply Below.drew | with_reducible apply below_drewN | with_reducible apply Below.alloc | omega | (focus (simp; done)) | (simp; omega))) (hb5.mono (by first | omega | (simp; done) | (simp; omega)))
  replace HN := Lib.hid (HN.out.go hk)
  replace HX := Lib.hid (HX.out.go hk)
  replace HY := Lib.hid (HY.out.go hk)
  replace HC1 := Lib.hid (HC1.out.at' hk)
  replace HP1 := Lib.hid (HP1.out.at' hk)
  replace HC2 := Lib.hid (HC2.out.at' hk)
  replace HP2 := Lib.hid (HP2.out.at' hk)
  replace BEL : Hid (Below w.heap.size w w5) := Lib.hid (BEL.out.trans (hk.mono BEL.out.size))
  have z_w5 := hk.size; have y_w5 := BEL.out.size; clear hk hb5
  clear pN0 pN1 fN0 fN1 zN zN_1 zN_2 zN_3 pX0 pX1 fX0 fX1 zX zX_1 zX_2 zX_3 pY0 pY1 fY0 fY1 zY zY_1 zY_2 zY_3
  obtain ⟨pN0, pN1, fN0, fN1, zN, zN_1, zN_2, zN_3⟩ := HN.out.two'
  obtain ⟨pX0, pX1, fX0, fX1, zX, zX_1, zX_2, zX_3⟩ := HX.out.two'
  obtain ⟨pY0, pY1, fY0, fY1, zY, zY_1, zY_2, zY_3⟩ := HY.out.two'
  have HI3 := Lib.hid hi3; clear hi3
  go_wp2_with fail
  refine (users_yes' C cc caps P cp paths.length paths x _ U.length w.heap.size _ (by first | omega | (focus (simp; done)) | (simp; omega)) (HC.out.below (by repeat (first | with_reducible exact BEL.out | with_reducible apply Below.alloc | with_reducible apply Below.setCell | with_reducible apply Below.drew | with_reducible apply below_drewN | (first | omega | (focus (simp; done)) | (focus (simp; omega)) | (focus (simp [World.setCell]; omega))))) (Nat.le_refl _)) (HP.out.below (by repeat (first | with_reducible exact BEL.out | with_reducible apply Below.alloc | with_reducible apply Below.setCell | with_reducible apply Below.drew | with_reducible apply below_drewN | (first | omega | (focus (simp; done)) | (focus (simp; omega)) | (focus (simp [World.setCell]; omega))))) (Nat.le_refl _)) rfl E2.out HU.out rfl).mono ?_; rintro e w6 ⟨A4, c4, rfl, hi4, hb6⟩
  have hk : Below w5.heap.size w5 w6 := Below.trans (by repeat (first | with_reducible exact Below.refl _ _ | with_reducible apply Below.drew | with_reducible apply below_drewN | with_reducible apply Below.alloc | omega | (focus (simp; done)) | (simp; omega))) (hb6.mono (by first | omega | (simp; done) | (simp; omega)))
  replace HN := Lib.hid (HN.out.go hk)
  replace HX := Lib.hid (HX.out.go hk)
  replace HY := Lib.hid (HY.out.go hk)
  replace HC1 := Lib.hid (HC1.out.at' hk)
  replace HP1 := Lib.hid (HP1.out.at' hk)
  replace HC2 := Lib.hid (HC2.out.at' hk)
  replace HP2 := Lib.hid (HP2.out.at' hk)
  replace HI3 := Lib.hid (HI3.out.at' hk)
  replace BEL : Hid (Below w.heap.size w w6) := Lib.hid (BEL.out.trans (hk.mono BEL.out.size))
  have z_w6 := hk.size; have y_w6 := BEL.out.size; clear hk hb6
  clear pN0 pN1 fN0 fN1 zN zN_1 zN_2 zN_3 pX0 pX1 fX0 fX1 zX zX_1 zX_2 zX_3 pY0 pY1 fY0 fY1 zY zY_1 zY_2 zY_3
  obtain ⟨pN0, pN1, fN0, fN1, zN, zN_1, zN_2, zN_3⟩ := HN.out.two'
  obtain ⟨pX0, pX1, fX0, fX1, zX, zX_1, zX_2, zX_3⟩ := HX.out.two'
  obtain ⟨pY0, pY1, fY0, fY1, zY, zY_1, zY_2, zY_3⟩ := HY.out.two'
  have HI4 := Lib.hid hi4; clear hi4
  go_wp2_with fail
  have HIB := Lib.hid (HI.out.below (by repeat (first | with_reducible exact BEL.out | with_reducible apply Below.alloc | with_reducible apply Below.setCell | with_reducible apply Below.drew | with_reducible apply below_drewN | (first | omega | (focus (simp; done)) | (focus (simp; omega)) | (focus (simp [World.setCell]; omega))))) (Nat.le_refl _))
  go_loop [18, 19] (fun o i => ∃ (k : Nat) (b : Bool), k ≤ l.length ∧ i = .int .i64 k ∧ o = .bool b ∧ Hid (inL (l.take k) x = b)) (fun _ i => l.length - (intOf i).toNat)
  case atStart => exact ⟨0, false, Nat.zero_le _, rfl, rfl, Lib.hid (by simp [inL])⟩
  case round =>
    obtain ⟨k, b, hk, rfl, rfl, HK⟩ := hrel
    by_cases hlt : k < l.length
    · obtain ⟨bb, off, a, rfl, hbb, hca, _, HT, HX⟩ := HIB.out.elem hlt
      have hlm := HI.out.cap
      have hll := HI.out.le
      unfold maxLen at hlm
      have k0' : (0 : Int) ≤ (k : Int) := by omega
      have k1' : (k : Int) < l.length := by omega
      have hn := inL_take (x := x) HT.out
      rw [HK.out] at hn
      clear HT HX
      cases b
      · by_cases hax : a = x
        · subst hax
          have HN : Hid (inL (l.take (k + 1)) a = true) := Lib.hid (by rw [hn]; simp)
          clear hn
          go_wp2
          go_round
          case rel => exact ⟨k + 1, true, by omega, by go_num, rfl, HN⟩
          case measure => simp [intOf]; omega
        · have hb : (a == x) = false := beq_eq_false_iff_ne.2 hax
          have HN : Hid (inL (l.take (k + 1)) x = false) := Lib.hid (by rw [hn, hb]; rfl)
          clear hn hax
          go_wp2
          go_round
          case rel => exact ⟨k + 1, false, by omega, by go_num, rfl, HN⟩
          case measure => simp [intOf]; omega
      · have HN : Hid (inL (l.take (k + 1)) x = true) := Lib.hid (by rw [hn]; rfl)
        clear hn
        go_wp2
        go_round
        case rel => exact ⟨k + 1, true, by omega, by go_num, rfl, HN⟩
        case measure => simp [intOf]; omega
    · have hkl : k = l.length := by omega
      subst hkl
      have hb := HK.out
      rw [List.take_length, HIN.out] at hb
      subst hb
      obtain ⟨b3, o3, v3, rfl, _, hc3, _, _, HX3⟩ := HI3.out.elem (k := U.length) (by simp)
      have hv3 : v3 = (paths.length : Int) := by have := HX3.out; rw [← this]; simp
      subst hv3
      have h3c := HI3.out.cap
      have h3l := HI3.out.le
      unfold maxLen at h3c
      simp only [List.length_map, List.length_append, List.length_cons, List.length_nil] at h3l
      have HT3 := Lib.hid (HI3.out.take (k := U.length) (c' := c3) (by simp) (by omega) (by unfold maxLen; omega))
      have htk : ((U ++ [paths.length]).map fun (i : Nat) => (i : Int)).take U.length = U.map fun (i : Nat) => (i : Int) := by rw [List.map_append, List.take_append_of_le_length (by simp), List.take_of_length_le (by simp)]
      rw [htk] at HT3
      clear htk HX3
      have q0 : (0 : Int) ≤ (U.length : Int) := by omega
      have q1 : (U.length : Int) < ((U.length + 1 : Nat) : Int) := by omega
      have q2 : (U.length : Int) ≤ (c3 : Int) := by omega
      go_wp2_with fail
      refine (sameInts_n (some ⟨b3, o3, none⟩) A4 c3 c4 _ _ (U.map fun (i : Nat) => (i : Int)) _ _ _ (HT3.out.at' (by repeat (first | with_reducible exact Below.refl _ _ | with_reducible apply Below.drew | with_reducible apply below_drewN | with_reducible apply Below.alloc | omega | (focus (simp; done)) | (simp; omega)))) (HI4.out.at' (by repeat (first | with_reducible exact Below.refl _ _ | with_reducible apply Below.drew | with_reducible apply below_drewN | with_reducible apply Below.alloc | omega | (focus (simp; done)) | (simp; omega)))) (by simp) (by simp)).mono ?_; rintro e w7 ⟨rfl, hb7⟩
      have hk : Below w6.heap.size w6 w7 := Below.trans (by repeat (first | with_reducible exact Below.refl _ _ | with_reducible apply Below.drew | with_reducible apply below_drewN | with_reducible apply Below.alloc | omega | (focus (simp; done)) | (simp; omega))) (hb7.mono (by first | omega | (simp; done) | (simp; omega)))
      replace HN := Lib.hid (HN.out.go hk)
      replace HX := Lib.hid (HX.out.go hk)
      replace HY := Lib.hid (HY.out.go hk)
      replace HC1 := Lib.hid (HC1.out.at' hk)
      replace HP1 := Lib.hid (HP1.out.at' hk)
      replace HC2 := Lib.hid (HC2.out.at' hk)
      replace HP2 := Lib.hid (HP2.out.at' hk)
      replace HI3 := Lib.hid (HI3.out.at' hk)
      replace HI4 := Lib.hid (HI4.out.at' hk)
      replace HT3 := Lib.hid (HT3.out.at' hk)
      replace BEL : Hid (Below w.heap.size w w7) := Lib.hid (BEL.out.trans (hk.mono BEL.out.size))
      have z_w7 := hk.size; have y_w7 := BEL.out.size; clear hk hb7
      clear pN0 pN1 fN0 fN1 zN zN_1 zN_2 zN_3 pX0 pX1 fX0 fX1 zX zX_1 zX_2 zX_3 pY0 pY1 fY0 fY1 zY zY_1 zY_2 zY_3
      obtain ⟨pN0, pN1, fN0, fN1, zN, zN_1, zN_2, zN_3⟩ := HN.out.two'
      obtain ⟨pX0, pX1, fX0, fX1, zX, zX_1, zX_2, zX_3⟩ := HX.out.two'
      obtain ⟨pY0, pY1, fY0, fY1, zY, zY_1, zY_2, zY_3⟩ := HY.out.two'
      go_wp2
      go_ret
      exact ⟨rfl, (by repeat (first | with_reducible exact BEL.out | with_reducible apply Below.alloc | with_reducible apply Below.setCell | with_reducible apply Below.drew | with_reducible apply below_drewN | (first | omega | (focus (simp; done)) | (focus (simp; omega)) | (focus (simp [World.setCell]; omega)))))⟩
set_option maxHeartbeats 8000000 in
set_option maxRecDepth 100000 in
theorem netBack_not (C : Option Addr) (cc : Nat) (caps : List Int) (P : Option Addr) (cp : Nat) (paths : List (List Int)) (A : Option Addr) (c : Nat) (l : List Int) (x : Int) (w : World) (hc : Ints w w.heap.size C cc caps) (hp : Rows2 w w.heap.size P cp paths) (hi : Ints w w.heap.size A c l) (he : addErr caps paths l = 0) (x0 : ¬ x < 0) (x1 : ¬ (caps.length : Int) ≤ x) (hin : inL l x = false) :
    Calls Try.prog 7 #[.agg #[.slice C caps.length cc, .slice P paths.length cp], .slice A l.length c, .int .i64 x] w fun e w' => e = .returned (.bool true) ∧ Below w.heap.size w w' := by
  have HC := Lib.hid hc
  have HP := Lib.hid hp
  have HI := Lib.hid hi
  clear hc hp hi
  have e1 : usersErr caps (paths ++ [l]) x = 0 := by unfold usersErr; rw [if_pos (addErr_ok he).2.2.2, if_neg (by omega)]
  have e2 : usersErr caps paths x = 0 := by unfold usersErr; rw [if_pos (addErr_ok he).1, if_neg (by omega)]
  obtain ⟨U, hU⟩ : ∃ U, users paths x = U := ⟨_, rfl⟩
  have hU1 : users (paths ++ [l]) x = U := by rw [users_snoc_no hin, hU]
  have hul : U.length ≤ 6 := by have := usersTo_le paths x paths.length; have h2 := (netErr_ok (addErr_ok he).1).2.2.2.1; rw [← hU]; unfold users; omega
  have E1 := Lib.hid e1; have E2 := Lib.hid e2; have HU := Lib.hid hU; have HU1 := Lib.hid hU1; have HIN := Lib.hid hin; clear e1 e2 hU hU1 hin
  have hA := addErr_ok he
  obtain ⟨a1, a2, a3, a4⟩ := hA
  obtain ⟨k0, k1, k2, k3, _, _⟩ := netErr_ok a1
  have A4 := Lib.hid a4; have HE := Lib.hid he; clear a1 a2 a3 a4 he
  have BEL : Hid (Below w.heap.size w w) := Lib.hid (Below.refl _ _)
  have yB : w.heap.size ≤ w.heap.size := Nat.le_refl _
  go_enter Try.func7, Try.ntmps7
  go_wp2_with fail
  refine (back_fact (w.heap.size + 1) (w.heap.size + 1 + 1) (w.heap.size + 1 + 1 + 1) (w.heap.size + 1 + 1 + 1 + 1) _ (by repeat (first | (with_reducible apply Blk.new'; first | with_reducible rfl | (focus (simp; done))) | with_reducible apply Blk.alloc)) (by repeat (first | (with_reducible apply Blk.new'; first | with_reducible rfl | (focus (simp; done))) | with_reducible apply Blk.alloc)) (by repeat (first | (with_reducible apply Blk.new'; first | with_reducible rfl | (focus (simp; done))) | with_reducible apply Blk.alloc)) (by repeat (first | (with_reducible apply Blk.new'; first | with_reducible rfl | (focus (simp; done))) | with_reducible apply Blk.alloc))).mono ?_; rintro e w1 ⟨g0, c0, rfl, hcell, hc0, hb1⟩
  have hk : Below w.heap.size w w1 := Below.trans (by repeat (first | with_reducible exact Below.refl _ _ | with_reducible apply Below.drew | with_reducible apply below_drewN | with_reducible apply Below.alloc | omega | (focus (simp; done)) | (simp; omega))) (hb1.mono (by first | omega | (simp; done) | (simp; omega)))
  have HN := Lib.hid (show Blk w1 (w.heap.size) 56 _ from Blk.go (by repeat (first | (with_reducible apply Blk.new'; first | with_reducible rfl | (focus (simp; done))) | with_reducible apply Blk.alloc | with_reducible apply Blk.drew | with_reducible apply Blk.drewN)) hb1)
  replace BEL : Hid (Below w.heap.size w w1) := Lib.hid (BEL.out.trans (hk.mono BEL.out.size))
  have z_w1 := hk.size; have y_w1 := BEL.out.size; clear hk hb1
  obtain ⟨pN0, pN1, fN0, fN1, zN, zN_1, zN_2, zN_3⟩ := HN.out.two'
  have hcell0 := Lib.hid hcell
  have d0 : (1 : Int) < (2 : Int) := by omega
  go_wp2_with fail
  refine (add_yes' C cc caps P cp paths A c l w.heap.size _ (by first | omega | (focus (simp; done)) | (simp; omega)) (HC.out.below (by repeat (first | with_reducible exact BEL.out | with_reducible apply Below.alloc | with_reducible apply Below.setCell | with_reducible apply Below.drew | with_reducible apply below_drewN | (first | omega | (focus (simp; done)) | (focus (simp; omega)) | (focus (simp [World.setCell]; omega))))) (Nat.le_refl _)) (HP.out.below (by repeat (first | with_reducible exact BEL.out | with_reducible apply Below.alloc | with_reducible apply Below.setCell | with_reducible apply Below.drew | with_reducible apply below_drewN | (first | omega | (focus (simp; done)) | (focus (simp; omega)) | (focus (simp [World.setCell]; omega))))) (Nat.le_refl _)) (HI.out.below (by repeat (first | with_reducible exact BEL.out | with_reducible apply Below.alloc | with_reducible apply Below.setCell | with_reducible apply Below.drew | with_reducible apply below_drewN | (first | omega | (focus (simp; done)) | (focus (simp; omega)) | (focus (simp [World.setCell]; omega))))) (Nat.le_refl _)) HE.out).mono ?_; rintro e w2 ⟨C1, cc1, P1, cp1, rfl, hc1, hp1, hb2⟩
  have hk : Below w1.heap.size w1 w2 := Below.trans (by repeat (first | with_reducible exact Below.refl _ _ | with_reducible apply Below.drew | with_reducible apply below_drewN | with_reducible apply Below.alloc | omega | (focus (simp; done)) | (simp; omega))) (hb2.mono (by first | omega | (simp; done) | (simp; omega)))
  replace HN := Lib.hid (HN.out.go hk)
  replace BEL : Hid (Below w.heap.size w w2) := Lib.hid (BEL.out.trans (hk.mono BEL.out.size))
  have z_w2 := hk.size; have y_w2 := BEL.out.size; clear hk hb2
  clear pN0 pN1 fN0 fN1 zN zN_1 zN_2 zN_3
  obtain ⟨pN0, pN1, fN0, fN1, zN, zN_1, zN_2, zN_3⟩ := HN.out.two'
  have HC1 := Lib.hid hc1; have HP1 := Lib.hid hp1; clear hc1 hp1 hcell
  go_wp2_with fail
  refine (drop_yes' C1 cc1 caps P1 cp1 (paths ++ [l]) paths paths.length (paths.length + 1) _ _ (Nat.le_refl _) (HC1.out.at' (by repeat (first | with_reducible exact Below.refl _ _ | with_reducible apply Below.drew | with_reducible apply below_drewN | with_reducible apply Below.alloc | omega | (focus (simp; done)) | (simp; omega)))) (HP1.out.at' (by repeat (first | with_reducible exact Below.refl _ _ | with_reducible apply Below.drew | with_reducible apply below_drewN | with_reducible apply Below.alloc | omega | (focus (simp; done)) | (simp; omega)))) A4.out (by simp) (by rw [List.length_append]; simp only [List.length_cons, List.length_nil]; omega) (by simp) (erase_last _ _)).mono ?_; rintro e w3 ⟨C2, cc2, P2, cp2, rfl, hc2, hp2, hb3⟩
  have hk : Below w2.heap.size w2 w3 := Below.trans (by repeat (first | with_reducible exact Below.refl _ _ | with_reducible apply Below.drew | with_reducible apply below_drewN | with_reducible apply Below.alloc | omega | (focus (simp; done)) | (simp; omega))) (hb3.mono (by first | omega | (simp; done) | (simp; omega)))
  replace HN := Lib.hid (HN.out.go hk)
  replace HC1 := Lib.hid (HC1.out.at' hk)
  replace HP1 := Lib.hid (HP1.out.at' hk)
  have HX := Lib.hid (show Blk w3 (w2.heap.size) 56 _ from Blk.go (by repeat (first | (with_reducible apply Blk.new'; first | with_reducible rfl | (focus (simp; done))) | with_reducible apply Blk.alloc | with_reducible apply Blk.drew | with_reducible apply Blk.drewN)) hb3)
  replace BEL : Hid (Below w.heap.size w w3) := Lib.hid (BEL.out.trans (hk.mono BEL.out.size))
  have z_w3 := hk.size; have y_w3 := BEL.out.size; clear hk hb3
  clear pN0 pN1 fN0 fN1 zN zN_1 zN_2 zN_3
  obtain ⟨pN0, pN1, fN0, fN1, zN, zN_1, zN_2, zN_3⟩ := HN.out.two'
  obtain ⟨pX0, pX1, fX0, fX1, zX, zX_1, zX_2, zX_3⟩ := HX.out.two'
  have HC2 := Lib.hid hc2; have HP2 := Lib.hid hp2; clear hc2 hp2
  go_wp2_with fail
  refine (sameNet_n C2 C P2 P cc2 cc cp2 cp _ _ _ _ caps paths _ w.heap.size _ (HC2.out.at' (by repeat (first | with_reducible exact Below.refl _ _ | with_reducible apply Below.drew | with_reducible apply below_drewN | with_reducible apply Below.alloc | omega | (focus (simp; done)) | (simp; omega)))) (HC.out.below (by repeat (first | with_reducible exact BEL.out | with_reducible apply Below.alloc | with_reducible apply Below.setCell | with_reducible apply Below.drew | with_reducible apply below_drewN | (first | omega | (focus (simp; done)) | (focus (simp; omega)) | (focus (simp [World.setCell]; omega))))) (Nat.le_refl _)) (HP2.out.at' (by repeat (first | with_reducible exact Below.refl _ _ | with_reducible apply Below.drew | with_reducible apply below_drewN | with_reducible apply Below.alloc | omega | (focus (simp; done)) | (simp; omega)))) (HP.out.below (by repeat (first | with_reducible exact BEL.out | with_reducible apply Below.alloc | with_reducible apply Below.setCell | with_reducible apply Below.drew | with_reducible apply below_drewN | (first | omega | (focus (simp; done)) | (focus (simp; omega)) | (focus (simp [World.setCell]; omega))))) (Nat.le_refl _)) (Nat.le_refl _) (by first | omega | (focus (simp; done)) | (simp; omega)) rfl rfl rfl rfl).mono ?_; rintro e w4 ⟨rfl, hb4⟩
  have hk : Below w3.heap.size w3 w4 := Below.trans (by repeat (first | with_reducible exact Below.refl _ _ | with_reducible apply Below.drew | with_reducible apply below_drewN | with_reducible apply Below.alloc | omega | (focus (simp; done)) | (simp; omega))) (hb4.mono (by first | omega | (simp; done) | (simp; omega)))
  replace HN := Lib.hid (HN.out.go hk)
  replace HX := Lib.hid (HX.out.go hk)
  replace HC1 := Lib.hid (HC1.out.at' hk)
  replace HP1 := Lib.hid (HP1.out.at' hk)
  replace HC2 := Lib.hid (HC2.out.at' hk)
  replace HP2 := Lib.hid (HP2.out.at' hk)
  have HY := Lib.hid (show Blk w4 (w3.heap.size) 56 _ from Blk.go (by repeat (first | (with_reducible apply Blk.new'; first | with_reducible rfl | (focus (simp; done))) | with_reducible apply Blk.alloc | with_reducible apply Blk.drew | with_reducible apply Blk.drewN)) hb4)
  replace BEL : Hid (Below w.heap.size w w4) := Lib.hid (BEL.out.trans (hk.mono BEL.out.size))
  have z_w4 := hk.size; have y_w4 := BEL.out.size; clear hk hb4
  clear pN0 pN1 fN0 fN1 zN zN_1 zN_2 zN_3 pX0 pX1 fX0 fX1 zX zX_1 zX_2 zX_3
  obtain ⟨pN0, pN1, fN0, fN1, zN, zN_1, zN_2, zN_3⟩ := HN.out.two'
  obtain ⟨pX0, pX1, fX0, fX1, zX, zX_1, zX_2, zX_3⟩ := HX.out.two'
  obtain ⟨pY0, pY1, fY0, fY1, zY, zY_1, zY_2, zY_3⟩ := HY.out.two'
  go_wp2_with fail
  refine (users_yes' C1 cc1 caps P1 cp1 (paths.length + 1) (paths ++ [l]) x _ U.length _ _ (Nat.le_refl _) (HC1.out.at' (by repeat (first | with_reducible exact Below.refl _ _ | with_reducible apply Below.drew | with_reducible apply below_drewN | with_reducible apply Below.alloc | omega | (focus (simp; done)) | (simp; omega)))) (HP1.out.at' (by repeat (first | with_reducible exact Below.refl _ _ | with_reducible apply Below.drew | with_reducible apply below_drewN | with_reducible apply Below.alloc | omega | (focus (simp; done)) | (simp; omega)))) (by simp) E1.out HU1.out rfl).mono ?_; rintro e w5 ⟨A3, c3, rfl, hi3, hb5⟩
  have hk : Below w4.heap.size w4 w5 := Below.trans (by repeat (first | with_reducible exact Below.refl _ _ | with_reducible apply Below.drew | with_reducible apply below_drewN | with_reducible apply Below.alloc | omega | (focus (simp; done)) | (simp; omega))) (hb5.mono (by first | omega | (simp; done) | (simp; omega)))
  replace HN := Lib.hid (HN.out.go hk)
  replace HX := Lib.hid (HX.out.go hk)
  replace HY := Lib.hid (HY.out.go hk)
  replace HC1 := Lib.hid (HC1.out.at' hk)
  replace HP1 := Lib.hid (HP1.out.at' hk)
  replace HC2 := Lib.hid (HC2.out.at' hk)
  replace HP2 := Lib.hid (HP2.out.at' hk)
  replace BEL : Hid (Below w.heap.size w w5) := Lib.hid (BEL.out.trans (hk.mono BEL.out.size))
  have z_w5 := hk.size; have y_w5 := BEL.out.size; clear hk hb5
  clear pN0 pN1 fN0 fN1 zN zN_1 zN_2 zN_3 pX0 pX1 fX0 fX1 zX zX_1 zX_2 zX_3 pY0 pY1 fY0 fY1 zY zY_1 zY_2 zY_3
  obtain ⟨pN0, pN1, fN0, fN1, zN, zN_1, zN_2, zN_3⟩ := HN.out.two'
  obtain ⟨pX0, pX1, fX0, fX1, zX, zX_1, zX_2, zX_3⟩ := HX.out.two'
  obtain ⟨pY0, pY1, fY0, fY1, zY, zY_1, zY_2, zY_3⟩ := HY.out.two'
  have HI3 := Lib.hid hi3; clear hi3
  go_wp2_with fail
  refine (users_yes' C cc caps P cp paths.length paths x _ U.length w.heap.size _ (by first | omega | (focus (simp; done)) | (simp; omega)) (HC.out.below (by repeat (first | with_reducible exact BEL.out | with_reducible apply Below.alloc | with_reducible apply Below.setCell | with_reducible apply Below.drew | with_reducible apply below_drewN | (first | omega | (focus (simp; done)) | (focus (simp; omega)) | (focus (simp [World.setCell]; omega))))) (Nat.le_refl _)) (HP.out.below (by repeat (first | with_reducible exact BEL.out | with_reducible apply Below.alloc | with_reducible apply Below.setCell | with_reducible apply Below.drew | with_reducible apply below_drewN | (first | omega | (focus (simp; done)) | (focus (simp; omega)) | (focus (simp [World.setCell]; omega))))) (Nat.le_refl _)) rfl E2.out HU.out rfl).mono ?_; rintro e w6 ⟨A4, c4, rfl, hi4, hb6⟩
  have hk : Below w5.heap.size w5 w6 := Below.trans (by repeat (first | with_reducible exact Below.refl _ _ | with_reducible apply Below.drew | with_reducible apply below_drewN | with_reducible apply Below.alloc | omega | (focus (simp; done)) | (simp; omega))) (hb6.mono (by first | omega | (simp; done) | (simp; omega)))
  replace HN := Lib.hid (HN.out.go hk)
  replace HX := Lib.hid (HX.out.go hk)
  replace HY := Lib.hid (HY.out.go hk)
  replace HC1 := Lib.hid (HC1.out.at' hk)
  replace HP1 := Lib.hid (HP1.out.at' hk)
  replace HC2 := Lib.hid (HC2.out.at' hk)
  replace HP2 := Lib.hid (HP2.out.at' hk)
  replace HI3 := Lib.hid (HI3.out.at' hk)
  replace BEL : Hid (Below w.heap.size w w6) := Lib.hid (BEL.out.trans (hk.mono BEL.out.size))
  have z_w6 := hk.size; have y_w6 := BEL.out.size; clear hk hb6
  clear pN0 pN1 fN0 fN1 zN zN_1 zN_2 zN_3 pX0 pX1 fX0 fX1 zX zX_1 zX_2 zX_3 pY0 pY1 fY0 fY1 zY zY_1 zY_2 zY_3
  obtain ⟨pN0, pN1, fN0, fN1, zN, zN_1, zN_2, zN_3⟩ := HN.out.two'
  obtain ⟨pX0, pX1, fX0, fX1, zX, zX_1, zX_2, zX_3⟩ := HX.out.two'
  obtain ⟨pY0, pY1, fY0, fY1, zY, zY_1, zY_2, zY_3⟩ := HY.out.two'
  have HI4 := Lib.hid hi4; clear hi4
  go_wp2_with fail
  have HIB := Lib.hid (HI.out.below (by repeat (first | with_reducible exact BEL.out | with_reducible apply Below.alloc | with_reducible apply Below.setCell | with_reducible apply Below.drew | with_reducible apply below_drewN | (first | omega | (focus (simp; done)) | (focus (simp; omega)) | (focus (simp [World.setCell]; omega))))) (Nat.le_refl _))
  go_loop [18, 19] (fun o i => ∃ (k : Nat) (b : Bool), k ≤ l.length ∧ i = .int .i64 k ∧ o = .bool b ∧ Hid (inL (l.take k) x = b)) (fun _ i => l.length - (intOf i).toNat)
  case atStart => exact ⟨0, false, Nat.zero_le _, rfl, rfl, Lib.hid (by simp [inL])⟩
  case round =>
    obtain ⟨k, b, hk, rfl, rfl, HK⟩ := hrel
    by_cases hlt : k < l.length
    · obtain ⟨bb, off, a, rfl, hbb, hca, _, HT, HX⟩ := HIB.out.elem hlt
      have hlm := HI.out.cap
      have hll := HI.out.le
      unfold maxLen at hlm
      have k0' : (0 : Int) ≤ (k : Int) := by omega
      have k1' : (k : Int) < l.length := by omega
      have hn := inL_take (x := x) HT.out
      rw [HK.out] at hn
      clear HT HX
      cases b
      · by_cases hax : a = x
        · subst hax
          have HN : Hid (inL (l.take (k + 1)) a = true) := Lib.hid (by rw [hn]; simp)
          clear hn
          go_wp2
          go_round
          case rel => exact ⟨k + 1, true, by omega, by go_num, rfl, HN⟩
          case measure => simp [intOf]; omega
        · have hb : (a == x) = false := beq_eq_false_iff_ne.2 hax
          have HN : Hid (inL (l.take (k + 1)) x = false) := Lib.hid (by rw [hn, hb]; rfl)
          clear hn hax
          go_wp2
          go_round
          case rel => exact ⟨k + 1, false, by omega, by go_num, rfl, HN⟩
          case measure => simp [intOf]; omega
      · have HN : Hid (inL (l.take (k + 1)) x = true) := Lib.hid (by rw [hn]; rfl)
        clear hn
        go_wp2
        go_round
        case rel => exact ⟨k + 1, true, by omega, by go_num, rfl, HN⟩
        case measure => simp [intOf]; omega
    · have hkl : k = l.length := by omega
      subst hkl
      have hb := HK.out
      rw [List.take_length, HIN.out] at hb
      subst hb
      go_wp2_with fail
      refine (sameInts_n A3 A4 c3 c4 _ _ (U.map fun (i : Nat) => (i : Int)) _ _ _ (HI3.out.at' (by repeat (first | with_reducible exact Below.refl _ _ | with_reducible apply Below.drew | with_reducible apply below_drewN | with_reducible apply Below.alloc | omega | (focus (simp; done)) | (simp; omega)))) (HI4.out.at' (by repeat (first | with_reducible exact Below.refl _ _ | with_reducible apply Below.drew | with_reducible apply below_drewN | with_reducible apply Below.alloc | omega | (focus (simp; done)) | (simp; omega)))) (by simp) (by simp)).mono ?_; rintro e w7 ⟨rfl, hb7⟩
      have hk : Below w6.heap.size w6 w7 := Below.trans (by repeat (first | with_reducible exact Below.refl _ _ | with_reducible apply Below.drew | with_reducible apply below_drewN | with_reducible apply Below.alloc | omega | (focus (simp; done)) | (simp; omega))) (hb7.mono (by first | omega | (simp; done) | (simp; omega)))
      replace HN := Lib.hid (HN.out.go hk)
      replace HX := Lib.hid (HX.out.go hk)
      replace HY := Lib.hid (HY.out.go hk)
      replace HC1 := Lib.hid (HC1.out.at' hk)
      replace HP1 := Lib.hid (HP1.out.at' hk)
      replace HC2 := Lib.hid (HC2.out.at' hk)
      replace HP2 := Lib.hid (HP2.out.at' hk)
      replace HI3 := Lib.hid (HI3.out.at' hk)
      replace HI4 := Lib.hid (HI4.out.at' hk)
      replace BEL : Hid (Below w.heap.size w w7) := Lib.hid (BEL.out.trans (hk.mono BEL.out.size))
      have z_w7 := hk.size; have y_w7 := BEL.out.size; clear hk hb7
      clear pN0 pN1 fN0 fN1 zN zN_1 zN_2 zN_3 pX0 pX1 fX0 fX1 zX zX_1 zX_2 zX_3 pY0 pY1 fY0 fY1 zY zY_1 zY_2 zY_3
      obtain ⟨pN0, pN1, fN0, fN1, zN, zN_1, zN_2, zN_3⟩ := HN.out.two'
      obtain ⟨pX0, pX1, fX0, fX1, zX, zX_1, zX_2, zX_3⟩ := HX.out.two'
      obtain ⟨pY0, pY1, fY0, fY1, zY, zY_1, zY_2, zY_3⟩ := HY.out.two'
      go_wp2
      go_ret
      exact ⟨rfl, (by repeat (first | with_reducible exact BEL.out | with_reducible apply Below.alloc | with_reducible apply Below.setCell | with_reducible apply Below.drew | with_reducible apply below_drewN | (first | omega | (focus (simp; done)) | (focus (simp; omega)) | (focus (simp [World.setCell]; omega)))))⟩
theorem netBack_walk (w : World) (C : Option Addr) (cc : Nat) (caps : List Int) (hc : Ints w w.heap.size C cc caps) (_ : ∀ n ∈ caps, (Lit.int .i64 n).wf = true) (P : Option Addr) (cp : Nat) (paths : List (List Int)) (hp : Rows2 w w.heap.size P cp paths) (_ : ∀ l ∈ paths, ∀ n ∈ l, (Lit.int .i64 n).wf = true) (A : Option Addr) (c : Nat) (l : List Int) (hi : Ints w w.heap.size A c l) (_ : ∀ n ∈ l, (Lit.int .i64 n).wf = true) (x : Int) (_ : (Lit.int .i64 x).wf = true) :
    Calls Try.prog 7 #[.agg #[.slice C caps.length cc, .slice P paths.length cp], .slice A l.length c, .int .i64 x] w fun e w' => e = .returned (.bool true) ∧ Below w.heap.size w w' := by
  by_cases he : addErr caps paths l = 0
  · by_cases x0 : x < 0
    · exact netBack_bad1 C cc caps P cp paths A c l x w hc hp hi he x0
    · by_cases x1 : (caps.length : Int) ≤ x
      · exact netBack_bad2 C cc caps P cp paths A c l x w hc hp hi he x0 x1
      · cases hin : inL l x
        · exact netBack_not C cc caps P cp paths A c l x w hc hp hi he x0 x1 hin
        · exact netBack_over C cc caps P cp paths A c l x w hc hp hi he x0 x1 hin
  · exact netBack_err C cc caps P cp paths A c l x w hc hp hi _ rfl he
end Go.Proofs.Ythffjnfnfddpdaa
