/- The walk of FillTells: it returns true for every input. -/
import Derived.Test.YtblanfaghnflkaaDoorRefFill3
import Derived.Test.YtblanfaghnflkaaDoorFrSame
import Derived.Test.YtblanfaghnflkaaDoorLibM
import Derived.Test.YtblanfaghnflkaaDoorTold
namespace Go.Proofs.YtblanfaghnflkaaDoor
open Go.RowKit
attribute [local go_sem ↓] run_min_mn run_max_mx
theorem frs_nil0 (w : World) (B : Nat) : Frs w B none 0 [] := ⟨⟨by simp [frCells], fun h => absurd h (by simp)⟩, Nat.le_refl _, by simp [maxLen]⟩
set_option maxHeartbeats 8000000 in
set_option maxRecDepth 100000 in
theorem fillTells_err (C : Option Addr) (cc : Nat) (caps : List Int) (P : Option Addr) (cp : Nat) (paths : List (List Int)) (w : World) (hg : Laid w) (hc : Ints w w.heap.size C cc caps) (hp : Rows2 w w.heap.size P cp paths) (er : Int) (he : netErr caps paths = er) (h0 : er ≠ 0) :
    Calls Tryd.prog 6 #[.agg #[.slice C caps.length cc, .slice P paths.length cp]] w fun e w' => e = .returned (.bool true) ∧ Below w.heap.size w w' := by
  have LAID := Lib.hid hg
  have HC := Lib.hid hc
  have HP := Lib.hid hp
  have hpm := hp.cap; have hpl := hp.le; have hcm := hc.cap; have hcl := hc.le
  unfold maxLen at hpm hcm
  clear hc hp hg
  have HE := Lib.hid he; have H0 := Lib.hid h0
  have e1 : (er == 0) = false := beq_eq_false_iff_ne.2 h0
  clear he h0
  have BEL : Hid (Below w.heap.size w w) := Lib.hid (Below.refl _ _)
  have yB : w.heap.size ≤ w.heap.size := Nat.le_refl _
  have RN := Lib.hid fun (W : World) (hW : w.heap.size ≤ W.heap.size) (h1 : Ints W w.heap.size C cc caps) (h2 : Rows2 W w.heap.size P cp paths) => (show Calls Tryd.prog 25 #[.agg #[.slice C caps.length cc, .slice P paths.length cp]] W fun r w' => r = .returned (.int .i64 er) ∧ Below W.heap.size W w' from by have := refNet_all C cc caps P cp paths w.heap.size W hW h1 h2; rwa [HE.out] at this)
  go_enter Tryd.func6, Tryd.ntmps6
  go_wp2_with fail
  refine (RN.out _ (by first | omega | (focus (simp; done)) | (simp; omega)) (HC.out.below (by repeat (first | with_reducible exact BEL.out | with_reducible apply Below.alloc | with_reducible apply Below.setCell | with_reducible apply Below.drew | with_reducible apply below_drewN | (first | omega | (focus (simp; done)) | (focus (simp; omega)) | (focus (simp [World.setCell]; omega))))) (Nat.le_refl _)) (HP.out.below (by repeat (first | with_reducible exact BEL.out | with_reducible apply Below.alloc | with_reducible apply Below.setCell | with_reducible apply Below.drew | with_reducible apply below_drewN | (first | omega | (focus (simp; done)) | (focus (simp; omega)) | (focus (simp [World.setCell]; omega))))) (Nat.le_refl _))).mono ?_; rintro e w1 ⟨rfl, hb1⟩
  have hk : Below w.heap.size w w1 := Below.trans (by repeat (first | with_reducible exact Below.refl _ _ | with_reducible apply Below.drew | with_reducible apply below_drewN | with_reducible apply Below.alloc | omega | (focus (simp; done)) | (simp; omega))) (hb1.mono (by first | omega | (simp; done) | (simp; omega)))
  have HN := Lib.hid (show Blk w1 (w.heap.size) 43 _ from Blk.go (by repeat (first | (with_reducible apply Blk.new'; first | with_reducible rfl | (focus (simp; done))) | with_reducible apply Blk.alloc | with_reducible apply Blk.drew | with_reducible apply Blk.drewN)) hb1)
  replace BEL : Hid (Below w.heap.size w w1) := Lib.hid (BEL.out.trans (hk.mono BEL.out.size))
  have z_w1 := hk.size; have y_w1 := BEL.out.size; clear hk hb1
  obtain ⟨pN0, pN1, fN0, fN1, zN, zN_1, zN_2, zN_3⟩ := HN.out.two'
  go_wp2_with fail
  refine (frates_no C cc caps P cp _ paths w.heap.size _ er (by first | omega | (focus (simp; done)) | (simp; omega)) (HC.out.below (by repeat (first | with_reducible exact BEL.out | with_reducible apply Below.alloc | with_reducible apply Below.setCell | with_reducible apply Below.drew | with_reducible apply below_drewN | (first | omega | (focus (simp; done)) | (focus (simp; omega)) | (focus (simp [World.setCell]; omega))))) (Nat.le_refl _)) (HP.out.below (by repeat (first | with_reducible exact BEL.out | with_reducible apply Below.alloc | with_reducible apply Below.setCell | with_reducible apply Below.drew | with_reducible apply below_drewN | (first | omega | (focus (simp; done)) | (focus (simp; omega)) | (focus (simp [World.setCell]; omega))))) (Nat.le_refl _)) rfl HE.out H0.out).mono ?_; rintro e w2 ⟨rfl, hb2⟩
  have hk : Below w1.heap.size w1 w2 := Below.trans (by repeat (first | with_reducible exact Below.refl _ _ | with_reducible apply Below.drew | with_reducible apply below_drewN | with_reducible apply Below.alloc | omega | (focus (simp; done)) | (simp; omega))) (hb2.mono (by first | omega | (simp; done) | (simp; omega)))
  replace HN := Lib.hid (HN.out.go hk)
  replace BEL : Hid (Below w.heap.size w w2) := Lib.hid (BEL.out.trans (hk.mono BEL.out.size))
  have z_w2 := hk.size; have y_w2 := BEL.out.size; clear hk hb2
  clear pN0 pN1 fN0 fN1 zN zN_1 zN_2 zN_3
  obtain ⟨pN0, pN1, fN0, fN1, zN, zN_1, zN_2, zN_3⟩ := HN.out.two'
  go_wp2_with fail
  refine (same_hit er _ (LAID.out.below (by repeat (first | with_reducible exact BEL.out | with_reducible apply Below.alloc | with_reducible apply Below.setCell | with_reducible apply Below.drew | with_reducible apply below_drewN | (first | omega | (focus (simp; done)) | (focus (simp; omega)) | (focus (simp [World.setCell]; omega))))))).mono ?_; rintro e w3 ⟨rfl, hb3⟩
  have hk : Below w2.heap.size w2 w3 := Below.trans (by repeat (first | with_reducible exact Below.refl _ _ | with_reducible apply Below.drew | with_reducible apply below_drewN | with_reducible apply Below.alloc | omega | (focus (simp; done)) | (simp; omega))) (hb3.mono (by first | omega | (simp; done) | (simp; omega)))
  replace HN := Lib.hid (HN.out.go hk)
  replace BEL : Hid (Below w.heap.size w w3) := Lib.hid (BEL.out.trans (hk.mono BEL.out.size))
  have z_w3 := hk.size; have y_w3 := BEL.out.size; clear hk hb3
  clear pN0 pN1 fN0 fN1 zN zN_1 zN_2 zN_3
  obtain ⟨pN0, pN1, fN0, fN1, zN, zN_1, zN_2, zN_3⟩ := HN.out.two'
  go_wp2_with fail
  refine (sameFr_any none none 0 0 0 0 [] [] 0 0 _ (frs_nil0 _ _) (frs_nil0 _ _) rfl rfl (Nat.zero_le _) (Nat.zero_le _) true (decide_eq_true rfl)).mono ?_; rintro e w4 ⟨rfl, hb4⟩
  have hk : Below w3.heap.size w3 w4 := Below.trans (by repeat (first | with_reducible exact Below.refl _ _ | with_reducible apply Below.drew | with_reducible apply below_drewN | with_reducible apply Below.alloc | omega | (focus (simp; done)) | (simp; omega))) (hb4.mono (by first | omega | (simp; done) | (simp; omega)))
  replace HN := Lib.hid (HN.out.go hk)
  replace BEL : Hid (Below w.heap.size w w4) := Lib.hid (BEL.out.trans (hk.mono BEL.out.size))
  have z_w4 := hk.size; have y_w4 := BEL.out.size; clear hk hb4
  clear pN0 pN1 fN0 fN1 zN zN_1 zN_2 zN_3
  obtain ⟨pN0, pN1, fN0, fN1, zN, zN_1, zN_2, zN_3⟩ := HN.out.two'
  go_wp2_with fail
  refine (frounds_no C cc caps P cp _ paths w.heap.size _ er (by first | omega | (focus (simp; done)) | (simp; omega)) (HC.out.below (by repeat (first | with_reducible exact BEL.out | with_reducible apply Below.alloc | with_reducible apply Below.setCell | with_reducible apply Below.drew | with_reducible apply below_drewN | (first | omega | (focus (simp; done)) | (focus (simp; omega)) | (focus (simp [World.setCell]; omega))))) (Nat.le_refl _)) (HP.out.below (by repeat (first | with_reducible exact BEL.out | with_reducible apply Below.alloc | with_reducible apply Below.setCell | with_reducible apply Below.drew | with_reducible apply below_drewN | (first | omega | (focus (simp; done)) | (focus (simp; omega)) | (focus (simp [World.setCell]; omega))))) (Nat.le_refl _)) rfl HE.out H0.out).mono ?_; rintro e w5 ⟨rfl, hb5⟩
  have hk : Below w4.heap.size w4 w5 := Below.trans (by repeat (first | with_reducible exact Below.refl _ _ | with_reducible apply Below.drew | with_reducible apply below_drewN | with_reducible apply Below.alloc | omega | (focus (simp; done)) | (simp; omega))) (hb5.mono (by first | omega | (simp; done) | (simp; omega)))
  replace HN := Lib.hid (HN.out.go hk)
  replace BEL : Hid (Below w.heap.size w w5) := Lib.hid (BEL.out.trans (hk.mono BEL.out.size))
  have z_w5 := hk.size; have y_w5 := BEL.out.size; clear hk hb5
  clear pN0 pN1 fN0 fN1 zN zN_1 zN_2 zN_3
  obtain ⟨pN0, pN1, fN0, fN1, zN, zN_1, zN_2, zN_3⟩ := HN.out.two'
  go_wp2_with fail
  refine (same_hit er _ (LAID.out.below (by repeat (first | with_reducible exact BEL.out | with_reducible apply Below.alloc | with_reducible apply Below.setCell | with_reducible apply Below.drew | with_reducible apply below_drewN | (first | omega | (focus (simp; done)) | (focus (simp; omega)) | (focus (simp [World.setCell]; omega))))))).mono ?_; rintro e w6 ⟨rfl, hb6⟩
  have hk : Below w5.heap.size w5 w6 := Below.trans (by repeat (first | with_reducible exact Below.refl _ _ | with_reducible apply Below.drew | with_reducible apply below_drewN | with_reducible apply Below.alloc | omega | (focus (simp; done)) | (simp; omega))) (hb6.mono (by first | omega | (simp; done) | (simp; omega)))
  replace HN := Lib.hid (HN.out.go hk)
  replace BEL : Hid (Below w.heap.size w w6) := Lib.hid (BEL.out.trans (hk.mono BEL.out.size))
  have z_w6 := hk.size; have y_w6 := BEL.out.size; clear hk hb6
  clear pN0 pN1 fN0 fN1 zN zN_1 zN_2 zN_3
  obtain ⟨pN0, pN1, fN0, fN1, zN, zN_1, zN_2, zN_3⟩ := HN.out.two'
  go_wp2_with fail
  refine (sameLists_n none none 0 0 0 0 [] 0 0 _ (Rows2.nil' _ _) (Rows2.nil' _ _) rfl rfl).mono ?_; rintro e w7 ⟨rfl, hb7⟩
  have hk : Below w6.heap.size w6 w7 := Below.trans (by repeat (first | with_reducible exact Below.refl _ _ | with_reducible apply Below.drew | with_reducible apply below_drewN | with_reducible apply Below.alloc | omega | (focus (simp; done)) | (simp; omega))) (hb7.mono (by first | omega | (simp; done) | (simp; omega)))
  replace HN := Lib.hid (HN.out.go hk)
  replace BEL : Hid (Below w.heap.size w w7) := Lib.hid (BEL.out.trans (hk.mono BEL.out.size))
  have z_w7 := hk.size; have y_w7 := BEL.out.size; clear hk hb7
  clear pN0 pN1 fN0 fN1 zN zN_1 zN_2 zN_3
  obtain ⟨pN0, pN1, fN0, fN1, zN, zN_1, zN_2, zN_3⟩ := HN.out.two'
  go_wp2
  go_ret
  exact ⟨rfl, (by repeat (first | with_reducible exact BEL.out | with_reducible apply Below.alloc | with_reducible apply Below.setCell | with_reducible apply Below.drew | with_reducible apply below_drewN | (first | omega | (focus (simp; done)) | (focus (simp; omega)) | (focus (simp [World.setCell]; omega)))))⟩
set_option maxHeartbeats 8000000 in
set_option maxRecDepth 100000 in
theorem fillTells_yes (C : Option Addr) (cc : Nat) (caps : List Int) (P : Option Addr) (cp : Nat) (paths : List (List Int)) (w : World) (hg : Laid w) (hc : Ints w w.heap.size C cc caps) (hp : Rows2 w w.heap.size P cp paths) (he : netErr caps paths = 0) :
    Calls Tryd.prog 6 #[.agg #[.slice C caps.length cc, .slice P paths.length cp]] w fun e w' => e = .returned (.bool true) ∧ Below w.heap.size w w' := by
  have LAID := Lib.hid hg
  have HC := Lib.hid hc
  have HP := Lib.hid hp
  have hpm := hp.cap; have hpl := hp.le; have hcm := hc.cap; have hcl := hc.le
  unfold maxLen at hpm hcm
  clear hc hp hg
  obtain ⟨K, R, hK⟩ := fill_ends (netOk_of he)
  have hRl := hK.len (netOk_of he)
  have hKl := hK.K_le (netOk_of he)
  obtain ⟨k1, k2, k3, k4, _, _⟩ := netErr_ok he
  have hR6 : R.length ≤ 6 := by omega
  have hK6 : K ≤ 6 := by omega
  have HE := Lib.hid he; have HK := Lib.hid hK
  have HRR := Lib.hid (rounds_len caps paths K)
  clear he hK hRl hKl
  have BEL : Hid (Below w.heap.size w w) := Lib.hid (Below.refl _ _)
  have yB : w.heap.size ≤ w.heap.size := Nat.le_refl _
  have RN := Lib.hid fun (W : World) (hW : w.heap.size ≤ W.heap.size) (h1 : Ints W w.heap.size C cc caps) (h2 : Rows2 W w.heap.size P cp paths) => (show Calls Tryd.prog 25 #[.agg #[.slice C caps.length cc, .slice P paths.length cp]] W fun r w' => r = .returned (.int .i64 0) ∧ Below W.heap.size W w' from by have := refNet_all C cc caps P cp paths w.heap.size W hW h1 h2; rwa [HE.out] at this)
  go_enter Tryd.func6, Tryd.ntmps6
  go_wp2_with fail
  refine (RN.out _ (by first | omega | (focus (simp; done)) | (simp; omega)) (HC.out.below (by repeat (first | with_reducible exact BEL.out | with_reducible apply Below.alloc | with_reducible apply Below.setCell | with_reducible apply Below.drew | with_reducible apply below_drewN | (first | omega | (focus (simp; done)) | (focus (simp; omega)) | (focus (simp [World.setCell]; omega))))) (Nat.le_refl _)) (HP.out.below (by repeat (first | with_reducible exact BEL.out | with_reducible apply Below.alloc | with_reducible apply Below.setCell | with_reducible apply Below.drew | with_reducible apply below_drewN | (first | omega | (focus (simp; done)) | (focus (simp; omega)) | (focus (simp [World.setCell]; omega))))) (Nat.le_refl _))).mono ?_; rintro e w1 ⟨rfl, hb1⟩
  have hk : Below w.heap.size w w1 := Below.trans (by repeat (first | with_reducible exact Below.refl _ _ | with_reducible apply Below.drew | with_reducible apply below_drewN | with_reducible apply Below.alloc | omega | (focus (simp; done)) | (simp; omega))) (hb1.mono (by first | omega | (simp; done) | (simp; omega)))
  have HN := Lib.hid (show Blk w1 (w.heap.size) 43 _ from Blk.go (by repeat (first | (with_reducible apply Blk.new'; first | with_reducible rfl | (focus (simp; done))) | with_reducible apply Blk.alloc | with_reducible apply Blk.drew | with_reducible apply Blk.drewN)) hb1)
  replace BEL : Hid (Below w.heap.size w w1) := Lib.hid (BEL.out.trans (hk.mono BEL.out.size))
  have z_w1 := hk.size; have y_w1 := BEL.out.size; clear hk hb1
  obtain ⟨pN0, pN1, fN0, fN1, zN, zN_1, zN_2, zN_3⟩ := HN.out.two'
  go_wp2_with fail
  refine (refFill_yes C cc _ caps P cp _ paths w.heap.size _ K R (by first | omega | (focus (simp; done)) | (simp; omega)) (HC.out.below (by repeat (first | with_reducible exact BEL.out | with_reducible apply Below.alloc | with_reducible apply Below.setCell | with_reducible apply Below.drew | with_reducible apply below_drewN | (first | omega | (focus (simp; done)) | (focus (simp; omega)) | (focus (simp [World.setCell]; omega))))) (Nat.le_refl _)) (HP.out.below (by repeat (first | with_reducible exact BEL.out | with_reducible apply Below.alloc | with_reducible apply Below.setCell | with_reducible apply Below.drew | with_reducible apply below_drewN | (first | omega | (focus (simp; done)) | (focus (simp; omega)) | (focus (simp [World.setCell]; omega))))) (Nat.le_refl _)) rfl rfl (netOk_of HE.out) (by omega) (fun p hp => by have := netErr_short HE.out p hp; omega) HK.out).mono ?_; rintro e w2 ⟨A1, c1, P1, cp1, rfl, hf1, hr1, hb2⟩
  have hk : Below w1.heap.size w1 w2 := Below.trans (by repeat (first | with_reducible exact Below.refl _ _ | with_reducible apply Below.drew | with_reducible apply below_drewN | with_reducible apply Below.alloc | omega | (focus (simp; done)) | (simp; omega))) (hb2.mono (by first | omega | (simp; done) | (simp; omega)))
  replace HN := Lib.hid (HN.out.go hk)
  replace BEL : Hid (Below w.heap.size w w2) := Lib.hid (BEL.out.trans (hk.mono BEL.out.size))
  have z_w2 := hk.size; have y_w2 := BEL.out.size; clear hk hb2
  clear pN0 pN1 fN0 fN1 zN zN_1 zN_2 zN_3
  obtain ⟨pN0, pN1, fN0, fN1, zN, zN_1, zN_2, zN_3⟩ := HN.out.two'
  have HF1 := Lib.hid hf1; have HR1 := Lib.hid hr1; clear hf1 hr1
  go_wp2_with fail
  refine (frates_yes C cc caps P cp _ paths w.heap.size _ K R (by first | omega | (focus (simp; done)) | (simp; omega)) (HC.out.below (by repeat (first | with_reducible exact BEL.out | with_reducible apply Below.alloc | with_reducible apply Below.setCell | with_reducible apply Below.drew | with_reducible apply below_drewN | (first | omega | (focus (simp; done)) | (focus (simp; omega)) | (focus (simp [World.setCell]; omega))))) (Nat.le_refl _)) (HP.out.below (by repeat (first | with_reducible exact BEL.out | with_reducible apply Below.alloc | with_reducible apply Below.setCell | with_reducible apply Below.drew | with_reducible apply below_drewN | (first | omega | (focus (simp; done)) | (focus (simp; omega)) | (focus (simp [World.setCell]; omega))))) (Nat.le_refl _)) rfl HE.out HK.out).mono ?_; rintro e w3 ⟨A2, c2, rfl, hf2, hb3⟩
  have hk : Below w2.heap.size w2 w3 := Below.trans (by repeat (first | with_reducible exact Below.refl _ _ | with_reducible apply Below.drew | with_reducible apply below_drewN | with_reducible apply Below.alloc | omega | (focus (simp; done)) | (simp; omega))) (hb3.mono (by first | omega | (simp; done) | (simp; omega)))
  replace HN := Lib.hid (HN.out.go hk)
  replace HF1 := Lib.hid (HF1.out.at' hk)
  replace HR1 := Lib.hid (HR1.out.at' hk)
  replace BEL : Hid (Below w.heap.size w w3) := Lib.hid (BEL.out.trans (hk.mono BEL.out.size))
  have z_w3 := hk.size; have y_w3 := BEL.out.size; clear hk hb3
  clear pN0 pN1 fN0 fN1 zN zN_1 zN_2 zN_3
  obtain ⟨pN0, pN1, fN0, fN1, zN, zN_1, zN_2, zN_3⟩ := HN.out.two'
  have HF2 := Lib.hid hf2; clear hf2
  go_wp2_with fail
  refine (same_ok _).mono ?_; rintro e w4 ⟨rfl, hb4⟩
  have hk : Below w3.heap.size w3 w4 := Below.trans (by repeat (first | with_reducible exact Below.refl _ _ | with_reducible apply Below.drew | with_reducible apply below_drewN | with_reducible apply Below.alloc | omega | (focus (simp; done)) | (simp; omega))) (hb4.mono (by first | omega | (simp; done) | (simp; omega)))
  replace HN := Lib.hid (HN.out.go hk)
  replace HF1 := Lib.hid (HF1.out.at' hk)
  replace HR1 := Lib.hid (HR1.out.at' hk)
  replace HF2 := Lib.hid (HF2.out.at' hk)
  replace BEL : Hid (Below w.heap.size w w4) := Lib.hid (BEL.out.trans (hk.mono BEL.out.size))
  have z_w4 := hk.size; have y_w4 := BEL.out.size; clear hk hb4
  clear pN0 pN1 fN0 fN1 zN zN_1 zN_2 zN_3
  obtain ⟨pN0, pN1, fN0, fN1, zN, zN_1, zN_2, zN_3⟩ := HN.out.two'
  go_wp2_with fail
  refine (sameFr_any A2 A1 c2 c1 _ _ (R.map frQ) (R.map frQ) _ _ _ (HF2.out.at' (by repeat (first | with_reducible exact Below.refl _ _ | with_reducible apply Below.drew | with_reducible apply below_drewN | with_reducible apply Below.alloc | omega | (focus (simp; done)) | (simp; omega)))) (HF1.out.at' (by repeat (first | with_reducible exact Below.refl _ _ | with_reducible apply Below.drew | with_reducible apply below_drewN | with_reducible apply Below.alloc | omega | (focus (simp; done)) | (simp; omega)))) (by simp) (by simp) (Nat.le_refl _) (Nat.le_refl _) true (decide_eq_true rfl)).mono ?_; rintro e w5 ⟨rfl, hb5⟩
  have hk : Below w4.heap.size w4 w5 := Below.trans (by repeat (first | with_reducible exact Below.refl _ _ | with_reducible apply Below.drew | with_reducible apply below_drewN | with_reducible apply Below.alloc | omega | (focus (simp; done)) | (simp; omega))) (hb5.mono (by first | omega | (simp; done) | (simp; omega)))
  replace HN := Lib.hid (HN.out.go hk)
  replace HF1 := Lib.hid (HF1.out.at' hk)
  replace HR1 := Lib.hid (HR1.out.at' hk)
  replace HF2 := Lib.hid (HF2.out.at' hk)
  replace BEL : Hid (Below w.heap.size w w5) := Lib.hid (BEL.out.trans (hk.mono BEL.out.size))
  have z_w5 := hk.size; have y_w5 := BEL.out.size; clear hk hb5
  clear pN0 pN1 fN0 fN1 zN zN_1 zN_2 zN_3
  obtain ⟨pN0, pN1, fN0, fN1, zN, zN_1, zN_2, zN_3⟩ := HN.out.two'
  clear HF1 HF2
  go_wp2_with fail
  refine (frounds_yes C cc caps P cp _ paths w.heap.size _ K R (by first | omega | (focus (simp; done)) | (simp; omega)) (HC.out.below (by repeat (first | with_reducible exact BEL.out | with_reducible apply Below.alloc | with_reducible apply Below.setCell | with_reducible apply Below.drew | with_reducible apply below_drewN | (first | omega | (focus (simp; done)) | (focus (simp; omega)) | (focus (simp [World.setCell]; omega))))) (Nat.le_refl _)) (HP.out.below (by repeat (first | with_reducible exact BEL.out | with_reducible apply Below.alloc | with_reducible apply Below.setCell | with_reducible apply Below.drew | with_reducible apply below_drewN | (first | omega | (focus (simp; done)) | (focus (simp; omega)) | (focus (simp [World.setCell]; omega))))) (Nat.le_refl _)) rfl HE.out HK.out).mono ?_; rintro e w6 ⟨A3, c3, rfl, hr3, hb6⟩
  have hk : Below w5.heap.size w5 w6 := Below.trans (by repeat (first | with_reducible exact Below.refl _ _ | with_reducible apply Below.drew | with_reducible apply below_drewN | with_reducible apply Below.alloc | omega | (focus (simp; done)) | (simp; omega))) (hb6.mono (by first | omega | (simp; done) | (simp; omega)))
  replace HN := Lib.hid (HN.out.go hk)
  replace HR1 := Lib.hid (HR1.out.at' hk)
  replace BEL : Hid (Below w.heap.size w w6) := Lib.hid (BEL.out.trans (hk.mono BEL.out.size))
  have z_w6 := hk.size; have y_w6 := BEL.out.size; clear hk hb6
  clear pN0 pN1 fN0 fN1 zN zN_1 zN_2 zN_3
  obtain ⟨pN0, pN1, fN0, fN1, zN, zN_1, zN_2, zN_3⟩ := HN.out.two'
  have HR3 := Lib.hid hr3; clear hr3
  go_wp2_with fail
  refine (same_ok _).mono ?_; rintro e w7 ⟨rfl, hb7⟩
  have hk : Below w6.heap.size w6 w7 := Below.trans (by repeat (first | with_reducible exact Below.refl _ _ | with_reducible apply Below.drew | with_reducible apply below_drewN | with_reducible apply Below.alloc | omega | (focus (simp; done)) | (simp; omega))) (hb7.mono (by first | omega | (simp; done) | (simp; omega)))
  replace HN := Lib.hid (HN.out.go hk)
  replace HR1 := Lib.hid (HR1.out.at' hk)
  replace HR3 := Lib.hid (HR3.out.at' hk)
  replace BEL : Hid (Below w.heap.size w w7) := Lib.hid (BEL.out.trans (hk.mono BEL.out.size))
  have z_w7 := hk.size; have y_w7 := BEL.out.size; clear hk hb7
  clear pN0 pN1 fN0 fN1 zN zN_1 zN_2 zN_3
  obtain ⟨pN0, pN1, fN0, fN1, zN, zN_1, zN_2, zN_3⟩ := HN.out.two'
  go_wp2_with fail
  refine (sameLists_n A3 P1 c3 cp1 _ _ (rounds caps paths K) _ _ _ (HR3.out.at' (by repeat (first | with_reducible exact Below.refl _ _ | with_reducible apply Below.drew | with_reducible apply below_drewN | with_reducible apply Below.alloc | omega | (focus (simp; done)) | (simp; omega)))) (HR1.out.at' (by repeat (first | with_reducible exact Below.refl _ _ | with_reducible apply Below.drew | with_reducible apply below_drewN | with_reducible apply Below.alloc | omega | (focus (simp; done)) | (simp; omega)))) HRR.out.symm HRR.out.symm).mono ?_; rintro e w8 ⟨rfl, hb8⟩
  have hk : Below w7.heap.size w7 w8 := Below.trans (by repeat (first | with_reducible exact Below.refl _ _ | with_reducible apply Below.drew | with_reducible apply below_drewN | with_reducible apply Below.alloc | omega | (focus (simp; done)) | (simp; omega))) (hb8.mono (by first | omega | (simp; done) | (simp; omega)))
  replace HN := Lib.hid (HN.out.go hk)
  replace HR1 := Lib.hid (HR1.out.at' hk)
  replace HR3 := Lib.hid (HR3.out.at' hk)
  replace BEL : Hid (Below w.heap.size w w8) := Lib.hid (BEL.out.trans (hk.mono BEL.out.size))
  have z_w8 := hk.size; have y_w8 := BEL.out.size; clear hk hb8
  clear pN0 pN1 fN0 fN1 zN zN_1 zN_2 zN_3
  obtain ⟨pN0, pN1, fN0, fN1, zN, zN_1, zN_2, zN_3⟩ := HN.out.two'
  go_wp2
  go_ret
  exact ⟨rfl, (by repeat (first | with_reducible exact BEL.out | with_reducible apply Below.alloc | with_reducible apply Below.setCell | with_reducible apply Below.drew | with_reducible apply below_drewN | (first | omega | (focus (simp; done)) | (focus (simp; omega)) | (focus (simp [World.setCell]; omega)))))⟩
theorem fillTells_walk (w : World) (C : Option Addr) (cc : Nat) (caps : List Int) (hc : Ints w w.heap.size C cc caps) (_ : ∀ n ∈ caps, (Lit.int .i64 n).wf = true) (P : Option Addr) (cp : Nat) (paths : List (List Int)) (hp : Rows2 w w.heap.size P cp paths) (_ : ∀ l ∈ paths, ∀ n ∈ l, (Lit.int .i64 n).wf = true) (hg : Laid w) :
    Calls Tryd.prog 6 #[.agg #[.slice C caps.length cc, .slice P paths.length cp]] w fun e w' => e = .returned (.bool true) ∧ Below w.heap.size w w' := by
  by_cases he : netErr caps paths = 0
  · exact fillTells_yes C cc caps P cp paths w hg hc hp he
  · exact fillTells_err C cc caps P cp paths w hg hc hp _ rfl he
end Go.Proofs.YtblanfaghnflkaaDoor
