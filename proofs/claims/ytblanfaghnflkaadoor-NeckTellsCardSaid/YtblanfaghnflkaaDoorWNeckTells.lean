/- The walk of NeckTells: it returns true for every input. -/
import Derived.Test.YtblanfaghnflkaaDoorRefNecks
import Derived.Test.YtblanfaghnflkaaDoorLibJ
import Derived.Test.YtblanfaghnflkaaDoorTold
import Derived.Test.YtblanfaghnflkaaDoorLibM
namespace Go.Proofs.YtblanfaghnflkaaDoor
open Go.RowKit
attribute [local go_sem ↓] run_min_mn run_max_mx
set_option maxHeartbeats 16000000 in
set_option maxRecDepth 100000 in
theorem neckTells_err (C : Option Addr) (cc : Nat) (caps : List Int) (P : Option Addr) (cp : Nat) (paths : List (List Int)) (A : Option Addr) (c : Nat) (S : List Fr) (w : World) (hg : Laid w) (hc : Ints w w.heap.size C cc caps) (hp : Rows2 w w.heap.size P cp paths) (hr : Frs w w.heap.size A c S) (er : Int) (hx : (chkErr caps paths S = er ∧ er ≠ 0) ∨ (∃ Q : List Rat, S = Q.map frQ ∧ netErr caps paths = 0 ∧ Q.length = paths.length ∧ (∀ q ∈ Q, QIn q) ∧ loadsTo paths Q caps.length = none ∧ er = 4)) (h0 : er ≠ 0) :
    Calls Tryd.prog 9 #[.agg #[.slice C caps.length cc, .slice P paths.length cp], .slice A S.length c] w fun e w' => e = .returned (.bool true) ∧ Below w.heap.size w w' := by
  have LAID := Lib.hid hg
  have HC := Lib.hid hc
  have HP := Lib.hid hp
  have HR := Lib.hid hr
  have hpm := hp.cap; have hpl := hp.le; have hcm := hc.cap; have hcl := hc.le
  unfold maxLen at hpm hcm
  clear hc hp hr hg
  have HX := Lib.hid hx; have H0 := Lib.hid h0; have e0 : (er != 0) = true := by simpa using h0
  have e1 : (er == 0) = false := beq_eq_false_iff_ne.2 h0
  clear hx h0
  have BEL : Hid (Below w.heap.size w w) := Lib.hid (Below.refl _ _)
  have yB : w.heap.size ≤ w.heap.size := Nat.le_refl _
  go_enter Tryd.func9, Tryd.ntmps9
  go_wp2_with fail
  refine (refLoad_er C cc caps P cp _ paths A c _ S w.heap.size _ er (by first | omega | (focus (simp; done)) | (simp; omega)) (HC.out.below (by repeat (first | with_reducible exact BEL.out | with_reducible apply Below.alloc | with_reducible apply Below.setCell | with_reducible apply Below.drew | with_reducible apply below_drewN | (first | omega | (focus (simp; done)) | (focus (simp; omega)) | (focus (simp [World.setCell]; omega))))) (Nat.le_refl _)) (HP.out.below (by repeat (first | with_reducible exact BEL.out | with_reducible apply Below.alloc | with_reducible apply Below.setCell | with_reducible apply Below.drew | with_reducible apply below_drewN | (first | omega | (focus (simp; done)) | (focus (simp; omega)) | (focus (simp [World.setCell]; omega))))) (Nat.le_refl _)) (HR.out.below (by repeat (first | with_reducible exact BEL.out | with_reducible apply Below.alloc | with_reducible apply Below.setCell | with_reducible apply Below.drew | with_reducible apply below_drewN | (first | omega | (focus (simp; done)) | (focus (simp; omega)) | (focus (simp [World.setCell]; omega))))) (Nat.le_refl _)) rfl rfl HX.out).mono ?_; rintro e w1 ⟨rfl, hb1⟩
  have hk : Below w.heap.size w w1 := Below.trans (by repeat (first | with_reducible exact Below.refl _ _ | with_reducible apply Below.drew | with_reducible apply below_drewN | with_reducible apply Below.alloc | omega | (focus (simp; done)) | (simp; omega))) (hb1.mono (by first | omega | (simp; done) | (simp; omega)))
  have HN := Lib.hid (show Blk w1 (w.heap.size) 43 _ from Blk.go (by repeat (first | (with_reducible apply Blk.new'; first | with_reducible rfl | (focus (simp; done))) | with_reducible apply Blk.alloc | with_reducible apply Blk.drew | with_reducible apply Blk.drewN)) hb1)
  replace BEL : Hid (Below w.heap.size w w1) := Lib.hid (BEL.out.trans (hk.mono BEL.out.size))
  have z_w1 := hk.size; have y_w1 := BEL.out.size; clear hk hb1
  obtain ⟨pN0, pN1, fN0, fN1, zN, zN_1, zN_2, zN_3⟩ := HN.out.two'
  go_wp2_with fail
  refine (nfull_er C cc caps P cp _ paths A c _ S w.heap.size _ er (by first | omega | (focus (simp; done)) | (simp; omega)) (HC.out.below (by repeat (first | with_reducible exact BEL.out | with_reducible apply Below.alloc | with_reducible apply Below.setCell | with_reducible apply Below.drew | with_reducible apply below_drewN | (first | omega | (focus (simp; done)) | (focus (simp; omega)) | (focus (simp [World.setCell]; omega))))) (Nat.le_refl _)) (HP.out.below (by repeat (first | with_reducible exact BEL.out | with_reducible apply Below.alloc | with_reducible apply Below.setCell | with_reducible apply Below.drew | with_reducible apply below_drewN | (first | omega | (focus (simp; done)) | (focus (simp; omega)) | (focus (simp [World.setCell]; omega))))) (Nat.le_refl _)) (HR.out.below (by repeat (first | with_reducible exact BEL.out | with_reducible apply Below.alloc | with_reducible apply Below.setCell | with_reducible apply Below.drew | with_reducible apply below_drewN | (first | omega | (focus (simp; done)) | (focus (simp; omega)) | (focus (simp [World.setCell]; omega))))) (Nat.le_refl _)) rfl rfl HX.out).mono ?_; rintro e w2 ⟨rfl, hb2⟩
  have hk : Below w1.heap.size w1 w2 := Below.trans (by repeat (first | with_reducible exact Below.refl _ _ | with_reducible apply Below.drew | with_reducible apply below_drewN | with_reducible apply Below.alloc | omega | (focus (simp; done)) | (simp; omega))) (hb2.mono (by first | omega | (simp; done) | (simp; omega)))
  replace HN := Lib.hid (HN.out.go hk)
  replace BEL : Hid (Below w.heap.size w w2) := Lib.hid (BEL.out.trans (hk.mono BEL.out.size))
  have z_w2 := hk.size; have y_w2 := BEL.out.size; clear hk hb2
  clear pN0 pN1 fN0 fN1 zN zN_1 zN_2 zN_3
  obtain ⟨pN0, pN1, fN0, fN1, zN, zN_1, zN_2, zN_3⟩ := HN.out.two'
  go_wp2_with fail
  refine (same_hit er _ (LAID.out.below (by repeat (first | with_reducible exact BEL.out | with_reducible apply Below.alloc | with_reducible apply Below.setCell | with_reducible apply Below.drew | with_reducible apply below_drewN | (first | omega | (focus (simp; done)) | (focus (simp; omega)) | (focus (simp [World.setCell]; omega))))))).mono ?_; rintro e w3 ⟨rfl, hb3⟩
  have hk : Below w2.heap.size w2 w3 := Below.trans (by repeat (first | with_reducible exact Below.refl _ _ | with_reducible apply Below.drew | with_reducible apply below_drewN | with_reducible apply Below.alloc | omega | (focus (simp; done)) | (simp; omega))) (hb3.mono (by first | omega | (simp; done) | (simp; omega)))
  replace HN := Lib.hid (HN.out.go hk)
  replace BEL : Hid (Below w.heap.size w w3) := Lib.hid (BEL.out.trans (hk.mono BEL.out.size))
  have z_w3 := hk.size; have y_w3 := BEL.out.size; clear hk hb3
  clear pN0 pN1 fN0 fN1 zN zN_1 zN_2 zN_3
  obtain ⟨pN0, pN1, fN0, fN1, zN, zN_1, zN_2, zN_3⟩ := HN.out.two'
  go_wp2_with fail
  refine (sameInts_n none none 0 0 0 0 [] 0 0 _ (Ints.nil' _ _) (Ints.nil' _ _) rfl rfl).mono ?_; rintro e w4 ⟨rfl, hb4⟩
  have hk : Below w3.heap.size w3 w4 := Below.trans (by repeat (first | with_reducible exact Below.refl _ _ | with_reducible apply Below.drew | with_reducible apply below_drewN | with_reducible apply Below.alloc | omega | (focus (simp; done)) | (simp; omega))) (hb4.mono (by first | omega | (simp; done) | (simp; omega)))
  replace HN := Lib.hid (HN.out.go hk)
  replace BEL : Hid (Below w.heap.size w w4) := Lib.hid (BEL.out.trans (hk.mono BEL.out.size))
  have z_w4 := hk.size; have y_w4 := BEL.out.size; clear hk hb4
  clear pN0 pN1 fN0 fN1 zN zN_1 zN_2 zN_3
  obtain ⟨pN0, pN1, fN0, fN1, zN, zN_1, zN_2, zN_3⟩ := HN.out.two'
  go_wp2_with fail
  refine (refNecks_er C cc caps P cp _ paths A c _ S w.heap.size _ er (by first | omega | (focus (simp; done)) | (simp; omega)) (HC.out.below (by repeat (first | with_reducible exact BEL.out | with_reducible apply Below.alloc | with_reducible apply Below.setCell | with_reducible apply Below.drew | with_reducible apply below_drewN | (first | omega | (focus (simp; done)) | (focus (simp; omega)) | (focus (simp [World.setCell]; omega))))) (Nat.le_refl _)) (HP.out.below (by repeat (first | with_reducible exact BEL.out | with_reducible apply Below.alloc | with_reducible apply Below.setCell | with_reducible apply Below.drew | with_reducible apply below_drewN | (first | omega | (focus (simp; done)) | (focus (simp; omega)) | (focus (simp [World.setCell]; omega))))) (Nat.le_refl _)) (HR.out.below (by repeat (first | with_reducible exact BEL.out | with_reducible apply Below.alloc | with_reducible apply Below.setCell | with_reducible apply Below.drew | with_reducible apply below_drewN | (first | omega | (focus (simp; done)) | (focus (simp; omega)) | (focus (simp [World.setCell]; omega))))) (Nat.le_refl _)) rfl rfl HX.out H0.out).mono ?_; rintro e w5 ⟨rfl, hb5⟩
  have hk : Below w4.heap.size w4 w5 := Below.trans (by repeat (first | with_reducible exact Below.refl _ _ | with_reducible apply Below.drew | with_reducible apply below_drewN | with_reducible apply Below.alloc | omega | (focus (simp; done)) | (simp; omega))) (hb5.mono (by first | omega | (simp; done) | (simp; omega)))
  replace HN := Lib.hid (HN.out.go hk)
  replace BEL : Hid (Below w.heap.size w w5) := Lib.hid (BEL.out.trans (hk.mono BEL.out.size))
  have z_w5 := hk.size; have y_w5 := BEL.out.size; clear hk hb5
  clear pN0 pN1 fN0 fN1 zN zN_1 zN_2 zN_3
  obtain ⟨pN0, pN1, fN0, fN1, zN, zN_1, zN_2, zN_3⟩ := HN.out.two'
  go_wp2_with fail
  refine (necks_er C cc caps P cp _ paths A c _ S w.heap.size _ er (by first | omega | (focus (simp; done)) | (simp; omega)) (HC.out.below (by repeat (first | with_reducible exact BEL.out | with_reducible apply Below.alloc | with_reducible apply Below.setCell | with_reducible apply Below.drew | with_reducible apply below_drewN | (first | omega | (focus (simp; done)) | (focus (simp; omega)) | (focus (simp [World.setCell]; omega))))) (Nat.le_refl _)) (HP.out.below (by repeat (first | with_reducible exact BEL.out | with_reducible apply Below.alloc | with_reducible apply Below.setCell | with_reducible apply Below.drew | with_reducible apply below_drewN | (first | omega | (focus (simp; done)) | (focus (simp; omega)) | (focus (simp [World.setCell]; omega))))) (Nat.le_refl _)) (HR.out.below (by repeat (first | with_reducible exact BEL.out | with_reducible apply Below.alloc | with_reducible apply Below.setCell | with_reducible apply Below.drew | with_reducible apply below_drewN | (first | omega | (focus (simp; done)) | (focus (simp; omega)) | (focus (simp [World.setCell]; omega))))) (Nat.le_refl _)) rfl rfl HX.out).mono ?_; rintro e w6 ⟨rfl, hb6⟩
  have hk : Below w5.heap.size w5 w6 := Below.trans (by repeat (first | with_reducible exact Below.refl _ _ | with_reducible apply Below.drew | with_reducible apply below_drewN | with_reducible apply Below.alloc | omega | (focus (simp; done)) | (simp; omega))) (hb6.mono (by first | omega | (simp; done) | (simp; omega)))
  replace HN := Lib.hid (HN.out.go hk)
  replace BEL : Hid (Below w.heap.size w w6) := Lib.hid (BEL.out.trans (hk.mono BEL.out.size))
  have z_w6 := hk.size; have y_w6 := BEL.out.size; clear hk hb6
  clear pN0 pN1 fN0 fN1 zN zN_1 zN_2 zN_3
  obtain ⟨pN0, pN1, fN0, fN1, zN, zN_1, zN_2, zN_3⟩ := HN.out.two'
  go_wp2_with fail
  refine (same_hit er _ (LAID.out.below (by repeat (first | with_reducible exact BEL.out | with_reducible apply Below.alloc | with_reducible apply Below.setCell | with_reducible apply Below.drew | with_reducible apply below_drewN | (first | omega | (focus (simp; done)) | (focus (simp; omega)) | (focus (simp [World.setCell]; omega))))))).mono ?_; rintro e w7 ⟨rfl, hb7⟩
  have hk : Below w6.heap.size w6 w7 := Below.trans (by repeat (first | with_reducible exact Below.refl _ _ | with_reducible apply Below.drew | with_reducible apply below_drewN | with_reducible apply Below.alloc | omega | (focus (simp; done)) | (simp; omega))) (hb7.mono (by first | omega | (simp; done) | (simp; omega)))
  replace HN := Lib.hid (HN.out.go hk)
  replace BEL : Hid (Below w.heap.size w w7) := Lib.hid (BEL.out.trans (hk.mono BEL.out.size))
  have z_w7 := hk.size; have y_w7 := BEL.out.size; clear hk hb7
  clear pN0 pN1 fN0 fN1 zN zN_1 zN_2 zN_3
  obtain ⟨pN0, pN1, fN0, fN1, zN, zN_1, zN_2, zN_3⟩ := HN.out.two'
  go_wp2_with fail
  refine (sameInts_n none none 0 0 0 0 [] 0 0 _ (Ints.nil' _ _) (Ints.nil' _ _) rfl rfl).mono ?_; rintro e w8 ⟨rfl, hb8⟩
  have hk : Below w7.heap.size w7 w8 := Below.trans (by repeat (first | with_reducible exact Below.refl _ _ | with_reducible apply Below.drew | with_reducible apply below_drewN | with_reducible apply Below.alloc | omega | (focus (simp; done)) | (simp; omega))) (hb8.mono (by first | omega | (simp; done) | (simp; omega)))
  replace HN := Lib.hid (HN.out.go hk)
  replace BEL : Hid (Below w.heap.size w w8) := Lib.hid (BEL.out.trans (hk.mono BEL.out.size))
  have z_w8 := hk.size; have y_w8 := BEL.out.size; clear hk hb8
  clear pN0 pN1 fN0 fN1 zN zN_1 zN_2 zN_3
  obtain ⟨pN0, pN1, fN0, fN1, zN, zN_1, zN_2, zN_3⟩ := HN.out.two'
  go_wp2_with fail
  refine (refFits_er C cc caps P cp _ paths A c _ S w.heap.size _ er (by first | omega | (focus (simp; done)) | (simp; omega)) (HC.out.below (by repeat (first | with_reducible exact BEL.out | with_reducible apply Below.alloc | with_reducible apply Below.setCell | with_reducible apply Below.drew | with_reducible apply below_drewN | (first | omega | (focus (simp; done)) | (focus (simp; omega)) | (focus (simp [World.setCell]; omega))))) (Nat.le_refl _)) (HP.out.below (by repeat (first | with_reducible exact BEL.out | with_reducible apply Below.alloc | with_reducible apply Below.setCell | with_reducible apply Below.drew | with_reducible apply below_drewN | (first | omega | (focus (simp; done)) | (focus (simp; omega)) | (focus (simp [World.setCell]; omega))))) (Nat.le_refl _)) (HR.out.below (by repeat (first | with_reducible exact BEL.out | with_reducible apply Below.alloc | with_reducible apply Below.setCell | with_reducible apply Below.drew | with_reducible apply below_drewN | (first | omega | (focus (simp; done)) | (focus (simp; omega)) | (focus (simp [World.setCell]; omega))))) (Nat.le_refl _)) rfl rfl HX.out H0.out).mono ?_; rintro e w9 ⟨rfl, hb9⟩
  have hk : Below w8.heap.size w8 w9 := Below.trans (by repeat (first | with_reducible exact Below.refl _ _ | with_reducible apply Below.drew | with_reducible apply below_drewN | with_reducible apply Below.alloc | omega | (focus (simp; done)) | (simp; omega))) (hb9.mono (by first | omega | (simp; done) | (simp; omega)))
  replace HN := Lib.hid (HN.out.go hk)
  replace BEL : Hid (Below w.heap.size w w9) := Lib.hid (BEL.out.trans (hk.mono BEL.out.size))
  have z_w9 := hk.size; have y_w9 := BEL.out.size; clear hk hb9
  clear pN0 pN1 fN0 fN1 zN zN_1 zN_2 zN_3
  obtain ⟨pN0, pN1, fN0, fN1, zN, zN_1, zN_2, zN_3⟩ := HN.out.two'
  go_wp2_with fail
  refine (refIn_any none 0 0 [] 0 _ (Ints.nil' _ _) rfl (-1) false rfl).mono ?_; rintro e w' ⟨rfl, rfl⟩
  go_wp2_with fail
  refine (nfair_er C cc caps P cp _ paths A c _ S w.heap.size _ er (by first | omega | (focus (simp; done)) | (simp; omega)) (HC.out.below (by repeat (first | with_reducible exact BEL.out | with_reducible apply Below.alloc | with_reducible apply Below.setCell | with_reducible apply Below.drew | with_reducible apply below_drewN | (first | omega | (focus (simp; done)) | (focus (simp; omega)) | (focus (simp [World.setCell]; omega))))) (Nat.le_refl _)) (HP.out.below (by repeat (first | with_reducible exact BEL.out | with_reducible apply Below.alloc | with_reducible apply Below.setCell | with_reducible apply Below.drew | with_reducible apply below_drewN | (first | omega | (focus (simp; done)) | (focus (simp; omega)) | (focus (simp [World.setCell]; omega))))) (Nat.le_refl _)) (HR.out.below (by repeat (first | with_reducible exact BEL.out | with_reducible apply Below.alloc | with_reducible apply Below.setCell | with_reducible apply Below.drew | with_reducible apply below_drewN | (first | omega | (focus (simp; done)) | (focus (simp; omega)) | (focus (simp [World.setCell]; omega))))) (Nat.le_refl _)) rfl rfl HX.out).mono ?_; rintro e w10 ⟨rfl, hb10⟩
  have hk : Below w9.heap.size w9 w10 := Below.trans (by repeat (first | with_reducible exact Below.refl _ _ | with_reducible apply Below.drew | with_reducible apply below_drewN | with_reducible apply Below.alloc | omega | (focus (simp; done)) | (simp; omega))) (hb10.mono (by first | omega | (simp; done) | (simp; omega)))
  replace HN := Lib.hid (HN.out.go hk)
  replace BEL : Hid (Below w.heap.size w w10) := Lib.hid (BEL.out.trans (hk.mono BEL.out.size))
  have z_w10 := hk.size; have y_w10 := BEL.out.size; clear hk hb10
  clear pN0 pN1 fN0 fN1 zN zN_1 zN_2 zN_3
  obtain ⟨pN0, pN1, fN0, fN1, zN, zN_1, zN_2, zN_3⟩ := HN.out.two'
  go_wp2_with fail
  refine (same_hit er _ (LAID.out.below (by repeat (first | with_reducible exact BEL.out | with_reducible apply Below.alloc | with_reducible apply Below.setCell | with_reducible apply Below.drew | with_reducible apply below_drewN | (first | omega | (focus (simp; done)) | (focus (simp; omega)) | (focus (simp [World.setCell]; omega))))))).mono ?_; rintro e w11 ⟨rfl, hb11⟩
  have hk : Below w10.heap.size w10 w11 := Below.trans (by repeat (first | with_reducible exact Below.refl _ _ | with_reducible apply Below.drew | with_reducible apply below_drewN | with_reducible apply Below.alloc | omega | (focus (simp; done)) | (simp; omega))) (hb11.mono (by first | omega | (simp; done) | (simp; omega)))
  replace HN := Lib.hid (HN.out.go hk)
  replace BEL : Hid (Below w.heap.size w w11) := Lib.hid (BEL.out.trans (hk.mono BEL.out.size))
  have z_w11 := hk.size; have y_w11 := BEL.out.size; clear hk hb11
  clear pN0 pN1 fN0 fN1 zN zN_1 zN_2 zN_3
  obtain ⟨pN0, pN1, fN0, fN1, zN, zN_1, zN_2, zN_3⟩ := HN.out.two'
  go_wp2
  go_ret
  exact ⟨rfl, (by repeat (first | with_reducible exact BEL.out | with_reducible apply Below.alloc | with_reducible apply Below.setCell | with_reducible apply Below.drew | with_reducible apply below_drewN | (first | omega | (focus (simp; done)) | (focus (simp; omega)) | (focus (simp [World.setCell]; omega)))))⟩
set_option maxHeartbeats 16000000 in
set_option maxRecDepth 100000 in
theorem neckTells_Ytt (C : Option Addr) (cc : Nat) (caps : List Int) (P : Option Addr) (cp : Nat) (paths : List (List Int)) (A : Option Addr) (c : Nat) (S : List Fr) (w : World) (hg : Laid w) (hc : Ints w w.heap.size C cc caps) (hp : Rows2 w w.heap.size P cp paths) (hr : Frs w w.heap.size A c S) (Q L : List Rat) (hS : S = Q.map frQ) (he : netErr caps paths = 0) (hl : Q.length = paths.length) (hq : ∀ q ∈ Q, QIn q) (hL : loadsTo paths Q caps.length = some L) (hb : fitsB caps Q L = true) (hi : inL (necks paths Q ((fulls caps L).map fun (i : Nat) => (i : Int)) paths.length) (-1) = true) :
    Calls Tryd.prog 9 #[.agg #[.slice C caps.length cc, .slice P paths.length cp], .slice A S.length c] w fun e w' => e = .returned (.bool true) ∧ Below w.heap.size w w' := by
  have LAID := Lib.hid hg
  have HC := Lib.hid hc
  have HP := Lib.hid hp
  have HR := Lib.hid hr
  have hpm := hp.cap; have hpl := hp.le; have hcm := hc.cap; have hcl := hc.le
  unfold maxLen at hpm hcm
  clear hc hp hr hg
  subst hS
  obtain ⟨k1, k2, k3, k4, k5, _⟩ := netErr_ok he
  have HFP : Hid (fairP caps paths Q L = false) := Lib.hid (by unfold fairP; rw [hb, hi]; rfl)
  obtain ⟨V, hV⟩ : ∃ V, necks paths Q ((fulls caps L).map fun (i : Nat) => (i : Int)) paths.length = V := ⟨_, rfl⟩
  rw [hV] at hi
  have hVl : V.length = paths.length := by rw [← hV, necks_len]
  have HVL := Lib.hid hVl
  have hv6 : V.length ≤ 6 := by omega
  have HLL := Lib.hid (loadsTo_len hL)
  have HE := Lib.hid he; have HQL := Lib.hid hl; have HQ := Lib.hid hq; have HL := Lib.hid hL; have HFB := Lib.hid hb; have HIB := Lib.hid hi; have HV := Lib.hid hV
  rw [List.length_map]
  clear he hl hq hL hb hi hV hVl k5
  have BEL : Hid (Below w.heap.size w w) := Lib.hid (Below.refl _ _)
  have yB : w.heap.size ≤ w.heap.size := Nat.le_refl _
  go_enter Tryd.func9, Tryd.ntmps9
  go_wp2_with fail
  refine (refLoad_yes C cc caps P cp _ paths A c _ Q L w.heap.size _ (by first | omega | (focus (simp; done)) | (simp; omega)) (HC.out.below (by repeat (first | with_reducible exact BEL.out | with_reducible apply Below.alloc | with_reducible apply Below.setCell | with_reducible apply Below.drew | with_reducible apply below_drewN | (first | omega | (focus (simp; done)) | (focus (simp; omega)) | (focus (simp [World.setCell]; omega))))) (Nat.le_refl _)) (HP.out.below (by repeat (first | with_reducible exact BEL.out | with_reducible apply Below.alloc | with_reducible apply Below.setCell | with_reducible apply Below.drew | with_reducible apply below_drewN | (first | omega | (focus (simp; done)) | (focus (simp; omega)) | (focus (simp [World.setCell]; omega))))) (Nat.le_refl _)) (HR.out.below (by repeat (first | with_reducible exact BEL.out | with_reducible apply Below.alloc | with_reducible apply Below.setCell | with_reducible apply Below.drew | with_reducible apply below_drewN | (first | omega | (focus (simp; done)) | (focus (simp; omega)) | (focus (simp [World.setCell]; omega))))) (Nat.le_refl _)) rfl rfl HE.out HQL.out HQ.out HL.out).mono ?_; rintro e w1 ⟨A1, c1, rfl, hf1, hb1⟩
  have hk : Below w.heap.size w w1 := Below.trans (by repeat (first | with_reducible exact Below.refl _ _ | with_reducible apply Below.drew | with_reducible apply below_drewN | with_reducible apply Below.alloc | omega | (focus (simp; done)) | (simp; omega))) (hb1.mono (by first | omega | (simp; done) | (simp; omega)))
  have HN := Lib.hid (show Blk w1 (w.heap.size) 43 _ from Blk.go (by repeat (first | (with_reducible apply Blk.new'; first | with_reducible rfl | (focus (simp; done))) | with_reducible apply Blk.alloc | with_reducible apply Blk.drew | with_reducible apply Blk.drewN)) hb1)
  replace BEL : Hid (Below w.heap.size w w1) := Lib.hid (BEL.out.trans (hk.mono BEL.out.size))
  have z_w1 := hk.size; have y_w1 := BEL.out.size; clear hk hb1
  obtain ⟨pN0, pN1, fN0, fN1, zN, zN_1, zN_2, zN_3⟩ := HN.out.two'
  have HF1 := Lib.hid hf1; have hf1m := hf1.cap; have hf1l := hf1.le; rw [List.length_map, HLL.out] at hf1l; unfold maxLen at hf1m; clear hf1
  go_wp2_with fail
  refine (refFull_any C cc caps _ A1 c1 _ L w1.heap.size _ (by first | omega | (focus (simp; done)) | (simp; omega)) ((HC.out.below (by repeat (first | with_reducible exact BEL.out | with_reducible apply Below.alloc | with_reducible apply Below.setCell | with_reducible apply Below.drew | with_reducible apply below_drewN | (first | omega | (focus (simp; done)) | (focus (simp; omega)) | (focus (simp [World.setCell]; omega))))) (Nat.le_refl _)).more (by omega)) (HF1.out.below (Below.refl _ _) (Nat.le_refl _)) HLL.out.symm HLL.out (by omega)).mono ?_; rintro e w2 ⟨A2, c2, rfl, hi2, hb2⟩
  have hk : Below w1.heap.size w1 w2 := Below.trans (by repeat (first | with_reducible exact Below.refl _ _ | with_reducible apply Below.drew | with_reducible apply below_drewN | with_reducible apply Below.alloc | omega | (focus (simp; done)) | (simp; omega))) (hb2.mono (by first | omega | (simp; done) | (simp; omega)))
  replace HN := Lib.hid (HN.out.go hk)
  replace HF1 := Lib.hid (HF1.out.at' hk)
  replace BEL : Hid (Below w.heap.size w w2) := Lib.hid (BEL.out.trans (hk.mono BEL.out.size))
  have z_w2 := hk.size; have y_w2 := BEL.out.size; clear hk hb2
  clear pN0 pN1 fN0 fN1 zN zN_1 zN_2 zN_3
  obtain ⟨pN0, pN1, fN0, fN1, zN, zN_1, zN_2, zN_3⟩ := HN.out.two'
  have HI2 := Lib.hid hi2; clear hi2
  go_wp2_with fail
  refine (nfull_yes C cc caps P cp _ paths A c _ Q L w.heap.size _ (by first | omega | (focus (simp; done)) | (simp; omega)) (HC.out.below (by repeat (first | with_reducible exact BEL.out | with_reducible apply Below.alloc | with_reducible apply Below.setCell | with_reducible apply Below.drew | with_reducible apply below_drewN | (first | omega | (focus (simp; done)) | (focus (simp; omega)) | (focus (simp [World.setCell]; omega))))) (Nat.le_refl _)) (HP.out.below (by repeat (first | with_reducible exact BEL.out | with_reducible apply Below.alloc | with_reducible apply Below.setCell | with_reducible apply Below.drew | with_reducible apply below_drewN | (first | omega | (focus (simp; done)) | (focus (simp; omega)) | (focus (simp [World.setCell]; omega))))) (Nat.le_refl _)) (HR.out.below (by repeat (first | with_reducible exact BEL.out | with_reducible apply Below.alloc | with_reducible apply Below.setCell | with_reducible apply Below.drew | with_reducible apply below_drewN | (first | omega | (focus (simp; done)) | (focus (simp; omega)) | (focus (simp [World.setCell]; omega))))) (Nat.le_refl _)) rfl rfl HE.out HQL.out HQ.out HL.out).mono ?_; rintro e w3 ⟨A3, c3, rfl, hi3, hb3⟩
  have hk : Below w2.heap.size w2 w3 := Below.trans (by repeat (first | with_reducible exact Below.refl _ _ | with_reducible apply Below.drew | with_reducible apply below_drewN | with_reducible apply Below.alloc | omega | (focus (simp; done)) | (simp; omega))) (hb3.mono (by first | omega | (simp; done) | (simp; omega)))
  replace HN := Lib.hid (HN.out.go hk)
  replace HF1 := Lib.hid (HF1.out.at' hk)
  replace HI2 := Lib.hid (HI2.out.at' hk)
  replace BEL : Hid (Below w.heap.size w w3) := Lib.hid (BEL.out.trans (hk.mono BEL.out.size))
  have z_w3 := hk.size; have y_w3 := BEL.out.size; clear hk hb3
  clear pN0 pN1 fN0 fN1 zN zN_1 zN_2 zN_3
  obtain ⟨pN0, pN1, fN0, fN1, zN, zN_1, zN_2, zN_3⟩ := HN.out.two'
  have HI3 := Lib.hid hi3; clear hi3 HF1
  go_wp2_with fail
  refine (same_ok _).mono ?_; rintro e w4 ⟨rfl, hb4⟩
  have hk : Below w3.heap.size w3 w4 := Below.trans (by repeat (first | with_reducible exact Below.refl _ _ | with_reducible apply Below.drew | with_reducible apply below_drewN | with_reducible apply Below.alloc | omega | (focus (simp; done)) | (simp; omega))) (hb4.mono (by first | omega | (simp; done) | (simp; omega)))
  replace HN := Lib.hid (HN.out.go hk)
  replace HI2 := Lib.hid (HI2.out.at' hk)
  replace HI3 := Lib.hid (HI3.out.at' hk)
  replace BEL : Hid (Below w.heap.size w w4) := Lib.hid (BEL.out.trans (hk.mono BEL.out.size))
  have z_w4 := hk.size; have y_w4 := BEL.out.size; clear hk hb4
  clear pN0 pN1 fN0 fN1 zN zN_1 zN_2 zN_3
  obtain ⟨pN0, pN1, fN0, fN1, zN, zN_1, zN_2, zN_3⟩ := HN.out.two'
  go_wp2_with fail
  refine (sameInts_n A3 A2 c3 c2 _ _ ((fulls caps L).map fun (i : Nat) => (i : Int)) _ _ _ (HI3.out.at' (by repeat (first | with_reducible exact Below.refl _ _ | with_reducible apply Below.drew | with_reducible apply below_drewN | with_reducible apply Below.alloc | omega | (focus (simp; done)) | (simp; omega)))) (HI2.out.at' (by repeat (first | with_reducible exact Below.refl _ _ | with_reducible apply Below.drew | with_reducible apply below_drewN | with_reducible apply Below.alloc | omega | (focus (simp; done)) | (simp; omega)))) (by simp) (by simp)).mono ?_; rintro e w5 ⟨rfl, hb5⟩
  have hk : Below w4.heap.size w4 w5 := Below.trans (by repeat (first | with_reducible exact Below.refl _ _ | with_reducible apply Below.drew | with_reducible apply below_drewN | with_reducible apply Below.alloc | omega | (focus (simp; done)) | (simp; omega))) (hb5.mono (by first | omega | (simp; done) | (simp; omega)))
  replace HN := Lib.hid (HN.out.go hk)
  replace HI2 := Lib.hid (HI2.out.at' hk)
  replace HI3 := Lib.hid (HI3.out.at' hk)
  replace BEL : Hid (Below w.heap.size w w5) := Lib.hid (BEL.out.trans (hk.mono BEL.out.size))
  have z_w5 := hk.size; have y_w5 := BEL.out.size; clear hk hb5
  clear pN0 pN1 fN0 fN1 zN zN_1 zN_2 zN_3
  obtain ⟨pN0, pN1, fN0, fN1, zN, zN_1, zN_2, zN_3⟩ := HN.out.two'
  clear HI2 HI3
  go_wp2_with fail
  refine (refNecks_yes C cc caps P cp _ paths A c _ Q L w.heap.size _ (by first | omega | (focus (simp; done)) | (simp; omega)) (HC.out.below (by repeat (first | with_reducible exact BEL.out | with_reducible apply Below.alloc | with_reducible apply Below.setCell | with_reducible apply Below.drew | with_reducible apply below_drewN | (first | omega | (focus (simp; done)) | (focus (simp; omega)) | (focus (simp [World.setCell]; omega))))) (Nat.le_refl _)) (HP.out.below (by repeat (first | with_reducible exact BEL.out | with_reducible apply Below.alloc | with_reducible apply Below.setCell | with_reducible apply Below.drew | with_reducible apply below_drewN | (first | omega | (focus (simp; done)) | (focus (simp; omega)) | (focus (simp [World.setCell]; omega))))) (Nat.le_refl _)) (HR.out.below (by repeat (first | with_reducible exact BEL.out | with_reducible apply Below.alloc | with_reducible apply Below.setCell | with_reducible apply Below.drew | with_reducible apply below_drewN | (first | omega | (focus (simp; done)) | (focus (simp; omega)) | (focus (simp [World.setCell]; omega))))) (Nat.le_refl _)) rfl rfl HE.out HQL.out HQ.out HL.out V HV.out).mono ?_; rintro e w6 ⟨A4, c4, rfl, hi4, hb6⟩
  have hk : Below w5.heap.size w5 w6 := Below.trans (by repeat (first | with_reducible exact Below.refl _ _ | with_reducible apply Below.drew | with_reducible apply below_drewN | with_reducible apply Below.alloc | omega | (focus (simp; done)) | (simp; omega))) (hb6.mono (by first | omega | (simp; done) | (simp; omega)))
  replace HN := Lib.hid (HN.out.go hk)
  replace BEL : Hid (Below w.heap.size w w6) := Lib.hid (BEL.out.trans (hk.mono BEL.out.size))
  have z_w6 := hk.size; have y_w6 := BEL.out.size; clear hk hb6
  clear pN0 pN1 fN0 fN1 zN zN_1 zN_2 zN_3
  obtain ⟨pN0, pN1, fN0, fN1, zN, zN_1, zN_2, zN_3⟩ := HN.out.two'
  have HI4 := Lib.hid hi4; clear hi4
  go_wp2_with fail
  refine (necks_yes C cc caps P cp _ paths A c _ Q L w.heap.size _ (by first | omega | (focus (simp; done)) | (simp; omega)) (HC.out.below (by repeat (first | with_reducible exact BEL.out | with_reducible apply Below.alloc | with_reducible apply Below.setCell | with_reducible apply Below.drew | with_reducible apply below_drewN | (first | omega | (focus (simp; done)) | (focus (simp; omega)) | (focus (simp [World.setCell]; omega))))) (Nat.le_refl _)) (HP.out.below (by repeat (first | with_reducible exact BEL.out | with_reducible apply Below.alloc | with_reducible apply Below.setCell | with_reducible apply Below.drew | with_reducible apply below_drewN | (first | omega | (focus (simp; done)) | (focus (simp; omega)) | (focus (simp [World.setCell]; omega))))) (Nat.le_refl _)) (HR.out.below (by repeat (first | with_reducible exact BEL.out | with_reducible apply Below.alloc | with_reducible apply Below.setCell | with_reducible apply Below.drew | with_reducible apply below_drewN | (first | omega | (focus (simp; done)) | (focus (simp; omega)) | (focus (simp [World.setCell]; omega))))) (Nat.le_refl _)) rfl rfl HE.out HQL.out HQ.out HL.out V HV.out).mono ?_; rintro e w7 ⟨A5, c5, rfl, hi5, hb7⟩
  have hk : Below w6.heap.size w6 w7 := Below.trans (by repeat (first | with_reducible exact Below.refl _ _ | with_reducible apply Below.drew | with_reducible apply below_drewN | with_reducible apply Below.alloc | omega | (focus (simp; done)) | (simp; omega))) (hb7.mono (by first | omega | (simp; done) | (simp; omega)))
  replace HN := Lib.hid (HN.out.go hk)
  replace HI4 := Lib.hid (HI4.out.at' hk)
  replace BEL : Hid (Below w.heap.size w w7) := Lib.hid (BEL.out.trans (hk.mono BEL.out.size))
  have z_w7 := hk.size; have y_w7 := BEL.out.size; clear hk hb7
  clear pN0 pN1 fN0 fN1 zN zN_1 zN_2 zN_3
  obtain ⟨pN0, pN1, fN0, fN1, zN, zN_1, zN_2, zN_3⟩ := HN.out.two'
  have HI5 := Lib.hid hi5; clear hi5
  go_wp2_with fail
  refine (same_ok _).mono ?_; rintro e w8 ⟨rfl, hb8⟩
  have hk : Below w7.heap.size w7 w8 := Below.trans (by repeat (first | with_reducible exact Below.refl _ _ | with_reducible apply Below.drew | with_reducible apply below_drewN | with_reducible apply Below.alloc | omega | (focus (simp; done)) | (simp; omega))) (hb8.mono (by first | omega | (simp; done) | (simp; omega)))
  replace HN := Lib.hid (HN.out.go hk)
  replace HI4 := Lib.hid (HI4.out.at' hk)
  replace HI5 := Lib.hid (HI5.out.at' hk)
  replace BEL : Hid (Below w.heap.size w w8) := Lib.hid (BEL.out.trans (hk.mono BEL.out.size))
  have z_w8 := hk.size; have y_w8 := BEL.out.size; clear hk hb8
  clear pN0 pN1 fN0 fN1 zN zN_1 zN_2 zN_3
  obtain ⟨pN0, pN1, fN0, fN1, zN, zN_1, zN_2, zN_3⟩ := HN.out.two'
  go_wp2_with fail
  refine (sameInts_n A5 A4 c5 c4 _ _ V _ _ _ (HI5.out.at' (by repeat (first | with_reducible exact Below.refl _ _ | with_reducible apply Below.drew | with_reducible apply below_drewN | with_reducible apply Below.alloc | omega | (focus (simp; done)) | (simp; omega)))) (HI4.out.at' (by repeat (first | with_reducible exact Below.refl _ _ | with_reducible apply Below.drew | with_reducible apply below_drewN | with_reducible apply Below.alloc | omega | (focus (simp; done)) | (simp; omega)))) rfl rfl).mono ?_; rintro e w9 ⟨rfl, hb9⟩
  have hk : Below w8.heap.size w8 w9 := Below.trans (by repeat (first | with_reducible exact Below.refl _ _ | with_reducible apply Below.drew | with_reducible apply below_drewN | with_reducible apply Below.alloc | omega | (focus (simp; done)) | (simp; omega))) (hb9.mono (by first | omega | (simp; done) | (simp; omega)))
  replace HN := Lib.hid (HN.out.go hk)
  replace HI4 := Lib.hid (HI4.out.at' hk)
  replace HI5 := Lib.hid (HI5.out.at' hk)
  replace BEL : Hid (Below w.heap.size w w9) := Lib.hid (BEL.out.trans (hk.mono BEL.out.size))
  have z_w9 := hk.size; have y_w9 := BEL.out.size; clear hk hb9
  clear pN0 pN1 fN0 fN1 zN zN_1 zN_2 zN_3
  obtain ⟨pN0, pN1, fN0, fN1, zN, zN_1, zN_2, zN_3⟩ := HN.out.two'
  clear HI5
  go_wp2_with fail
  refine (refFits_yes C cc caps P cp _ paths A c _ Q L true w.heap.size _ (by first | omega | (focus (simp; done)) | (simp; omega)) (HC.out.below (by repeat (first | with_reducible exact BEL.out | with_reducible apply Below.alloc | with_reducible apply Below.setCell | with_reducible apply Below.drew | with_reducible apply below_drewN | (first | omega | (focus (simp; done)) | (focus (simp; omega)) | (focus (simp [World.setCell]; omega))))) (Nat.le_refl _)) (HP.out.below (by repeat (first | with_reducible exact BEL.out | with_reducible apply Below.alloc | with_reducible apply Below.setCell | with_reducible apply Below.drew | with_reducible apply below_drewN | (first | omega | (focus (simp; done)) | (focus (simp; omega)) | (focus (simp [World.setCell]; omega))))) (Nat.le_refl _)) (HR.out.below (by repeat (first | with_reducible exact BEL.out | with_reducible apply Below.alloc | with_reducible apply Below.setCell | with_reducible apply Below.drew | with_reducible apply below_drewN | (first | omega | (focus (simp; done)) | (focus (simp; omega)) | (focus (simp [World.setCell]; omega))))) (Nat.le_refl _)) rfl rfl HE.out HQL.out HQ.out HL.out HFB.out).mono ?_; rintro e w10 ⟨rfl, hb10⟩
  have hk : Below w9.heap.size w9 w10 := Below.trans (by repeat (first | with_reducible exact Below.refl _ _ | with_reducible apply Below.drew | with_reducible apply below_drewN | with_reducible apply Below.alloc | omega | (focus (simp; done)) | (simp; omega))) (hb10.mono (by first | omega | (simp; done) | (simp; omega)))
  replace HN := Lib.hid (HN.out.go hk)
  replace HI4 := Lib.hid (HI4.out.at' hk)
  replace BEL : Hid (Below w.heap.size w w10) := Lib.hid (BEL.out.trans (hk.mono BEL.out.size))
  have z_w10 := hk.size; have y_w10 := BEL.out.size; clear hk hb10
  clear pN0 pN1 fN0 fN1 zN zN_1 zN_2 zN_3
  obtain ⟨pN0, pN1, fN0, fN1, zN, zN_1, zN_2, zN_3⟩ := HN.out.two'
  go_wp2_with fail
  refine (refIn_any A4 c4 _ V _ _ (HI4.out.at' (by repeat (first | with_reducible exact Below.refl _ _ | with_reducible apply Below.drew | with_reducible apply below_drewN | with_reducible apply Below.alloc | omega | (focus (simp; done)) | (simp; omega)))) rfl (-1) true HIB.out).mono ?_; rintro e w' ⟨rfl, rfl⟩
  go_wp2_with fail
  refine (nfair_yes C cc caps P cp _ paths A c _ Q L false w.heap.size _ (by first | omega | (focus (simp; done)) | (simp; omega)) (HC.out.below (by repeat (first | with_reducible exact BEL.out | with_reducible apply Below.alloc | with_reducible apply Below.setCell | with_reducible apply Below.drew | with_reducible apply below_drewN | (first | omega | (focus (simp; done)) | (focus (simp; omega)) | (focus (simp [World.setCell]; omega))))) (Nat.le_refl _)) (HP.out.below (by repeat (first | with_reducible exact BEL.out | with_reducible apply Below.alloc | with_reducible apply Below.setCell | with_reducible apply Below.drew | with_reducible apply below_drewN | (first | omega | (focus (simp; done)) | (focus (simp; omega)) | (focus (simp [World.setCell]; omega))))) (Nat.le_refl _)) (HR.out.below (by repeat (first | with_reducible exact BEL.out | with_reducible apply Below.alloc | with_reducible apply Below.setCell | with_reducible apply Below.drew | with_reducible apply below_drewN | (first | omega | (focus (simp; done)) | (focus (simp; omega)) | (focus (simp [World.setCell]; omega))))) (Nat.le_refl _)) rfl rfl HE.out HQL.out HQ.out HL.out HFP.out).mono ?_; rintro e w11 ⟨rfl, hb11⟩
  have hk : Below w10.heap.size w10 w11 := Below.trans (by repeat (first | with_reducible exact Below.refl _ _ | with_reducible apply Below.drew | with_reducible apply below_drewN | with_reducible apply Below.alloc | omega | (focus (simp; done)) | (simp; omega))) (hb11.mono (by first | omega | (simp; done) | (simp; omega)))
  replace HN := Lib.hid (HN.out.go hk)
  replace HI4 := Lib.hid (HI4.out.at' hk)
  replace BEL : Hid (Below w.heap.size w w11) := Lib.hid (BEL.out.trans (hk.mono BEL.out.size))
  have z_w11 := hk.size; have y_w11 := BEL.out.size; clear hk hb11
  clear pN0 pN1 fN0 fN1 zN zN_1 zN_2 zN_3
  obtain ⟨pN0, pN1, fN0, fN1, zN, zN_1, zN_2, zN_3⟩ := HN.out.two'
  go_wp2_with fail
  refine (same_ok _).mono ?_; rintro e w12 ⟨rfl, hb12⟩
  have hk : Below w11.heap.size w11 w12 := Below.trans (by repeat (first | with_reducible exact Below.refl _ _ | with_reducible apply Below.drew | with_reducible apply below_drewN | with_reducible apply Below.alloc | omega | (focus (simp; done)) | (simp; omega))) (hb12.mono (by first | omega | (simp; done) | (simp; omega)))
  replace HN := Lib.hid (HN.out.go hk)
  replace HI4 := Lib.hid (HI4.out.at' hk)
  replace BEL : Hid (Below w.heap.size w w12) := Lib.hid (BEL.out.trans (hk.mono BEL.out.size))
  have z_w12 := hk.size; have y_w12 := BEL.out.size; clear hk hb12
  clear pN0 pN1 fN0 fN1 zN zN_1 zN_2 zN_3
  obtain ⟨pN0, pN1, fN0, fN1, zN, zN_1, zN_2, zN_3⟩ := HN.out.two'
  go_wp2
  go_ret
  exact ⟨rfl, (by repeat (first | with_reducible exact BEL.out | with_reducible apply Below.alloc | with_reducible apply Below.setCell | with_reducible apply Below.drew | with_reducible apply below_drewN | (first | omega | (focus (simp; done)) | (focus (simp; omega)) | (focus (simp [World.setCell]; omega)))))⟩
set_option maxHeartbeats 16000000 in
set_option maxRecDepth 100000 in
theorem neckTells_Ytf (C : Option Addr) (cc : Nat) (caps : List Int) (P : Option Addr) (cp : Nat) (paths : List (List Int)) (A : Option Addr) (c : Nat) (S : List Fr) (w : World) (hg : Laid w) (hc : Ints w w.heap.size C cc caps) (hp : Rows2 w w.heap.size P cp paths) (hr : Frs w w.heap.size A c S) (Q L : List Rat) (hS : S = Q.map frQ) (he : netErr caps paths = 0) (hl : Q.length = paths.length) (hq : ∀ q ∈ Q, QIn q) (hL : loadsTo paths Q caps.length = some L) (hb : fitsB caps Q L = true) (hi : inL (necks paths Q ((fulls caps L).map fun (i : Nat) => (i : Int)) paths.length) (-1) = false) :
    Calls Tryd.prog 9 #[.agg #[.slice C caps.length cc, .slice P paths.length cp], .slice A S.length c] w fun e w' => e = .returned (.bool true) ∧ Below w.heap.size w w' := by
  have LAID := Lib.hid hg
  have HC := Lib.hid hc
  have HP := Lib.hid hp
  have HR := Lib.hid hr
  have hpm := hp.cap; have hpl := hp.le; have hcm := hc.cap; have hcl := hc.le
  unfold maxLen at hpm hcm
  clear hc hp hr hg
  subst hS
  obtain ⟨k1, k2, k3, k4, k5, _⟩ := netErr_ok he
  have HFP : Hid (fairP caps paths Q L = true) := Lib.hid (by unfold fairP; rw [hb, hi]; rfl)
  obtain ⟨V, hV⟩ : ∃ V, necks paths Q ((fulls caps L).map fun (i : Nat) => (i : Int)) paths.length = V := ⟨_, rfl⟩
  rw [hV] at hi
  have hVl : V.length = paths.length := by rw [← hV, necks_len]
  have HVL := Lib.hid hVl
  have hv6 : V.length ≤ 6 := by omega
  have HLL := Lib.hid (loadsTo_len hL)
  have HE := Lib.hid he; have HQL := Lib.hid hl; have HQ := Lib.hid hq; have HL := Lib.hid hL; have HFB := Lib.hid hb; have HIB := Lib.hid hi; have HV := Lib.hid hV
  rw [List.length_map]
  clear he hl hq hL hb hi hV hVl k5
  have BEL : Hid (Below w.heap.size w w) := Lib.hid (Below.refl _ _)
  have yB : w.heap.size ≤ w.heap.size := Nat.le_refl _
  go_enter Tryd.func9, Tryd.ntmps9
  go_wp2_with fail
  refine (refLoad_yes C cc caps P cp _ paths A c _ Q L w.heap.size _ (by first | omega | (focus (simp; done)) | (simp; omega)) (HC.out.below (by repeat (first | with_reducible exact BEL.out | with_reducible apply Below.alloc | with_reducible apply Below.setCell | with_reducible apply Below.drew | with_reducible apply below_drewN | (first | omega | (focus (simp; done)) | (focus (simp; omega)) | (focus (simp [World.setCell]; omega))))) (Nat.le_refl _)) (HP.out.below (by repeat (first | with_reducible exact BEL.out | with_reducible apply Below.alloc | with_reducible apply Below.setCell | with_reducible apply Below.drew | with_reducible apply below_drewN | (first | omega | (focus (simp; done)) | (focus (simp; omega)) | (focus (simp [World.setCell]; omega))))) (Nat.le_refl _)) (HR.out.below (by repeat (first | with_reducible exact BEL.out | with_reducible apply Below.alloc | with_reducible apply Below.setCell | with_reducible apply Below.drew | with_reducible apply below_drewN | (first | omega | (focus (simp; done)) | (focus (simp; omega)) | (focus (simp [World.setCell]; omega))))) (Nat.le_refl _)) rfl rfl HE.out HQL.out HQ.out HL.out).mono ?_; rintro e w1 ⟨A1, c1, rfl, hf1, hb1⟩
  have hk : Below w.heap.size w w1 := Below.trans (by repeat (first | with_reducible exact Below.refl _ _ | with_reducible apply Below.drew | with_reducible apply below_drewN | with_reducible apply Below.alloc | omega | (focus (simp; done)) | (simp; omega))) (hb1.mono (by first | omega | (simp; done) | (simp; omega)))
  have HN := Lib.hid (show Blk w1 (w.heap.size) 43 _ from Blk.go (by repeat (first | (with_reducible apply Blk.new'; first | with_reducible rfl | (focus (simp; done))) | with_reducible apply Blk.alloc | with_reducible apply Blk.drew | with_reducible apply Blk.drewN)) hb1)
  replace BEL : Hid (Below w.heap.size w w1) := Lib.hid (BEL.out.trans (hk.mono BEL.out.size))
  have z_w1 := hk.size; have y_w1 := BEL.out.size; clear hk hb1
  obtain ⟨pN0, pN1, fN0, fN1, zN, zN_1, zN_2, zN_3⟩ := HN.out.two'
  have HF1 := Lib.hid hf1; have hf1m := hf1.cap; have hf1l := hf1.le; rw [List.length_map, HLL.out] at hf1l; unfold maxLen at hf1m; clear hf1
  go_wp2_with fail
  refine (refFull_any C cc caps _ A1 c1 _ L w1.heap.size _ (by first | omega | (focus (simp; done)) | (simp; omega)) ((HC.out.below (by repeat (first | with_reducible exact BEL.out | with_reducible apply Below.alloc | with_reducible apply Below.setCell | with_reducible apply Below.drew | with_reducible apply below_drewN | (first | omega | (focus (simp; done)) | (focus (simp; omega)) | (focus (simp [World.setCell]; omega))))) (Nat.le_refl _)).more (by omega)) (HF1.out.below (Below.refl _ _) (Nat.le_refl _)) HLL.out.symm HLL.out (by omega)).mono ?_; rintro e w2 ⟨A2, c2, rfl, hi2, hb2⟩
  have hk : Below w1.heap.size w1 w2 := Below.trans (by repeat (first | with_reducible exact Below.refl _ _ | with_reducible apply Below.drew | with_reducible apply below_drewN | with_reducible apply Below.alloc | omega | (focus (simp; done)) | (simp; omega))) (hb2.mono (by first | omega | (simp; done) | (simp; omega)))
  replace HN := Lib.hid (HN.out.go hk)
  replace HF1 := Lib.hid (HF1.out.at' hk)
  replace BEL : Hid (Below w.heap.size w w2) := Lib.hid (BEL.out.trans (hk.mono BEL.out.size))
  have z_w2 := hk.size; have y_w2 := BEL.out.size; clear hk hb2
  clear pN0 pN1 fN0 fN1 zN zN_1 zN_2 zN_3
  obtain ⟨pN0, pN1, fN0, fN1, zN, zN_1, zN_2, zN_3⟩ := HN.out.two'
  have HI2 := Lib.hid hi2; clear hi2
  go_wp2_with fail
  refine (nfull_yes C cc caps P cp _ paths A c _ Q L w.heap.size _ (by first | omega | (focus (simp; done)) | (simp; omega)) (HC.out.below (by repeat (first | with_reducible exact BEL.out | with_reducible apply Below.alloc | with_reducible apply Below.setCell | with_reducible apply Below.drew | with_reducible apply below_drewN | (first | omega | (focus (simp; done)) | (focus (simp; omega)) | (focus (simp [World.setCell]; omega))))) (Nat.le_refl _)) (HP.out.below (by repeat (first | with_reducible exact BEL.out | with_reducible apply Below.alloc | with_reducible apply Below.setCell | with_reducible apply Below.drew | with_reducible apply below_drewN | (first | omega | (focus (simp; done)) | (focus (simp; omega)) | (focus (simp [World.setCell]; omega))))) (Nat.le_refl _)) (HR.out.below (by repeat (first | with_reducible exact BEL.out | with_reducible apply Below.alloc | with_reducible apply Below.setCell | with_reducible apply Below.drew | with_reducible apply below_drewN | (first | omega | (focus (simp; done)) | (focus (simp; omega)) | (focus (simp [World.setCell]; omega))))) (Nat.le_refl _)) rfl rfl HE.out HQL.out HQ.out HL.out).mono ?_; rintro e w3 ⟨A3, c3, rfl, hi3, hb3⟩
  have hk : Below w2.heap.size w2 w3 := Below.trans (by repeat (first | with_reducible exact Below.refl _ _ | with_reducible apply Below.drew | with_reducible apply below_drewN | with_reducible apply Below.alloc | omega | (focus (simp; done)) | (simp; omega))) (hb3.mono (by first | omega | (simp; done) | (simp; omega)))
  replace HN := Lib.hid (HN.out.go hk)
  replace HF1 := Lib.hid (HF1.out.at' hk)
  replace HI2 := Lib.hid (HI2.out.at' hk)
  replace BEL : Hid (Below w.heap.size w w3) := Lib.hid (BEL.out.trans (hk.mono BEL.out.size))
  have z_w3 := hk.size; have y_w3 := BEL.out.size; clear hk hb3
  clear pN0 pN1 fN0 fN1 zN zN_1 zN_2 zN_3
  obtain ⟨pN0, pN1, fN0, fN1, zN, zN_1, zN_2, zN_3⟩ := HN.out.two'
  have HI3 := Lib.hid hi3; clear hi3 HF1
  go_wp2_with fail
  refine (same_ok _).mono ?_; rintro e w4 ⟨rfl, hb4⟩
  have hk : Below w3.heap.size w3 w4 := Below.trans (by repeat (first | with_reducible exact Below.refl _ _ | with_reducible apply Below.drew | with_reducible apply below_drewN | with_reducible apply Below.alloc | omega | (focus (simp; done)) | (simp; omega))) (hb4.mono (by first | omega | (simp; done) | (simp; omega)))
  replace HN := Lib.hid (HN.out.go hk)
  replace HI2 := Lib.hid (HI2.out.at' hk)
  replace HI3 := Lib.hid (HI3.out.at' hk)
  replace BEL : Hid (Below w.heap.size w w4) := Lib.hid (BEL.out.trans (hk.mono BEL.out.size))
  have z_w4 := hk.size; have y_w4 := BEL.out.size; clear hk hb4
  clear pN0 pN1 fN0 fN1 zN zN_1 zN_2 zN_3
  obtain ⟨pN0, pN1, fN0, fN1, zN, zN_1, zN_2, zN_3⟩ := HN.out.two'
  go_wp2_with fail
  refine (sameInts_n A3 A2 c3 c2 _ _ ((fulls caps L).map fun (i : Nat) => (i : Int)) _ _ _ (HI3.out.at' (by repeat (first | with_reducible exact Below.refl _ _ | with_reducible apply Below.drew | with_reducible apply below_drewN | with_reducible apply Below.alloc | omega | (focus (simp; done)) | (simp; omega)))) (HI2.out.at' (by repeat (first | with_reducible exact Below.refl _ _ | with_reducible apply Below.drew | with_reducible apply below_drewN | with_reducible apply Below.alloc | omega | (focus (simp; done)) | (simp; omega)))) (by simp) (by simp)).mono ?_; rintro e w5 ⟨rfl, hb5⟩
  have hk : Below w4.heap.size w4 w5 := Below.trans (by repeat (first | with_reducible exact Below.refl _ _ | with_reducible apply Below.drew | with_reducible apply below_drewN | with_reducible apply Below.alloc | omega | (focus (simp; done)) | (simp; omega))) (hb5.mono (by first | omega | (simp; done) | (simp; omega)))
  replace HN := Lib.hid (HN.out.go hk)
  replace HI2 := Lib.hid (HI2.out.at' hk)
  replace HI3 := Lib.hid (HI3.out.at' hk)
  replace BEL : Hid (Below w.heap.size w w5) := Lib.hid (BEL.out.trans (hk.mono BEL.out.size))
  have z_w5 := hk.size; have y_w5 := BEL.out.size; clear hk hb5
  clear pN0 pN1 fN0 fN1 zN zN_1 zN_2 zN_3
  obtain ⟨pN0, pN1, fN0, fN1, zN, zN_1, zN_2, zN_3⟩ := HN.out.two'
  clear HI2 HI3
  go_wp2_with fail
  refine (refNecks_yes C cc caps P cp _ paths A c _ Q L w.heap.size _ (by first | omega | (focus (simp; done)) | (simp; omega)) (HC.out.below (by repeat (first | with_reducible exact BEL.out | with_reducible apply Below.alloc | with_reducible apply Below.setCell | with_reducible apply Below.drew | with_reducible apply below_drewN | (first | omega | (focus (simp; done)) | (focus (simp; omega)) | (focus (simp [World.setCell]; omega))))) (Nat.le_refl _)) (HP.out.below (by repeat (first | with_reducible exact BEL.out | with_reducible apply Below.alloc | with_reducible apply Below.setCell | with_reducible apply Below.drew | with_reducible apply below_drewN | (first | omega | (focus (simp; done)) | (focus (simp; omega)) | (focus (simp [World.setCell]; omega))))) (Nat.le_refl _)) (HR.out.below (by repeat (first | with_reducible exact BEL.out | with_reducible apply Below.alloc | with_reducible apply Below.setCell | with_reducible apply Below.drew | with_reducible apply below_drewN | (first | omega | (focus (simp; done)) | (focus (simp; omega)) | (focus (simp [World.setCell]; omega))))) (Nat.le_refl _)) rfl rfl HE.out HQL.out HQ.out HL.out V HV.out).mono ?_; rintro e w6 ⟨A4, c4, rfl, hi4, hb6⟩
  have hk : Below w5.heap.size w5 w6 := Below.trans (by repeat (first | with_reducible exact Below.refl _ _ | with_reducible apply Below.drew | with_reducible apply below_drewN | with_reducible apply Below.alloc | omega | (focus (simp; done)) | (simp; omega))) (hb6.mono (by first | omega | (simp; done) | (simp; omega)))
  replace HN := Lib.hid (HN.out.go hk)
  replace BEL : Hid (Below w.heap.size w w6) := Lib.hid (BEL.out.trans (hk.mono BEL.out.size))
  have z_w6 := hk.size; have y_w6 := BEL.out.size; clear hk hb6
  clear pN0 pN1 fN0 fN1 zN zN_1 zN_2 zN_3
  obtain ⟨pN0, pN1, fN0, fN1, zN, zN_1, zN_2, zN_3⟩ := HN.out.two'
  have HI4 := Lib.hid hi4; clear hi4
  go_wp2_with fail
  refine (necks_yes C cc caps P cp _ paths A c _ Q L w.heap.size _ (by first | omega | (focus (simp; done)) | (simp; omega)) (HC.out.below (by repeat (first | with_reducible exact BEL.out | with_reducible apply Below.alloc | with_reducible apply Below.setCell | with_reducible apply Below.drew | with_reducible apply below_drewN | (first | omega | (focus (simp; done)) | (focus (simp; omega)) | (focus (simp [World.setCell]; omega))))) (Nat.le_refl _)) (HP.out.below (by repeat (first | with_reducible exact BEL.out | with_reducible apply Below.alloc | with_reducible apply Below.setCell | with_reducible apply Below.drew | with_reducible apply below_drewN | (first | omega | (focus (simp; done)) | (focus (simp; omega)) | (focus (simp [World.setCell]; omega))))) (Nat.le_refl _)) (HR.out.below (by repeat (first | with_reducible exact BEL.out | with_reducible apply Below.alloc | with_reducible apply Below.setCell | with_reducible apply Below.drew | with_reducible apply below_drewN | (first | omega | (focus (simp; done)) | (focus (simp; omega)) | (focus (simp [World.setCell]; omega))))) (Nat.le_refl _)) rfl rfl HE.out HQL.out HQ.out HL.out V HV.out).mono ?_; rintro e w7 ⟨A5, c5, rfl, hi5, hb7⟩
  have hk : Below w6.heap.size w6 w7 := Below.trans (by repeat (first | with_reducible exact Below.refl _ _ | with_reducible apply Below.drew | with_reducible apply below_drewN | with_reducible apply Below.alloc | omega | (focus (simp; done)) | (simp; omega))) (hb7.mono (by first | omega | (simp; done) | (simp; omega)))
  replace HN := Lib.hid (HN.out.go hk)
  replace HI4 := Lib.hid (HI4.out.at' hk)
  replace BEL : Hid (Below w.heap.size w w7) := Lib.hid (BEL.out.trans (hk.mono BEL.out.size))
  have z_w7 := hk.size; have y_w7 := BEL.out.size; clear hk hb7
  clear pN0 pN1 fN0 fN1 zN zN_1 zN_2 zN_3
  obtain ⟨pN0, pN1, fN0, fN1, zN, zN_1, zN_2, zN_3⟩ := HN.out.two'
  have HI5 := Lib.hid hi5; clear hi5
  go_wp2_with fail
  refine (same_ok _).mono ?_; rintro e w8 ⟨rfl, hb8⟩
  have hk : Below w7.heap.size w7 w8 := Below.trans (by repeat (first | with_reducible exact Below.refl _ _ | with_reducible apply Below.drew | with_reducible apply below_drewN | with_reducible apply Below.alloc | omega | (focus (simp; done)) | (simp; omega))) (hb8.mono (by first | omega | (simp; done) | (simp; omega)))
  replace HN := Lib.hid (HN.out.go hk)
  replace HI4 := Lib.hid (HI4.out.at' hk)
  replace HI5 := Lib.hid (HI5.out.at' hk)
  replace BEL : Hid (Below w.heap.size w w8) := Lib.hid (BEL.out.trans (hk.mono BEL.out.size))
  have z_w8 := hk.size; have y_w8 := BEL.out.size; clear hk hb8
  clear pN0 pN1 fN0 fN1 zN zN_1 zN_2 zN_3
  obtain ⟨pN0, pN1, fN0, fN1, zN, zN_1, zN_2, zN_3⟩ := HN.out.two'
  go_wp2_with fail
  refine (sameInts_n A5 A4 c5 c4 _ _ V _ _ _ (HI5.out.at' (by repeat (first | with_reducible exact Below.refl _ _ | with_reducible apply Below.drew | with_reducible apply below_drewN | with_reducible apply Below.alloc | omega | (focus (simp; done)) | (simp; omega)))) (HI4.out.at' (by repeat (first | with_reducible exact Below.refl _ _ | with_reducible apply Below.drew | with_reducible apply below_drewN | with_reducible apply Below.alloc | omega | (focus (simp; done)) | (simp; omega)))) rfl rfl).mono ?_; rintro e w9 ⟨rfl, hb9⟩
  have hk : Below w8.heap.size w8 w9 := Below.trans (by repeat (first | with_reducible exact Below.refl _ _ | with_reducible apply Below.drew | with_reducible apply below_drewN | with_reducible apply Below.alloc | omega | (focus (simp; done)) | (simp; omega))) (hb9.mono (by first | omega | (simp; done) | (simp; omega)))
  replace HN := Lib.hid (HN.out.go hk)
  replace HI4 := Lib.hid (HI4.out.at' hk)
  replace HI5 := Lib.hid (HI5.out.at' hk)
  replace BEL : Hid (Below w.heap.size w w9) := Lib.hid (BEL.out.trans (hk.mono BEL.out.size))
  have z_w9 := hk.size; have y_w9 := BEL.out.size; clear hk hb9
  clear pN0 pN1 fN0 fN1 zN zN_1 zN_2 zN_3
  obtain ⟨pN0, pN1, fN0, fN1, zN, zN_1, zN_2, zN_3⟩ := HN.out.two'
  clear HI5
  go_wp2_with fail
  refine (refFits_yes C cc caps P cp _ paths A c _ Q L true w.heap.size _ (by first | omega | (focus (simp; done)) | (simp; omega)) (HC.out.below (by repeat (first | with_reducible exact BEL.out | with_reducible apply Below.alloc | with_reducible apply Below.setCell | with_reducible apply Below.drew | with_reducible apply below_drewN | (first | omega | (focus (simp; done)) | (focus (simp; omega)) | (focus (simp [World.setCell]; omega))))) (Nat.le_refl _)) (HP.out.below (by repeat (first | with_reducible exact BEL.out | with_reducible apply Below.alloc | with_reducible apply Below.setCell | with_reducible apply Below.drew | with_reducible apply below_drewN | (first | omega | (focus (simp; done)) | (focus (simp; omega)) | (focus (simp [World.setCell]; omega))))) (Nat.le_refl _)) (HR.out.below (by repeat (first | with_reducible exact BEL.out | with_reducible apply Below.alloc | with_reducible apply Below.setCell | with_reducible apply Below.drew | with_reducible apply below_drewN | (first | omega | (focus (simp; done)) | (focus (simp; omega)) | (focus (simp [World.setCell]; omega))))) (Nat.le_refl _)) rfl rfl HE.out HQL.out HQ.out HL.out HFB.out).mono ?_; rintro e w10 ⟨rfl, hb10⟩
  have hk : Below w9.heap.size w9 w10 := Below.trans (by repeat (first | with_reducible exact Below.refl _ _ | with_reducible apply Below.drew | with_reducible apply below_drewN | with_reducible apply Below.alloc | omega | (focus (simp; done)) | (simp; omega))) (hb10.mono (by first | omega | (simp; done) | (simp; omega)))
  replace HN := Lib.hid (HN.out.go hk)
  replace HI4 := Lib.hid (HI4.out.at' hk)
  replace BEL : Hid (Below w.heap.size w w10) := Lib.hid (BEL.out.trans (hk.mono BEL.out.size))
  have z_w10 := hk.size; have y_w10 := BEL.out.size; clear hk hb10
  clear pN0 pN1 fN0 fN1 zN zN_1 zN_2 zN_3
  obtain ⟨pN0, pN1, fN0, fN1, zN, zN_1, zN_2, zN_3⟩ := HN.out.two'
  go_wp2_with fail
  refine (refIn_any A4 c4 _ V _ _ (HI4.out.at' (by repeat (first | with_reducible exact Below.refl _ _ | with_reducible apply Below.drew | with_reducible apply below_drewN | with_reducible apply Below.alloc | omega | (focus (simp; done)) | (simp; omega)))) rfl (-1) false HIB.out).mono ?_; rintro e w' ⟨rfl, rfl⟩
  go_wp2_with fail
  refine (nfair_yes C cc caps P cp _ paths A c _ Q L true w.heap.size _ (by first | omega | (focus (simp; done)) | (simp; omega)) (HC.out.below (by repeat (first | with_reducible exact BEL.out | with_reducible apply Below.alloc | with_reducible apply Below.setCell | with_reducible apply Below.drew | with_reducible apply below_drewN | (first | omega | (focus (simp; done)) | (focus (simp; omega)) | (focus (simp [World.setCell]; omega))))) (Nat.le_refl _)) (HP.out.below (by repeat (first | with_reducible exact BEL.out | with_reducible apply Below.alloc | with_reducible apply Below.setCell | with_reducible apply Below.drew | with_reducible apply below_drewN | (first | omega | (focus (simp; done)) | (focus (simp; omega)) | (focus (simp [World.setCell]; omega))))) (Nat.le_refl _)) (HR.out.below (by repeat (first | with_reducible exact BEL.out | with_reducible apply Below.alloc | with_reducible apply Below.setCell | with_reducible apply Below.drew | with_reducible apply below_drewN | (first | omega | (focus (simp; done)) | (focus (simp; omega)) | (focus (simp [World.setCell]; omega))))) (Nat.le_refl _)) rfl rfl HE.out HQL.out HQ.out HL.out HFP.out).mono ?_; rintro e w11 ⟨rfl, hb11⟩
  have hk : Below w10.heap.size w10 w11 := Below.trans (by repeat (first | with_reducible exact Below.refl _ _ | with_reducible apply Below.drew | with_reducible apply below_drewN | with_reducible apply Below.alloc | omega | (focus (simp; done)) | (simp; omega))) (hb11.mono (by first | omega | (simp; done) | (simp; omega)))
  replace HN := Lib.hid (HN.out.go hk)
  replace HI4 := Lib.hid (HI4.out.at' hk)
  replace BEL : Hid (Below w.heap.size w w11) := Lib.hid (BEL.out.trans (hk.mono BEL.out.size))
  have z_w11 := hk.size; have y_w11 := BEL.out.size; clear hk hb11
  clear pN0 pN1 fN0 fN1 zN zN_1 zN_2 zN_3
  obtain ⟨pN0, pN1, fN0, fN1, zN, zN_1, zN_2, zN_3⟩ := HN.out.two'
  go_wp2_with fail
  refine (same_ok _).mono ?_; rintro e w12 ⟨rfl, hb12⟩
  have hk : Below w11.heap.size w11 w12 := Below.trans (by repeat (first | with_reducible exact Below.refl _ _ | with_reducible apply Below.drew | with_reducible apply below_drewN | with_reducible apply Below.alloc | omega | (focus (simp; done)) | (simp; omega))) (hb12.mono (by first | omega | (simp; done) | (simp; omega)))
  replace HN := Lib.hid (HN.out.go hk)
  replace HI4 := Lib.hid (HI4.out.at' hk)
  replace BEL : Hid (Below w.heap.size w w12) := Lib.hid (BEL.out.trans (hk.mono BEL.out.size))
  have z_w12 := hk.size; have y_w12 := BEL.out.size; clear hk hb12
  clear pN0 pN1 fN0 fN1 zN zN_1 zN_2 zN_3
  obtain ⟨pN0, pN1, fN0, fN1, zN, zN_1, zN_2, zN_3⟩ := HN.out.two'
  go_wp2
  go_ret
  exact ⟨rfl, (by repeat (first | with_reducible exact BEL.out | with_reducible apply Below.alloc | with_reducible apply Below.setCell | with_reducible apply Below.drew | with_reducible apply below_drewN | (first | omega | (focus (simp; done)) | (focus (simp; omega)) | (focus (simp [World.setCell]; omega)))))⟩
set_option maxHeartbeats 16000000 in
set_option maxRecDepth 100000 in
theorem neckTells_Yft (C : Option Addr) (cc : Nat) (caps : List Int) (P : Option Addr) (cp : Nat) (paths : List (List Int)) (A : Option Addr) (c : Nat) (S : List Fr) (w : World) (hg : Laid w) (hc : Ints w w.heap.size C cc caps) (hp : Rows2 w w.heap.size P cp paths) (hr : Frs w w.heap.size A c S) (Q L : List Rat) (hS : S = Q.map frQ) (he : netErr caps paths = 0) (hl : Q.length = paths.length) (hq : ∀ q ∈ Q, QIn q) (hL : loadsTo paths Q caps.length = some L) (hb : fitsB caps Q L = false) (hi : inL (necks paths Q ((fulls caps L).map fun (i : Nat) => (i : Int)) paths.length) (-1) = true) :
    Calls Tryd.prog 9 #[.agg #[.slice C caps.length cc, .slice P paths.length cp], .slice A S.length c] w fun e w' => e = .returned (.bool true) ∧ Below w.heap.size w w' := by
  have LAID := Lib.hid hg
  have HC := Lib.hid hc
  have HP := Lib.hid hp
  have HR := Lib.hid hr
  have hpm := hp.cap; have hpl := hp.le; have hcm := hc.cap; have hcl := hc.le
  unfold maxLen at hpm hcm
  clear hc hp hr hg
  subst hS
  obtain ⟨k1, k2, k3, k4, k5, _⟩ := netErr_ok he
  have HFP : Hid (fairP caps paths Q L = false) := Lib.hid (by unfold fairP; rw [hb, hi]; rfl)
  obtain ⟨V, hV⟩ : ∃ V, necks paths Q ((fulls caps L).map fun (i : Nat) => (i : Int)) paths.length = V := ⟨_, rfl⟩
  rw [hV] at hi
  have hVl : V.length = paths.length := by rw [← hV, necks_len]
  have HVL := Lib.hid hVl
  have hv6 : V.length ≤ 6 := by omega
  have HLL := Lib.hid (loadsTo_len hL)
  have HE := Lib.hid he; have HQL := Lib.hid hl; have HQ := Lib.hid hq; have HL := Lib.hid hL; have HFB := Lib.hid hb; have HIB := Lib.hid hi; have HV := Lib.hid hV
  rw [List.length_map]
  clear he hl hq hL hb hi hV hVl k5
  have BEL : Hid (Below w.heap.size w w) := Lib.hid (Below.refl _ _)
  have yB : w.heap.size ≤ w.heap.size := Nat.le_refl _
  go_enter Tryd.func9, Tryd.ntmps9
  go_wp2_with fail
  refine (refLoad_yes C cc caps P cp _ paths A c _ Q L w.heap.size _ (by first | omega | (focus (simp; done)) | (simp; omega)) (HC.out.below (by repeat (first | with_reducible exact BEL.out | with_reducible apply Below.alloc | with_reducible apply Below.setCell | with_reducible apply Below.drew | with_reducible apply below_drewN | (first | omega | (focus (simp; done)) | (focus (simp; omega)) | (focus (simp [World.setCell]; omega))))) (Nat.le_refl _)) (HP.out.below (by repeat (first | with_reducible exact BEL.out | with_reducible apply Below.alloc | with_reducible apply Below.setCell | with_reducible apply Below.drew | with_reducible apply below_drewN | (first | omega | (focus (simp; done)) | (focus (simp; omega)) | (focus (simp [World.setCell]; omega))))) (Nat.le_refl _)) (HR.out.below (by repeat (first | with_reducible exact BEL.out | with_reducible apply Below.alloc | with_reducible apply Below.setCell | with_reducible apply Below.drew | with_reducible apply below_drewN | (first | omega | (focus (simp; done)) | (focus (simp; omega)) | (focus (simp [World.setCell]; omega))))) (Nat.le_refl _)) rfl rfl HE.out HQL.out HQ.out HL.out).mono ?_; rintro e w1 ⟨A1, c1, rfl, hf1, hb1⟩
  have hk : Below w.heap.size w w1 := Below.trans (by repeat (first | with_reducible exact Below.refl _ _ | with_reducible apply Below.drew | with_reducible apply below_drewN | with_reducible apply Below.alloc | omega | (focus (simp; done)) | (simp; omega))) (hb1.mono (by first | omega | (simp; done) | (simp; omega)))
  have HN := Lib.hid (show Blk w1 (w.heap.size) 43 _ from Blk.go (by repeat (first | (with_reducible apply Blk.new'; first | with_reducible rfl | (focus (simp; done))) | with_reducible apply Blk.alloc | with_reducible apply Blk.drew | with_reducible apply Blk.drewN)) hb1)
  replace BEL : Hid (Below w.heap.size w w1) := Lib.hid (BEL.out.trans (hk.mono BEL.out.size))
  have z_w1 := hk.size; have y_w1 := BEL.out.size; clear hk hb1
  obtain ⟨pN0, pN1, fN0, fN1, zN, zN_1, zN_2, zN_3⟩ := HN.out.two'
  have HF1 := Lib.hid hf1; have hf1m := hf1.cap; have hf1l := hf1.le; rw [List.length_map, HLL.out] at hf1l; unfold maxLen at hf1m; clear hf1
  go_wp2_with fail
  refine (refFull_any C cc caps _ A1 c1 _ L w1.heap.size _ (by first | omega | (focus (simp; done)) | (simp; omega)) ((HC.out.below (by repeat (first | with_reducible exact BEL.out | with_reducible apply Below.alloc | with_reducible apply Below.setCell | with_reducible apply Below.drew | with_reducible apply below_drewN | (first | omega | (focus (simp; done)) | (focus (simp; omega)) | (focus (simp [World.setCell]; omega))))) (Nat.le_refl _)).more (by omega)) (HF1.out.below (Below.refl _ _) (Nat.le_refl _)) HLL.out.symm HLL.out (by omega)).mono ?_; rintro e w2 ⟨A2, c2, rfl, hi2, hb2⟩
  have hk : Below w1.heap.size w1 w2 := Below.trans (by repeat (first | with_reducible exact Below.refl _ _ | with_reducible apply Below.drew | with_reducible apply below_drewN | with_reducible apply Below.alloc | omega | (focus (simp; done)) | (simp; omega))) (hb2.mono (by first | omega | (simp; done) | (simp; omega)))
  replace HN := Lib.hid (HN.out.go hk)
  replace HF1 := Lib.hid (HF1.out.at' hk)
  replace BEL : Hid (Below w.heap.size w w2) := Lib.hid (BEL.out.trans (hk.mono BEL.out.size))
  have z_w2 := hk.size; have y_w2 := BEL.out.size; clear hk hb2
  clear pN0 pN1 fN0 fN1 zN zN_1 zN_2 zN_3
  obtain ⟨pN0, pN1, fN0, fN1, zN, zN_1, zN_2, zN_3⟩ := HN.out.two'
  have HI2 := Lib.hid hi2; clear hi2
  go_wp2_with fail
  refine (nfull_yes C cc caps P cp _ paths A c _ Q L w.heap.size _ (by first | omega | (focus (simp; done)) | (simp; omega)) (HC.out.below (by repeat (first | with_reducible exact BEL.out | with_reducible apply Below.alloc | with_reducible apply Below.setCell | with_reducible apply Below.drew | with_reducible apply below_drewN | (first | omega | (focus (simp; done)) | (focus (simp; omega)) | (focus (simp [World.setCell]; omega))))) (Nat.le_refl _)) (HP.out.below (by repeat (first | with_reducible exact BEL.out | with_reducible apply Below.alloc | with_reducible apply Below.setCell | with_reducible apply Below.drew | with_reducible apply below_drewN | (first | omega | (focus (simp; done)) | (focus (simp; omega)) | (focus (simp [World.setCell]; omega))))) (Nat.le_refl _)) (HR.out.below (by repeat (first | with_reducible exact BEL.out | with_reducible apply Below.alloc | with_reducible apply Below.setCell | with_reducible apply Below.drew | with_reducible apply below_drewN | (first | omega | (focus (simp; done)) | (focus (simp; omega)) | (focus (simp [World.setCell]; omega))))) (Nat.le_refl _)) rfl rfl HE.out HQL.out HQ.out HL.out).mono ?_; rintro e w3 ⟨A3, c3, rfl, hi3, hb3⟩
  have hk : Below w2.heap.size w2 w3 := Below.trans (by repeat (first | with_reducible exact Below.refl _ _ | with_reducible apply Below.drew | with_reducible apply below_drewN | with_reducible apply Below.alloc | omega | (focus (simp; done)) | (simp; omega))) (hb3.mono (by first | omega | (simp; done) | (simp; omega)))
  replace HN := Lib.hid (HN.out.go hk)
  replace HF1 := Lib.hid (HF1.out.at' hk)
  replace HI2 := Lib.hid (HI2.out.at' hk)
  replace BEL : Hid (Below w.heap.size w w3) := Lib.hid (BEL.out.trans (hk.mono BEL.out.size))
  have z_w3 := hk.size; have y_w3 := BEL.out.size; clear hk hb3
  clear pN0 pN1 fN0 fN1 zN zN_1 zN_2 zN_3
  obtain ⟨pN0, pN1, fN0, fN1, zN, zN_1, zN_2, zN_3⟩ := HN.out.two'
  have HI3 := Lib.hid hi3; clear hi3 HF1
  go_wp2_with fail
  refine (same_ok _).mono ?_; rintro e w4 ⟨rfl, hb4⟩
  have hk : Below w3.heap.size w3 w4 := Below.trans (by repeat (first | with_reducible exact Below.refl _ _ | with_reducible apply Below.drew | with_reducible apply below_drewN | with_reducible apply Below.alloc | omega | (focus (simp; done)) | (simp; omega))) (hb4.mono (by first | omega | (simp; done) | (simp; omega)))
  replace HN := Lib.hid (HN.out.go hk)
  replace HI2 := Lib.hid (HI2.out.at' hk)
  replace HI3 := Lib.hid (HI3.out.at' hk)
  replace BEL : Hid (Below w.heap.size w w4) := Lib.hid (BEL.out.trans (hk.mono BEL.out.size))
  have z_w4 := hk.size; have y_w4 := BEL.out.size; clear hk hb4
  clear pN0 pN1 fN0 fN1 zN zN_1 zN_2 zN_3
  obtain ⟨pN0, pN1, fN0, fN1, zN, zN_1, zN_2, zN_3⟩ := HN.out.two'
  go_wp2_with fail
  refine (sameInts_n A3 A2 c3 c2 _ _ ((fulls caps L).map fun (i : Nat) => (i : Int)) _ _ _ (HI3.out.at' (by repeat (first | with_reducible exact Below.refl _ _ | with_reducible apply Below.drew | with_reducible apply below_drewN | with_reducible apply Below.alloc | omega | (focus (simp; done)) | (simp; omega)))) (HI2.out.at' (by repeat (first | with_reducible exact Below.refl _ _ | with_reducible apply Below.drew | with_reducible apply below_drewN | with_reducible apply Below.alloc | omega | (focus (simp; done)) | (simp; omega)))) (by simp) (by simp)).mono ?_; rintro e w5 ⟨rfl, hb5⟩
  have hk : Below w4.heap.size w4 w5 := Below.trans (by repeat (first | with_reducible exact Below.refl _ _ | with_reducible apply Below.drew | with_reducible apply below_drewN | with_reducible apply Below.alloc | omega | (focus (simp; done)) | (simp; omega))) (hb5.mono (by first | omega | (simp; done) | (simp; omega)))
  replace HN := Lib.hid (HN.out.go hk)
  replace HI2 := Lib.hid (HI2.out.at' hk)
  replace HI3 := Lib.hid (HI3.out.at' hk)
  replace BEL : Hid (Below w.heap.size w w5) := Lib.hid (BEL.out.trans (hk.mono BEL.out.size))
  have z_w5 := hk.size; have y_w5 := BEL.out.size; clear hk hb5
  clear pN0 pN1 fN0 fN1 zN zN_1 zN_2 zN_3
  obtain ⟨pN0, pN1, fN0, fN1, zN, zN_1, zN_2, zN_3⟩ := HN.out.two'
  clear HI2 HI3
  go_wp2_with fail
  refine (refNecks_yes C cc caps P cp _ paths A c _ Q L w.heap.size _ (by first | omega | (focus (simp; done)) | (simp; omega)) (HC.out.below (by repeat (first | with_reducible exact BEL.out | with_reducible apply Below.alloc | with_reducible apply Below.setCell | with_reducible apply Below.drew | with_reducible apply below_drewN | (first | omega | (focus (simp; done)) | (focus (simp; omega)) | (focus (simp [World.setCell]; omega))))) (Nat.le_refl _)) (HP.out.below (by repeat (first | with_reducible exact BEL.out | with_reducible apply Below.alloc | with_reducible apply Below.setCell | with_reducible apply Below.drew | with_reducible apply below_drewN | (first | omega | (focus (simp; done)) | (focus (simp; omega)) | (focus (simp [World.setCell]; omega))))) (Nat.le_refl _)) (HR.out.below (by repeat (first | with_reducible exact BEL.out | with_reducible apply Below.alloc | with_reducible apply Below.setCell | with_reducible apply Below.drew | with_reducible apply below_drewN | (first | omega | (focus (simp; done)) | (focus (simp; omega)) | (focus (simp [World.setCell]; omega))))) (Nat.le_refl _)) rfl rfl HE.out HQL.out HQ.out HL.out V HV.out).mono ?_; rintro e w6 ⟨A4, c4, rfl, hi4, hb6⟩
  have hk : Below w5.heap.size w5 w6 := Below.trans (by repeat (first | with_reducible exact Below.refl _ _ | with_reducible apply Below.drew | with_reducible apply below_drewN | with_reducible apply Below.alloc | omega | (focus (simp; done)) | (simp; omega))) (hb6.mono (by first | omega | (simp; done) | (simp; omega)))
  replace HN := Lib.hid (HN.out.go hk)
  replace BEL : Hid (Below w.heap.size w w6) := Lib.hid (BEL.out.trans (hk.mono BEL.out.size))
  have z_w6 := hk.size; have y_w6 := BEL.out.size; clear hk hb6
  clear pN0 pN1 fN0 fN1 zN zN_1 zN_2 zN_3
  obtain ⟨pN0, pN1, fN0, fN1, zN, zN_1, zN_2, zN_3⟩ := HN.out.two'
  have HI4 := Lib.hid hi4; clear hi4
  go_wp2_with fail
  refine (necks_yes C cc caps P cp _ paths A c _ Q L w.heap.size _ (by first | omega | (focus (simp; done)) | (simp; omega)) (HC.out.below (by repeat (first | with_reducible exact BEL.out | with_reducible apply Below.alloc | with_reducible apply Below.setCell | with_reducible apply Below.drew | with_reducible apply below_drewN | (first | omega | (focus (simp; done)) | (focus (simp; omega)) | (focus (simp [World.setCell]; omega))))) (Nat.le_refl _)) (HP.out.below (by repeat (first | with_reducible exact BEL.out | with_reducible apply Below.alloc | with_reducible apply Below.setCell | with_reducible apply Below.drew | with_reducible apply below_drewN | (first | omega | (focus (simp; done)) | (focus (simp; omega)) | (focus (simp [World.setCell]; omega))))) (Nat.le_refl _)) (HR.out.below (by repeat (first | with_reducible exact BEL.out | with_reducible apply Below.alloc | with_reducible apply Below.setCell | with_reducible apply Below.drew | with_reducible apply below_drewN | (first | omega | (focus (simp; done)) | (focus (simp; omega)) | (focus (simp [World.setCell]; omega))))) (Nat.le_refl _)) rfl rfl HE.out HQL.out HQ.out HL.out V HV.out).mono ?_; rintro e w7 ⟨A5, c5, rfl, hi5, hb7⟩
  have hk : Below w6.heap.size w6 w7 := Below.trans (by repeat (first | with_reducible exact Below.refl _ _ | with_reducible apply Below.drew | with_reducible apply below_drewN | with_reducible apply Below.alloc | omega | (focus (simp; done)) | (simp; omega))) (hb7.mono (by first | omega | (simp; done) | (simp; omega)))
  replace HN := Lib.hid (HN.out.go hk)
  replace HI4 := Lib.hid (HI4.out.at' hk)
  replace BEL : Hid (Below w.heap.size w w7) := Lib.hid (BEL.out.trans (hk.mono BEL.out.size))
  have z_w7 := hk.size; have y_w7 := BEL.out.size; clear hk hb7
  clear pN0 pN1 fN0 fN1 zN zN_1 zN_2 zN_3
  obtain ⟨pN0, pN1, fN0, fN1, zN, zN_1, zN_2, zN_3⟩ := HN.out.two'
  have HI5 := Lib.hid hi5; clear hi5
  go_wp2_with fail
  refine (same_ok _).mono ?_; rintro e w8 ⟨rfl, hb8⟩
  have hk : Below w7.heap.size w7 w8 := Below.trans (by repeat (first | with_reducible exact Below.refl _ _ | with_reducible apply Below.drew | with_reducible apply below_drewN | with_reducible apply Below.alloc | omega | (focus (simp; done)) | (simp; omega))) (hb8.mono (by first | omega | (simp; done) | (simp; omega)))
  replace HN := Lib.hid (HN.out.go hk)
  replace HI4 := Lib.hid (HI4.out.at' hk)
  replace HI5 := Lib.hid (HI5.out.at' hk)
  replace BEL : Hid (Below w.heap.size w w8) := Lib.hid (BEL.out.trans (hk.mono BEL.out.size))
  have z_w8 := hk.size; have y_w8 := BEL.out.size; clear hk hb8
  clear pN0 pN1 fN0 fN1 zN zN_1 zN_2 zN_3
  obtain ⟨pN0, pN1, fN0, fN1, zN, zN_1, zN_2, zN_3⟩ := HN.out.two'
  go_wp2_with fail
  refine (sameInts_n A5 A4 c5 c4 _ _ V _ _ _ (HI5.out.at' (by repeat (first | with_reducible exact Below.refl _ _ | with_reducible apply Below.drew | with_reducible apply below_drewN | with_reducible apply Below.alloc | omega | (focus (simp; done)) | (simp; omega)))) (HI4.out.at' (by repeat (first | with_reducible exact Below.refl _ _ | with_reducible apply Below.drew | with_reducible apply below_drewN | with_reducible apply Below.alloc | omega | (focus (simp; done)) | (simp; omega)))) rfl rfl).mono ?_; rintro e w9 ⟨rfl, hb9⟩
  have hk : Below w8.heap.size w8 w9 := Below.trans (by repeat (first | with_reducible exact Below.refl _ _ | with_reducible apply Below.drew | with_reducible apply below_drewN | with_reducible apply Below.alloc | omega | (focus (simp; done)) | (simp; omega))) (hb9.mono (by first | omega | (simp; done) | (simp; omega)))
  replace HN := Lib.hid (HN.out.go hk)
  replace HI4 := Lib.hid (HI4.out.at' hk)
  replace HI5 := Lib.hid (HI5.out.at' hk)
  replace BEL : Hid (Below w.heap.size w w9) := Lib.hid (BEL.out.trans (hk.mono BEL.out.size))
  have z_w9 := hk.size; have y_w9 := BEL.out.size; clear hk hb9
  clear pN0 pN1 fN0 fN1 zN zN_1 zN_2 zN_3
  obtain ⟨pN0, pN1, fN0, fN1, zN, zN_1, zN_2, zN_3⟩ := HN.out.two'
  clear HI5
  go_wp2_with fail
  refine (refFits_yes C cc caps P cp _ paths A c _ Q L false w.heap.size _ (by first | omega | (focus (simp; done)) | (simp; omega)) (HC.out.below (by repeat (first | with_reducible exact BEL.out | with_reducible apply Below.alloc | with_reducible apply Below.setCell | with_reducible apply Below.drew | with_reducible apply below_drewN | (first | omega | (focus (simp; done)) | (focus (simp; omega)) | (focus (simp [World.setCell]; omega))))) (Nat.le_refl _)) (HP.out.below (by repeat (first | with_reducible exact BEL.out | with_reducible apply Below.alloc | with_reducible apply Below.setCell | with_reducible apply Below.drew | with_reducible apply below_drewN | (first | omega | (focus (simp; done)) | (focus (simp; omega)) | (focus (simp [World.setCell]; omega))))) (Nat.le_refl _)) (HR.out.below (by repeat (first | with_reducible exact BEL.out | with_reducible apply Below.alloc | with_reducible apply Below.setCell | with_reducible apply Below.drew | with_reducible apply below_drewN | (first | omega | (focus (simp; done)) | (focus (simp; omega)) | (focus (simp [World.setCell]; omega))))) (Nat.le_refl _)) rfl rfl HE.out HQL.out HQ.out HL.out HFB.out).mono ?_; rintro e w10 ⟨rfl, hb10⟩
  have hk : Below w9.heap.size w9 w10 := Below.trans (by repeat (first | with_reducible exact Below.refl _ _ | with_reducible apply Below.drew | with_reducible apply below_drewN | with_reducible apply Below.alloc | omega | (focus (simp; done)) | (simp; omega))) (hb10.mono (by first | omega | (simp; done) | (simp; omega)))
  replace HN := Lib.hid (HN.out.go hk)
  replace HI4 := Lib.hid (HI4.out.at' hk)
  replace BEL : Hid (Below w.heap.size w w10) := Lib.hid (BEL.out.trans (hk.mono BEL.out.size))
  have z_w10 := hk.size; have y_w10 := BEL.out.size; clear hk hb10
  clear pN0 pN1 fN0 fN1 zN zN_1 zN_2 zN_3
  obtain ⟨pN0, pN1, fN0, fN1, zN, zN_1, zN_2, zN_3⟩ := HN.out.two'
  go_wp2_with fail
  refine (refIn_any A4 c4 _ V _ _ (HI4.out.at' (by repeat (first | with_reducible exact Below.refl _ _ | with_reducible apply Below.drew | with_reducible apply below_drewN | with_reducible apply Below.alloc | omega | (focus (simp; done)) | (simp; omega)))) rfl (-1) true HIB.out).mono ?_; rintro e w' ⟨rfl, rfl⟩
  go_wp2_with fail
  refine (nfair_yes C cc caps P cp _ paths A c _ Q L false w.heap.size _ (by first | omega | (focus (simp; done)) | (simp; omega)) (HC.out.below (by repeat (first | with_reducible exact BEL.out | with_reducible apply Below.alloc | with_reducible apply Below.setCell | with_reducible apply Below.drew | with_reducible apply below_drewN | (first | omega | (focus (simp; done)) | (focus (simp; omega)) | (focus (simp [World.setCell]; omega))))) (Nat.le_refl _)) (HP.out.below (by repeat (first | with_reducible exact BEL.out | with_reducible apply Below.alloc | with_reducible apply Below.setCell | with_reducible apply Below.drew | with_reducible apply below_drewN | (first | omega | (focus (simp; done)) | (focus (simp; omega)) | (focus (simp [World.setCell]; omega))))) (Nat.le_refl _)) (HR.out.below (by repeat (first | with_reducible exact BEL.out | with_reducible apply Below.alloc | with_reducible apply Below.setCell | with_reducible apply Below.drew | with_reducible apply below_drewN | (first | omega | (focus (simp; done)) | (focus (simp; omega)) | (focus (simp [World.setCell]; omega))))) (Nat.le_refl _)) rfl rfl HE.out HQL.out HQ.out HL.out HFP.out).mono ?_; rintro e w11 ⟨rfl, hb11⟩
  have hk : Below w10.heap.size w10 w11 := Below.trans (by repeat (first | with_reducible exact Below.refl _ _ | with_reducible apply Below.drew | with_reducible apply below_drewN | with_reducible apply Below.alloc | omega | (focus (simp; done)) | (simp; omega))) (hb11.mono (by first | omega | (simp; done) | (simp; omega)))
  replace HN := Lib.hid (HN.out.go hk)
  replace HI4 := Lib.hid (HI4.out.at' hk)
  replace BEL : Hid (Below w.heap.size w w11) := Lib.hid (BEL.out.trans (hk.mono BEL.out.size))
  have z_w11 := hk.size; have y_w11 := BEL.out.size; clear hk hb11
  clear pN0 pN1 fN0 fN1 zN zN_1 zN_2 zN_3
  obtain ⟨pN0, pN1, fN0, fN1, zN, zN_1, zN_2, zN_3⟩ := HN.out.two'
  go_wp2_with fail
  refine (same_ok _).mono ?_; rintro e w12 ⟨rfl, hb12⟩
  have hk : Below w11.heap.size w11 w12 := Below.trans (by repeat (first | with_reducible exact Below.refl _ _ | with_reducible apply Below.drew | with_reducible apply below_drewN | with_reducible apply Below.alloc | omega | (focus (simp; done)) | (simp; omega))) (hb12.mono (by first | omega | (simp; done) | (simp; omega)))
  replace HN := Lib.hid (HN.out.go hk)
  replace HI4 := Lib.hid (HI4.out.at' hk)
  replace BEL : Hid (Below w.heap.size w w12) := Lib.hid (BEL.out.trans (hk.mono BEL.out.size))
  have z_w12 := hk.size; have y_w12 := BEL.out.size; clear hk hb12
  clear pN0 pN1 fN0 fN1 zN zN_1 zN_2 zN_3
  obtain ⟨pN0, pN1, fN0, fN1, zN, zN_1, zN_2, zN_3⟩ := HN.out.two'
  go_wp2
  go_ret
  exact ⟨rfl, (by repeat (first | with_reducible exact BEL.out | with_reducible apply Below.alloc | with_reducible apply Below.setCell | with_reducible apply Below.drew | with_reducible apply below_drewN | (first | omega | (focus (simp; done)) | (focus (simp; omega)) | (focus (simp [World.setCell]; omega)))))⟩
set_option maxHeartbeats 16000000 in
set_option maxRecDepth 100000 in
theorem neckTells_Yff (C : Option Addr) (cc : Nat) (caps : List Int) (P : Option Addr) (cp : Nat) (paths : List (List Int)) (A : Option Addr) (c : Nat) (S : List Fr) (w : World) (hg : Laid w) (hc : Ints w w.heap.size C cc caps) (hp : Rows2 w w.heap.size P cp paths) (hr : Frs w w.heap.size A c S) (Q L : List Rat) (hS : S = Q.map frQ) (he : netErr caps paths = 0) (hl : Q.length = paths.length) (hq : ∀ q ∈ Q, QIn q) (hL : loadsTo paths Q caps.length = some L) (hb : fitsB caps Q L = false) (hi : inL (necks paths Q ((fulls caps L).map fun (i : Nat) => (i : Int)) paths.length) (-1) = false) :
    Calls Tryd.prog 9 #[.agg #[.slice C caps.length cc, .slice P paths.length cp], .slice A S.length c] w fun e w' => e = .returned (.bool true) ∧ Below w.heap.size w w' := by
  have LAID := Lib.hid hg
  have HC := Lib.hid hc
  have HP := Lib.hid hp
  have HR := Lib.hid hr
  have hpm := hp.cap; have hpl := hp.le; have hcm := hc.cap; have hcl := hc.le
  unfold maxLen at hpm hcm
  clear hc hp hr hg
  subst hS
  obtain ⟨k1, k2, k3, k4, k5, _⟩ := netErr_ok he
  have HFP : Hid (fairP caps paths Q L = false) := Lib.hid (by unfold fairP; rw [hb, hi]; rfl)
  obtain ⟨V, hV⟩ : ∃ V, necks paths Q ((fulls caps L).map fun (i : Nat) => (i : Int)) paths.length = V := ⟨_, rfl⟩
  rw [hV] at hi
  have hVl : V.length = paths.length := by rw [← hV, necks_len]
  have HVL := Lib.hid hVl
  have hv6 : V.length ≤ 6 := by omega
  have HLL := Lib.hid (loadsTo_len hL)
  have HE := Lib.hid he; have HQL := Lib.hid hl; have HQ := Lib.hid hq; have HL := Lib.hid hL; have HFB := Lib.hid hb; have HIB := Lib.hid hi; have HV := Lib.hid hV
  rw [List.length_map]
  clear he hl hq hL hb hi hV hVl k5
  have BEL : Hid (Below w.heap.size w w) := Lib.hid (Below.refl _ _)
  have yB : w.heap.size ≤ w.heap.size := Nat.le_refl _
  go_enter Tryd.func9, Tryd.ntmps9
  go_wp2_with fail
  refine (refLoad_yes C cc caps P cp _ paths A c _ Q L w.heap.size _ (by first | omega | (focus (simp; done)) | (simp; omega)) (HC.out.below (by repeat (first | with_reducible exact BEL.out | with_reducible apply Below.alloc | with_reducible apply Below.setCell | with_reducible apply Below.drew | with_reducible apply below_drewN | (first | omega | (focus (simp; done)) | (focus (simp; omega)) | (focus (simp [World.setCell]; omega))))) (Nat.le_refl _)) (HP.out.below (by repeat (first | with_reducible exact BEL.out | with_reducible apply Below.alloc | with_reducible apply Below.setCell | with_reducible apply Below.drew | with_reducible apply below_drewN | (first | omega | (focus (simp; done)) | (focus (simp; omega)) | (focus (simp [World.setCell]; omega))))) (Nat.le_refl _)) (HR.out.below (by repeat (first | with_reducible exact BEL.out | with_reducible apply Below.alloc | with_reducible apply Below.setCell | with_reducible apply Below.drew | with_reducible apply below_drewN | (first | omega | (focus (simp; done)) | (focus (simp; omega)) | (focus (simp [World.setCell]; omega))))) (Nat.le_refl _)) rfl rfl HE.out HQL.out HQ.out HL.out).mono ?_; rintro e w1 ⟨A1, c1, rfl, hf1, hb1⟩
  have hk : Below w.heap.size w w1 := Below.trans (by repeat (first | with_reducible exact Below.refl _ _ | with_reducible apply Below.drew | with_reducible apply below_drewN | with_reducible apply Below.alloc | omega | (focus (simp; done)) | (simp; omega))) (hb1.mono (by first | omega | (simp; done) | (simp; omega)))
  have HN := Lib.hid (show Blk w1 (w.heap.size) 43 _ from Blk.go (by repeat (first | (with_reducible apply Blk.new'; first | with_reducible rfl | (focus (simp; done))) | with_reducible apply Blk.alloc | with_reducible apply Blk.drew | with_reducible apply Blk.drewN)) hb1)
  replace BEL : Hid (Below w.heap.size w w1) := Lib.hid (BEL.out.trans (hk.mono BEL.out.size))
  have z_w1 := hk.size; have y_w1 := BEL.out.size; clear hk hb1
  obtain ⟨pN0, pN1, fN0, fN1, zN, zN_1, zN_2, zN_3⟩ := HN.out.two'
  have HF1 := Lib.hid hf1; have hf1m := hf1.cap; have hf1l := hf1.le; rw [List.length_map, HLL.out] at hf1l; unfold maxLen at hf1m; clear hf1
  go_wp2_with fail
  refine (refFull_any C cc caps _ A1 c1 _ L w1.heap.size _ (by first | omega | (focus (simp; done)) | (simp; omega)) ((HC.out.below (by repeat (first | with_reducible exact BEL.out | with_reducible apply Below.alloc | with_reducible apply Below.setCell | with_reducible apply Below.drew | with_reducible apply below_drewN | (first | omega | (focus (simp; done)) | (focus (simp; omega)) | (focus (simp [World.setCell]; omega))))) (Nat.le_refl _)).more (by omega)) (HF1.out.below (Below.refl _ _) (Nat.le_refl _)) HLL.out.symm HLL.out (by omega)).mono ?_; rintro e w2 ⟨A2, c2, rfl, hi2, hb2⟩
  have hk : Below w1.heap.size w1 w2 := Below.trans (by repeat (first | with_reducible exact Below.refl _ _ | with_reducible apply Below.drew | with_reducible apply below_drewN | with_reducible apply Below.alloc | omega | (focus (simp; done)) | (simp; omega))) (hb2.mono (by first | omega | (simp; done) | (simp; omega)))
  replace HN := Lib.hid (HN.out.go hk)
  replace HF1 := Lib.hid (HF1.out.at' hk)
  replace BEL : Hid (Below w.heap.size w w2) := Lib.hid (BEL.out.trans (hk.mono BEL.out.size))
  have z_w2 := hk.size; have y_w2 := BEL.out.size; clear hk hb2
  clear pN0 pN1 fN0 fN1 zN zN_1 zN_2 zN_3
  obtain ⟨pN0, pN1, fN0, fN1, zN, zN_1, zN_2, zN_3⟩ := HN.out.two'
  have HI2 := Lib.hid hi2; clear hi2
  go_wp2_with fail
  refine (nfull_yes C cc caps P cp _ paths A c _ Q L w.heap.size _ (by first | omega | (focus (simp; done)) | (simp; omega)) (HC.out.below (by repeat (first | with_reducible exact BEL.out | with_reducible apply Below.alloc | with_reducible apply Below.setCell | with_reducible apply Below.drew | with_reducible apply below_drewN | (first | omega | (focus (simp; done)) | (focus (simp; omega)) | (focus (simp [World.setCell]; omega))))) (Nat.le_refl _)) (HP.out.below (by repeat (first | with_reducible exact BEL.out | with_reducible apply Below.alloc | with_reducible apply Below.setCell | with_reducible apply Below.drew | with_reducible apply below_drewN | (first | omega | (focus (simp; done)) | (focus (simp; omega)) | (focus (simp [World.setCell]; omega))))) (Nat.le_refl _)) (HR.out.below (by repeat (first | with_reducible exact BEL.out | with_reducible apply Below.alloc | with_reducible apply Below.setCell | with_reducible apply Below.drew | with_reducible apply below_drewN | (first | omega | (focus (simp; done)) | (focus (simp; omega)) | (focus (simp [World.setCell]; omega))))) (Nat.le_refl _)) rfl rfl HE.out HQL.out HQ.out HL.out).mono ?_; rintro e w3 ⟨A3, c3, rfl, hi3, hb3⟩
  have hk : Below w2.heap.size w2 w3 := Below.trans (by repeat (first | with_reducible exact Below.refl _ _ | with_reducible apply Below.drew | with_reducible apply below_drewN | with_reducible apply Below.alloc | omega | (focus (simp; done)) | (simp; omega))) (hb3.mono (by first | omega | (simp; done) | (simp; omega)))
  replace HN := Lib.hid (HN.out.go hk)
  replace HF1 := Lib.hid (HF1.out.at' hk)
  replace HI2 := Lib.hid (HI2.out.at' hk)
  replace BEL : Hid (Below w.heap.size w w3) := Lib.hid (BEL.out.trans (hk.mono BEL.out.size))
  have z_w3 := hk.size; have y_w3 := BEL.out.size; clear hk hb3
  clear pN0 pN1 fN0 fN1 zN zN_1 zN_2 zN_3
  obtain ⟨pN0, pN1, fN0, fN1, zN, zN_1, zN_2, zN_3⟩ := HN.out.two'
  have HI3 := Lib.hid hi3; clear hi3 HF1
  go_wp2_with fail
  refine (same_ok _).mono ?_; rintro e w4 ⟨rfl, hb4⟩
  have hk : Below w3.heap.size w3 w4 := Below.trans (by repeat (first | with_reducible exact Below.refl _ _ | with_reducible apply Below.drew | with_reducible apply below_drewN | with_reducible apply Below.alloc | omega | (focus (simp; done)) | (simp; omega))) (hb4.mono (by first | omega | (simp; done) | (simp; omega)))
  replace HN := Lib.hid (HN.out.go hk)
  replace HI2 := Lib.hid (HI2.out.at' hk)
  replace HI3 := Lib.hid (HI3.out.at' hk)
  replace BEL : Hid (Below w.heap.size w w4) := Lib.hid (BEL.out.trans (hk.mono BEL.out.size))
  have z_w4 := hk.size; have y_w4 := BEL.out.size; clear hk hb4
  clear pN0 pN1 fN0 fN1 zN zN_1 zN_2 zN_3
  obtain ⟨pN0, pN1, fN0, fN1, zN, zN_1, zN_2, zN_3⟩ := HN.out.two'
  go_wp2_with fail
  refine (sameInts_n A3 A2 c3 c2 _ _ ((fulls caps L).map fun (i : Nat) => (i : Int)) _ _ _ (HI3.out.at' (by repeat (first | with_reducible exact Below.refl _ _ | with_reducible apply Below.drew | with_reducible apply below_drewN | with_reducible apply Below.alloc | omega | (focus (simp; done)) | (simp; omega)))) (HI2.out.at' (by repeat (first | with_reducible exact Below.refl _ _ | with_reducible apply Below.drew | with_reducible apply below_drewN | with_reducible apply Below.alloc | omega | (focus (simp; done)) | (simp; omega)))) (by simp) (by simp)).mono ?_; rintro e w5 ⟨rfl, hb5⟩
  have hk : Below w4.heap.size w4 w5 := Below.trans (by repeat (first | with_reducible exact Below.refl _ _ | with_reducible apply Below.drew | with_reducible apply below_drewN | with_reducible apply Below.alloc | omega | (focus (simp; done)) | (simp; omega))) (hb5.mono (by first | omega | (simp; done) | (simp; omega)))
  replace HN := Lib.hid (HN.out.go hk)
  replace HI2 := Lib.hid (HI2.out.at' hk)
  replace HI3 := Lib.hid (HI3.out.at' hk)
  replace BEL : Hid (Below w.heap.size w w5) := Lib.hid (BEL.out.trans (hk.mono BEL.out.size))
  have z_w5 := hk.size; have y_w5 := BEL.out.size; clear hk hb5
  clear pN0 pN1 fN0 fN1 zN zN_1 zN_2 zN_3
  obtain ⟨pN0, pN1, fN0, fN1, zN, zN_1, zN_2, zN_3⟩ := HN.out.two'
  clear HI2 HI3
  go_wp2_with fail
  refine (refNecks_yes C cc caps P cp _ paths A c _ Q L w.heap.size _ (by first | omega | (focus (simp; done)) | (simp; omega)) (HC.out.below (by repeat (first | with_reducible exact BEL.out | with_reducible apply Below.alloc | with_reducible apply Below.setCell | with_reducible apply Below.drew | with_reducible apply below_drewN | (first | omega | (focus (simp; done)) | (focus (simp; omega)) | (focus (simp [World.setCell]; omega))))) (Nat.le_refl _)) (HP.out.below (by repeat (first | with_reducible exact BEL.out | with_reducible apply Below.alloc | with_reducible apply Below.setCell | with_reducible apply Below.drew | with_reducible apply below_drewN | (first | omega | (focus (simp; done)) | (focus (simp; omega)) | (focus (simp [World.setCell]; omega))))) (Nat.le_refl _)) (HR.out.below (by repeat (first | with_reducible exact BEL.out | with_reducible apply Below.alloc | with_reducible apply Below.setCell | with_reducible apply Below.drew | with_reducible apply below_drewN | (first | omega | (focus (simp; done)) | (focus (simp; omega)) | (focus (simp [World.setCell]; omega))))) (Nat.le_refl _)) rfl rfl HE.out HQL.out HQ.out HL.out V HV.out).mono ?_; rintro e w6 ⟨A4, c4, rfl, hi4, hb6⟩
  have hk : Below w5.heap.size w5 w6 := Below.trans (by repeat (first | with_reducible exact Below.refl _ _ | with_reducible apply Below.drew | with_reducible apply below_drewN | with_reducible apply Below.alloc | omega | (focus (simp; done)) | (simp; omega))) (hb6.mono (by first | omega | (simp; done) | (simp; omega)))
  replace HN := Lib.hid (HN.out.go hk)
  replace BEL : Hid (Below w.heap.size w w6) := Lib.hid (BEL.out.trans (hk.mono BEL.out.size))
  have z_w6 := hk.size; have y_w6 := BEL.out.size; clear hk hb6
  clear pN0 pN1 fN0 fN1 zN zN_1 zN_2 zN_3
  obtain ⟨pN0, pN1, fN0, fN1, zN, zN_1, zN_2, zN_3⟩ := HN.out.two'
  have HI4 := Lib.hid hi4; clear hi4
  go_wp2_with fail
  refine (necks_yes C cc caps P cp _ paths A c _ Q L w.heap.size _ (by first | omega | (focus (simp; done)) | (simp; omega)) (HC.out.below (by repeat (first | with_reducible exact BEL.out | with_reducible apply Below.alloc | with_reducible apply Below.setCell | with_reducible apply Below.drew | with_reducible apply below_drewN | (first | omega | (focus (simp; done)) | (focus (simp; omega)) | (focus (simp [World.setCell]; omega))))) (Nat.le_refl _)) (HP.out.below (by repeat (first | with_reducible exact BEL.out | with_reducible apply Below.alloc | with_reducible apply Below.setCell | with_reducible apply Below.drew | with_reducible apply below_drewN | (first | omega | (focus (simp; done)) | (focus (simp; omega)) | (focus (simp [World.setCell]; omega))))) (Nat.le_refl _)) (HR.out.below (by repeat (first | with_reducible exact BEL.out | with_reducible apply Below.alloc | with_reducible apply Below.setCell | with_reducible apply Below.drew | with_reducible apply below_drewN | (first | omega | (focus (simp; done)) | (focus (simp; omega)) | (focus (simp [World.setCell]; omega))))) (Nat.le_refl _)) rfl rfl HE.out HQL.out HQ.out HL.out V HV.out).mono ?_; rintro e w7 ⟨A5, c5, rfl, hi5, hb7⟩
  have hk : Below w6.heap.size w6 w7 := Below.trans (by repeat (first | with_reducible exact Below.refl _ _ | with_reducible apply Below.drew | with_reducible apply below_drewN | with_reducible apply Below.alloc | omega | (focus (simp; done)) | (simp; omega))) (hb7.mono (by first | omega | (simp; done) | (simp; omega)))
  replace HN := Lib.hid (HN.out.go hk)
  replace HI4 := Lib.hid (HI4.out.at' hk)
  replace BEL : Hid (Below w.heap.size w w7) := Lib.hid (BEL.out.trans (hk.mono BEL.out.size))
  have z_w7 := hk.size; have y_w7 := BEL.out.size; clear hk hb7
  clear pN0 pN1 fN0 fN1 zN zN_1 zN_2 zN_3
  obtain ⟨pN0, pN1, fN0, fN1, zN, zN_1, zN_2, zN_3⟩ := HN.out.two'
  have HI5 := Lib.hid hi5; clear hi5
  go_wp2_with fail
  refine (same_ok _).mono ?_; rintro e w8 ⟨rfl, hb8⟩
  have hk : Below w7.heap.size w7 w8 := Below.trans (by repeat (first | with_reducible exact Below.refl _ _ | with_reducible apply Below.drew | with_reducible apply below_drewN | with_reducible apply Below.alloc | omega | (focus (simp; done)) | (simp; omega))) (hb8.mono (by first | omega | (simp; done) | (simp; omega)))
  replace HN := Lib.hid (HN.out.go hk)
  replace HI4 := Lib.hid (HI4.out.at' hk)
  replace HI5 := Lib.hid (HI5.out.at' hk)
  replace BEL : Hid (Below w.heap.size w w8) := Lib.hid (BEL.out.trans (hk.mono BEL.out.size))
  have z_w8 := hk.size; have y_w8 := BEL.out.size; clear hk hb8
  clear pN0 pN1 fN0 fN1 zN zN_1 zN_2 zN_3
  obtain ⟨pN0, pN1, fN0, fN1, zN, zN_1, zN_2, zN_3⟩ := HN.out.two'
  go_wp2_with fail
  refine (sameInts_n A5 A4 c5 c4 _ _ V _ _ _ (HI5.out.at' (by repeat (first | with_reducible exact Below.refl _ _ | with_reducible apply Below.drew | with_reducible apply below_drewN | with_reducible apply Below.alloc | omega | (focus (simp; done)) | (simp; omega)))) (HI4.out.at' (by repeat (first | with_reducible exact Below.refl _ _ | with_reducible apply Below.drew | with_reducible apply below_drewN | with_reducible apply Below.alloc | omega | (focus (simp; done)) | (simp; omega)))) rfl rfl).mono ?_; rintro e w9 ⟨rfl, hb9⟩
  have hk : Below w8.heap.size w8 w9 := Below.trans (by repeat (first | with_reducible exact Below.refl _ _ | with_reducible apply Below.drew | with_reducible apply below_drewN | with_reducible apply Below.alloc | omega | (focus (simp; done)) | (simp; omega))) (hb9.mono (by first | omega | (simp; done) | (simp; omega)))
  replace HN := Lib.hid (HN.out.go hk)
  replace HI4 := Lib.hid (HI4.out.at' hk)
  replace HI5 := Lib.hid (HI5.out.at' hk)
  replace BEL : Hid (Below w.heap.size w w9) := Lib.hid (BEL.out.trans (hk.mono BEL.out.size))
  have z_w9 := hk.size; have y_w9 := BEL.out.size; clear hk hb9
  clear pN0 pN1 fN0 fN1 zN zN_1 zN_2 zN_3
  obtain ⟨pN0, pN1, fN0, fN1, zN, zN_1, zN_2, zN_3⟩ := HN.out.two'
  clear HI5
  go_wp2_with fail
  refine (refFits_yes C cc caps P cp _ paths A c _ Q L false w.heap.size _ (by first | omega | (focus (simp; done)) | (simp; omega)) (HC.out.below (by repeat (first | with_reducible exact BEL.out | with_reducible apply Below.alloc | with_reducible apply Below.setCell | with_reducible apply Below.drew | with_reducible apply below_drewN | (first | omega | (focus (simp; done)) | (focus (simp; omega)) | (focus (simp [World.setCell]; omega))))) (Nat.le_refl _)) (HP.out.below (by repeat (first | with_reducible exact BEL.out | with_reducible apply Below.alloc | with_reducible apply Below.setCell | with_reducible apply Below.drew | with_reducible apply below_drewN | (first | omega | (focus (simp; done)) | (focus (simp; omega)) | (focus (simp [World.setCell]; omega))))) (Nat.le_refl _)) (HR.out.below (by repeat (first | with_reducible exact BEL.out | with_reducible apply Below.alloc | with_reducible apply Below.setCell | with_reducible apply Below.drew | with_reducible apply below_drewN | (first | omega | (focus (simp; done)) | (focus (simp; omega)) | (focus (simp [World.setCell]; omega))))) (Nat.le_refl _)) rfl rfl HE.out HQL.out HQ.out HL.out HFB.out).mono ?_; rintro e w10 ⟨rfl, hb10⟩
  have hk : Below w9.heap.size w9 w10 := Below.trans (by repeat (first | with_reducible exact Below.refl _ _ | with_reducible apply Below.drew | with_reducible apply below_drewN | with_reducible apply Below.alloc | omega | (focus (simp; done)) | (simp; omega))) (hb10.mono (by first | omega | (simp; done) | (simp; omega)))
  replace HN := Lib.hid (HN.out.go hk)
  replace HI4 := Lib.hid (HI4.out.at' hk)
  replace BEL : Hid (Below w.heap.size w w10) := Lib.hid (BEL.out.trans (hk.mono BEL.out.size))
  have z_w10 := hk.size; have y_w10 := BEL.out.size; clear hk hb10
  clear pN0 pN1 fN0 fN1 zN zN_1 zN_2 zN_3
  obtain ⟨pN0, pN1, fN0, fN1, zN, zN_1, zN_2, zN_3⟩ := HN.out.two'
  go_wp2_with fail
  refine (refIn_any A4 c4 _ V _ _ (HI4.out.at' (by repeat (first | with_reducible exact Below.refl _ _ | with_reducible apply Below.drew | with_reducible apply below_drewN | with_reducible apply Below.alloc | omega | (focus (simp; done)) | (simp; omega)))) rfl (-1) false HIB.out).mono ?_; rintro e w' ⟨rfl, rfl⟩
  go_wp2_with fail
  refine (nfair_yes C cc caps P cp _ paths A c _ Q L false w.heap.size _ (by first | omega | (focus (simp; done)) | (simp; omega)) (HC.out.below (by repeat (first | with_reducible exact BEL.out | with_reducible apply Below.alloc | with_reducible apply Below.setCell | with_reducible apply Below.drew | with_reducible apply below_drewN | (first | omega | (focus (simp; done)) | (focus (simp; omega)) | (focus (simp [World.setCell]; omega))))) (Nat.le_refl _)) (HP.out.below (by repeat (first | with_reducible exact BEL.out | with_reducible apply Below.alloc | with_reducible apply Below.setCell | with_reducible apply Below.drew | with_reducible apply below_drewN | (first | omega | (focus (simp; done)) | (focus (simp; omega)) | (focus (simp [World.setCell]; omega))))) (Nat.le_refl _)) (HR.out.below (by repeat (first | with_reducible exact BEL.out | with_reducible apply Below.alloc | with_reducible apply Below.setCell | with_reducible apply Below.drew | with_reducible apply below_drewN | (first | omega | (focus (simp; done)) | (focus (simp; omega)) | (focus (simp [World.setCell]; omega))))) (Nat.le_refl _)) rfl rfl HE.out HQL.out HQ.out HL.out HFP.out).mono ?_; rintro e w11 ⟨rfl, hb11⟩
  have hk : Below w10.heap.size w10 w11 := Below.trans (by repeat (first | with_reducible exact Below.refl _ _ | with_reducible apply Below.drew | with_reducible apply below_drewN | with_reducible apply Below.alloc | omega | (focus (simp; done)) | (simp; omega))) (hb11.mono (by first | omega | (simp; done) | (simp; omega)))
  replace HN := Lib.hid (HN.out.go hk)
  replace HI4 := Lib.hid (HI4.out.at' hk)
  replace BEL : Hid (Below w.heap.size w w11) := Lib.hid (BEL.out.trans (hk.mono BEL.out.size))
  have z_w11 := hk.size; have y_w11 := BEL.out.size; clear hk hb11
  clear pN0 pN1 fN0 fN1 zN zN_1 zN_2 zN_3
  obtain ⟨pN0, pN1, fN0, fN1, zN, zN_1, zN_2, zN_3⟩ := HN.out.two'
  go_wp2_with fail
  refine (same_ok _).mono ?_; rintro e w12 ⟨rfl, hb12⟩
  have hk : Below w11.heap.size w11 w12 := Below.trans (by repeat (first | with_reducible exact Below.refl _ _ | with_reducible apply Below.drew | with_reducible apply below_drewN | with_reducible apply Below.alloc | omega | (focus (simp; done)) | (simp; omega))) (hb12.mono (by first | omega | (simp; done) | (simp; omega)))
  replace HN := Lib.hid (HN.out.go hk)
  replace HI4 := Lib.hid (HI4.out.at' hk)
  replace BEL : Hid (Below w.heap.size w w12) := Lib.hid (BEL.out.trans (hk.mono BEL.out.size))
  have z_w12 := hk.size; have y_w12 := BEL.out.size; clear hk hb12
  clear pN0 pN1 fN0 fN1 zN zN_1 zN_2 zN_3
  obtain ⟨pN0, pN1, fN0, fN1, zN, zN_1, zN_2, zN_3⟩ := HN.out.two'
  go_wp2
  go_ret
  exact ⟨rfl, (by repeat (first | with_reducible exact BEL.out | with_reducible apply Below.alloc | with_reducible apply Below.setCell | with_reducible apply Below.drew | with_reducible apply below_drewN | (first | omega | (focus (simp; done)) | (focus (simp; omega)) | (focus (simp [World.setCell]; omega)))))⟩
theorem neckTells_walk (w : World) (C : Option Addr) (cc : Nat) (caps : List Int) (hc : Ints w w.heap.size C cc caps) (_ : ∀ n ∈ caps, (Lit.int .i64 n).wf = true) (P : Option Addr) (cp : Nat) (paths : List (List Int)) (hp : Rows2 w w.heap.size P cp paths) (_ : ∀ l ∈ paths, ∀ n ∈ l, (Lit.int .i64 n).wf = true) (A : Option Addr) (c : Nat) (S : List Fr) (hr : Frs w w.heap.size A c S) (_ : True) (hg : Laid w) :
    Calls Tryd.prog 9 #[.agg #[.slice C caps.length cc, .slice P paths.length cp], .slice A S.length c] w fun e w' => e = .returned (.bool true) ∧ Below w.heap.size w w' := by
  rcases lof_cases caps paths S with ⟨er, h0, hx⟩ | ⟨Q, L, hS, he, hl, hq, hL⟩
  · exact neckTells_err C cc caps P cp paths A c S w hg hc hp hr er hx h0
  · cases hb : fitsB caps Q L <;> cases hi : inL (necks paths Q ((fulls caps L).map fun (i : Nat) => (i : Int)) paths.length) (-1)
    · exact neckTells_Yff C cc caps P cp paths A c S w hg hc hp hr Q L hS he hl hq hL hb hi
    · exact neckTells_Yft C cc caps P cp paths A c S w hg hc hp hr Q L hS he hl hq hL hb hi
    · exact neckTells_Ytf C cc caps P cp paths A c S w hg hc hp hr Q L hS he hl hq hL hb hi
    · exact neckTells_Ytt C cc caps P cp paths A c S w hg hc hp hr Q L hS he hl hq hL hb hi
end Go.Proofs.YtblanfaghnflkaaDoor
