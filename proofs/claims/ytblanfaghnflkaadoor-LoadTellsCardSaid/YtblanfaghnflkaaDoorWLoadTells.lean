/- The walk of LoadTells: it returns true for every input. -/
import Derived.Test.YtblanfaghnflkaaDoorRefLoad3
import Derived.Test.YtblanfaghnflkaaDoorLibK
import Derived.Test.YtblanfaghnflkaaDoorFrSame
import Derived.Test.YtblanfaghnflkaaDoorTold
namespace Go.Proofs.YtblanfaghnflkaaDoor
open Go.RowKit
attribute [local go_sem ↓] run_min_mn run_max_mx
def leftK (caps : List Int) (L : List Rat) (k : Nat) : List Rat := (List.range k).map (leftQ caps L)
theorem leftK_succ (caps : List Int) (L : List Rat) (k : Nat) : leftK caps L (k + 1) = leftK caps L k ++ [leftQ caps L k] := by unfold leftK; rw [List.range_succ, List.map_append]; rfl
theorem leftK_len (caps : List Int) (L : List Rat) (k : Nat) : (leftK caps L k).length = k := by simp [leftK]
theorem Frs.nil' (w : World) (B : Nat) : Frs w B none 0 [] := ⟨⟨by simp [frCells], fun h => absurd h (by simp)⟩, Nat.le_refl _, by simp [maxLen]⟩
theorem first_out (p : Nat → Prop) [DecidablePred p] (n : Nat) (h : ∃ i, i < n ∧ ¬ p i) : ∃ m, m < n ∧ ¬ p m ∧ ∀ j, j < m → p j := by
  induction n with
  | zero => obtain ⟨i, hi, _⟩ := h; omega
  | succ n ih =>
    by_cases hb : ∃ i, i < n ∧ ¬ p i
    · obtain ⟨m, h1, h2, h3⟩ := ih hb
      exact ⟨m, by omega, h2, h3⟩
    · obtain ⟨i, hi, hp⟩ := h
      have e : i = n := by
        apply Classical.byContradiction
        intro hne
        exact hb ⟨i, by omega, hp⟩
      subst e
      refine ⟨i, by omega, hp, fun j hj => ?_⟩
      apply Classical.byContradiction
      intro hc
      exact hb ⟨j, hj, hc⟩
set_option maxHeartbeats 16000000 in
set_option maxRecDepth 100000 in
theorem loadTells_err (C : Option Addr) (cc : Nat) (caps : List Int) (P : Option Addr) (cp : Nat) (paths : List (List Int)) (A : Option Addr) (c : Nat) (S : List Fr) (w : World) (hg : Laid w) (hc : Ints w w.heap.size C cc caps) (hp : Rows2 w w.heap.size P cp paths) (hr : Frs w w.heap.size A c S) (er : Int) (hx : (chkErr caps paths S = er ∧ er ≠ 0) ∨ (∃ Q : List Rat, S = Q.map frQ ∧ netErr caps paths = 0 ∧ Q.length = paths.length ∧ (∀ q ∈ Q, QIn q) ∧ loadsTo paths Q caps.length = none ∧ er = 4)) (h0 : er ≠ 0) :
    Calls Tryd.prog 7 #[.agg #[.slice C caps.length cc, .slice P paths.length cp], .slice A S.length c] w fun e w' => e = .returned (.bool true) ∧ Below w.heap.size w w' := by
  have LAID := Lib.hid hg
  have HC := Lib.hid hc
  have HP := Lib.hid hp
  have HR := Lib.hid hr
  have hpm := hp.cap; have hpl := hp.le; have hcm := hc.cap; have hcl := hc.le
  unfold maxLen at hpm hcm
  clear hc hp hr hg
  have HX := Lib.hid hx; have H0 := Lib.hid h0; have e0 : (er != 0) = true := by simpa using h0
  have e1 : (er == 0) = false := beq_eq_false_iff_ne.2 h0
  clear hx h0
  have BEL : Hid (Below w.heap.size w w) := Lib.hid (Below.refl _ _)
  have yB : w.heap.size ≤ w.heap.size := Nat.le_refl _
  go_enter Tryd.func7, Tryd.ntmps7
  go_wp2_with fail
  refine (refLoad_er C cc caps P cp _ paths A c _ S w.heap.size _ er (by first | omega | (focus (simp; done)) | (simp; omega)) (HC.out.below (by repeat (first | with_reducible exact BEL.out | with_reducible apply Below.alloc | with_reducible apply Below.setCell | with_reducible apply Below.drew | with_reducible apply below_drewN | (first | omega | (focus (simp; done)) | (focus (simp; omega)) | (focus (simp [World.setCell]; omega))))) (Nat.le_refl _)) (HP.out.below (by repeat (first | with_reducible exact BEL.out | with_reducible apply Below.alloc | with_reducible apply Below.setCell | with_reducible apply Below.drew | with_reducible apply below_drewN | (first | omega | (focus (simp; done)) | (focus (simp; omega)) | (focus (simp [World.setCell]; omega))))) (Nat.le_refl _)) (HR.out.below (by repeat (first | with_reducible exact BEL.out | with_reducible apply Below.alloc | with_reducible apply Below.setCell | with_reducible apply Below.drew | with_reducible apply below_drewN | (first | omega | (focus (simp; done)) | (focus (simp; omega)) | (focus (simp [World.setCell]; omega))))) (Nat.le_refl _)) rfl rfl HX.out).mono ?_; rintro e w1 ⟨rfl, hb1⟩
  have hk : Below w.heap.size w w1 := Below.trans (by repeat (first | with_reducible exact Below.refl _ _ | with_reducible apply Below.drew | with_reducible apply below_drewN | with_reducible apply Below.alloc | omega | (focus (simp; done)) | (simp; omega))) (hb1.mono (by first | omega | (simp; done) | (simp; omega)))
  have HN := Lib.hid (show Blk w1 (w.heap.size) 43 _ from Blk.go (by repeat (first | (with_reducible apply Blk.new'; first | with_reducible rfl | (focus (simp; done))) | with_reducible apply Blk.alloc | with_reducible apply Blk.drew | with_reducible apply Blk.drewN)) hb1)
  replace BEL : Hid (Below w.heap.size w w1) := Lib.hid (BEL.out.trans (hk.mono BEL.out.size))
  have z_w1 := hk.size; have y_w1 := BEL.out.size; clear hk hb1
  obtain ⟨pN0, pN1, fN0, fN1, zN, zN_1, zN_2, zN_3⟩ := HN.out.two'
  go_wp2_with fail
  refine (lof_er C cc caps P cp _ paths A c _ S w.heap.size _ er (by first | omega | (focus (simp; done)) | (simp; omega)) (HC.out.below (by repeat (first | with_reducible exact BEL.out | with_reducible apply Below.alloc | with_reducible apply Below.setCell | with_reducible apply Below.drew | with_reducible apply below_drewN | (first | omega | (focus (simp; done)) | (focus (simp; omega)) | (focus (simp [World.setCell]; omega))))) (Nat.le_refl _)) (HP.out.below (by repeat (first | with_reducible exact BEL.out | with_reducible apply Below.alloc | with_reducible apply Below.setCell | with_reducible apply Below.drew | with_reducible apply below_drewN | (first | omega | (focus (simp; done)) | (focus (simp; omega)) | (focus (simp [World.setCell]; omega))))) (Nat.le_refl _)) (HR.out.below (by repeat (first | with_reducible exact BEL.out | with_reducible apply Below.alloc | with_reducible apply Below.setCell | with_reducible apply Below.drew | with_reducible apply below_drewN | (first | omega | (focus (simp; done)) | (focus (simp; omega)) | (focus (simp [World.setCell]; omega))))) (Nat.le_refl _)) rfl rfl HX.out).mono ?_; rintro e w2 ⟨rfl, hb2⟩
  have hk : Below w1.heap.size w1 w2 := Below.trans (by repeat (first | with_reducible exact Below.refl _ _ | with_reducible apply Below.drew | with_reducible apply below_drewN | with_reducible apply Below.alloc | omega | (focus (simp; done)) | (simp; omega))) (hb2.mono (by first | omega | (simp; done) | (simp; omega)))
  replace HN := Lib.hid (HN.out.go hk)
  replace BEL : Hid (Below w.heap.size w w2) := Lib.hid (BEL.out.trans (hk.mono BEL.out.size))
  have z_w2 := hk.size; have y_w2 := BEL.out.size; clear hk hb2
  clear pN0 pN1 fN0 fN1 zN zN_1 zN_2 zN_3
  obtain ⟨pN0, pN1, fN0, fN1, zN, zN_1, zN_2, zN_3⟩ := HN.out.two'
  go_wp2_with fail
  refine (same_hit er _ (LAID.out.below (by repeat (first | with_reducible exact BEL.out | with_reducible apply Below.alloc | with_reducible apply Below.setCell | with_reducible apply Below.drew | with_reducible apply below_drewN | (first | omega | (focus (simp; done)) | (focus (simp; omega)) | (focus (simp [World.setCell]; omega))))))).mono ?_; rintro e w3 ⟨rfl, hb3⟩
  have hk : Below w2.heap.size w2 w3 := Below.trans (by repeat (first | with_reducible exact Below.refl _ _ | with_reducible apply Below.drew | with_reducible apply below_drewN | with_reducible apply Below.alloc | omega | (focus (simp; done)) | (simp; omega))) (hb3.mono (by first | omega | (simp; done) | (simp; omega)))
  replace HN := Lib.hid (HN.out.go hk)
  replace BEL : Hid (Below w.heap.size w w3) := Lib.hid (BEL.out.trans (hk.mono BEL.out.size))
  have z_w3 := hk.size; have y_w3 := BEL.out.size; clear hk hb3
  clear pN0 pN1 fN0 fN1 zN zN_1 zN_2 zN_3
  obtain ⟨pN0, pN1, fN0, fN1, zN, zN_1, zN_2, zN_3⟩ := HN.out.two'
  go_wp2_with fail
  refine (sameFr_any none none 0 0 0 0 [] [] 0 0 _ (Frs.nil' _ _) (Frs.nil' _ _) rfl rfl (Nat.zero_le _) (Nat.zero_le _) true (decide_eq_true rfl)).mono ?_; rintro e w4 ⟨rfl, hb4⟩
  have hk : Below w3.heap.size w3 w4 := Below.trans (by repeat (first | with_reducible exact Below.refl _ _ | with_reducible apply Below.drew | with_reducible apply below_drewN | with_reducible apply Below.alloc | omega | (focus (simp; done)) | (simp; omega))) (hb4.mono (by first | omega | (simp; done) | (simp; omega)))
  replace HN := Lib.hid (HN.out.go hk)
  replace BEL : Hid (Below w.heap.size w w4) := Lib.hid (BEL.out.trans (hk.mono BEL.out.size))
  have z_w4 := hk.size; have y_w4 := BEL.out.size; clear hk hb4
  clear pN0 pN1 fN0 fN1 zN zN_1 zN_2 zN_3
  obtain ⟨pN0, pN1, fN0, fN1, zN, zN_1, zN_2, zN_3⟩ := HN.out.two'
  go_wp2_with fail
  refine (refFits_er C cc caps P cp _ paths A c _ S w.heap.size _ er (by first | omega | (focus (simp; done)) | (simp; omega)) (HC.out.below (by repeat (first | with_reducible exact BEL.out | with_reducible apply Below.alloc | with_reducible apply Below.setCell | with_reducible apply Below.drew | with_reducible apply below_drewN | (first | omega | (focus (simp; done)) | (focus (simp; omega)) | (focus (simp [World.setCell]; omega))))) (Nat.le_refl _)) (HP.out.below (by repeat (first | with_reducible exact BEL.out | with_reducible apply Below.alloc | with_reducible apply Below.setCell | with_reducible apply Below.drew | with_reducible apply below_drewN | (first | omega | (focus (simp; done)) | (focus (simp; omega)) | (focus (simp [World.setCell]; omega))))) (Nat.le_refl _)) (HR.out.below (by repeat (first | with_reducible exact BEL.out | with_reducible apply Below.alloc | with_reducible apply Below.setCell | with_reducible apply Below.drew | with_reducible apply below_drewN | (first | omega | (focus (simp; done)) | (focus (simp; omega)) | (focus (simp [World.setCell]; omega))))) (Nat.le_refl _)) rfl rfl HX.out H0.out).mono ?_; rintro e w5 ⟨rfl, hb5⟩
  have hk : Below w4.heap.size w4 w5 := Below.trans (by repeat (first | with_reducible exact Below.refl _ _ | with_reducible apply Below.drew | with_reducible apply below_drewN | with_reducible apply Below.alloc | omega | (focus (simp; done)) | (simp; omega))) (hb5.mono (by first | omega | (simp; done) | (simp; omega)))
  replace HN := Lib.hid (HN.out.go hk)
  replace BEL : Hid (Below w.heap.size w w5) := Lib.hid (BEL.out.trans (hk.mono BEL.out.size))
  have z_w5 := hk.size; have y_w5 := BEL.out.size; clear hk hb5
  clear pN0 pN1 fN0 fN1 zN zN_1 zN_2 zN_3
  obtain ⟨pN0, pN1, fN0, fN1, zN, zN_1, zN_2, zN_3⟩ := HN.out.two'
  go_wp2_with fail
  refine (fits_er C cc caps P cp _ paths A c _ S w.heap.size _ er (by first | omega | (focus (simp; done)) | (simp; omega)) (HC.out.below (by repeat (first | with_reducible exact BEL.out | with_reducible apply Below.alloc | with_reducible apply Below.setCell | with_reducible apply Below.drew | with_reducible apply below_drewN | (first | omega | (focus (simp; done)) | (focus (simp; omega)) | (focus (simp [World.setCell]; omega))))) (Nat.le_refl _)) (HP.out.below (by repeat (first | with_reducible exact BEL.out | with_reducible apply Below.alloc | with_reducible apply Below.setCell | with_reducible apply Below.drew | with_reducible apply below_drewN | (first | omega | (focus (simp; done)) | (focus (simp; omega)) | (focus (simp [World.setCell]; omega))))) (Nat.le_refl _)) (HR.out.below (by repeat (first | with_reducible exact BEL.out | with_reducible apply Below.alloc | with_reducible apply Below.setCell | with_reducible apply Below.drew | with_reducible apply below_drewN | (first | omega | (focus (simp; done)) | (focus (simp; omega)) | (focus (simp [World.setCell]; omega))))) (Nat.le_refl _)) rfl rfl HX.out).mono ?_; rintro e w6 ⟨rfl, hb6⟩
  have hk : Below w5.heap.size w5 w6 := Below.trans (by repeat (first | with_reducible exact Below.refl _ _ | with_reducible apply Below.drew | with_reducible apply below_drewN | with_reducible apply Below.alloc | omega | (focus (simp; done)) | (simp; omega))) (hb6.mono (by first | omega | (simp; done) | (simp; omega)))
  replace HN := Lib.hid (HN.out.go hk)
  replace BEL : Hid (Below w.heap.size w w6) := Lib.hid (BEL.out.trans (hk.mono BEL.out.size))
  have z_w6 := hk.size; have y_w6 := BEL.out.size; clear hk hb6
  clear pN0 pN1 fN0 fN1 zN zN_1 zN_2 zN_3
  obtain ⟨pN0, pN1, fN0, fN1, zN, zN_1, zN_2, zN_3⟩ := HN.out.two'
  go_wp2_with fail
  refine (same_hit er _ (LAID.out.below (by repeat (first | with_reducible exact BEL.out | with_reducible apply Below.alloc | with_reducible apply Below.setCell | with_reducible apply Below.drew | with_reducible apply below_drewN | (first | omega | (focus (simp; done)) | (focus (simp; omega)) | (focus (simp [World.setCell]; omega))))))).mono ?_; rintro e w7 ⟨rfl, hb7⟩
  have hk : Below w6.heap.size w6 w7 := Below.trans (by repeat (first | with_reducible exact Below.refl _ _ | with_reducible apply Below.drew | with_reducible apply below_drewN | with_reducible apply Below.alloc | omega | (focus (simp; done)) | (simp; omega))) (hb7.mono (by first | omega | (simp; done) | (simp; omega)))
  replace HN := Lib.hid (HN.out.go hk)
  replace BEL : Hid (Below w.heap.size w w7) := Lib.hid (BEL.out.trans (hk.mono BEL.out.size))
  have z_w7 := hk.size; have y_w7 := BEL.out.size; clear hk hb7
  clear pN0 pN1 fN0 fN1 zN zN_1 zN_2 zN_3
  obtain ⟨pN0, pN1, fN0, fN1, zN, zN_1, zN_2, zN_3⟩ := HN.out.two'
  go_wp2
  refine wp_loop_rounds 1 ?_
  rw [rounds_succ]
  go_wp2_with fail
  refine (left_er C cc caps P cp _ paths A c _ S w.heap.size _ er (by first | omega | (focus (simp; done)) | (simp; omega)) (HC.out.below (by repeat (first | with_reducible exact BEL.out | with_reducible apply Below.alloc | with_reducible apply Below.setCell | with_reducible apply Below.drew | with_reducible apply below_drewN | (first | omega | (focus (simp; done)) | (focus (simp; omega)) | (focus (simp [World.setCell]; omega))))) (Nat.le_refl _)) (HP.out.below (by repeat (first | with_reducible exact BEL.out | with_reducible apply Below.alloc | with_reducible apply Below.setCell | with_reducible apply Below.drew | with_reducible apply below_drewN | (first | omega | (focus (simp; done)) | (focus (simp; omega)) | (focus (simp [World.setCell]; omega))))) (Nat.le_refl _)) (HR.out.below (by repeat (first | with_reducible exact BEL.out | with_reducible apply Below.alloc | with_reducible apply Below.setCell | with_reducible apply Below.drew | with_reducible apply below_drewN | (first | omega | (focus (simp; done)) | (focus (simp; omega)) | (focus (simp [World.setCell]; omega))))) (Nat.le_refl _)) rfl rfl HX.out).mono ?_; rintro e w8 ⟨rfl, hb8⟩
  have hk : Below w7.heap.size w7 w8 := Below.trans (by repeat (first | with_reducible exact Below.refl _ _ | with_reducible apply Below.drew | with_reducible apply below_drewN | with_reducible apply Below.alloc | omega | (focus (simp; done)) | (simp; omega))) (hb8.mono (by first | omega | (simp; done) | (simp; omega)))
  replace HN := Lib.hid (HN.out.go hk)
  replace BEL : Hid (Below w.heap.size w w8) := Lib.hid (BEL.out.trans (hk.mono BEL.out.size))
  have z_w8 := hk.size; have y_w8 := BEL.out.size; clear hk hb8
  clear pN0 pN1 fN0 fN1 zN zN_1 zN_2 zN_3
  obtain ⟨pN0, pN1, fN0, fN1, zN, zN_1, zN_2, zN_3⟩ := HN.out.two'
  go_wp2_with fail
  refine (same_hit er _ (LAID.out.below (by repeat (first | with_reducible exact BEL.out | with_reducible apply Below.alloc | with_reducible apply Below.setCell | with_reducible apply Below.drew | with_reducible apply below_drewN | (first | omega | (focus (simp; done)) | (focus (simp; omega)) | (focus (simp [World.setCell]; omega))))))).mono ?_; rintro e w9 ⟨rfl, hb9⟩
  have hk : Below w8.heap.size w8 w9 := Below.trans (by repeat (first | with_reducible exact Below.refl _ _ | with_reducible apply Below.drew | with_reducible apply below_drewN | with_reducible apply Below.alloc | omega | (focus (simp; done)) | (simp; omega))) (hb9.mono (by first | omega | (simp; done) | (simp; omega)))
  replace HN := Lib.hid (HN.out.go hk)
  replace BEL : Hid (Below w.heap.size w w9) := Lib.hid (BEL.out.trans (hk.mono BEL.out.size))
  have z_w9 := hk.size; have y_w9 := BEL.out.size; clear hk hb9
  clear pN0 pN1 fN0 fN1 zN zN_1 zN_2 zN_3
  obtain ⟨pN0, pN1, fN0, fN1, zN, zN_1, zN_2, zN_3⟩ := HN.out.two'
  go_wp2_with fail
  refine (sameFr_any none none 0 0 0 0 [] [] 0 0 _ (Frs.nil' _ _) (Frs.nil' _ _) rfl rfl (Nat.zero_le _) (Nat.zero_le _) true (decide_eq_true rfl)).mono ?_; rintro e w10 ⟨rfl, hb10⟩
  have hk : Below w9.heap.size w9 w10 := Below.trans (by repeat (first | with_reducible exact Below.refl _ _ | with_reducible apply Below.drew | with_reducible apply below_drewN | with_reducible apply Below.alloc | omega | (focus (simp; done)) | (simp; omega))) (hb10.mono (by first | omega | (simp; done) | (simp; omega)))
  replace HN := Lib.hid (HN.out.go hk)
  replace BEL : Hid (Below w.heap.size w w10) := Lib.hid (BEL.out.trans (hk.mono BEL.out.size))
  have z_w10 := hk.size; have y_w10 := BEL.out.size; clear hk hb10
  clear pN0 pN1 fN0 fN1 zN zN_1 zN_2 zN_3
  obtain ⟨pN0, pN1, fN0, fN1, zN, zN_1, zN_2, zN_3⟩ := HN.out.two'
  go_wp2
  go_ret
  exact ⟨rfl, (by repeat (first | with_reducible exact BEL.out | with_reducible apply Below.alloc | with_reducible apply Below.setCell | with_reducible apply Below.drew | with_reducible apply below_drewN | (first | omega | (focus (simp; done)) | (focus (simp; omega)) | (focus (simp [World.setCell]; omega)))))⟩
set_option maxHeartbeats 16000000 in
set_option maxRecDepth 100000 in
theorem loadTells_A (C : Option Addr) (cc : Nat) (caps : List Int) (P : Option Addr) (cp : Nat) (paths : List (List Int)) (A : Option Addr) (c : Nat) (S : List Fr) (w : World) (hg : Laid w) (hc : Ints w w.heap.size C cc caps) (hp : Rows2 w w.heap.size P cp paths) (hr : Frs w w.heap.size A c S) (bb : Bool) (Q L : List Rat) (hS : S = Q.map frQ) (he : netErr caps paths = 0) (hl : Q.length = paths.length) (hq : ∀ q ∈ Q, QIn q) (hL : loadsTo paths Q caps.length = some L) (hb : fitsB caps Q L = bb) (hall : ∀ i, i < caps.length → QIn (leftQ caps L i)) :
    Calls Tryd.prog 7 #[.agg #[.slice C caps.length cc, .slice P paths.length cp], .slice A S.length c] w fun e w' => e = .returned (.bool true) ∧ Below w.heap.size w w' := by
  have LAID := Lib.hid hg
  have HC := Lib.hid hc
  have HP := Lib.hid hp
  have HR := Lib.hid hr
  have hpm := hp.cap; have hpl := hp.le; have hcm := hc.cap; have hcl := hc.le
  unfold maxLen at hpm hcm
  clear hc hp hr hg
  subst hS
  obtain ⟨k1, k2, k3, k4, k5, _⟩ := netErr_ok he
  have HLL := Lib.hid (loadsTo_len hL)
  have HLI := Lib.hid (loadsTo_in hL)
  have HKC := Lib.hid k5
  have HE := Lib.hid he; have HQL := Lib.hid hl; have HQ := Lib.hid hq; have HL := Lib.hid hL; have HFB := Lib.hid hb
  have HALL := Lib.hid hall
  rw [List.length_map]
  clear he hl hq hL hb hall k5
  have BEL : Hid (Below w.heap.size w w) := Lib.hid (Below.refl _ _)
  have yB : w.heap.size ≤ w.heap.size := Nat.le_refl _
  go_enter Tryd.func7, Tryd.ntmps7
  go_wp2_with fail
  refine (refLoad_yes C cc caps P cp _ paths A c _ Q L w.heap.size _ (by first | omega | (focus (simp; done)) | (simp; omega)) (HC.out.below (by repeat (first | with_reducible exact BEL.out | with_reducible apply Below.alloc | with_reducible apply Below.setCell | with_reducible apply Below.drew | with_reducible apply below_drewN | (first | omega | (focus (simp; done)) | (focus (simp; omega)) | (focus (simp [World.setCell]; omega))))) (Nat.le_refl _)) (HP.out.below (by repeat (first | with_reducible exact BEL.out | with_reducible apply Below.alloc | with_reducible apply Below.setCell | with_reducible apply Below.drew | with_reducible apply below_drewN | (first | omega | (focus (simp; done)) | (focus (simp; omega)) | (focus (simp [World.setCell]; omega))))) (Nat.le_refl _)) (HR.out.below (by repeat (first | with_reducible exact BEL.out | with_reducible apply Below.alloc | with_reducible apply Below.setCell | with_reducible apply Below.drew | with_reducible apply below_drewN | (first | omega | (focus (simp; done)) | (focus (simp; omega)) | (focus (simp [World.setCell]; omega))))) (Nat.le_refl _)) rfl rfl HE.out HQL.out HQ.out HL.out).mono ?_; rintro e w1 ⟨A1, c1, rfl, hf1, hb1⟩
  have hk : Below w.heap.size w w1 := Below.trans (by repeat (first | with_reducible exact Below.refl _ _ | with_reducible apply Below.drew | with_reducible apply below_drewN | with_reducible apply Below.alloc | omega | (focus (simp; done)) | (simp; omega))) (hb1.mono (by first | omega | (simp; done) | (simp; omega)))
  have HN := Lib.hid (show Blk w1 (w.heap.size) 43 _ from Blk.go (by repeat (first | (with_reducible apply Blk.new'; first | with_reducible rfl | (focus (simp; done))) | with_reducible apply Blk.alloc | with_reducible apply Blk.drew | with_reducible apply Blk.drewN)) hb1)
  replace BEL : Hid (Below w.heap.size w w1) := Lib.hid (BEL.out.trans (hk.mono BEL.out.size))
  have z_w1 := hk.size; have y_w1 := BEL.out.size; clear hk hb1
  obtain ⟨pN0, pN1, fN0, fN1, zN, zN_1, zN_2, zN_3⟩ := HN.out.two'
  have HF1 := Lib.hid hf1; have hf1m := hf1.cap; have hf1l := hf1.le; rw [List.length_map, HLL.out] at hf1l; unfold maxLen at hf1m; clear hf1
  go_wp2_with fail
  refine (lof_yes C cc caps P cp _ paths A c _ Q L w.heap.size _ (by first | omega | (focus (simp; done)) | (simp; omega)) (HC.out.below (by repeat (first | with_reducible exact BEL.out | with_reducible apply Below.alloc | with_reducible apply Below.setCell | with_reducible apply Below.drew | with_reducible apply below_drewN | (first | omega | (focus (simp; done)) | (focus (simp; omega)) | (focus (simp [World.setCell]; omega))))) (Nat.le_refl _)) (HP.out.below (by repeat (first | with_reducible exact BEL.out | with_reducible apply Below.alloc | with_reducible apply Below.setCell | with_reducible apply Below.drew | with_reducible apply below_drewN | (first | omega | (focus (simp; done)) | (focus (simp; omega)) | (focus (simp [World.setCell]; omega))))) (Nat.le_refl _)) (HR.out.below (by repeat (first | with_reducible exact BEL.out | with_reducible apply Below.alloc | with_reducible apply Below.setCell | with_reducible apply Below.drew | with_reducible apply below_drewN | (first | omega | (focus (simp; done)) | (focus (simp; omega)) | (focus (simp [World.setCell]; omega))))) (Nat.le_refl _)) rfl rfl HE.out HQL.out HQ.out HL.out).mono ?_; rintro e w2 ⟨A2, c2, rfl, hf2, _, hb2⟩
  have hk : Below w1.heap.size w1 w2 := Below.trans (by repeat (first | with_reducible exact Below.refl _ _ | with_reducible apply Below.drew | with_reducible apply below_drewN | with_reducible apply Below.alloc | omega | (focus (simp; done)) | (simp; omega))) (hb2.mono (by first | omega | (simp; done) | (simp; omega)))
  replace HN := Lib.hid (HN.out.go hk)
  replace HF1 := Lib.hid (HF1.out.at' hk)
  replace BEL : Hid (Below w.heap.size w w2) := Lib.hid (BEL.out.trans (hk.mono BEL.out.size))
  have z_w2 := hk.size; have y_w2 := BEL.out.size; clear hk hb2
  clear pN0 pN1 fN0 fN1 zN zN_1 zN_2 zN_3
  obtain ⟨pN0, pN1, fN0, fN1, zN, zN_1, zN_2, zN_3⟩ := HN.out.two'
  have HF2 := Lib.hid hf2; clear hf2
  go_wp2_with fail
  refine (same_ok _).mono ?_; rintro e w3 ⟨rfl, hb3⟩
  have hk : Below w2.heap.size w2 w3 := Below.trans (by repeat (first | with_reducible exact Below.refl _ _ | with_reducible apply Below.drew | with_reducible apply below_drewN | with_reducible apply Below.alloc | omega | (focus (simp; done)) | (simp; omega))) (hb3.mono (by first | omega | (simp; done) | (simp; omega)))
  replace HN := Lib.hid (HN.out.go hk)
  replace HF1 := Lib.hid (HF1.out.at' hk)
  replace HF2 := Lib.hid (HF2.out.at' hk)
  replace BEL : Hid (Below w.heap.size w w3) := Lib.hid (BEL.out.trans (hk.mono BEL.out.size))
  have z_w3 := hk.size; have y_w3 := BEL.out.size; clear hk hb3
  clear pN0 pN1 fN0 fN1 zN zN_1 zN_2 zN_3
  obtain ⟨pN0, pN1, fN0, fN1, zN, zN_1, zN_2, zN_3⟩ := HN.out.two'
  go_wp2_with fail
  refine (sameFr_any A2 A1 c2 c1 _ _ (L.map frQ) (L.map frQ) _ _ _ (HF2.out.at' (by repeat (first | with_reducible exact Below.refl _ _ | with_reducible apply Below.drew | with_reducible apply below_drewN | with_reducible apply Below.alloc | omega | (focus (simp; done)) | (simp; omega)))) (HF1.out.at' (by repeat (first | with_reducible exact Below.refl _ _ | with_reducible apply Below.drew | with_reducible apply below_drewN | with_reducible apply Below.alloc | omega | (focus (simp; done)) | (simp; omega)))) (by simp [HLL.out]) (by simp [HLL.out]) (Nat.le_refl _) (Nat.le_refl _) true (decide_eq_true rfl)).mono ?_; rintro e w4 ⟨rfl, hb4⟩
  have hk : Below w3.heap.size w3 w4 := Below.trans (by repeat (first | with_reducible exact Below.refl _ _ | with_reducible apply Below.drew | with_reducible apply below_drewN | with_reducible apply Below.alloc | omega | (focus (simp; done)) | (simp; omega))) (hb4.mono (by first | omega | (simp; done) | (simp; omega)))
  replace HN := Lib.hid (HN.out.go hk)
  replace HF1 := Lib.hid (HF1.out.at' hk)
  replace HF2 := Lib.hid (HF2.out.at' hk)
  replace BEL : Hid (Below w.heap.size w w4) := Lib.hid (BEL.out.trans (hk.mono BEL.out.size))
  have z_w4 := hk.size; have y_w4 := BEL.out.size; clear hk hb4
  clear pN0 pN1 fN0 fN1 zN zN_1 zN_2 zN_3
  obtain ⟨pN0, pN1, fN0, fN1, zN, zN_1, zN_2, zN_3⟩ := HN.out.two'
  clear HF2
  go_wp2_with fail
  refine (refFits_yes C cc caps P cp _ paths A c _ Q L bb w.heap.size _ (by first | omega | (focus (simp; done)) | (simp; omega)) (HC.out.below (by repeat (first | with_reducible exact BEL.out | with_reducible apply Below.alloc | with_reducible apply Below.setCell | with_reducible apply Below.drew | with_reducible apply below_drewN | (first | omega | (focus (simp; done)) | (focus (simp; omega)) | (focus (simp [World.setCell]; omega))))) (Nat.le_refl _)) (HP.out.below (by repeat (first | with_reducible exact BEL.out | with_reducible apply Below.alloc | with_reducible apply Below.setCell | with_reducible apply Below.drew | with_reducible apply below_drewN | (first | omega | (focus (simp; done)) | (focus (simp; omega)) | (focus (simp [World.setCell]; omega))))) (Nat.le_refl _)) (HR.out.below (by repeat (first | with_reducible exact BEL.out | with_reducible apply Below.alloc | with_reducible apply Below.setCell | with_reducible apply Below.drew | with_reducible apply below_drewN | (first | omega | (focus (simp; done)) | (focus (simp; omega)) | (focus (simp [World.setCell]; omega))))) (Nat.le_refl _)) rfl rfl HE.out HQL.out HQ.out HL.out HFB.out).mono ?_; rintro e w5 ⟨rfl, hb5⟩
  have hk : Below w4.heap.size w4 w5 := Below.trans (by repeat (first | with_reducible exact Below.refl _ _ | with_reducible apply Below.drew | with_reducible apply below_drewN | with_reducible apply Below.alloc | omega | (focus (simp; done)) | (simp; omega))) (hb5.mono (by first | omega | (simp; done) | (simp; omega)))
  replace HN := Lib.hid (HN.out.go hk)
  replace HF1 := Lib.hid (HF1.out.at' hk)
  replace BEL : Hid (Below w.heap.size w w5) := Lib.hid (BEL.out.trans (hk.mono BEL.out.size))
  have z_w5 := hk.size; have y_w5 := BEL.out.size; clear hk hb5
  clear pN0 pN1 fN0 fN1 zN zN_1 zN_2 zN_3
  obtain ⟨pN0, pN1, fN0, fN1, zN, zN_1, zN_2, zN_3⟩ := HN.out.two'
  go_wp2_with fail
  refine (fits_yes' C cc caps P cp _ paths A c _ Q L bb w.heap.size _ (by first | omega | (focus (simp; done)) | (simp; omega)) (HC.out.below (by repeat (first | with_reducible exact BEL.out | with_reducible apply Below.alloc | with_reducible apply Below.setCell | with_reducible apply Below.drew | with_reducible apply below_drewN | (first | omega | (focus (simp; done)) | (focus (simp; omega)) | (focus (simp [World.setCell]; omega))))) (Nat.le_refl _)) (HP.out.below (by repeat (first | with_reducible exact BEL.out | with_reducible apply Below.alloc | with_reducible apply Below.setCell | with_reducible apply Below.drew | with_reducible apply below_drewN | (first | omega | (focus (simp; done)) | (focus (simp; omega)) | (focus (simp [World.setCell]; omega))))) (Nat.le_refl _)) (HR.out.below (by repeat (first | with_reducible exact BEL.out | with_reducible apply Below.alloc | with_reducible apply Below.setCell | with_reducible apply Below.drew | with_reducible apply below_drewN | (first | omega | (focus (simp; done)) | (focus (simp; omega)) | (focus (simp [World.setCell]; omega))))) (Nat.le_refl _)) rfl rfl HE.out HQL.out HQ.out HL.out HFB.out).mono ?_; rintro e w6 ⟨rfl, hb6⟩
  have hk : Below w5.heap.size w5 w6 := Below.trans (by repeat (first | with_reducible exact Below.refl _ _ | with_reducible apply Below.drew | with_reducible apply below_drewN | with_reducible apply Below.alloc | omega | (focus (simp; done)) | (simp; omega))) (hb6.mono (by first | omega | (simp; done) | (simp; omega)))
  replace HN := Lib.hid (HN.out.go hk)
  replace HF1 := Lib.hid (HF1.out.at' hk)
  replace BEL : Hid (Below w.heap.size w w6) := Lib.hid (BEL.out.trans (hk.mono BEL.out.size))
  have z_w6 := hk.size; have y_w6 := BEL.out.size; clear hk hb6
  clear pN0 pN1 fN0 fN1 zN zN_1 zN_2 zN_3
  obtain ⟨pN0, pN1, fN0, fN1, zN, zN_1, zN_2, zN_3⟩ := HN.out.two'
  go_wp2_with fail
  refine (same_ok _).mono ?_; rintro e w7 ⟨rfl, hb7⟩
  have hk : Below w6.heap.size w6 w7 := Below.trans (by repeat (first | with_reducible exact Below.refl _ _ | with_reducible apply Below.drew | with_reducible apply below_drewN | with_reducible apply Below.alloc | omega | (focus (simp; done)) | (simp; omega))) (hb7.mono (by first | omega | (simp; done) | (simp; omega)))
  replace HN := Lib.hid (HN.out.go hk)
  replace HF1 := Lib.hid (HF1.out.at' hk)
  replace BEL : Hid (Below w.heap.size w w7) := Lib.hid (BEL.out.trans (hk.mono BEL.out.size))
  have z_w7 := hk.size; have y_w7 := BEL.out.size; clear hk hb7
  clear pN0 pN1 fN0 fN1 zN zN_1 zN_2 zN_3
  obtain ⟨pN0, pN1, fN0, fN1, zN, zN_1, zN_2, zN_3⟩ := HN.out.two'
  clear pN0 pN1 fN0 fN1 zN zN_1 zN_2 zN_3
  have HCO := Lib.hid (HC.out.below (by repeat (first | with_reducible exact BEL.out | with_reducible apply Below.alloc | with_reducible apply Below.setCell | with_reducible apply Below.drew | with_reducible apply below_drewN | (first | omega | (focus (simp; done)) | (focus (simp; omega)) | (focus (simp [World.setCell]; omega))))) (Nat.le_refl _))
  obtain ⟨wo, hwo⟩ : ∃ x, x = w7 := ⟨_, rfl⟩
  rw [← hwo] at HF1 HN BEL HCO ⊢
  clear hwo
  have HNO := HN; have HFO := HF1
  have hbo := BEL.out.size
  have hzo := HN.out.lt
  obtain ⟨n0, n1, _, _, nz⟩ := HN.out.two
  go_wp2
  go_loopw [6, 13, 14] (fun x v i wr => ∃ k : Nat, k ≤ caps.length ∧ x = .int .i64 0 ∧ i = .int .i64 k ∧ Hid (wr.ownsRow wo.heap.size 23 2 v k (qcells (leftK caps L k))) ∧ Hid (Below wo.heap.size wo wr)) (fun _ _ i _ => caps.length - (intOf i).toNat)
  case atStart => exact ⟨0, Nat.zero_le _, rfl, rfl, Lib.hid (World.ownsRow_nil _ _ _ _), Lib.hid (Below.refl _ _)⟩
  case round =>
    clear n0 n1 nz
    obtain ⟨k, hk, rfl, rfl, HO, HB⟩ := hrel
    have hB1 := HB.out.size
    by_cases hlt : k < caps.length
    · have k0 : (0 : Int) ≤ (k : Int) := by omega
      have hlk : k < L.length := by rw [HLL.out]; exact hlt
      have hol : (k : Int) < (caps.length : Int) := by omega
      obtain ⟨bc, oc, rfl, hbc, hcell⟩ := caps_get (HCO.out.below HB.out hbo) hlt
      obtain ⟨bl, ol, rfl, hbl, l0, l1⟩ := frs_q (HFO.out.below HB.out (Nat.le_refl _)) hlk
      have hqin : QIn (L.getD k 0) := HLI.out _ (by rw [List.getD_eq_getElem?_getD, List.getElem?_eq_getElem hlk]; exact List.getElem_mem hlk)
      have hcin := HKC.out _ (List.getElem_mem hlt)
      have hcg : caps.getD k 0 = caps[k] := by rw [List.getD_eq_getElem?_getD, List.getElem?_eq_getElem hlt]; rfl
      rw [← hcg] at hcin
      have hlq : leftQ caps L k = ((caps.getD k 0 : Int) : Rat) + -(L.getD k 0) := rfl
      obtain ⟨cv, hcv⟩ : ∃ x, caps.getD k 0 = x := ⟨_, rfl⟩
      obtain ⟨q, hqq⟩ : ∃ q, L.getD k 0 = q := ⟨_, rfl⟩
      rw [hcv] at hcell hcin hlq
      rw [hqq] at hqin l0 l1 hlq
      have hcq : QIn (cv : Rat) := by unfold QIn FracIn; simp; omega
      obtain ⟨q', hq'⟩ : ∃ x, -q = x := ⟨_, rfl⟩
      have hMI := fun W => refMinus_q q q' W hqin hq'
      rw [hq'] at hlq
      obtain ⟨t, ht⟩ : ∃ x, leftQ caps L k = x := ⟨_, rfl⟩
      rw [ht] at hlq
      have hSU : ∀ W : World, Calls Tryd.prog 23 #[.agg #[.int .i64 cv, .int .i64 1], .agg #[.int .i64 q'.num, .int .i64 q'.den]] W fun e w' => e = .returned (.agg #[.int .i64 t.num, .int .i64 t.den]) ∧ Below W.heap.size W w' := fun W => by
        have := refSum_q (cv : Rat) q' t W hcq (by rw [← hq']; exact qin_neg hqin) hlq.symm
        simpa using this
      have HSU := Lib.hid hSU; have HMI := Lib.hid hMI; have HT := Lib.hid ht
      have HBL : Hid (Below wr.heap.size wr wr) := Lib.hid (Below.refl _ _)
      have hblz : bl < wr.heap.size := by omega
      have hbcz : bc < wr.heap.size := by omega
      have HNK := Lib.hid (HNO.out.go HB.out)
      obtain ⟨n0, _, _, _, nz⟩ := HNK.out.two
      have hnz : w.heap.size < wr.heap.size := nz
      clear hqin hcin hcg hcv hqq hcq hq' hlq ht hSU hMI
      go_upto_region 13 with (fail)
      go_cut [15] (fun s15 wx => ∃ g, s15 = .pointer (some ⟨g, 0, none⟩) ∧ Hid (Blk wx g 23 #[.int .i64 t.num, .int .i64 t.den]) ∧ Hid (Below wr.heap.size wr wx))
      case first =>
        go_region_law (first
          | (go_simp; go_at_call 52; refine (refWhole_any cv _).mono ?_; rintro e w5 ⟨rfl, hb⟩; (first | replace HX := Lib.hid (HX.out.go hb) | replace HX := Lib.hid (HX.out.drew.go hb) | have HX := Lib.hid ((Blk.new _ 23 #[.int .i64 0, .int .i64 0]).go hb) | have HX := Lib.hid ((Blk.new _ 23 #[.int .i64 0, .int .i64 0]).drew.go hb) | skip); replace HBL : Hid (Below wr.heap.size wr w5) := Lib.hid (Below.trans (by repeat (first | with_reducible exact HBL.out | with_reducible apply Below.drew | with_reducible apply Below.alloc | with_reducible exact HBL.out.size | (focus (simp; done)) | (have := HBL.out.size; simp; omega))) (hb.mono (by first | with_reducible exact HBL.out.size | (focus (simp; done)) | (have := HBL.out.size; simp; omega)))); clear hb; have y0w5 := (HBL.out.cell (p := ⟨bl, ol + k * 2, none⟩) hblz).trans l0; have y1w5 := (HBL.out.cell (p := ⟨bl, ol + k * 2 + 1, none⟩) hblz).trans l1; have y2w5 := (HBL.out.cell (p := ⟨bc, oc + k, none⟩) hbcz).trans hcell; have y3w5 := (HBL.out.cell (p := ⟨w.heap.size, 0, none⟩) hnz).trans n0; have hzw5 := HBL.out.size; have zlw5 : bl < w5.heap.size := Nat.lt_of_lt_of_le hblz hzw5; have zcw5 : bc < w5.heap.size := Nat.lt_of_lt_of_le hbcz hzw5; have znw5 : w.heap.size < w5.heap.size := Nat.lt_of_lt_of_le hnz hzw5; (try obtain ⟨u0w5, u1w5, u2w5, u3w5, u4w5⟩ := HX.out.two))
          | (go_simp; go_at_call 53; refine (HMI.out _).mono ?_; rintro e w6 ⟨rfl, hb⟩; (first | replace HX := Lib.hid (HX.out.go hb) | replace HX := Lib.hid (HX.out.drew.go hb) | have HX := Lib.hid ((Blk.new _ 23 #[.int .i64 0, .int .i64 0]).go hb) | have HX := Lib.hid ((Blk.new _ 23 #[.int .i64 0, .int .i64 0]).drew.go hb) | skip); replace HBL : Hid (Below wr.heap.size wr w6) := Lib.hid (Below.trans (by repeat (first | with_reducible exact HBL.out | with_reducible apply Below.drew | with_reducible apply Below.alloc | with_reducible exact HBL.out.size | (focus (simp; done)) | (have := HBL.out.size; simp; omega))) (hb.mono (by first | with_reducible exact HBL.out.size | (focus (simp; done)) | (have := HBL.out.size; simp; omega)))); clear hb; have y0w6 := (HBL.out.cell (p := ⟨bl, ol + k * 2, none⟩) hblz).trans l0; have y1w6 := (HBL.out.cell (p := ⟨bl, ol + k * 2 + 1, none⟩) hblz).trans l1; have y2w6 := (HBL.out.cell (p := ⟨bc, oc + k, none⟩) hbcz).trans hcell; have y3w6 := (HBL.out.cell (p := ⟨w.heap.size, 0, none⟩) hnz).trans n0; have hzw6 := HBL.out.size; have zlw6 : bl < w6.heap.size := Nat.lt_of_lt_of_le hblz hzw6; have zcw6 : bc < w6.heap.size := Nat.lt_of_lt_of_le hbcz hzw6; have znw6 : w.heap.size < w6.heap.size := Nat.lt_of_lt_of_le hnz hzw6; (try obtain ⟨u0w6, u1w6, u2w6, u3w6, u4w6⟩ := HX.out.two))
          | (go_simp; go_at_call 23; refine (HSU.out _).mono ?_; rintro e w7 ⟨rfl, hb⟩; (first | replace HX := Lib.hid (HX.out.go hb) | replace HX := Lib.hid (HX.out.drew.go hb) | have HX := Lib.hid ((Blk.new _ 23 #[.int .i64 0, .int .i64 0]).go hb) | have HX := Lib.hid ((Blk.new _ 23 #[.int .i64 0, .int .i64 0]).drew.go hb) | skip); replace HBL : Hid (Below wr.heap.size wr w7) := Lib.hid (Below.trans (by repeat (first | with_reducible exact HBL.out | with_reducible apply Below.drew | with_reducible apply Below.alloc | with_reducible exact HBL.out.size | (focus (simp; done)) | (have := HBL.out.size; simp; omega))) (hb.mono (by first | with_reducible exact HBL.out.size | (focus (simp; done)) | (have := HBL.out.size; simp; omega)))); clear hb; have y0w7 := (HBL.out.cell (p := ⟨bl, ol + k * 2, none⟩) hblz).trans l0; have y1w7 := (HBL.out.cell (p := ⟨bl, ol + k * 2 + 1, none⟩) hblz).trans l1; have y2w7 := (HBL.out.cell (p := ⟨bc, oc + k, none⟩) hbcz).trans hcell; have y3w7 := (HBL.out.cell (p := ⟨w.heap.size, 0, none⟩) hnz).trans n0; have hzw7 := HBL.out.size; have zlw7 : bl < w7.heap.size := Nat.lt_of_lt_of_le hblz hzw7; have zcw7 : bc < w7.heap.size := Nat.lt_of_lt_of_le hbcz hzw7; have znw7 : w.heap.size < w7.heap.size := Nat.lt_of_lt_of_le hnz hzw7; (try obtain ⟨u0w7, u1w7, u2w7, u3w7, u4w7⟩ := HX.out.two)))
        all_goals
          go_wp2
          go_meet
          first
            | exact ⟨_, rfl, Lib.hid ((HX.out.s2_0 _).s2_1 _), Lib.hid ((HBL.out.setCell (p := ⟨_, 0, none⟩) (by first | with_reducible exact Nat.le_refl _ | assumption) _).setCell (p := ⟨_, 1, none⟩) (by first | with_reducible exact Nat.le_refl _ | assumption) _)⟩
            | exact ⟨_, rfl, Lib.hid (Blk.new _ _ _), Lib.hid (HBL.out.alloc HBL.out.size _)⟩
      case rest =>
        clear HSU HMI HBL hcell l0 l1 n0 nz HNK
        obtain ⟨g15, rfl, HX, HBX⟩ := hcut
        obtain ⟨x0, x1, xf0, xf1, xz⟩ := HX.out.two
        have HB2 := Lib.hid (HB.out.trans (HBX.out.mono hB1))
        have hin : QIn t := by rw [← HT.out]; exact HALL.out k hlt
        have hinq := Lib.hid hin
        have HBG := Lib.hid fun W => refBig_q t false W (decide_eq_true hin)
        clear hin
        go_wp2_with fail
        refine (HBG.out _).mono ?_; rintro e w8 ⟨rfl, hb⟩
        have HX8 := Lib.hid (HX.out.go hb); have HB8 := Lib.hid (HB2.out.trans (hb.mono HB2.out.size)); have HO8 := Lib.hid (own_below HO.out ((HBX.out.trans (hb.mono HBX.out.size))))
        have hz8 := HB8.out.size
        clear hb x0 x1 xf0 xf1 xz HX HB2 HBX
        obtain ⟨x0, x1, xf0, xf1, xz⟩ := HX8.out.two
        go_wp2_with (at_builtin; refine wpList_push w8 _ rfl (.tmp 85) (.tmp 87) 78 rfl wo.heap.size 23 (.agg #[.int .i64 0, .int .i64 0]) 2 16 Tryd.underlying78 Tryd.info_fr rfl (by omega) _ _ _ rfl HO8.out rfl rfl (by simp [Value.oneCell']) (by omega) (by omega) hz8 ?_; intro v' w9 hown9 hg9; have HO9 := Lib.hid hown9; have HB9 := Lib.hid (below_push HB8.out HO8.out hg9 (Nat.le_refl _) hz8); clear hown9 hg9)
        go_roundw
        case rel => exact ⟨k + 1, by omega, rfl, by go_num, Lib.hid (by rw [leftK_succ, HT.out, qcells_snoc]; exact HO9.out), HB9⟩
        case measure => simp [intOf]; omega
    · obtain rfl : k = caps.length := by omega
      obtain ⟨A5, c5, rfl, hn5, hf5⟩ := owns_frs HO.out
      clear hn5
      have HF5 := Lib.hid hf5
      rw [List.length_map, leftK_len]
      clear hf5 HO
      have HAA : Hid ((leftK caps L caps.length).map frQ = (leftAll caps L caps.length).map frQ) := Lib.hid rfl
      rw [HAA.out] at HF5
      obtain ⟨wz, hwz⟩ : ∃ x, x = wr := ⟨_, rfl⟩
      rw [← hwz] at HB HF5 hB1 ⊢
      clear hwz
      replace HN := Lib.hid (HNO.out.go HB.out)
      replace BEL := Lib.hid (BEL.out.trans (HB.out.mono hbo))
      have zwz := BEL.out.size
      clear HB HNO HFO HF1 HCO
      obtain ⟨pN0, pN1, fN0, fN1, zN, zN_1, zN_2, zN_3⟩ := HN.out.two'
      go_wp2_with fail
      refine (left_any C cc caps P cp _ paths A c _ Q L w.heap.size _ (by first | omega | (focus (simp; done)) | (simp; omega)) (HC.out.below (by repeat (first | with_reducible exact BEL.out | with_reducible apply Below.alloc | with_reducible apply Below.setCell | with_reducible apply Below.drew | with_reducible apply below_drewN | (first | omega | (focus (simp; done)) | (focus (simp; omega)) | (focus (simp [World.setCell]; omega))))) (Nat.le_refl _)) (HP.out.below (by repeat (first | with_reducible exact BEL.out | with_reducible apply Below.alloc | with_reducible apply Below.setCell | with_reducible apply Below.drew | with_reducible apply below_drewN | (first | omega | (focus (simp; done)) | (focus (simp; omega)) | (focus (simp [World.setCell]; omega))))) (Nat.le_refl _)) (HR.out.below (by repeat (first | with_reducible exact BEL.out | with_reducible apply Below.alloc | with_reducible apply Below.setCell | with_reducible apply Below.drew | with_reducible apply below_drewN | (first | omega | (focus (simp; done)) | (focus (simp; omega)) | (focus (simp [World.setCell]; omega))))) (Nat.le_refl _)) rfl rfl HE.out HQL.out HQ.out HL.out).mono ?_; rintro e w8 ⟨hor, hb8⟩
      obtain ⟨A6, c6, hee, hf6⟩ : ∃ A' c', e = .returned (.tuple #[.slice A' caps.length c', .nilIface]) ∧ Frs w8 w8.heap.size A' c' ((leftAll caps L caps.length).map frQ) := by rcases hor with ⟨⟨i, h1, h2⟩, _⟩ | ⟨_, h⟩ <;> first | exact h | exact absurd (HALL.out i h1) h2
      clear hor; subst hee
      have hk : Below wz.heap.size wz w8 := Below.trans (by repeat (first | with_reducible exact Below.refl _ _ | with_reducible apply Below.drew | with_reducible apply below_drewN | with_reducible apply Below.alloc | omega | (focus (simp; done)) | (simp; omega))) (hb8.mono (by first | omega | (simp; done) | (simp; omega)))
      replace HN := Lib.hid (HN.out.go hk)
      replace HF5 := Lib.hid (HF5.out.at' hk)
      replace BEL : Hid (Below w.heap.size w w8) := Lib.hid (BEL.out.trans (hk.mono BEL.out.size))
      have z_w8 := hk.size; have y_w8 := BEL.out.size; clear hk hb8
      clear pN0 pN1 fN0 fN1 zN zN_1 zN_2 zN_3
      obtain ⟨pN0, pN1, fN0, fN1, zN, zN_1, zN_2, zN_3⟩ := HN.out.two'
      have HF6 := Lib.hid hf6; clear hf6
      go_wp2_with fail
      refine (same_ok _).mono ?_; rintro e w9 ⟨rfl, hb9⟩
      have hk : Below w8.heap.size w8 w9 := Below.trans (by repeat (first | with_reducible exact Below.refl _ _ | with_reducible apply Below.drew | with_reducible apply below_drewN | with_reducible apply Below.alloc | omega | (focus (simp; done)) | (simp; omega))) (hb9.mono (by first | omega | (simp; done) | (simp; omega)))
      replace HN := Lib.hid (HN.out.go hk)
      replace HF5 := Lib.hid (HF5.out.at' hk)
      replace HF6 := Lib.hid (HF6.out.at' hk)
      replace BEL : Hid (Below w.heap.size w w9) := Lib.hid (BEL.out.trans (hk.mono BEL.out.size))
      have z_w9 := hk.size; have y_w9 := BEL.out.size; clear hk hb9
      clear pN0 pN1 fN0 fN1 zN zN_1 zN_2 zN_3
      obtain ⟨pN0, pN1, fN0, fN1, zN, zN_1, zN_2, zN_3⟩ := HN.out.two'
      go_wp2_with fail
      refine (sameFr_any A6 A5 c6 c5 _ _ ((leftAll caps L caps.length).map frQ) ((leftAll caps L caps.length).map frQ) _ _ _ (HF6.out.at' (by repeat (first | with_reducible exact Below.refl _ _ | with_reducible apply Below.drew | with_reducible apply below_drewN | with_reducible apply Below.alloc | omega | (focus (simp; done)) | (simp; omega)))) (HF5.out.at' (by repeat (first | with_reducible exact Below.refl _ _ | with_reducible apply Below.drew | with_reducible apply below_drewN | with_reducible apply Below.alloc | omega | (focus (simp; done)) | (simp; omega)))) (by simp [leftAll]) (by simp [leftAll]) (Nat.le_refl _) (Nat.le_refl _) true (decide_eq_true rfl)).mono ?_; rintro e w10 ⟨rfl, hb10⟩
      have hk : Below w9.heap.size w9 w10 := Below.trans (by repeat (first | with_reducible exact Below.refl _ _ | with_reducible apply Below.drew | with_reducible apply below_drewN | with_reducible apply Below.alloc | omega | (focus (simp; done)) | (simp; omega))) (hb10.mono (by first | omega | (simp; done) | (simp; omega)))
      replace HN := Lib.hid (HN.out.go hk)
      replace HF5 := Lib.hid (HF5.out.at' hk)
      replace HF6 := Lib.hid (HF6.out.at' hk)
      replace BEL : Hid (Below w.heap.size w w10) := Lib.hid (BEL.out.trans (hk.mono BEL.out.size))
      have z_w10 := hk.size; have y_w10 := BEL.out.size; clear hk hb10
      clear pN0 pN1 fN0 fN1 zN zN_1 zN_2 zN_3
      obtain ⟨pN0, pN1, fN0, fN1, zN, zN_1, zN_2, zN_3⟩ := HN.out.two'
      go_wp2
      go_ret
      exact ⟨rfl, (by repeat (first | with_reducible exact BEL.out | with_reducible apply Below.alloc | with_reducible apply Below.setCell | with_reducible apply Below.drew | with_reducible apply below_drewN | (first | omega | (focus (simp; done)) | (focus (simp; omega)) | (focus (simp [World.setCell]; omega)))))⟩
set_option maxHeartbeats 16000000 in
set_option maxRecDepth 100000 in
theorem loadTells_N (C : Option Addr) (cc : Nat) (caps : List Int) (P : Option Addr) (cp : Nat) (paths : List (List Int)) (A : Option Addr) (c : Nat) (S : List Fr) (w : World) (hg : Laid w) (hc : Ints w w.heap.size C cc caps) (hp : Rows2 w w.heap.size P cp paths) (hr : Frs w w.heap.size A c S) (bb : Bool) (Q L : List Rat) (hS : S = Q.map frQ) (he : netErr caps paths = 0) (hl : Q.length = paths.length) (hq : ∀ q ∈ Q, QIn q) (hL : loadsTo paths Q caps.length = some L) (hb : fitsB caps Q L = bb) (m : Nat) (hm : m < caps.length) (hmn : ¬ QIn (leftQ caps L m)) (hmj : ∀ j, j < m → QIn (leftQ caps L j)) :
    Calls Tryd.prog 7 #[.agg #[.slice C caps.length cc, .slice P paths.length cp], .slice A S.length c] w fun e w' => e = .returned (.bool true) ∧ Below w.heap.size w w' := by
  have LAID := Lib.hid hg
  have HC := Lib.hid hc
  have HP := Lib.hid hp
  have HR := Lib.hid hr
  have hpm := hp.cap; have hpl := hp.le; have hcm := hc.cap; have hcl := hc.le
  unfold maxLen at hpm hcm
  clear hc hp hr hg
  subst hS
  obtain ⟨k1, k2, k3, k4, k5, _⟩ := netErr_ok he
  have HLL := Lib.hid (loadsTo_len hL)
  have HLI := Lib.hid (loadsTo_in hL)
  have HKC := Lib.hid k5
  have HE := Lib.hid he; have HQL := Lib.hid hl; have HQ := Lib.hid hq; have HL := Lib.hid hL; have HFB := Lib.hid hb
  have HM := Lib.hid hmn; have HMJ := Lib.hid hmj
  rw [List.length_map]
  clear he hl hq hL hb hmn hmj k5
  have BEL : Hid (Below w.heap.size w w) := Lib.hid (Below.refl _ _)
  have yB : w.heap.size ≤ w.heap.size := Nat.le_refl _
  go_enter Tryd.func7, Tryd.ntmps7
  go_wp2_with fail
  refine (refLoad_yes C cc caps P cp _ paths A c _ Q L w.heap.size _ (by first | omega | (focus (simp; done)) | (simp; omega)) (HC.out.below (by repeat (first | with_reducible exact BEL.out | with_reducible apply Below.alloc | with_reducible apply Below.setCell | with_reducible apply Below.drew | with_reducible apply below_drewN | (first | omega | (focus (simp; done)) | (focus (simp; omega)) | (focus (simp [World.setCell]; omega))))) (Nat.le_refl _)) (HP.out.below (by repeat (first | with_reducible exact BEL.out | with_reducible apply Below.alloc | with_reducible apply Below.setCell | with_reducible apply Below.drew | with_reducible apply below_drewN | (first | omega | (focus (simp; done)) | (focus (simp; omega)) | (focus (simp [World.setCell]; omega))))) (Nat.le_refl _)) (HR.out.below (by repeat (first | with_reducible exact BEL.out | with_reducible apply Below.alloc | with_reducible apply Below.setCell | with_reducible apply Below.drew | with_reducible apply below_drewN | (first | omega | (focus (simp; done)) | (focus (simp; omega)) | (focus (simp [World.setCell]; omega))))) (Nat.le_refl _)) rfl rfl HE.out HQL.out HQ.out HL.out).mono ?_; rintro e w1 ⟨A1, c1, rfl, hf1, hb1⟩
  have hk : Below w.heap.size w w1 := Below.trans (by repeat (first | with_reducible exact Below.refl _ _ | with_reducible apply Below.drew | with_reducible apply below_drewN | with_reducible apply Below.alloc | omega | (focus (simp; done)) | (simp; omega))) (hb1.mono (by first | omega | (simp; done) | (simp; omega)))
  have HN := Lib.hid (show Blk w1 (w.heap.size) 43 _ from Blk.go (by repeat (first | (with_reducible apply Blk.new'; first | with_reducible rfl | (focus (simp; done))) | with_reducible apply Blk.alloc | with_reducible apply Blk.drew | with_reducible apply Blk.drewN)) hb1)
  replace BEL : Hid (Below w.heap.size w w1) := Lib.hid (BEL.out.trans (hk.mono BEL.out.size))
  have z_w1 := hk.size; have y_w1 := BEL.out.size; clear hk hb1
  obtain ⟨pN0, pN1, fN0, fN1, zN, zN_1, zN_2, zN_3⟩ := HN.out.two'
  have HF1 := Lib.hid hf1; have hf1m := hf1.cap; have hf1l := hf1.le; rw [List.length_map, HLL.out] at hf1l; unfold maxLen at hf1m; clear hf1
  go_wp2_with fail
  refine (lof_yes C cc caps P cp _ paths A c _ Q L w.heap.size _ (by first | omega | (focus (simp; done)) | (simp; omega)) (HC.out.below (by repeat (first | with_reducible exact BEL.out | with_reducible apply Below.alloc | with_reducible apply Below.setCell | with_reducible apply Below.drew | with_reducible apply below_drewN | (first | omega | (focus (simp; done)) | (focus (simp; omega)) | (focus (simp [World.setCell]; omega))))) (Nat.le_refl _)) (HP.out.below (by repeat (first | with_reducible exact BEL.out | with_reducible apply Below.alloc | with_reducible apply Below.setCell | with_reducible apply Below.drew | with_reducible apply below_drewN | (first | omega | (focus (simp; done)) | (focus (simp; omega)) | (focus (simp [World.setCell]; omega))))) (Nat.le_refl _)) (HR.out.below (by repeat (first | with_reducible exact BEL.out | with_reducible apply Below.alloc | with_reducible apply Below.setCell | with_reducible apply Below.drew | with_reducible apply below_drewN | (first | omega | (focus (simp; done)) | (focus (simp; omega)) | (focus (simp [World.setCell]; omega))))) (Nat.le_refl _)) rfl rfl HE.out HQL.out HQ.out HL.out).mono ?_; rintro e w2 ⟨A2, c2, rfl, hf2, _, hb2⟩
  have hk : Below w1.heap.size w1 w2 := Below.trans (by repeat (first | with_reducible exact Below.refl _ _ | with_reducible apply Below.drew | with_reducible apply below_drewN | with_reducible apply Below.alloc | omega | (focus (simp; done)) | (simp; omega))) (hb2.mono (by first | omega | (simp; done) | (simp; omega)))
  replace HN := Lib.hid (HN.out.go hk)
  replace HF1 := Lib.hid (HF1.out.at' hk)
  replace BEL : Hid (Below w.heap.size w w2) := Lib.hid (BEL.out.trans (hk.mono BEL.out.size))
  have z_w2 := hk.size; have y_w2 := BEL.out.size; clear hk hb2
  clear pN0 pN1 fN0 fN1 zN zN_1 zN_2 zN_3
  obtain ⟨pN0, pN1, fN0, fN1, zN, zN_1, zN_2, zN_3⟩ := HN.out.two'
  have HF2 := Lib.hid hf2; clear hf2
  go_wp2_with fail
  refine (same_ok _).mono ?_; rintro e w3 ⟨rfl, hb3⟩
  have hk : Below w2.heap.size w2 w3 := Below.trans (by repeat (first | with_reducible exact Below.refl _ _ | with_reducible apply Below.drew | with_reducible apply below_drewN | with_reducible apply Below.alloc | omega | (focus (simp; done)) | (simp; omega))) (hb3.mono (by first | omega | (simp; done) | (simp; omega)))
  replace HN := Lib.hid (HN.out.go hk)
  replace HF1 := Lib.hid (HF1.out.at' hk)
  replace HF2 := Lib.hid (HF2.out.at' hk)
  replace BEL : Hid (Below w.heap.size w w3) := Lib.hid (BEL.out.trans (hk.mono BEL.out.size))
  have z_w3 := hk.size; have y_w3 := BEL.out.size; clear hk hb3
  clear pN0 pN1 fN0 fN1 zN zN_1 zN_2 zN_3
  obtain ⟨pN0, pN1, fN0, fN1, zN, zN_1, zN_2, zN_3⟩ := HN.out.two'
  go_wp2_with fail
  refine (sameFr_any A2 A1 c2 c1 _ _ (L.map frQ) (L.map frQ) _ _ _ (HF2.out.at' (by repeat (first | with_reducible exact Below.refl _ _ | with_reducible apply Below.drew | with_reducible apply below_drewN | with_reducible apply Below.alloc | omega | (focus (simp; done)) | (simp; omega)))) (HF1.out.at' (by repeat (first | with_reducible exact Below.refl _ _ | with_reducible apply Below.drew | with_reducible apply below_drewN | with_reducible apply Below.alloc | omega | (focus (simp; done)) | (simp; omega)))) (by simp [HLL.out]) (by simp [HLL.out]) (Nat.le_refl _) (Nat.le_refl _) true (decide_eq_true rfl)).mono ?_; rintro e w4 ⟨rfl, hb4⟩
  have hk : Below w3.heap.size w3 w4 := Below.trans (by repeat (first | with_reducible exact Below.refl _ _ | with_reducible apply Below.drew | with_reducible apply below_drewN | with_reducible apply Below.alloc | omega | (focus (simp; done)) | (simp; omega))) (hb4.mono (by first | omega | (simp; done) | (simp; omega)))
  replace HN := Lib.hid (HN.out.go hk)
  replace HF1 := Lib.hid (HF1.out.at' hk)
  replace HF2 := Lib.hid (HF2.out.at' hk)
  replace BEL : Hid (Below w.heap.size w w4) := Lib.hid (BEL.out.trans (hk.mono BEL.out.size))
  have z_w4 := hk.size; have y_w4 := BEL.out.size; clear hk hb4
  clear pN0 pN1 fN0 fN1 zN zN_1 zN_2 zN_3
  obtain ⟨pN0, pN1, fN0, fN1, zN, zN_1, zN_2, zN_3⟩ := HN.out.two'
  clear HF2
  go_wp2_with fail
  refine (refFits_yes C cc caps P cp _ paths A c _ Q L bb w.heap.size _ (by first | omega | (focus (simp; done)) | (simp; omega)) (HC.out.below (by repeat (first | with_reducible exact BEL.out | with_reducible apply Below.alloc | with_reducible apply Below.setCell | with_reducible apply Below.drew | with_reducible apply below_drewN | (first | omega | (focus (simp; done)) | (focus (simp; omega)) | (focus (simp [World.setCell]; omega))))) (Nat.le_refl _)) (HP.out.below (by repeat (first | with_reducible exact BEL.out | with_reducible apply Below.alloc | with_reducible apply Below.setCell | with_reducible apply Below.drew | with_reducible apply below_drewN | (first | omega | (focus (simp; done)) | (focus (simp; omega)) | (focus (simp [World.setCell]; omega))))) (Nat.le_refl _)) (HR.out.below (by repeat (first | with_reducible exact BEL.out | with_reducible apply Below.alloc | with_reducible apply Below.setCell | with_reducible apply Below.drew | with_reducible apply below_drewN | (first | omega | (focus (simp; done)) | (focus (simp; omega)) | (focus (simp [World.setCell]; omega))))) (Nat.le_refl _)) rfl rfl HE.out HQL.out HQ.out HL.out HFB.out).mono ?_; rintro e w5 ⟨rfl, hb5⟩
  have hk : Below w4.heap.size w4 w5 := Below.trans (by repeat (first | with_reducible exact Below.refl _ _ | with_reducible apply Below.drew | with_reducible apply below_drewN | with_reducible apply Below.alloc | omega | (focus (simp; done)) | (simp; omega))) (hb5.mono (by first | omega | (simp; done) | (simp; omega)))
  replace HN := Lib.hid (HN.out.go hk)
  replace HF1 := Lib.hid (HF1.out.at' hk)
  replace BEL : Hid (Below w.heap.size w w5) := Lib.hid (BEL.out.trans (hk.mono BEL.out.size))
  have z_w5 := hk.size; have y_w5 := BEL.out.size; clear hk hb5
  clear pN0 pN1 fN0 fN1 zN zN_1 zN_2 zN_3
  obtain ⟨pN0, pN1, fN0, fN1, zN, zN_1, zN_2, zN_3⟩ := HN.out.two'
  go_wp2_with fail
  refine (fits_yes' C cc caps P cp _ paths A c _ Q L bb w.heap.size _ (by first | omega | (focus (simp; done)) | (simp; omega)) (HC.out.below (by repeat (first | with_reducible exact BEL.out | with_reducible apply Below.alloc | with_reducible apply Below.setCell | with_reducible apply Below.drew | with_reducible apply below_drewN | (first | omega | (focus (simp; done)) | (focus (simp; omega)) | (focus (simp [World.setCell]; omega))))) (Nat.le_refl _)) (HP.out.below (by repeat (first | with_reducible exact BEL.out | with_reducible apply Below.alloc | with_reducible apply Below.setCell | with_reducible apply Below.drew | with_reducible apply below_drewN | (first | omega | (focus (simp; done)) | (focus (simp; omega)) | (focus (simp [World.setCell]; omega))))) (Nat.le_refl _)) (HR.out.below (by repeat (first | with_reducible exact BEL.out | with_reducible apply Below.alloc | with_reducible apply Below.setCell | with_reducible apply Below.drew | with_reducible apply below_drewN | (first | omega | (focus (simp; done)) | (focus (simp; omega)) | (focus (simp [World.setCell]; omega))))) (Nat.le_refl _)) rfl rfl HE.out HQL.out HQ.out HL.out HFB.out).mono ?_; rintro e w6 ⟨rfl, hb6⟩
  have hk : Below w5.heap.size w5 w6 := Below.trans (by repeat (first | with_reducible exact Below.refl _ _ | with_reducible apply Below.drew | with_reducible apply below_drewN | with_reducible apply Below.alloc | omega | (focus (simp; done)) | (simp; omega))) (hb6.mono (by first | omega | (simp; done) | (simp; omega)))
  replace HN := Lib.hid (HN.out.go hk)
  replace HF1 := Lib.hid (HF1.out.at' hk)
  replace BEL : Hid (Below w.heap.size w w6) := Lib.hid (BEL.out.trans (hk.mono BEL.out.size))
  have z_w6 := hk.size; have y_w6 := BEL.out.size; clear hk hb6
  clear pN0 pN1 fN0 fN1 zN zN_1 zN_2 zN_3
  obtain ⟨pN0, pN1, fN0, fN1, zN, zN_1, zN_2, zN_3⟩ := HN.out.two'
  go_wp2_with fail
  refine (same_ok _).mono ?_; rintro e w7 ⟨rfl, hb7⟩
  have hk : Below w6.heap.size w6 w7 := Below.trans (by repeat (first | with_reducible exact Below.refl _ _ | with_reducible apply Below.drew | with_reducible apply below_drewN | with_reducible apply Below.alloc | omega | (focus (simp; done)) | (simp; omega))) (hb7.mono (by first | omega | (simp; done) | (simp; omega)))
  replace HN := Lib.hid (HN.out.go hk)
  replace HF1 := Lib.hid (HF1.out.at' hk)
  replace BEL : Hid (Below w.heap.size w w7) := Lib.hid (BEL.out.trans (hk.mono BEL.out.size))
  have z_w7 := hk.size; have y_w7 := BEL.out.size; clear hk hb7
  clear pN0 pN1 fN0 fN1 zN zN_1 zN_2 zN_3
  obtain ⟨pN0, pN1, fN0, fN1, zN, zN_1, zN_2, zN_3⟩ := HN.out.two'
  clear pN0 pN1 fN0 fN1 zN zN_1 zN_2 zN_3
  have HCO := Lib.hid (HC.out.below (by repeat (first | with_reducible exact BEL.out | with_reducible apply Below.alloc | with_reducible apply Below.setCell | with_reducible apply Below.drew | with_reducible apply below_drewN | (first | omega | (focus (simp; done)) | (focus (simp; omega)) | (focus (simp [World.setCell]; omega))))) (Nat.le_refl _))
  obtain ⟨wo, hwo⟩ : ∃ x, x = w7 := ⟨_, rfl⟩
  rw [← hwo] at HF1 HN BEL HCO ⊢
  clear hwo
  have HNO := HN; have HFO := HF1
  have hbo := BEL.out.size
  have hzo := HN.out.lt
  obtain ⟨n0, n1, _, _, nz⟩ := HN.out.two
  go_wp2
  go_loopw [6, 13, 14] (fun x v i wr => ∃ k : Nat, i = .int .i64 k ∧ Hid (Below wo.heap.size wo wr) ∧ ((k ≤ m ∧ x = .int .i64 0 ∧ Hid (wr.ownsRow wo.heap.size 23 2 v k (qcells (leftK caps L k)))) ∨ (k = m + 1 ∧ x = .int .i64 4 ∧ v = .slice none 0 0))) (fun _ _ i _ => caps.length - (intOf i).toNat)
  case atStart => exact ⟨0, rfl, Lib.hid (Below.refl _ _), .inl ⟨Nat.zero_le _, rfl, Lib.hid (World.ownsRow_nil _ _ _ _)⟩⟩
  case round =>
    clear n0 n1 nz
    obtain ⟨k, rfl, HB, ⟨hkm, rfl, HO⟩ | ⟨rfl, rfl, rfl⟩⟩ := hrel
    · have hlt : k < caps.length := by omega
      have hB1 := HB.out.size
      have k0 : (0 : Int) ≤ (k : Int) := by omega
      have hlk : k < L.length := by rw [HLL.out]; exact hlt
      have hol : (k : Int) < (caps.length : Int) := by omega
      obtain ⟨bc, oc, rfl, hbc, hcell⟩ := caps_get (HCO.out.below HB.out hbo) hlt
      obtain ⟨bl, ol, rfl, hbl, l0, l1⟩ := frs_q (HFO.out.below HB.out (Nat.le_refl _)) hlk
      have hqin : QIn (L.getD k 0) := HLI.out _ (by rw [List.getD_eq_getElem?_getD, List.getElem?_eq_getElem hlk]; exact List.getElem_mem hlk)
      have hcin := HKC.out _ (List.getElem_mem hlt)
      have hcg : caps.getD k 0 = caps[k] := by rw [List.getD_eq_getElem?_getD, List.getElem?_eq_getElem hlt]; rfl
      rw [← hcg] at hcin
      have hlq : leftQ caps L k = ((caps.getD k 0 : Int) : Rat) + -(L.getD k 0) := rfl
      obtain ⟨cv, hcv⟩ : ∃ x, caps.getD k 0 = x := ⟨_, rfl⟩
      obtain ⟨q, hqq⟩ : ∃ q, L.getD k 0 = q := ⟨_, rfl⟩
      rw [hcv] at hcell hcin hlq
      rw [hqq] at hqin l0 l1 hlq
      have hcq : QIn (cv : Rat) := by unfold QIn FracIn; simp; omega
      obtain ⟨q', hq'⟩ : ∃ x, -q = x := ⟨_, rfl⟩
      have hMI := fun W => refMinus_q q q' W hqin hq'
      rw [hq'] at hlq
      obtain ⟨t, ht⟩ : ∃ x, leftQ caps L k = x := ⟨_, rfl⟩
      rw [ht] at hlq
      have hSU : ∀ W : World, Calls Tryd.prog 23 #[.agg #[.int .i64 cv, .int .i64 1], .agg #[.int .i64 q'.num, .int .i64 q'.den]] W fun e w' => e = .returned (.agg #[.int .i64 t.num, .int .i64 t.den]) ∧ Below W.heap.size W w' := fun W => by
        have := refSum_q (cv : Rat) q' t W hcq (by rw [← hq']; exact qin_neg hqin) hlq.symm
        simpa using this
      have HSU := Lib.hid hSU; have HMI := Lib.hid hMI; have HT := Lib.hid ht
      have HBL : Hid (Below wr.heap.size wr wr) := Lib.hid (Below.refl _ _)
      have hblz : bl < wr.heap.size := by omega
      have hbcz : bc < wr.heap.size := by omega
      have HNK := Lib.hid (HNO.out.go HB.out)
      obtain ⟨n0, _, _, _, nz⟩ := HNK.out.two
      have hnz : w.heap.size < wr.heap.size := nz
      clear hqin hcin hcg hcv hqq hcq hq' hlq ht hSU hMI
      go_upto_region 13 with (fail)
      go_cut [15] (fun s15 wx => ∃ g, s15 = .pointer (some ⟨g, 0, none⟩) ∧ Hid (Blk wx g 23 #[.int .i64 t.num, .int .i64 t.den]) ∧ Hid (Below wr.heap.size wr wx))
      case first =>
        go_region_law (first
          | (go_simp; go_at_call 52; refine (refWhole_any cv _).mono ?_; rintro e w5 ⟨rfl, hb⟩; (first | replace HX := Lib.hid (HX.out.go hb) | replace HX := Lib.hid (HX.out.drew.go hb) | have HX := Lib.hid ((Blk.new _ 23 #[.int .i64 0, .int .i64 0]).go hb) | have HX := Lib.hid ((Blk.new _ 23 #[.int .i64 0, .int .i64 0]).drew.go hb) | skip); replace HBL : Hid (Below wr.heap.size wr w5) := Lib.hid (Below.trans (by repeat (first | with_reducible exact HBL.out | with_reducible apply Below.drew | with_reducible apply Below.alloc | with_reducible exact HBL.out.size | (focus (simp; done)) | (have := HBL.out.size; simp; omega))) (hb.mono (by first | with_reducible exact HBL.out.size | (focus (simp; done)) | (have := HBL.out.size; simp; omega)))); clear hb; have y0w5 := (HBL.out.cell (p := ⟨bl, ol + k * 2, none⟩) hblz).trans l0; have y1w5 := (HBL.out.cell (p := ⟨bl, ol + k * 2 + 1, none⟩) hblz).trans l1; have y2w5 := (HBL.out.cell (p := ⟨bc, oc + k, none⟩) hbcz).trans hcell; have y3w5 := (HBL.out.cell (p := ⟨w.heap.size, 0, none⟩) hnz).trans n0; have hzw5 := HBL.out.size; have zlw5 : bl < w5.heap.size := Nat.lt_of_lt_of_le hblz hzw5; have zcw5 : bc < w5.heap.size := Nat.lt_of_lt_of_le hbcz hzw5; have znw5 : w.heap.size < w5.heap.size := Nat.lt_of_lt_of_le hnz hzw5; (try obtain ⟨u0w5, u1w5, u2w5, u3w5, u4w5⟩ := HX.out.two))
          | (go_simp; go_at_call 53; refine (HMI.out _).mono ?_; rintro e w6 ⟨rfl, hb⟩; (first | replace HX := Lib.hid (HX.out.go hb) | replace HX := Lib.hid (HX.out.drew.go hb) | have HX := Lib.hid ((Blk.new _ 23 #[.int .i64 0, .int .i64 0]).go hb) | have HX := Lib.hid ((Blk.new _ 23 #[.int .i64 0, .int .i64 0]).drew.go hb) | skip); replace HBL : Hid (Below wr.heap.size wr w6) := Lib.hid (Below.trans (by repeat (first | with_reducible exact HBL.out | with_reducible apply Below.drew | with_reducible apply Below.alloc | with_reducible exact HBL.out.size | (focus (simp; done)) | (have := HBL.out.size; simp; omega))) (hb.mono (by first | with_reducible exact HBL.out.size | (focus (simp; done)) | (have := HBL.out.size; simp; omega)))); clear hb; have y0w6 := (HBL.out.cell (p := ⟨bl, ol + k * 2, none⟩) hblz).trans l0; have y1w6 := (HBL.out.cell (p := ⟨bl, ol + k * 2 + 1, none⟩) hblz).trans l1; have y2w6 := (HBL.out.cell (p := ⟨bc, oc + k, none⟩) hbcz).trans hcell; have y3w6 := (HBL.out.cell (p := ⟨w.heap.size, 0, none⟩) hnz).trans n0; have hzw6 := HBL.out.size; have zlw6 : bl < w6.heap.size := Nat.lt_of_lt_of_le hblz hzw6; have zcw6 : bc < w6.heap.size := Nat.lt_of_lt_of_le hbcz hzw6; have znw6 : w.heap.size < w6.heap.size := Nat.lt_of_lt_of_le hnz hzw6; (try obtain ⟨u0w6, u1w6, u2w6, u3w6, u4w6⟩ := HX.out.two))
          | (go_simp; go_at_call 23; refine (HSU.out _).mono ?_; rintro e w7 ⟨rfl, hb⟩; (first | replace HX := Lib.hid (HX.out.go hb) | replace HX := Lib.hid (HX.out.drew.go hb) | have HX := Lib.hid ((Blk.new _ 23 #[.int .i64 0, .int .i64 0]).go hb) | have HX := Lib.hid ((Blk.new _ 23 #[.int .i64 0, .int .i64 0]).drew.go hb) | skip); replace HBL : Hid (Below wr.heap.size wr w7) := Lib.hid (Below.trans (by repeat (first | with_reducible exact HBL.out | with_reducible apply Below.drew | with_reducible apply Below.alloc | with_reducible exact HBL.out.size | (focus (simp; done)) | (have := HBL.out.size; simp; omega))) (hb.mono (by first | with_reducible exact HBL.out.size | (focus (simp; done)) | (have := HBL.out.size; simp; omega)))); clear hb; have y0w7 := (HBL.out.cell (p := ⟨bl, ol + k * 2, none⟩) hblz).trans l0; have y1w7 := (HBL.out.cell (p := ⟨bl, ol + k * 2 + 1, none⟩) hblz).trans l1; have y2w7 := (HBL.out.cell (p := ⟨bc, oc + k, none⟩) hbcz).trans hcell; have y3w7 := (HBL.out.cell (p := ⟨w.heap.size, 0, none⟩) hnz).trans n0; have hzw7 := HBL.out.size; have zlw7 : bl < w7.heap.size := Nat.lt_of_lt_of_le hblz hzw7; have zcw7 : bc < w7.heap.size := Nat.lt_of_lt_of_le hbcz hzw7; have znw7 : w.heap.size < w7.heap.size := Nat.lt_of_lt_of_le hnz hzw7; (try obtain ⟨u0w7, u1w7, u2w7, u3w7, u4w7⟩ := HX.out.two)))
        all_goals
          go_wp2
          go_meet
          first
            | exact ⟨_, rfl, Lib.hid ((HX.out.s2_0 _).s2_1 _), Lib.hid ((HBL.out.setCell (p := ⟨_, 0, none⟩) (by first | with_reducible exact Nat.le_refl _ | assumption) _).setCell (p := ⟨_, 1, none⟩) (by first | with_reducible exact Nat.le_refl _ | assumption) _)⟩
            | exact ⟨_, rfl, Lib.hid (Blk.new _ _ _), Lib.hid (HBL.out.alloc HBL.out.size _)⟩
      case rest =>
        clear HSU HMI HBL hcell l0 l1 n0 nz HNK
        obtain ⟨g15, rfl, HX, HBX⟩ := hcut
        obtain ⟨x0, x1, xf0, xf1, xz⟩ := HX.out.two
        have HB2 := Lib.hid (HB.out.trans (HBX.out.mono hB1))
        by_cases hkm2 : k < m
        · have hin : QIn t := by rw [← HT.out]; exact HMJ.out k hkm2
          have hinq := Lib.hid hin
          have HBG := Lib.hid fun W => refBig_q t false W (decide_eq_true hin)
          clear hin
          go_wp2_with fail
          refine (HBG.out _).mono ?_; rintro e w8 ⟨rfl, hb⟩
          have HX8 := Lib.hid (HX.out.go hb); have HB8 := Lib.hid (HB2.out.trans (hb.mono HB2.out.size)); have HO8 := Lib.hid (own_below HO.out ((HBX.out.trans (hb.mono HBX.out.size))))
          have hz8 := HB8.out.size
          clear hb x0 x1 xf0 xf1 xz HX HB2 HBX
          obtain ⟨x0, x1, xf0, xf1, xz⟩ := HX8.out.two
          go_wp2_with (at_builtin; refine wpList_push w8 _ rfl (.tmp 85) (.tmp 87) 78 rfl wo.heap.size 23 (.agg #[.int .i64 0, .int .i64 0]) 2 16 Tryd.underlying78 Tryd.info_fr rfl (by omega) _ _ _ rfl HO8.out rfl rfl (by simp [Value.oneCell']) (by omega) (by omega) hz8 ?_; intro v' w9 hown9 hg9; have HO9 := Lib.hid hown9; have HB9 := Lib.hid (below_push HB8.out HO8.out hg9 (Nat.le_refl _) hz8); clear hown9 hg9)
          go_roundw
          case rel => exact ⟨k + 1, by go_num, HB9, .inl ⟨by omega, rfl, Lib.hid (by rw [leftK_succ, HT.out, qcells_snoc]; exact HO9.out)⟩⟩
          case measure => simp [intOf]; omega
        · obtain rfl : k = m := by omega
          have hin : ¬ QIn t := by rw [← HT.out]; exact HM.out
          have HBG := Lib.hid fun W => refBig_q t true W (decide_eq_false hin)
          clear hin
          go_wp2_with fail
          refine (HBG.out _).mono ?_; rintro e w8 ⟨rfl, hb⟩
          have HB8 := Lib.hid (HB2.out.trans (hb.mono HB2.out.size))
          clear hb
          go_wp2
          go_roundw
          case rel => exact ⟨k + 1, by go_num, HB8, .inr ⟨rfl, rfl, rfl⟩⟩
          case measure => simp [intOf]; omega
    · have hB1 := HB.out.size
      obtain ⟨wz, hwz⟩ : ∃ x, x = wr := ⟨_, rfl⟩
      rw [← hwz] at HB hB1 ⊢
      clear hwz
      replace HN := Lib.hid (HNO.out.go HB.out)
      replace BEL := Lib.hid (BEL.out.trans (HB.out.mono hbo))
      have zwz := BEL.out.size
      clear HB HNO HFO HF1 HCO
      obtain ⟨mm, hmm⟩ : ∃ x : Int, (m : Int) + 1 = x := ⟨_, rfl⟩
      have hmc : ((m + 1 : Nat) : Int) = mm := by omega
      rw [hmc]
      by_cases hmn : mm < (caps.length : Int)
      · obtain ⟨pN0, pN1, fN0, fN1, zN, zN_1, zN_2, zN_3⟩ := HN.out.two'
        go_wp2_with fail
        refine (left_any C cc caps P cp _ paths A c _ Q L w.heap.size _ (by first | omega | (focus (simp; done)) | (simp; omega)) (HC.out.below (by repeat (first | with_reducible exact BEL.out | with_reducible apply Below.alloc | with_reducible apply Below.setCell | with_reducible apply Below.drew | with_reducible apply below_drewN | (first | omega | (focus (simp; done)) | (focus (simp; omega)) | (focus (simp [World.setCell]; omega))))) (Nat.le_refl _)) (HP.out.below (by repeat (first | with_reducible exact BEL.out | with_reducible apply Below.alloc | with_reducible apply Below.setCell | with_reducible apply Below.drew | with_reducible apply below_drewN | (first | omega | (focus (simp; done)) | (focus (simp; omega)) | (focus (simp [World.setCell]; omega))))) (Nat.le_refl _)) (HR.out.below (by repeat (first | with_reducible exact BEL.out | with_reducible apply Below.alloc | with_reducible apply Below.setCell | with_reducible apply Below.drew | with_reducible apply below_drewN | (first | omega | (focus (simp; done)) | (focus (simp; omega)) | (focus (simp [World.setCell]; omega))))) (Nat.le_refl _)) rfl rfl HE.out HQL.out HQ.out HL.out).mono ?_; rintro e w8 ⟨hor, hb8⟩
        have hee : e = .returned (.tuple #[.slice none 0 0, .iface 119 (.int .i64 4)]) := by rcases hor with ⟨_, h⟩ | ⟨h, _⟩ <;> first | exact h | exact absurd (h m hm) HM.out
        clear hor; subst hee
        have hk : Below wz.heap.size wz w8 := Below.trans (by repeat (first | with_reducible exact Below.refl _ _ | with_reducible apply Below.drew | with_reducible apply below_drewN | with_reducible apply Below.alloc | omega | (focus (simp; done)) | (simp; omega))) (hb8.mono (by first | omega | (simp; done) | (simp; omega)))
        replace HN := Lib.hid (HN.out.go hk)
        replace BEL : Hid (Below w.heap.size w w8) := Lib.hid (BEL.out.trans (hk.mono BEL.out.size))
        have z_w8 := hk.size; have y_w8 := BEL.out.size; clear hk hb8
        clear pN0 pN1 fN0 fN1 zN zN_1 zN_2 zN_3
        obtain ⟨pN0, pN1, fN0, fN1, zN, zN_1, zN_2, zN_3⟩ := HN.out.two'
        go_wp2_with fail
        refine (same_hit 4 _ (LAID.out.below (by repeat (first | with_reducible exact BEL.out | with_reducible apply Below.alloc | with_reducible apply Below.setCell | with_reducible apply Below.drew | with_reducible apply below_drewN | (first | omega | (focus (simp; done)) | (focus (simp; omega)) | (focus (simp [World.setCell]; omega))))))).mono ?_; rintro e w9 ⟨rfl, hb9⟩
        have hk : Below w8.heap.size w8 w9 := Below.trans (by repeat (first | with_reducible exact Below.refl _ _ | with_reducible apply Below.drew | with_reducible apply below_drewN | with_reducible apply Below.alloc | omega | (focus (simp; done)) | (simp; omega))) (hb9.mono (by first | omega | (simp; done) | (simp; omega)))
        replace HN := Lib.hid (HN.out.go hk)
        replace BEL : Hid (Below w.heap.size w w9) := Lib.hid (BEL.out.trans (hk.mono BEL.out.size))
        have z_w9 := hk.size; have y_w9 := BEL.out.size; clear hk hb9
        clear pN0 pN1 fN0 fN1 zN zN_1 zN_2 zN_3
        obtain ⟨pN0, pN1, fN0, fN1, zN, zN_1, zN_2, zN_3⟩ := HN.out.two'
        go_wp2_with fail
        refine (sameFr_any none none 0 0 0 0 [] [] 0 0 _ (Frs.nil' _ _) (Frs.nil' _ _) rfl rfl (Nat.zero_le _) (Nat.zero_le _) true (decide_eq_true rfl)).mono ?_; rintro e w10 ⟨rfl, hb10⟩
        have hk : Below w9.heap.size w9 w10 := Below.trans (by repeat (first | with_reducible exact Below.refl _ _ | with_reducible apply Below.drew | with_reducible apply below_drewN | with_reducible apply Below.alloc | omega | (focus (simp; done)) | (simp; omega))) (hb10.mono (by first | omega | (simp; done) | (simp; omega)))
        replace HN := Lib.hid (HN.out.go hk)
        replace BEL : Hid (Below w.heap.size w w10) := Lib.hid (BEL.out.trans (hk.mono BEL.out.size))
        have z_w10 := hk.size; have y_w10 := BEL.out.size; clear hk hb10
        clear pN0 pN1 fN0 fN1 zN zN_1 zN_2 zN_3
        obtain ⟨pN0, pN1, fN0, fN1, zN, zN_1, zN_2, zN_3⟩ := HN.out.two'
        go_wp2
        go_ret
        exact ⟨rfl, (by repeat (first | with_reducible exact BEL.out | with_reducible apply Below.alloc | with_reducible apply Below.setCell | with_reducible apply Below.drew | with_reducible apply below_drewN | (first | omega | (focus (simp; done)) | (focus (simp; omega)) | (focus (simp [World.setCell]; omega)))))⟩
      · have hmq : mm = (caps.length : Int) := by omega
        rw [hmq]; clear hmn hmc hmm hmq
        obtain ⟨pN0, pN1, fN0, fN1, zN, zN_1, zN_2, zN_3⟩ := HN.out.two'
        go_wp2_with fail
        refine (left_any C cc caps P cp _ paths A c _ Q L w.heap.size _ (by first | omega | (focus (simp; done)) | (simp; omega)) (HC.out.below (by repeat (first | with_reducible exact BEL.out | with_reducible apply Below.alloc | with_reducible apply Below.setCell | with_reducible apply Below.drew | with_reducible apply below_drewN | (first | omega | (focus (simp; done)) | (focus (simp; omega)) | (focus (simp [World.setCell]; omega))))) (Nat.le_refl _)) (HP.out.below (by repeat (first | with_reducible exact BEL.out | with_reducible apply Below.alloc | with_reducible apply Below.setCell | with_reducible apply Below.drew | with_reducible apply below_drewN | (first | omega | (focus (simp; done)) | (focus (simp; omega)) | (focus (simp [World.setCell]; omega))))) (Nat.le_refl _)) (HR.out.below (by repeat (first | with_reducible exact BEL.out | with_reducible apply Below.alloc | with_reducible apply Below.setCell | with_reducible apply Below.drew | with_reducible apply below_drewN | (first | omega | (focus (simp; done)) | (focus (simp; omega)) | (focus (simp [World.setCell]; omega))))) (Nat.le_refl _)) rfl rfl HE.out HQL.out HQ.out HL.out).mono ?_; rintro e w8 ⟨hor, hb8⟩
        have hee : e = .returned (.tuple #[.slice none 0 0, .iface 119 (.int .i64 4)]) := by rcases hor with ⟨_, h⟩ | ⟨h, _⟩ <;> first | exact h | exact absurd (h m hm) HM.out
        clear hor; subst hee
        have hk : Below wz.heap.size wz w8 := Below.trans (by repeat (first | with_reducible exact Below.refl _ _ | with_reducible apply Below.drew | with_reducible apply below_drewN | with_reducible apply Below.alloc | omega | (focus (simp; done)) | (simp; omega))) (hb8.mono (by first | omega | (simp; done) | (simp; omega)))
        replace HN := Lib.hid (HN.out.go hk)
        replace BEL : Hid (Below w.heap.size w w8) := Lib.hid (BEL.out.trans (hk.mono BEL.out.size))
        have z_w8 := hk.size; have y_w8 := BEL.out.size; clear hk hb8
        clear pN0 pN1 fN0 fN1 zN zN_1 zN_2 zN_3
        obtain ⟨pN0, pN1, fN0, fN1, zN, zN_1, zN_2, zN_3⟩ := HN.out.two'
        go_wp2_with fail
        refine (same_hit 4 _ (LAID.out.below (by repeat (first | with_reducible exact BEL.out | with_reducible apply Below.alloc | with_reducible apply Below.setCell | with_reducible apply Below.drew | with_reducible apply below_drewN | (first | omega | (focus (simp; done)) | (focus (simp; omega)) | (focus (simp [World.setCell]; omega))))))).mono ?_; rintro e w9 ⟨rfl, hb9⟩
        have hk : Below w8.heap.size w8 w9 := Below.trans (by repeat (first | with_reducible exact Below.refl _ _ | with_reducible apply Below.drew | with_reducible apply below_drewN | with_reducible apply Below.alloc | omega | (focus (simp; done)) | (simp; omega))) (hb9.mono (by first | omega | (simp; done) | (simp; omega)))
        replace HN := Lib.hid (HN.out.go hk)
        replace BEL : Hid (Below w.heap.size w w9) := Lib.hid (BEL.out.trans (hk.mono BEL.out.size))
        have z_w9 := hk.size; have y_w9 := BEL.out.size; clear hk hb9
        clear pN0 pN1 fN0 fN1 zN zN_1 zN_2 zN_3
        obtain ⟨pN0, pN1, fN0, fN1, zN, zN_1, zN_2, zN_3⟩ := HN.out.two'
        go_wp2_with fail
        refine (sameFr_any none none 0 0 0 0 [] [] 0 0 _ (Frs.nil' _ _) (Frs.nil' _ _) rfl rfl (Nat.zero_le _) (Nat.zero_le _) true (decide_eq_true rfl)).mono ?_; rintro e w10 ⟨rfl, hb10⟩
        have hk : Below w9.heap.size w9 w10 := Below.trans (by repeat (first | with_reducible exact Below.refl _ _ | with_reducible apply Below.drew | with_reducible apply below_drewN | with_reducible apply Below.alloc | omega | (focus (simp; done)) | (simp; omega))) (hb10.mono (by first | omega | (simp; done) | (simp; omega)))
        replace HN := Lib.hid (HN.out.go hk)
        replace BEL : Hid (Below w.heap.size w w10) := Lib.hid (BEL.out.trans (hk.mono BEL.out.size))
        have z_w10 := hk.size; have y_w10 := BEL.out.size; clear hk hb10
        clear pN0 pN1 fN0 fN1 zN zN_1 zN_2 zN_3
        obtain ⟨pN0, pN1, fN0, fN1, zN, zN_1, zN_2, zN_3⟩ := HN.out.two'
        go_wp2
        go_ret
        exact ⟨rfl, (by repeat (first | with_reducible exact BEL.out | with_reducible apply Below.alloc | with_reducible apply Below.setCell | with_reducible apply Below.drew | with_reducible apply below_drewN | (first | omega | (focus (simp; done)) | (focus (simp; omega)) | (focus (simp [World.setCell]; omega)))))⟩
theorem loadTells_walk (w : World) (C : Option Addr) (cc : Nat) (caps : List Int) (hc : Ints w w.heap.size C cc caps) (_ : ∀ n ∈ caps, (Lit.int .i64 n).wf = true) (P : Option Addr) (cp : Nat) (paths : List (List Int)) (hp : Rows2 w w.heap.size P cp paths) (_ : ∀ l ∈ paths, ∀ n ∈ l, (Lit.int .i64 n).wf = true) (A : Option Addr) (c : Nat) (S : List Fr) (hr : Frs w w.heap.size A c S) (_ : True) (hg : Laid w) :
    Calls Tryd.prog 7 #[.agg #[.slice C caps.length cc, .slice P paths.length cp], .slice A S.length c] w fun e w' => e = .returned (.bool true) ∧ Below w.heap.size w w' := by
  rcases lof_cases caps paths S with ⟨er, h0, hx⟩ | ⟨Q, L, hS, he, hl, hq, hL⟩
  · exact loadTells_err C cc caps P cp paths A c S w hg hc hp hr er hx h0
  · by_cases hall : ∀ i, i < caps.length → QIn (leftQ caps L i)
    · exact loadTells_A C cc caps P cp paths A c S w hg hc hp hr _ Q L hS he hl hq hL rfl hall
    · obtain ⟨m, hm, hmn, hmj⟩ := first_out (fun i => QIn (leftQ caps L i)) caps.length (by
        apply Classical.byContradiction
        intro hc
        exact hall fun i hi => by
          apply Classical.byContradiction
          intro h; exact hc ⟨i, hi, h⟩)
      exact loadTells_N C cc caps P cp paths A c S w hg hc hp hr _ Q L hS he hl hq hL rfl m hm hmn hmj
end Go.Proofs.YtblanfaghnflkaaDoor
