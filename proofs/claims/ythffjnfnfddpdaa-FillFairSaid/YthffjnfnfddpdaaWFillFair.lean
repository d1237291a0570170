/- The walk of FillFair: it returns true for every input. -/
import Derived.Test.YthffjnfnfddpdaaLibJ
import Derived.Test.YthffjnfnfddpdaaPlRounds
import Derived.Test.YthffjnfnfddpdaaTopOne
namespace Go.Proofs.Ythffjnfnfddpdaa
open Go.RowKit
attribute [local go_sem ↓] run_min_mn run_max_mx
theorem fair_ends : FillEnds [10, 4] [[0], [0, 1], [1]] 2 [8, 2, 2] := ends_dec (by decide +kernel) (by decide +kernel) (by decide +kernel)
theorem fillFair_fact (g1 g2 g3 g4 g5 : Nat) (w : World) (h1 : Blk w g1 3 #[.int .i64 10, .int .i64 4]) (h2 : Blk w g2 3 #[.int .i64 0]) (h3 : Blk w g3 3 #[.int .i64 0, .int .i64 1]) (h4 : Blk w g4 3 #[.int .i64 1]) (h5 : Blk w g5 38 #[.slice (some ⟨g2, 0, none⟩) 1 1, .slice (some ⟨g3, 0, none⟩) 2 2, .slice (some ⟨g4, 0, none⟩) 1 1]) :
    Calls Try.prog 43 #[.agg #[.slice (some ⟨g1, 0, none⟩) 2 2, .slice (some ⟨g5, 0, none⟩) 3 3]] w fun e w' => ∃ b o c, e = .returned (.tuple #[.slice (some ⟨b, o, none⟩) 3 c, .nilIface]) ∧ w'.cell? ⟨b, o, none⟩ = some (.int .i64 8) ∧ w'.cell? ⟨b, o + 2, none⟩ = some (.int .i64 2) ∧ w'.cell? ⟨b, o + 4, none⟩ = some (.int .i64 2) ∧ 3 ≤ c ∧ Below w.heap.size w w' := by
  refine (frates_yes (some ⟨g1, 0, none⟩) 2 [10, 4] (some ⟨g5, 0, none⟩) 3 3 [[0], [0, 1], [1]] w.heap.size w 2 [8, 2, 2] (Nat.le_refl _) (Ints.blk (l := [10, 4]) h1 h1.lt (by decide)) (Rows2.blk3 (l1 := [0]) (l2 := [0, 1]) (l3 := [1]) h5 (Ints.blk (l := [0]) h2 h2.lt (by decide)) (Ints.blk (l := [0, 1]) h3 h3.lt (by decide)) (Ints.blk (l := [1]) h4 h4.lt (by decide)) h5.lt) rfl (by decide) fair_ends).mono ?_
  rintro e w' ⟨A, c, rfl, hf, hb⟩
  obtain ⟨b, o, rfl, _, c0, _⟩ := frs_k hf 0 rfl
  obtain ⟨b', o', e1, _, c1, _⟩ := frs_k hf 1 rfl
  injection e1 with e1
  injection e1 with e1 e2
  subst e1 e2
  obtain ⟨b', o', e1, _, c2, _⟩ := frs_k hf 2 rfl
  injection e1 with e1
  injection e1 with e1 e2
  subst e1 e2
  have hc := hf.le
  exact ⟨b, o, c, rfl, c0, c1, c2, by simpa using hc, hb⟩
theorem ord_gt {q r : Rat} (h : r < q) : ordQ q r = 1 := by unfold ordQ; rw [if_neg (by grind), if_pos h]
theorem ord_eq (q : Rat) : ordQ q q = 0 := by unfold ordQ; rw [if_neg Rat.lt_irrefl, if_neg Rat.lt_irrefl]
theorem makeDB (n : Nat) (h : n ≤ 6) (W : World) : (Instr.makeSlice 87 (.int .i64 n) (.int .i64 n)).run Try.prog W = .ok (.slice (some ⟨W.heap.size, 0, none⟩) n n) (W.alloc (.cells (doneCells (List.replicate n none)).toArray 4)) := makeD n h W
theorem done_cell {w : World} {g : Nat} {st : St} (h : Blk w g 4 (doneCells st).toArray) {u : Nat} (hu : u < st.length) : w.cell? ⟨g, u, none⟩ = some (.bool (st.at_ u).isSome) := by
  rw [h.cell, List.getElem?_toArray]
  unfold doneCells
  rw [List.getElem?_map, at_get hu]; rfl
theorem done_put {w : World} {g : Nat} {st : St} (h : Blk w g 4 (doneCells st).toArray) (u : Nat) (b : Rat) : Blk (w.setCell ⟨g, u, none⟩ (.bool true)) g 4 (doneCells (st.set u (some b))).toArray := by
  have := h.set_ u (.bool true)
  rw [List.setIfInBounds_toArray] at this
  have e : (doneCells st).set u (.bool true) = doneCells (st.set u (some b)) := by unfold doneCells; rw [List.map_set]; rfl
  rwa [e] at this
set_option maxHeartbeats 16000000 in
set_option maxRecDepth 100000 in
theorem fillFair_err (C : Option Addr) (cc : Nat) (caps : List Int) (P : Option Addr) (cp : Nat) (paths : List (List Int)) (w : World) (hc : Ints w w.heap.size C cc caps) (hp : Rows2 w w.heap.size P cp paths) (er : Int) (he : netErr caps paths = er) (h0 : er ≠ 0) :
    Calls Try.prog 19 #[.agg #[.slice C caps.length cc, .slice P paths.length cp]] w fun e w' => e = .returned (.bool true) ∧ Below w.heap.size w w' := by
  have HC := Lib.hid hc
  have HP := Lib.hid hp
  clear hc hp
  have HE := Lib.hid he; have H0 := Lib.hid h0; clear he h0
  have BEL : Hid (Below w.heap.size w w) := Lib.hid (Below.refl _ _)
  have yB : w.heap.size ≤ w.heap.size := Nat.le_refl _
  go_enter Try.func19, Try.ntmps19
  go_wp2_with fail
  refine (fillFair_fact (w.heap.size + 1) (w.heap.size + 1 + 1) (w.heap.size + 1 + 1 + 1) (w.heap.size + 1 + 1 + 1 + 1) (w.heap.size + 1 + 1 + 1 + 1 + 1) _ (by repeat (first | (with_reducible apply Blk.new'; first | with_reducible rfl | (focus (simp; done))) | with_reducible apply Blk.alloc)) (by repeat (first | (with_reducible apply Blk.new'; first | with_reducible rfl | (focus (simp; done))) | with_reducible apply Blk.alloc)) (by repeat (first | (with_reducible apply Blk.new'; first | with_reducible rfl | (focus (simp; done))) | with_reducible apply Blk.alloc)) (by repeat (first | (with_reducible apply Blk.new'; first | with_reducible rfl | (focus (simp; done))) | with_reducible apply Blk.alloc)) (by repeat (first | (with_reducible apply Blk.new'; first | with_reducible rfl | (focus (simp; done))) | with_reducible apply Blk.alloc))).mono ?_; rintro e w1 ⟨b0, o0, c0, rfl, hk0, hk1, hk2, hcp0, hb1⟩
  have hk : Below w.heap.size w w1 := Below.trans (by repeat (first | with_reducible exact Below.refl _ _ | with_reducible apply Below.drew | with_reducible apply below_drewN | with_reducible apply Below.alloc | omega | (focus (simp; done)) | (simp; omega))) (hb1.mono (by first | omega | (simp; done) | (simp; omega)))
  have HN := Lib.hid (show Blk w1 (w.heap.size) 56 _ from Blk.go (by repeat (first | (with_reducible apply Blk.new'; first | with_reducible rfl | (focus (simp; done))) | with_reducible apply Blk.alloc | with_reducible apply Blk.drew | with_reducible apply Blk.drewN)) hb1)
  replace BEL : Hid (Below w.heap.size w w1) := Lib.hid (BEL.out.trans (hk.mono BEL.out.size))
  have z_w1 := hk.size; have y_w1 := BEL.out.size; clear hk hb1
  obtain ⟨pN0, pN1, fN0, fN1, zN, zN_1, zN_2, zN_3⟩ := HN.out.two'
  go_wp2_with fail
  refine (frates_no C cc caps P cp _ paths w.heap.size _ er (by first | omega | (focus (simp; done)) | (simp; omega)) (HC.out.below (by repeat (first | with_reducible exact BEL.out | with_reducible apply Below.alloc | with_reducible apply Below.setCell | with_reducible apply Below.drew | with_reducible apply below_drewN | (first | omega | (focus (simp; done)) | (focus (simp; omega)) | (focus (simp [World.setCell]; omega))))) (Nat.le_refl _)) (HP.out.below (by repeat (first | with_reducible exact BEL.out | with_reducible apply Below.alloc | with_reducible apply Below.setCell | with_reducible apply Below.drew | with_reducible apply below_drewN | (first | omega | (focus (simp; done)) | (focus (simp; omega)) | (focus (simp [World.setCell]; omega))))) (Nat.le_refl _)) rfl HE.out H0.out).mono ?_; rintro e w2 ⟨rfl, hb2⟩
  have hk : Below w1.heap.size w1 w2 := Below.trans (by repeat (first | with_reducible exact Below.refl _ _ | with_reducible apply Below.drew | with_reducible apply below_drewN | with_reducible apply Below.alloc | omega | (focus (simp; done)) | (simp; omega))) (hb2.mono (by first | omega | (simp; done) | (simp; omega)))
  replace HN := Lib.hid (HN.out.go hk)
  replace BEL : Hid (Below w.heap.size w w2) := Lib.hid (BEL.out.trans (hk.mono BEL.out.size))
  have z_w2 := hk.size; have y_w2 := BEL.out.size; clear hk hb2
  clear pN0 pN1 fN0 fN1 zN zN_1 zN_2 zN_3
  obtain ⟨pN0, pN1, fN0, fN1, zN, zN_1, zN_2, zN_3⟩ := HN.out.two'
  clear hk0 hk1 hk2 hcp0
  go_wp2_with fail
  refine (ncheck_er C cc caps P cp paths w.heap.size _ er (by first | omega | (focus (simp; done)) | (simp; omega)) (HC.out.below (by repeat (first | with_reducible exact BEL.out | with_reducible apply Below.alloc | with_reducible apply Below.setCell | with_reducible apply Below.drew | with_reducible apply below_drewN | (first | omega | (focus (simp; done)) | (focus (simp; omega)) | (focus (simp [World.setCell]; omega))))) (Nat.le_refl _)) (HP.out.below (by repeat (first | with_reducible exact BEL.out | with_reducible apply Below.alloc | with_reducible apply Below.setCell | with_reducible apply Below.drew | with_reducible apply below_drewN | (first | omega | (focus (simp; done)) | (focus (simp; omega)) | (focus (simp [World.setCell]; omega))))) (Nat.le_refl _)) HE.out H0.out).mono ?_; rintro e w3 ⟨rfl, hb3⟩
  have hk : Below w2.heap.size w2 w3 := Below.trans (by repeat (first | with_reducible exact Below.refl _ _ | with_reducible apply Below.drew | with_reducible apply below_drewN | with_reducible apply Below.alloc | omega | (focus (simp; done)) | (simp; omega))) (hb3.mono (by first | omega | (simp; done) | (simp; omega)))
  replace HN := Lib.hid (HN.out.go hk)
  replace BEL : Hid (Below w.heap.size w w3) := Lib.hid (BEL.out.trans (hk.mono BEL.out.size))
  have z_w3 := hk.size; have y_w3 := BEL.out.size; clear hk hb3
  clear pN0 pN1 fN0 fN1 zN zN_1 zN_2 zN_3
  obtain ⟨pN0, pN1, fN0, fN1, zN, zN_1, zN_2, zN_3⟩ := HN.out.two'
  go_wp2
  go_ret
  exact ⟨rfl, (by repeat (first | with_reducible exact BEL.out | with_reducible apply Below.alloc | with_reducible apply Below.setCell | with_reducible apply Below.drew | with_reducible apply below_drewN | (first | omega | (focus (simp; done)) | (focus (simp; omega)) | (focus (simp [World.setCell]; omega)))))⟩
set_option maxHeartbeats 16000000 in
set_option maxRecDepth 100000 in
theorem fillFair_yes (C : Option Addr) (cc : Nat) (caps : List Int) (P : Option Addr) (cp : Nat) (paths : List (List Int)) (w : World) (hc : Ints w w.heap.size C cc caps) (hp : Rows2 w w.heap.size P cp paths) (he : netErr caps paths = 0) :
    Calls Try.prog 19 #[.agg #[.slice C caps.length cc, .slice P paths.length cp]] w fun e w' => e = .returned (.bool true) ∧ Below w.heap.size w w' := by
  have HC := Lib.hid hc
  have HP := Lib.hid hp
  clear hc hp
  have ok := netOk_of he
  obtain ⟨K, R, hK⟩ := fill_ends ok
  obtain ⟨L, hL⟩ := hK.loads ok
  have hRl := hK.len ok
  have hft := hK.fitsT ok hL
  have hfr := hK.fairT ok hL
  have hRQ : ∀ q ∈ R, QIn q := fun q hq => (hK.rates ok q hq).1
  obtain ⟨V, hV⟩ : ∃ V, necks paths R ((fulls caps L).map fun (i : Nat) => (i : Int)) paths.length = V := ⟨_, rfl⟩
  have hVl : V.length = paths.length := by rw [← hV, necks_len]
  have hVn : ∀ f, f < paths.length → 0 ≤ V.getD f 0 := fun f hf => by
    rw [← hV]; unfold necks
    simp only [List.getD_eq_getElem?_getD, List.getElem?_map, List.getElem?_range hf, Option.map_some, Option.getD_some]
    exact hK.neckT ok hL hf
  have hn6 := ok.F1
  have hKle := hK.K_le ok
  have hR6 : R.length ≤ 6 := by omega
  have hv6 : V.length ≤ 6 := by omega
  have hK6 : K ≤ 6 := by omega
  have e1 : ((V.length : Int) != (paths.length : Int)) = false := by rw [hVl]; simp
  have e2 : ((R.length : Int) != (paths.length : Int)) = false := by rw [hRl]; simp
  have HMD := makeDB R.length hR6
  have HE := Lib.hid he; have HOK := Lib.hid ok; have HL := Lib.hid hL; have HK := Lib.hid hK; have HV := Lib.hid hV; have HVL := Lib.hid hVl; have HVN := Lib.hid hVn; have HRL := Lib.hid hRl; have HFT := Lib.hid hft; have HFR := Lib.hid hfr; have HRQ := Lib.hid hRQ
  clear he ok hL hK hV hVl hVn hRl hft hfr hRQ
  have BEL : Hid (Below w.heap.size w w) := Lib.hid (Below.refl _ _)
  have yB : w.heap.size ≤ w.heap.size := Nat.le_refl _
  go_enter Try.func19, Try.ntmps19
  go_wp2_with fail
  refine (fillFair_fact (w.heap.size + 1) (w.heap.size + 1 + 1) (w.heap.size + 1 + 1 + 1) (w.heap.size + 1 + 1 + 1 + 1) (w.heap.size + 1 + 1 + 1 + 1 + 1) _ (by repeat (first | (with_reducible apply Blk.new'; first | with_reducible rfl | (focus (simp; done))) | with_reducible apply Blk.alloc)) (by repeat (first | (with_reducible apply Blk.new'; first | with_reducible rfl | (focus (simp; done))) | with_reducible apply Blk.alloc)) (by repeat (first | (with_reducible apply Blk.new'; first | with_reducible rfl | (focus (simp; done))) | with_reducible apply Blk.alloc)) (by repeat (first | (with_reducible apply Blk.new'; first | with_reducible rfl | (focus (simp; done))) | with_reducible apply Blk.alloc)) (by repeat (first | (with_reducible apply Blk.new'; first | with_reducible rfl | (focus (simp; done))) | with_reducible apply Blk.alloc))).mono ?_; rintro e w1 ⟨b0, o0, c0, rfl, hk0, hk1, hk2, hcp0, hb1⟩
  have hk : Below w.heap.size w w1 := Below.trans (by repeat (first | with_reducible exact Below.refl _ _ | with_reducible apply Below.drew | with_reducible apply below_drewN | with_reducible apply Below.alloc | omega | (focus (simp; done)) | (simp; omega))) (hb1.mono (by first | omega | (simp; done) | (simp; omega)))
  have HN := Lib.hid (show Blk w1 (w.heap.size) 56 _ from Blk.go (by repeat (first | (with_reducible apply Blk.new'; first | with_reducible rfl | (focus (simp; done))) | with_reducible apply Blk.alloc | with_reducible apply Blk.drew | with_reducible apply Blk.drewN)) hb1)
  replace BEL : Hid (Below w.heap.size w w1) := Lib.hid (BEL.out.trans (hk.mono BEL.out.size))
  have z_w1 := hk.size; have y_w1 := BEL.out.size; clear hk hb1
  obtain ⟨pN0, pN1, fN0, fN1, zN, zN_1, zN_2, zN_3⟩ := HN.out.two'
  go_wp2_with fail
  refine (frates_yes C cc caps P cp _ paths w.heap.size _ K R (by first | omega | (focus (simp; done)) | (simp; omega)) (HC.out.below (by repeat (first | with_reducible exact BEL.out | with_reducible apply Below.alloc | with_reducible apply Below.setCell | with_reducible apply Below.drew | with_reducible apply below_drewN | (first | omega | (focus (simp; done)) | (focus (simp; omega)) | (focus (simp [World.setCell]; omega))))) (Nat.le_refl _)) (HP.out.below (by repeat (first | with_reducible exact BEL.out | with_reducible apply Below.alloc | with_reducible apply Below.setCell | with_reducible apply Below.drew | with_reducible apply below_drewN | (first | omega | (focus (simp; done)) | (focus (simp; omega)) | (focus (simp [World.setCell]; omega))))) (Nat.le_refl _)) rfl HE.out HK.out).mono ?_; rintro e w2 ⟨A1, c1, rfl, hf1, hb2⟩
  have hk : Below w1.heap.size w1 w2 := Below.trans (by repeat (first | with_reducible exact Below.refl _ _ | with_reducible apply Below.drew | with_reducible apply below_drewN | with_reducible apply Below.alloc | omega | (focus (simp; done)) | (simp; omega))) (hb2.mono (by first | omega | (simp; done) | (simp; omega)))
  replace HN := Lib.hid (HN.out.go hk)
  replace BEL : Hid (Below w.heap.size w w2) := Lib.hid (BEL.out.trans (hk.mono BEL.out.size))
  have z_w2 := hk.size; have y_w2 := BEL.out.size; clear hk hb2
  clear pN0 pN1 fN0 fN1 zN zN_1 zN_2 zN_3
  obtain ⟨pN0, pN1, fN0, fN1, zN, zN_1, zN_2, zN_3⟩ := HN.out.two'
  have HR := Lib.hid hf1; clear hf1 hk0 hk1 hk2 hcp0
  go_wp2_with fail
  refine (fits_yes' C cc caps P cp _ paths A1 c1 _ R L true _ _ (Nat.le_refl _) ((HC.out.below (by repeat (first | with_reducible exact BEL.out | with_reducible apply Below.alloc | with_reducible apply Below.setCell | with_reducible apply Below.drew | with_reducible apply below_drewN | (first | omega | (focus (simp; done)) | (focus (simp; omega)) | (focus (simp [World.setCell]; omega))))) (Nat.le_refl _)).more (by first | omega | (focus (simp; done)) | (simp; omega))) ((HP.out.below (by repeat (first | with_reducible exact BEL.out | with_reducible apply Below.alloc | with_reducible apply Below.setCell | with_reducible apply Below.drew | with_reducible apply below_drewN | (first | omega | (focus (simp; done)) | (focus (simp; omega)) | (focus (simp [World.setCell]; omega))))) (Nat.le_refl _)).more (by first | omega | (focus (simp; done)) | (simp; omega))) (HR.out.at' (by repeat (first | with_reducible exact Below.refl _ _ | with_reducible apply Below.drew | with_reducible apply below_drewN | with_reducible apply Below.alloc | omega | (focus (simp; done)) | (simp; omega)))) rfl rfl HE.out HRL.out HRQ.out HL.out HFT.out).mono ?_; rintro e w3 ⟨rfl, hb3⟩
  have hk : Below w2.heap.size w2 w3 := Below.trans (by repeat (first | with_reducible exact Below.refl _ _ | with_reducible apply Below.drew | with_reducible apply below_drewN | with_reducible apply Below.alloc | omega | (focus (simp; done)) | (simp; omega))) (hb3.mono (by first | omega | (simp; done) | (simp; omega)))
  replace HN := Lib.hid (HN.out.go hk)
  replace HR := Lib.hid (HR.out.at' hk)
  replace BEL : Hid (Below w.heap.size w w3) := Lib.hid (BEL.out.trans (hk.mono BEL.out.size))
  have z_w3 := hk.size; have y_w3 := BEL.out.size; clear hk hb3
  clear pN0 pN1 fN0 fN1 zN zN_1 zN_2 zN_3
  obtain ⟨pN0, pN1, fN0, fN1, zN, zN_1, zN_2, zN_3⟩ := HN.out.two'
  go_wp2_with fail
  refine (necks_yes C cc caps P cp _ paths A1 c1 _ R L _ _ (Nat.le_refl _) ((HC.out.below (by repeat (first | with_reducible exact BEL.out | with_reducible apply Below.alloc | with_reducible apply Below.setCell | with_reducible apply Below.drew | with_reducible apply below_drewN | (first | omega | (focus (simp; done)) | (focus (simp; omega)) | (focus (simp [World.setCell]; omega))))) (Nat.le_refl _)).more (by first | omega | (focus (simp; done)) | (simp; omega))) ((HP.out.below (by repeat (first | with_reducible exact BEL.out | with_reducible apply Below.alloc | with_reducible apply Below.setCell | with_reducible apply Below.drew | with_reducible apply below_drewN | (first | omega | (focus (simp; done)) | (focus (simp; omega)) | (focus (simp [World.setCell]; omega))))) (Nat.le_refl _)).more (by first | omega | (focus (simp; done)) | (simp; omega))) (HR.out.at' (by repeat (first | with_reducible exact Below.refl _ _ | with_reducible apply Below.drew | with_reducible apply below_drewN | with_reducible apply Below.alloc | omega | (focus (simp; done)) | (simp; omega)))) rfl rfl HE.out HRL.out HRQ.out HL.out V HV.out).mono ?_; rintro e w4 ⟨A2, c2, rfl, hi2, hb4⟩
  have hk : Below w3.heap.size w3 w4 := Below.trans (by repeat (first | with_reducible exact Below.refl _ _ | with_reducible apply Below.drew | with_reducible apply below_drewN | with_reducible apply Below.alloc | omega | (focus (simp; done)) | (simp; omega))) (hb4.mono (by first | omega | (simp; done) | (simp; omega)))
  replace HN := Lib.hid (HN.out.go hk)
  replace HR := Lib.hid (HR.out.at' hk)
  replace BEL : Hid (Below w.heap.size w w4) := Lib.hid (BEL.out.trans (hk.mono BEL.out.size))
  have z_w4 := hk.size; have y_w4 := BEL.out.size; clear hk hb4
  clear pN0 pN1 fN0 fN1 zN zN_1 zN_2 zN_3
  obtain ⟨pN0, pN1, fN0, fN1, zN, zN_1, zN_2, zN_3⟩ := HN.out.two'
  have HI2 := Lib.hid hi2; clear hi2
  go_wp2_with fail
  refine (nfair_yes C cc caps P cp _ paths A1 c1 _ R L true _ _ (Nat.le_refl _) ((HC.out.below (by repeat (first | with_reducible exact BEL.out | with_reducible apply Below.alloc | with_reducible apply Below.setCell | with_reducible apply Below.drew | with_reducible apply below_drewN | (first | omega | (focus (simp; done)) | (focus (simp; omega)) | (focus (simp [World.setCell]; omega))))) (Nat.le_refl _)).more (by first | omega | (focus (simp; done)) | (simp; omega))) ((HP.out.below (by repeat (first | with_reducible exact BEL.out | with_reducible apply Below.alloc | with_reducible apply Below.setCell | with_reducible apply Below.drew | with_reducible apply below_drewN | (first | omega | (focus (simp; done)) | (focus (simp; omega)) | (focus (simp [World.setCell]; omega))))) (Nat.le_refl _)).more (by first | omega | (focus (simp; done)) | (simp; omega))) (HR.out.at' (by repeat (first | with_reducible exact Below.refl _ _ | with_reducible apply Below.drew | with_reducible apply below_drewN | with_reducible apply Below.alloc | omega | (focus (simp; done)) | (simp; omega)))) rfl rfl HE.out HRL.out HRQ.out HL.out HFR.out).mono ?_; rintro e w5 ⟨rfl, hb5⟩
  have hk : Below w4.heap.size w4 w5 := Below.trans (by repeat (first | with_reducible exact Below.refl _ _ | with_reducible apply Below.drew | with_reducible apply below_drewN | with_reducible apply Below.alloc | omega | (focus (simp; done)) | (simp; omega))) (hb5.mono (by first | omega | (simp; done) | (simp; omega)))
  replace HN := Lib.hid (HN.out.go hk)
  replace HR := Lib.hid (HR.out.at' hk)
  replace HI2 := Lib.hid (HI2.out.at' hk)
  replace BEL : Hid (Below w.heap.size w w5) := Lib.hid (BEL.out.trans (hk.mono BEL.out.size))
  have z_w5 := hk.size; have y_w5 := BEL.out.size; clear hk hb5
  clear pN0 pN1 fN0 fN1 zN zN_1 zN_2 zN_3
  obtain ⟨pN0, pN1, fN0, fN1, zN, zN_1, zN_2, zN_3⟩ := HN.out.two'
  go_wp2_with fail
  refine (frounds_yes C cc caps P cp _ paths w.heap.size _ K R (by first | omega | (focus (simp; done)) | (simp; omega)) (HC.out.below (by repeat (first | with_reducible exact BEL.out | with_reducible apply Below.alloc | with_reducible apply Below.setCell | with_reducible apply Below.drew | with_reducible apply below_drewN | (first | omega | (focus (simp; done)) | (focus (simp; omega)) | (focus (simp [World.setCell]; omega))))) (Nat.le_refl _)) (HP.out.below (by repeat (first | with_reducible exact BEL.out | with_reducible apply Below.alloc | with_reducible apply Below.setCell | with_reducible apply Below.drew | with_reducible apply below_drewN | (first | omega | (focus (simp; done)) | (focus (simp; omega)) | (focus (simp [World.setCell]; omega))))) (Nat.le_refl _)) rfl HE.out HK.out).mono ?_; rintro e w6 ⟨A3, c3, rfl, hr3, hb6⟩
  have hk : Below w5.heap.size w5 w6 := Below.trans (by repeat (first | with_reducible exact Below.refl _ _ | with_reducible apply Below.drew | with_reducible apply below_drewN | with_reducible apply Below.alloc | omega | (focus (simp; done)) | (simp; omega))) (hb6.mono (by first | omega | (simp; done) | (simp; omega)))
  replace HN := Lib.hid (HN.out.go hk)
  replace HR := Lib.hid (HR.out.at' hk)
  replace HI2 := Lib.hid (HI2.out.at' hk)
  replace BEL : Hid (Below w.heap.size w w6) := Lib.hid (BEL.out.trans (hk.mono BEL.out.size))
  have z_w6 := hk.size; have y_w6 := BEL.out.size; clear hk hb6
  clear pN0 pN1 fN0 fN1 zN zN_1 zN_2 zN_3
  obtain ⟨pN0, pN1, fN0, fN1, zN, zN_1, zN_2, zN_3⟩ := HN.out.two'
  have HRO := Lib.hid hr3; clear hr3
  clear pN0 pN1 fN0 fN1 zN zN_1 zN_2 zN_3
  obtain ⟨wo, hwo⟩ : ∃ x, x = w6 := ⟨_, rfl⟩
  rw [← hwo] at HR HI2 HRO HN BEL ⊢
  clear hwo
  obtain ⟨n0, n1, _, _, nz⟩ := HN.out.two
  have hbo := BEL.out.size
  have hrm := HR.out.cap; have hrl := HR.out.le; have hvm := HI2.out.cap; have hvl := HI2.out.le; have hom := HRO.out.cap; have hol := HRO.out.le
  rw [List.length_map] at hrl
  rw [rounds_len] at hol
  unfold maxLen at hrm hvm hom
  have hD0 : Hid (Blk ((wo.alloc (.cells (doneCells (List.replicate R.length none)).toArray 4)).alloc (.cells #[.int .i64 0, .int .i64 1] 44)) wo.heap.size 4 (doneCells (fillSt caps paths 0)).toArray) := Lib.hid (by
    rw [show fillSt caps paths 0 = List.replicate R.length none by show List.replicate paths.length none = _; rw [HRL.out]]
    exact (Blk.new _ _ _).alloc _)
  have hL0 : Hid (Blk ((wo.alloc (.cells (doneCells (List.replicate R.length none)).toArray 4)).alloc (.cells #[.int .i64 0, .int .i64 1] 44)) (wo.heap.size + 1) 44 #[.int .i64 (pq caps paths 0).num, .int .i64 (pq caps paths 0).den]) := Lib.hid (Blk.new' _ _ _ (by simp))
  have hB0 : Hid (Below wo.heap.size wo ((wo.alloc (.cells (doneCells (List.replicate R.length none)).toArray 4)).alloc (.cells #[.int .i64 0, .int .i64 1] 44))) := Lib.hid (((Below.refl _ _).alloc (Nat.le_refl _) _).alloc (by simp) _)
  have hc0 : (fillSt caps paths 0).countP Option.isSome = 0 := by
    show (List.replicate paths.length (none : Option Rat)).countP Option.isSome = 0
    rw [List.countP_eq_zero]; intro x hx; rw [(List.mem_replicate.1 hx).2]; simp
  have hcn := HK.out.count_end
  have HCN := Lib.hid hcn
  have HC0 := Lib.hid hc0
  clear hc0 hcn
  go_wp2_with fail
  go_loopw [16, 18] (fun m i wr => ∃ k : Nat, k ≤ K ∧ i = .int .i64 k ∧ m = .int .i64 ((fillSt caps paths k).countP Option.isSome) ∧ Hid (Blk wr wo.heap.size 4 (doneCells (fillSt caps paths k)).toArray) ∧ Hid (Blk wr (wo.heap.size + 1) 44 #[.int .i64 (pq caps paths k).num, .int .i64 (pq caps paths k).den]) ∧ Hid (Below wo.heap.size wo wr)) (fun _ i _ => K - (intOf i).toNat)
  case atStart => exact ⟨0, Nat.zero_le _, rfl, by rw [HC0.out]; rfl, hD0, hL0, hB0⟩
  case round =>
    clear hD0 hL0 hB0 HC0 n0 n1 nz HMD
    obtain ⟨i, hi, rfl, rfl, HD, HLQ, HB⟩ := hrel
    have hB1 := HB.out.size
    by_cases hiK : i < K
    · have i0 : (0 : Int) ≤ (i : Int) := by omega
      obtain ⟨hinv, hbst⟩ := HK.out.at_i HOK.out hiK
      have HINV := Lib.hid hinv
      have hq1 := HK.out.bq_in HOK.out hiK
      have hq0 := HK.out.pq_in HOK.out (Nat.le_of_lt hiK)
      have hri := HK.out.rise HOK.out hiK
      have hop := HK.out.out_pos HOK.out hiK
      have HOA := Lib.hid fun (k f : Nat) (h : (outs caps paths i)[k]? = some f) => HK.out.out_at HOK.out hiK h
      have HRA := Lib.hid fun (f : Nat) (h : f ∈ outs caps paths i) => HK.out.rate_out HOK.out hiK h
      have HME := Lib.hid (HK.out.mid_end HOK.out hiK)
      have hol6 : (outs caps paths i).length ≤ 6 := Nat.le_trans (outTo_le _ _ _ _) hn6
      obtain ⟨br, or, Ai, ci, li, hAi, hbr, hcr, hii, HXI⟩ := (HRO.out.below HB.out (Nat.le_refl _)).elem (k := i) (by rw [rounds_len]; exact hiK)
      have hli : li = ints (outs caps paths i) := by
        have := HXI.out
        unfold rounds roundsTo at this
        rw [List.getElem?_map, List.getElem?_map, List.getElem?_range hiK] at this
        injection this with this
        exact this.symm
      subst hli
      have hlil := ints_len (outs caps paths i)
      have hbrz : br < wo.heap.size := hbr
      obtain ⟨O, hO⟩ : ∃ O, outs caps paths i = O := ⟨_, rfl⟩
      obtain ⟨b, hb⟩ : ∃ b, bq caps paths i = b := ⟨_, rfl⟩
      obtain ⟨p, hp⟩ : ∃ p, pq caps paths i = p := ⟨_, rfl⟩
      rw [hO] at HOA HRA HME hol6 hcr hii hlil hop
      rw [hb] at hq1 hri HRA HOA
      rw [hp] at hq0 hri HLQ
      have HII := Lib.hid hii
      have HPS : Hid (pq caps paths (i + 1) = b) := Lib.hid hb
      have HOG := Lib.hid fun W => fcompare_q b p 1 W hq1 hq0 (ord_gt hri)
      have HOE := Lib.hid fun W => fcompare_q b b 0 W hq1 hq1 (ord_eq b)
      rw [hlil] at hcr
      have hcim := hii.cap; have hcil := hii.le
      rw [hlil] at hcil
      unfold maxLen at hcim
      have HCR := Lib.hid hcr
      subst hAi
      clear hinv hbst hq1 hq0 hri hii HXI hO hb hp hcr
      have hLQ0 : Hid (Blk wr (wo.heap.size + 1) 44 #[.int .i64 p.num, .int .i64 p.den]) := HLQ
      clear HLQ
      obtain ⟨wa, hwa⟩ : ∃ x, x = wr := ⟨_, rfl⟩
      rw [← hwa] at HD hLQ0 HB HII HCR hB1 ⊢
      clear hwa
      have hD1 : Hid (Blk wa wo.heap.size 4 (doneCells (mid caps paths i 0)).toArray) := HD
      clear HD
      go_wp2_with fail
      go_loopw [16, 19] (fun m k wr => ∃ (j : Nat) (q : Rat), j ≤ O.length ∧ k = .int .i64 j ∧ m = .int .i64 ((mid caps paths i j).countP Option.isSome) ∧ Hid ((j = 0 ∧ q = p) ∨ (0 < j ∧ q = b)) ∧ Hid (Blk wr wo.heap.size 4 (doneCells (mid caps paths i j)).toArray) ∧ Hid (Blk wr (wo.heap.size + 1) 44 #[.int .i64 q.num, .int .i64 q.den]) ∧ Hid (Below wo.heap.size wo wr)) (fun _ k _ => O.length - (intOf k).toNat)
      case atStart => exact ⟨0, p, Nat.zero_le _, rfl, rfl, Lib.hid (.inl ⟨rfl, rfl⟩), hD1, hLQ0, HB⟩
      case round =>
        clear hD1 hLQ0
        obtain ⟨j, q, hj, rfl, rfl, HQ, HD, HLQ, HBJ⟩ := hrel
        have hBJ := HBJ.out.size
        have hcr : wr.cell? ⟨br, or + i, none⟩ = some (.slice Ai O.length ci) := by
          have h1 := HCR.out
          have h2 := HB.out.cell (p := ⟨br, or + i, none⟩) hbrz
          have h3 := HBJ.out.cell (p := ⟨br, or + i, none⟩) hbrz
          rw [h3, ← h2]; exact h1
        by_cases hjl : j < O.length
        · have j0 : (0 : Int) ≤ (j : Int) := by omega
          obtain ⟨f, hf⟩ : ∃ f, O[j]? = some f := ⟨_, List.getElem?_eq_getElem hjl⟩
          obtain ⟨hfF, hmn, hms, hmc⟩ := HOA.out j f hf
          have hRf := HRA.out f (List.mem_of_getElem? hf)
          obtain ⟨bi, oi, x, rfl, hbi, hxc, _, _, HX⟩ := (show Ints wr wo.heap.size Ai ci (ints O) from by
            obtain ⟨rd, le, cap⟩ := HII.out
            refine ⟨⟨rd.1, fun hn => ?_⟩, le, cap⟩
            obtain ⟨b3, o3, e3, hb3, hc3⟩ := rd.2 hn
            refine ⟨b3, o3, e3, hb3, fun j u hu => ?_⟩
            have h1 := hc3 j u hu
            have h2 := HB.out.cell (p := ⟨b3, o3 + j, none⟩) hb3
            have h3 := HBJ.out.cell (p := ⟨b3, o3 + j, none⟩) hb3
            rw [h3, ← h2]; exact h1).elem (k := j) (by rw [ints_len]; exact hjl)
          have hx : x = ((f : Nat) : Int) := by have := HX.out; rw [List.getD_eq_getElem?_getD] at this; unfold ints at this; rw [List.getElem?_map, hf] at this; exact this.symm
          subst hx
          have f0 : (0 : Int) ≤ (f : Int) := by omega
          have f1 : (f : Int) < (R.length : Int) := by have := HRL.out; omega
          have f2 : (f : Int) < (V.length : Int) := by have := HVL.out; omega
          have fd : decide ((R.length : Int) ≤ (f : Int)) = false := decide_eq_false (by omega)
          have fd2 : decide ((f : Int) < 0) = false := decide_eq_false (by omega)
          have fdN : decide (R.length ≤ f) = false := decide_eq_false (by omega)
          have hfm : f < (mid caps paths i j).length := by rw [mid_len HINV.out]; exact hfF
          have hdc := done_cell HD.out hfm
          rw [hmn] at hdc
          have hdc' : wr.cell? ⟨wo.heap.size, f, none⟩ = some (.bool false) := hdc
          have hdf := HD.out.frozen f
          obtain ⟨bv, ov, xv, rfl, hbv, hvc, _, _, HXV⟩ := (HI2.out.below HBJ.out (Nat.le_refl _)).elem (k := f) (by have := HVL.out; omega)
          have hxv0 : 0 ≤ xv := by have := HVN.out f hfF; rw [HXV.out] at this; exact this
          have hxvd : decide (xv < 0) = false := decide_eq_false (by omega)
          obtain ⟨b1, o1, rfl, hb1, r0, r1⟩ := frs_q (HR.out.below HBJ.out (Nat.le_refl _)) (show f < R.length by omega)
          rw [hRf] at r0 r1
          have zb : b1 < wr.heap.size := by omega
          have zv : bv < wr.heap.size := by omega
          have zi : bi < wr.heap.size := by omega
          have zr : br < wr.heap.size := by omega
          have zD := HD.out.lt; have zL := HLQ.out.lt
          have nb1 : ¬ b1 = wo.heap.size := by omega
          have nb2 : ¬ wo.heap.size = b1 := by omega
          have nL1 : ¬ wo.heap.size + 1 = wo.heap.size := by omega
          have nL2 : ¬ wo.heap.size = wo.heap.size + 1 := by omega
          have nc : (mid caps paths i j).countP Option.isSome ≤ 6 := by
            have h1 : (mid caps paths i j).countP Option.isSome ≤ (mid caps paths i j).length := List.countP_le_length
            rw [mid_len HINV.out] at h1; omega
          have HMC := Lib.hid hmc
          have HD' : Hid (Blk (wr.setCell ⟨wo.heap.size, f, none⟩ (.bool true)) wo.heap.size 4 (doneCells (mid caps paths i (j + 1))).toArray) := Lib.hid (by rw [hms]; exact done_put HD.out f b)
          have HL' := Lib.hid (HLQ.out.far (p := ⟨wo.heap.size, f, none⟩) nL1 (.bool true))
          have HB' := Lib.hid (HBJ.out.setCell (p := ⟨wo.heap.size, f, none⟩) (Nat.le_refl _) (.bool true))
          have r0' : (wr.setCell ⟨wo.heap.size, f, none⟩ (.bool true)).cell? ⟨b1, o1 + f * 2, none⟩ = some (.int .i64 b.num) := ((Below.refl wo.heap.size wr).setCell (p := ⟨wo.heap.size, f, none⟩) (Nat.le_refl _) (.bool true)).cell (p := ⟨b1, o1 + f * 2, none⟩) hb1 |>.trans r0
          have r1' : (wr.setCell ⟨wo.heap.size, f, none⟩ (.bool true)).cell? ⟨b1, o1 + f * 2 + 1, none⟩ = some (.int .i64 b.den) := ((Below.refl wo.heap.size wr).setCell (p := ⟨wo.heap.size, f, none⟩) (Nat.le_refl _) (.bool true)).cell (p := ⟨b1, o1 + f * 2 + 1, none⟩) hb1 |>.trans r1
          clear hf hmn hms hmc hRf HX HXV hdc HLQ HD HBJ hfm hxv0
          obtain ⟨o, ho, HCMP, HO⟩ : ∃ o : Int, ((j = 0 ∧ o = 1) ∨ (0 < j ∧ o = 0)) ∧ Hid (∀ W, Calls Try.prog 33 #[.agg #[.int .i64 b.num, .int .i64 b.den], .agg #[.int .i64 q.num, .int .i64 q.den]] W fun e w' => e = .returned (.tuple #[.int .i64 o, .nilIface]) ∧ Below W.heap.size W w') ∧ True := by
            rcases HQ.out with ⟨h1, rfl⟩ | ⟨h1, rfl⟩
            · exact ⟨1, .inl ⟨h1, rfl⟩, HOG, trivial⟩
            · exact ⟨0, .inr ⟨h1, rfl⟩, HOE, trivial⟩
          clear HO
          go_upto_region 27 with (fail)
          obtain ⟨wx, hwx⟩ : ∃ x, x = wr.setCell ⟨wo.heap.size, f, none⟩ (.bool true) := ⟨_, rfl⟩
          rw [← hwx] at HD' HL' HB' r0' r1' ⊢
          clear hwx hdc' hdf hvc hxc hcr r0 r1 zb zv zi zr zD zL
          obtain ⟨l0, l1, _, _, lz⟩ := HL'.out.two
          have hzx := HB'.out.size
          have zb : b1 < wx.heap.size := by omega
          go_region_held3 (fun w' => w'.cell? ⟨b1, o1 + f * 2, none⟩ = some (.int .i64 b.num) ∧ w'.cell? ⟨b1, o1 + f * 2 + 1, none⟩ = some (.int .i64 b.den) ∧ w'.cell? ⟨wo.heap.size + 1, 0, none⟩ = some (.int .i64 q.num) ∧ w'.cell? ⟨wo.heap.size + 1, 1, none⟩ = some (.int .i64 q.den)) (go_keep)
            (first
              | (go_simp; go_at_call 33; refine (HCMP.out _).mono ?_; rintro e w5 ⟨rfl, hb5⟩; have HB5 : Hid (Below wx.heap.size wx w5) := Lib.hid (by first | exact hb5 | exact (Below.refl _ _).drew.trans hb5); have y0 := (HB5.out.cell (p := ⟨b1, o1 + f * 2, none⟩) zb).trans r0'; have y1 := (HB5.out.cell (p := ⟨b1, o1 + f * 2 + 1, none⟩) zb).trans r1'; have y2 := (HB5.out.cell (p := ⟨wo.heap.size + 1, 0, none⟩) lz).trans l0; have y3 := (HB5.out.cell (p := ⟨wo.heap.size + 1, 1, none⟩) lz).trans l1; have yf0 := (HB5.out.frozen (p := ⟨wo.heap.size + 1, 0, none⟩) lz).trans (HL'.out.frozen 0); have yf1 := (HB5.out.frozen (p := ⟨wo.heap.size + 1, 1, none⟩) lz).trans (HL'.out.frozen 1); have hz5 := HB5.out.size; have zl5 : wo.heap.size + 1 < w5.heap.size := (by omega); have zb5 : b1 < w5.heap.size := (by omega); clear hb5; dsimp only))
          have HD5 := Lib.hid (HD'.out.go HB5.out); have HL5 := Lib.hid (HL'.out.go HB5.out); have HB6 := Lib.hid (HB'.out.trans (HB5.out.mono hzx))
          have HD6 := Lib.hid ((HD5.out.far (p := ⟨wo.heap.size + 1, 0, none⟩) nL2 (.int .i64 b.num)).far (p := ⟨wo.heap.size + 1, 1, none⟩) nL2 (.int .i64 b.den))
          have HL6 := Lib.hid ((HL5.out.s2_0 (.int .i64 b.num)).s2_1 (.int .i64 b.den))
          have HB7 := Lib.hid ((HB6.out.setCell (p := ⟨wo.heap.size + 1, 0, none⟩) (Nat.le_succ _) (.int .i64 b.num)).setCell (p := ⟨wo.heap.size + 1, 1, none⟩) (Nat.le_succ _) (.int .i64 b.den))
          have hjb : Hid ((j + 1 = 0 ∧ b = p) ∨ (0 < j + 1 ∧ b = b)) := Lib.hid (.inr ⟨by omega, rfl⟩)
          clear HD' HL' HB' r0' r1' l0 l1 HD5 HL5 HB6 HB5
          rcases ho with ⟨h1, h2⟩ | ⟨h1, h2⟩
          · subst h1 h2
            go_wp2
            go_roundw
            case rel => exact ⟨1, b, by omega, rfl, by rw [HMC.out]; go_num, hjb, HD6, HL6, HB7⟩
            case measure => simp [intOf]; omega
          · have hj0 : ((j : Int) == 0) = false := beq_eq_false_iff_ne.2 (by omega)
            have hj1 : (0 : Int) < (j : Int) := by omega
            subst h2
            go_wp2
            go_roundw
            case rel => exact ⟨j + 1, b, by omega, by go_num, by rw [HMC.out]; go_num, hjb, HD6, HL6, HB7⟩
            case measure => simp [intOf]; omega
        · obtain rfl : j = O.length := by omega
          have hd := HD.out
          rw [HME.out] at hd
          have HD2 := Lib.hid hd
          have hqb : q = b := by rcases HQ.out with ⟨h1, _⟩ | ⟨_, h⟩; (· omega); exact h
          have HLB : Hid (Blk wr (wo.heap.size + 1) 44 #[.int .i64 (pq caps paths (i + 1)).num, .int .i64 (pq caps paths (i + 1)).den]) := Lib.hid (by rw [HPS.out, ← hqb]; exact HLQ.out)
          rw [HME.out]
          clear hd hqb HLQ HD HQ
          go_wp2
          go_roundw
          case rel => exact ⟨i + 1, by omega, by go_num, rfl, HD2, HLB, HBJ⟩
          case measure => simp [intOf]; omega
    · obtain rfl : i = K := by omega
      rw [HCN.out]
      go_wp2
      go_ret
      exact ⟨rfl, BEL.out.trans (HB.out.mono hbo)⟩
theorem fillFair_walk (w : World) (C : Option Addr) (cc : Nat) (caps : List Int) (hc : Ints w w.heap.size C cc caps) (_ : ∀ n ∈ caps, (Lit.int .i64 n).wf = true) (P : Option Addr) (cp : Nat) (paths : List (List Int)) (hp : Rows2 w w.heap.size P cp paths) (_ : ∀ l ∈ paths, ∀ n ∈ l, (Lit.int .i64 n).wf = true) :
    Calls Try.prog 19 #[.agg #[.slice C caps.length cc, .slice P paths.length cp]] w fun e w' => e = .returned (.bool true) ∧ Below w.heap.size w w' := by
  by_cases he : netErr caps paths = 0
  · exact fillFair_yes C cc caps P cp paths w hc hp he
  · exact fillFair_err C cc caps P cp paths w hc hp _ rfl he
end Go.Proofs.Ythffjnfnfddpdaa
