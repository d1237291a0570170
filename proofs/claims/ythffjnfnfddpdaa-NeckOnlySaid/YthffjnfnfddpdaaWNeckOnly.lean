/- The walk of NeckOnly: it returns true for every input. -/
import Derived.Test.YthffjnfnfddpdaaLibJ
import Derived.Test.YthffjnfnfddpdaaFrSame
import Derived.Test.YthffjnfnfddpdaaTopOne
import Derived.Test.YthffjnfnfddpdaaRefNet
namespace Go.Proofs.Ythffjnfnfddpdaa
open Go.RowKit
attribute [local go_sem ↓] run_min_mn run_max_mx
theorem neckOnly_fact (a b : Int) (bb : Bool) (g1 g2 g3 g4 gf : Nat) (w : World) (Q : List Rat) (hQ : Q.map frQ = [⟨a, 1⟩, ⟨b, 1⟩]) (hq : ∀ q ∈ Q, QIn q) (hL : loadsTo [[0], [0]] Q 1 = some [6]) (hb : fairP [6] [[0], [0]] Q [6] = bb)
    (h1 : Blk w g1 3 #[.int .i64 6]) (h2 : Blk w g2 3 #[.int .i64 0]) (h3 : Blk w g3 3 #[.int .i64 0]) (h4 : Blk w g4 38 #[.slice (some ⟨g2, 0, none⟩) 1 1, .slice (some ⟨g3, 0, none⟩) 1 1]) (h5 : Blk w gf 44 #[.int .i64 a, .int .i64 1, .int .i64 b, .int .i64 1]) :
    Calls Try.prog 53 #[.agg #[.slice (some ⟨g1, 0, none⟩) 1 1, .slice (some ⟨g4, 0, none⟩) 2 2], .slice (some ⟨gf, 0, none⟩) 2 2] w fun e w' => e = .returned (.tuple #[.bool bb, .nilIface]) ∧ Below w.heap.size w w' := by
  have hl : Q.length = 2 := by have := congrArg List.length hQ; simpa using this
  exact nfair_yes (some ⟨g1, 0, none⟩) 1 [6] (some ⟨g4, 0, none⟩) 2 2 [[0], [0]] (some ⟨gf, 0, none⟩) 2 2 Q [6] bb w.heap.size w (Nat.le_refl _) (Ints.blk (l := [6]) h1 h1.lt (by decide)) (Rows2.blk2 (l1 := [0]) (l2 := [0]) h4 (Ints.blk (l := [0]) h2 h2.lt (by decide)) (Ints.blk (l := [0]) h3 h3.lt (by decide)) h4.lt) (by rw [hQ]; exact Frs.blk2 h5 h5.lt) rfl hl.symm (by decide) hl hq hL hb
theorem qin_all {Q : List Rat} (h : (Q.all fun q => decide (QIn q)) = true) : ∀ q ∈ Q, QIn q := fun q hq => of_decide_eq_true (List.all_eq_true.1 h q hq)
theorem frs_inj {R Q : List Rat} (h : R.map frQ = Q.map frQ) : R = Q := by
  apply List.ext_getElem
  · have := congrArg List.length h; simpa using this
  · intro i h1 h2
    have := congrArg (fun l => l[i]?) h
    simp only [List.getElem?_map, List.getElem?_eq_getElem h1, List.getElem?_eq_getElem h2, Option.map_some, Option.some.injEq] at this
    exact frQ_inj this
/-- what is fair is what rises together -/
theorem fair_same {caps : List Int} {paths : List (List Int)} {K : Nat} {R Q L : List Rat} (hn : netErr caps paths = 0) (hK : FillEnds caps paths K R) (hl : Q.length = paths.length) (hL : loadsTo paths Q caps.length = some L) : decide (R.map frQ = Q.map frQ) = fairP caps paths Q L := by
  have ok := netOk_of hn
  have hRl := hK.len ok
  rw [Bool.eq_iff_iff, decide_eq_true_eq, fairP_iff ok hl hL]
  constructor
  · intro h
    have e : R = Q := frs_inj h
    rw [← e]
    exact hK.fair ok
  · intro h
    have ho := MM.only (hK.fair ok) h
    congr 1
    apply List.ext_getElem
    · rw [hRl, hl]
    · intro i h1 h2
      have := ho i (by show i < paths.length; omega)
      unfold rateOf at this
      rw [List.getD_eq_getElem?_getD, List.getD_eq_getElem?_getD, List.getElem?_eq_getElem h1, List.getElem?_eq_getElem h2] at this
      exact this
set_option maxHeartbeats 8000000 in
set_option maxRecDepth 100000 in
theorem neckOnly_err (C : Option Addr) (cc : Nat) (caps : List Int) (P : Option Addr) (cp : Nat) (paths : List (List Int)) (A : Option Addr) (c : Nat) (S : List Fr) (w : World) (hc : Ints w w.heap.size C cc caps) (hp : Rows2 w w.heap.size P cp paths) (hr : Frs w w.heap.size A c S) (er : Int) (hx : (chkErr caps paths S = er ∧ er ≠ 0) ∨ (∃ Q : List Rat, S = Q.map frQ ∧ netErr caps paths = 0 ∧ Q.length = paths.length ∧ (∀ q ∈ Q, QIn q) ∧ loadsTo paths Q caps.length = none ∧ er = 4)) (h0 : er ≠ 0) :
    Calls Try.prog 18 #[.agg #[.slice C caps.length cc, .slice P paths.length cp], .slice A S.length c] w fun e w' => e = .returned (.bool true) ∧ Below w.heap.size w w' := by
  have HC := Lib.hid hc
  have HP := Lib.hid hp
  have HR := Lib.hid hr
  have hpm := hp.cap; have hpl := hp.le
  unfold maxLen at hpm
  clear hc hp hr
  have HX := Lib.hid hx; have H0 := Lib.hid h0; clear hx h0
  have BEL : Hid (Below w.heap.size w w) := Lib.hid (Below.refl _ _)
  have yB : w.heap.size ≤ w.heap.size := Nat.le_refl _
  go_enter Try.func18, Try.ntmps18
  go_wp2_with fail
  refine (neckOnly_fact 3 3 true (w.heap.size + 1) (w.heap.size + 1 + 1) (w.heap.size + 1 + 1 + 1) (w.heap.size + 1 + 1 + 1 + 1) (w.heap.size + 1 + 1 + 1 + 1 + 1 + 1) _ [3, 3] rfl (qin_all (by decide +kernel)) (by decide +kernel) (by decide +kernel) (by repeat (first | (with_reducible apply Blk.new'; first | with_reducible rfl | (focus (simp; done))) | with_reducible apply Blk.alloc)) (by repeat (first | (with_reducible apply Blk.new'; first | with_reducible rfl | (focus (simp; done))) | with_reducible apply Blk.alloc)) (by repeat (first | (with_reducible apply Blk.new'; first | with_reducible rfl | (focus (simp; done))) | with_reducible apply Blk.alloc)) (by repeat (first | (with_reducible apply Blk.new'; first | with_reducible rfl | (focus (simp; done))) | with_reducible apply Blk.alloc)) (by repeat (first | (with_reducible apply Blk.new'; first | with_reducible rfl | (focus (simp; done))) | with_reducible apply Blk.alloc))).mono ?_; rintro e w1 ⟨rfl, hb1⟩
  have hk : Below w.heap.size w w1 := Below.trans (by repeat (first | with_reducible exact Below.refl _ _ | with_reducible apply Below.drew | with_reducible apply below_drewN | with_reducible apply Below.alloc | omega | (focus (simp; done)) | (simp; omega))) (hb1.mono (by first | omega | (simp; done) | (simp; omega)))
  have HN := Lib.hid (show Blk w1 (w.heap.size) 56 _ from Blk.go (by repeat (first | (with_reducible apply Blk.new'; first | with_reducible rfl | (focus (simp; done))) | with_reducible apply Blk.alloc | with_reducible apply Blk.drew | with_reducible apply Blk.drewN)) hb1)
  have Ha := Lib.hid (show Blk w1 (w.heap.size + 1) 3 _ from Blk.go (by repeat (first | (with_reducible apply Blk.new'; first | with_reducible rfl | (focus (simp; done))) | with_reducible apply Blk.alloc | with_reducible apply Blk.drew | with_reducible apply Blk.drewN)) hb1)
  have Hb := Lib.hid (show Blk w1 (w.heap.size + 1 + 1) 3 _ from Blk.go (by repeat (first | (with_reducible apply Blk.new'; first | with_reducible rfl | (focus (simp; done))) | with_reducible apply Blk.alloc | with_reducible apply Blk.drew | with_reducible apply Blk.drewN)) hb1)
  have Hc := Lib.hid (show Blk w1 (w.heap.size + 1 + 1 + 1) 3 _ from Blk.go (by repeat (first | (with_reducible apply Blk.new'; first | with_reducible rfl | (focus (simp; done))) | with_reducible apply Blk.alloc | with_reducible apply Blk.drew | with_reducible apply Blk.drewN)) hb1)
  have Hd := Lib.hid (show Blk w1 (w.heap.size + 1 + 1 + 1 + 1) 38 _ from Blk.go (by repeat (first | (with_reducible apply Blk.new'; first | with_reducible rfl | (focus (simp; done))) | with_reducible apply Blk.alloc | with_reducible apply Blk.drew | with_reducible apply Blk.drewN)) hb1)
  have HO := Lib.hid (show Blk w1 (w.heap.size + 1 + 1 + 1 + 1 + 1) 56 _ from Blk.go (by repeat (first | (with_reducible apply Blk.new'; first | with_reducible rfl | (focus (simp; done))) | with_reducible apply Blk.alloc | with_reducible apply Blk.drew | with_reducible apply Blk.drewN)) hb1)
  replace BEL : Hid (Below w.heap.size w w1) := Lib.hid (BEL.out.trans (hk.mono BEL.out.size))
  have z_w1 := hk.size; have y_w1 := BEL.out.size; clear hk hb1
  obtain ⟨pN0, pN1, fN0, fN1, zN, zN_1, zN_2, zN_3⟩ := HN.out.two'
  obtain ⟨pa0, fa0, za, za_1, za_2, za_3⟩ := Ha.out.one'
  obtain ⟨pb0, fb0, zb, zb_1, zb_2, zb_3⟩ := Hb.out.one'
  obtain ⟨pc0, fc0, zc, zc_1, zc_2, zc_3⟩ := Hc.out.one'
  obtain ⟨pd0, pd1, fd0, fd1, zd, zd_1, zd_2, zd_3⟩ := Hd.out.two'
  obtain ⟨pO0, pO1, fO0, fO1, zO, zO_1, zO_2, zO_3⟩ := HO.out.two'
  go_wp2_with fail
  refine (neckOnly_fact 2 4 false (w.heap.size + 1) (w.heap.size + 1 + 1) (w.heap.size + 1 + 1 + 1) (w.heap.size + 1 + 1 + 1 + 1) (w1.heap.size) _ [2, 4] rfl (qin_all (by decide +kernel)) (by decide +kernel) (by decide +kernel) (by repeat (first | with_reducible exact Ha.out | with_reducible apply Blk.alloc)) (by repeat (first | with_reducible exact Hb.out | with_reducible apply Blk.alloc)) (by repeat (first | with_reducible exact Hc.out | with_reducible apply Blk.alloc)) (by repeat (first | with_reducible exact Hd.out | with_reducible apply Blk.alloc)) (by repeat (first | (with_reducible apply Blk.new'; first | with_reducible rfl | (focus (simp; done))) | with_reducible apply Blk.alloc))).mono ?_; rintro e w2 ⟨rfl, hb2⟩
  have hk : Below w1.heap.size w1 w2 := Below.trans (by repeat (first | with_reducible exact Below.refl _ _ | with_reducible apply Below.drew | with_reducible apply below_drewN | with_reducible apply Below.alloc | omega | (focus (simp; done)) | (simp; omega))) (hb2.mono (by first | omega | (simp; done) | (simp; omega)))
  replace HN := Lib.hid (HN.out.go hk)
  replace Ha := Lib.hid (Ha.out.go hk)
  replace Hb := Lib.hid (Hb.out.go hk)
  replace Hc := Lib.hid (Hc.out.go hk)
  replace Hd := Lib.hid (Hd.out.go hk)
  replace HO := Lib.hid (HO.out.go hk)
  replace BEL : Hid (Below w.heap.size w w2) := Lib.hid (BEL.out.trans (hk.mono BEL.out.size))
  have z_w2 := hk.size; have y_w2 := BEL.out.size; clear hk hb2
  clear pN0 pN1 fN0 fN1 zN zN_1 zN_2 zN_3 pa0 fa0 za za_1 za_2 za_3 pb0 fb0 zb zb_1 zb_2 zb_3 pc0 fc0 zc zc_1 zc_2 zc_3 pd0 pd1 fd0 fd1 zd zd_1 zd_2 zd_3 pO0 pO1 fO0 fO1 zO zO_1 zO_2 zO_3
  obtain ⟨pN0, pN1, fN0, fN1, zN, zN_1, zN_2, zN_3⟩ := HN.out.two'
  obtain ⟨pa0, fa0, za, za_1, za_2, za_3⟩ := Ha.out.one'
  obtain ⟨pb0, fb0, zb, zb_1, zb_2, zb_3⟩ := Hb.out.one'
  obtain ⟨pc0, fc0, zc, zc_1, zc_2, zc_3⟩ := Hc.out.one'
  obtain ⟨pd0, pd1, fd0, fd1, zd, zd_1, zd_2, zd_3⟩ := Hd.out.two'
  obtain ⟨pO0, pO1, fO0, fO1, zO, zO_1, zO_2, zO_3⟩ := HO.out.two'
  clear pa0 fa0 za za_1 za_2 za_3
  clear Ha
  clear pb0 fb0 zb zb_1 zb_2 zb_3
  clear Hb
  clear pc0 fc0 zc zc_1 zc_2 zc_3
  clear Hc
  clear pd0 pd1 fd0 fd1 zd zd_1 zd_2 zd_3
  clear Hd
  clear pO0 pO1 fO0 fO1 zO zO_1 zO_2 zO_3
  clear HO
  go_wp2_with fail
  refine (nfair_er C cc caps P cp _ paths A c _ S w.heap.size _ er (by first | omega | (focus (simp; done)) | (simp; omega)) (HC.out.below (by repeat (first | with_reducible exact BEL.out | with_reducible apply Below.alloc | with_reducible apply Below.setCell | with_reducible apply Below.drew | with_reducible apply below_drewN | (first | omega | (focus (simp; done)) | (focus (simp; omega)) | (focus (simp [World.setCell]; omega))))) (Nat.le_refl _)) (HP.out.below (by repeat (first | with_reducible exact BEL.out | with_reducible apply Below.alloc | with_reducible apply Below.setCell | with_reducible apply Below.drew | with_reducible apply below_drewN | (first | omega | (focus (simp; done)) | (focus (simp; omega)) | (focus (simp [World.setCell]; omega))))) (Nat.le_refl _)) (HR.out.below (by repeat (first | with_reducible exact BEL.out | with_reducible apply Below.alloc | with_reducible apply Below.setCell | with_reducible apply Below.drew | with_reducible apply below_drewN | (first | omega | (focus (simp; done)) | (focus (simp; omega)) | (focus (simp [World.setCell]; omega))))) (Nat.le_refl _)) rfl rfl HX.out).mono ?_; rintro e w3 ⟨rfl, hb3⟩
  have hk : Below w2.heap.size w2 w3 := Below.trans (by repeat (first | with_reducible exact Below.refl _ _ | with_reducible apply Below.drew | with_reducible apply below_drewN | with_reducible apply Below.alloc | omega | (focus (simp; done)) | (simp; omega))) (hb3.mono (by first | omega | (simp; done) | (simp; omega)))
  replace HN := Lib.hid (HN.out.go hk)
  replace BEL : Hid (Below w.heap.size w w3) := Lib.hid (BEL.out.trans (hk.mono BEL.out.size))
  have z_w3 := hk.size; have y_w3 := BEL.out.size; clear hk hb3
  clear pN0 pN1 fN0 fN1 zN zN_1 zN_2 zN_3
  obtain ⟨pN0, pN1, fN0, fN1, zN, zN_1, zN_2, zN_3⟩ := HN.out.two'
  have hne := H0.out
  go_wp2
  go_ret
  exact ⟨rfl, (by repeat (first | with_reducible exact BEL.out | with_reducible apply Below.alloc | with_reducible apply Below.setCell | with_reducible apply Below.drew | with_reducible apply below_drewN | (first | omega | (focus (simp; done)) | (focus (simp; omega)) | (focus (simp [World.setCell]; omega)))))⟩
set_option maxHeartbeats 8000000 in
set_option maxRecDepth 100000 in
theorem neckOnly_true (C : Option Addr) (cc : Nat) (caps : List Int) (P : Option Addr) (cp : Nat) (paths : List (List Int)) (A : Option Addr) (c : Nat) (S : List Fr) (w : World) (hc : Ints w w.heap.size C cc caps) (hp : Rows2 w w.heap.size P cp paths) (hr : Frs w w.heap.size A c S) (Q L : List Rat) (hS : S = Q.map frQ) (he : netErr caps paths = 0) (hl : Q.length = paths.length) (hq : ∀ q ∈ Q, QIn q) (hL : loadsTo paths Q caps.length = some L) (hb : fairP caps paths Q L = true) :
    Calls Try.prog 18 #[.agg #[.slice C caps.length cc, .slice P paths.length cp], .slice A S.length c] w fun e w' => e = .returned (.bool true) ∧ Below w.heap.size w w' := by
  have HC := Lib.hid hc
  have HP := Lib.hid hp
  have HR := Lib.hid hr
  have hpm := hp.cap; have hpl := hp.le
  unfold maxLen at hpm
  clear hc hp hr
  subst hS
  obtain ⟨K, R, hK⟩ := fill_ends (netOk_of he)
  have HSM := Lib.hid (fair_same he hK hl hL)
  obtain ⟨V, hV⟩ : ∃ V, necks paths Q ((fulls caps L).map fun (i : Nat) => (i : Int)) paths.length = V := ⟨_, rfl⟩
  have hVl : V.length = paths.length := by rw [← hV, necks_len]
  have hn6 := (netErr_ok he).2.2.2.1
  have HNI := Lib.hid fun (f : Nat) (hf : f < paths.length) => neck_iff (netOk_of he) hL hf
  have HE := Lib.hid he; have HQL := Lib.hid hl; have HQ := Lib.hid hq; have HL := Lib.hid hL; have HB := Lib.hid hb; have HK := Lib.hid hK; have HV := Lib.hid hV; have HVL := Lib.hid hVl
  have hvp : ((V.length : Int) != (paths.length : Int)) = false := by rw [hVl]; simp
  have hv6 : V.length ≤ 6 := by omega
  rw [List.length_map]
  clear he hl hq hL hb hK hV hVl
  have BEL : Hid (Below w.heap.size w w) := Lib.hid (Below.refl _ _)
  have yB : w.heap.size ≤ w.heap.size := Nat.le_refl _
  go_enter Try.func18, Try.ntmps18
  go_wp2_with fail
  refine (neckOnly_fact 3 3 true (w.heap.size + 1) (w.heap.size + 1 + 1) (w.heap.size + 1 + 1 + 1) (w.heap.size + 1 + 1 + 1 + 1) (w.heap.size + 1 + 1 + 1 + 1 + 1 + 1) _ [3, 3] rfl (qin_all (by decide +kernel)) (by decide +kernel) (by decide +kernel) (by repeat (first | (with_reducible apply Blk.new'; first | with_reducible rfl | (focus (simp; done))) | with_reducible apply Blk.alloc)) (by repeat (first | (with_reducible apply Blk.new'; first | with_reducible rfl | (focus (simp; done))) | with_reducible apply Blk.alloc)) (by repeat (first | (with_reducible apply Blk.new'; first | with_reducible rfl | (focus (simp; done))) | with_reducible apply Blk.alloc)) (by repeat (first | (with_reducible apply Blk.new'; first | with_reducible rfl | (focus (simp; done))) | with_reducible apply Blk.alloc)) (by repeat (first | (with_reducible apply Blk.new'; first | with_reducible rfl | (focus (simp; done))) | with_reducible apply Blk.alloc))).mono ?_; rintro e w1 ⟨rfl, hb1⟩
  have hk : Below w.heap.size w w1 := Below.trans (by repeat (first | with_reducible exact Below.refl _ _ | with_reducible apply Below.drew | with_reducible apply below_drewN | with_reducible apply Below.alloc | omega | (focus (simp; done)) | (simp; omega))) (hb1.mono (by first | omega | (simp; done) | (simp; omega)))
  have HN := Lib.hid (show Blk w1 (w.heap.size) 56 _ from Blk.go (by repeat (first | (with_reducible apply Blk.new'; first | with_reducible rfl | (focus (simp; done))) | with_reducible apply Blk.alloc | with_reducible apply Blk.drew | with_reducible apply Blk.drewN)) hb1)
  have Ha := Lib.hid (show Blk w1 (w.heap.size + 1) 3 _ from Blk.go (by repeat (first | (with_reducible apply Blk.new'; first | with_reducible rfl | (focus (simp; done))) | with_reducible apply Blk.alloc | with_reducible apply Blk.drew | with_reducible apply Blk.drewN)) hb1)
  have Hb := Lib.hid (show Blk w1 (w.heap.size + 1 + 1) 3 _ from Blk.go (by repeat (first | (with_reducible apply Blk.new'; first | with_reducible rfl | (focus (simp; done))) | with_reducible apply Blk.alloc | with_reducible apply Blk.drew | with_reducible apply Blk.drewN)) hb1)
  have Hc := Lib.hid (show Blk w1 (w.heap.size + 1 + 1 + 1) 3 _ from Blk.go (by repeat (first | (with_reducible apply Blk.new'; first | with_reducible rfl | (focus (simp; done))) | with_reducible apply Blk.alloc | with_reducible apply Blk.drew | with_reducible apply Blk.drewN)) hb1)
  have Hd := Lib.hid (show Blk w1 (w.heap.size + 1 + 1 + 1 + 1) 38 _ from Blk.go (by repeat (first | (with_reducible apply Blk.new'; first | with_reducible rfl | (focus (simp; done))) | with_reducible apply Blk.alloc | with_reducible apply Blk.drew | with_reducible apply Blk.drewN)) hb1)
  have HO := Lib.hid (show Blk w1 (w.heap.size + 1 + 1 + 1 + 1 + 1) 56 _ from Blk.go (by repeat (first | (with_reducible apply Blk.new'; first | with_reducible rfl | (focus (simp; done))) | with_reducible apply Blk.alloc | with_reducible apply Blk.drew | with_reducible apply Blk.drewN)) hb1)
  replace BEL : Hid (Below w.heap.size w w1) := Lib.hid (BEL.out.trans (hk.mono BEL.out.size))
  have z_w1 := hk.size; have y_w1 := BEL.out.size; clear hk hb1
  obtain ⟨pN0, pN1, fN0, fN1, zN, zN_1, zN_2, zN_3⟩ := HN.out.two'
  obtain ⟨pa0, fa0, za, za_1, za_2, za_3⟩ := Ha.out.one'
  obtain ⟨pb0, fb0, zb, zb_1, zb_2, zb_3⟩ := Hb.out.one'
  obtain ⟨pc0, fc0, zc, zc_1, zc_2, zc_3⟩ := Hc.out.one'
  obtain ⟨pd0, pd1, fd0, fd1, zd, zd_1, zd_2, zd_3⟩ := Hd.out.two'
  obtain ⟨pO0, pO1, fO0, fO1, zO, zO_1, zO_2, zO_3⟩ := HO.out.two'
  go_wp2_with fail
  refine (neckOnly_fact 2 4 false (w.heap.size + 1) (w.heap.size + 1 + 1) (w.heap.size + 1 + 1 + 1) (w.heap.size + 1 + 1 + 1 + 1) (w1.heap.size) _ [2, 4] rfl (qin_all (by decide +kernel)) (by decide +kernel) (by decide +kernel) (by repeat (first | with_reducible exact Ha.out | with_reducible apply Blk.alloc)) (by repeat (first | with_reducible exact Hb.out | with_reducible apply Blk.alloc)) (by repeat (first | with_reducible exact Hc.out | with_reducible apply Blk.alloc)) (by repeat (first | with_reducible exact Hd.out | with_reducible apply Blk.alloc)) (by repeat (first | (with_reducible apply Blk.new'; first | with_reducible rfl | (focus (simp; done))) | with_reducible apply Blk.alloc))).mono ?_; rintro e w2 ⟨rfl, hb2⟩
  have hk : Below w1.heap.size w1 w2 := Below.trans (by repeat (first | with_reducible exact Below.refl _ _ | with_reducible apply Below.drew | with_reducible apply below_drewN | with_reducible apply Below.alloc | omega | (focus (simp; done)) | (simp; omega))) (hb2.mono (by first | omega | (simp; done) | (simp; omega)))
  replace HN := Lib.hid (HN.out.go hk)
  replace Ha := Lib.hid (Ha.out.go hk)
  replace Hb := Lib.hid (Hb.out.go hk)
  replace Hc := Lib.hid (Hc.out.go hk)
  replace Hd := Lib.hid (Hd.out.go hk)
  replace HO := Lib.hid (HO.out.go hk)
  replace BEL : Hid (Below w.heap.size w w2) := Lib.hid (BEL.out.trans (hk.mono BEL.out.size))
  have z_w2 := hk.size; have y_w2 := BEL.out.size; clear hk hb2
  clear pN0 pN1 fN0 fN1 zN zN_1 zN_2 zN_3 pa0 fa0 za za_1 za_2 za_3 pb0 fb0 zb zb_1 zb_2 zb_3 pc0 fc0 zc zc_1 zc_2 zc_3 pd0 pd1 fd0 fd1 zd zd_1 zd_2 zd_3 pO0 pO1 fO0 fO1 zO zO_1 zO_2 zO_3
  obtain ⟨pN0, pN1, fN0, fN1, zN, zN_1, zN_2, zN_3⟩ := HN.out.two'
  obtain ⟨pa0, fa0, za, za_1, za_2, za_3⟩ := Ha.out.one'
  obtain ⟨pb0, fb0, zb, zb_1, zb_2, zb_3⟩ := Hb.out.one'
  obtain ⟨pc0, fc0, zc, zc_1, zc_2, zc_3⟩ := Hc.out.one'
  obtain ⟨pd0, pd1, fd0, fd1, zd, zd_1, zd_2, zd_3⟩ := Hd.out.two'
  obtain ⟨pO0, pO1, fO0, fO1, zO, zO_1, zO_2, zO_3⟩ := HO.out.two'
  clear pa0 fa0 za za_1 za_2 za_3
  clear Ha
  clear pb0 fb0 zb zb_1 zb_2 zb_3
  clear Hb
  clear pc0 fc0 zc zc_1 zc_2 zc_3
  clear Hc
  clear pd0 pd1 fd0 fd1 zd zd_1 zd_2 zd_3
  clear Hd
  clear pO0 pO1 fO0 fO1 zO zO_1 zO_2 zO_3
  clear HO
  go_wp2_with fail
  refine (nfair_yes C cc caps P cp _ paths A c _ Q L true w.heap.size _ (by first | omega | (focus (simp; done)) | (simp; omega)) (HC.out.below (by repeat (first | with_reducible exact BEL.out | with_reducible apply Below.alloc | with_reducible apply Below.setCell | with_reducible apply Below.drew | with_reducible apply below_drewN | (first | omega | (focus (simp; done)) | (focus (simp; omega)) | (focus (simp [World.setCell]; omega))))) (Nat.le_refl _)) (HP.out.below (by repeat (first | with_reducible exact BEL.out | with_reducible apply Below.alloc | with_reducible apply Below.setCell | with_reducible apply Below.drew | with_reducible apply below_drewN | (first | omega | (focus (simp; done)) | (focus (simp; omega)) | (focus (simp [World.setCell]; omega))))) (Nat.le_refl _)) (HR.out.below (by repeat (first | with_reducible exact BEL.out | with_reducible apply Below.alloc | with_reducible apply Below.setCell | with_reducible apply Below.drew | with_reducible apply below_drewN | (first | omega | (focus (simp; done)) | (focus (simp; omega)) | (focus (simp [World.setCell]; omega))))) (Nat.le_refl _)) rfl rfl HE.out HQL.out HQ.out HL.out HB.out).mono ?_; rintro e w3 ⟨rfl, hb3⟩
  have hk : Below w2.heap.size w2 w3 := Below.trans (by repeat (first | with_reducible exact Below.refl _ _ | with_reducible apply Below.drew | with_reducible apply below_drewN | with_reducible apply Below.alloc | omega | (focus (simp; done)) | (simp; omega))) (hb3.mono (by first | omega | (simp; done) | (simp; omega)))
  replace HN := Lib.hid (HN.out.go hk)
  replace BEL : Hid (Below w.heap.size w w3) := Lib.hid (BEL.out.trans (hk.mono BEL.out.size))
  have z_w3 := hk.size; have y_w3 := BEL.out.size; clear hk hb3
  clear pN0 pN1 fN0 fN1 zN zN_1 zN_2 zN_3
  obtain ⟨pN0, pN1, fN0, fN1, zN, zN_1, zN_2, zN_3⟩ := HN.out.two'
  go_wp2_with fail
  refine (frates_yes C cc caps P cp _ paths w.heap.size _ K R (by first | omega | (focus (simp; done)) | (simp; omega)) (HC.out.below (by repeat (first | with_reducible exact BEL.out | with_reducible apply Below.alloc | with_reducible apply Below.setCell | with_reducible apply Below.drew | with_reducible apply below_drewN | (first | omega | (focus (simp; done)) | (focus (simp; omega)) | (focus (simp [World.setCell]; omega))))) (Nat.le_refl _)) (HP.out.below (by repeat (first | with_reducible exact BEL.out | with_reducible apply Below.alloc | with_reducible apply Below.setCell | with_reducible apply Below.drew | with_reducible apply below_drewN | (first | omega | (focus (simp; done)) | (focus (simp; omega)) | (focus (simp [World.setCell]; omega))))) (Nat.le_refl _)) rfl HE.out HK.out).mono ?_; rintro e w4 ⟨A1, c1, rfl, hf1, hb4⟩
  have hk : Below w3.heap.size w3 w4 := Below.trans (by repeat (first | with_reducible exact Below.refl _ _ | with_reducible apply Below.drew | with_reducible apply below_drewN | with_reducible apply Below.alloc | omega | (focus (simp; done)) | (simp; omega))) (hb4.mono (by first | omega | (simp; done) | (simp; omega)))
  replace HN := Lib.hid (HN.out.go hk)
  replace BEL : Hid (Below w.heap.size w w4) := Lib.hid (BEL.out.trans (hk.mono BEL.out.size))
  have z_w4 := hk.size; have y_w4 := BEL.out.size; clear hk hb4
  clear pN0 pN1 fN0 fN1 zN zN_1 zN_2 zN_3
  obtain ⟨pN0, pN1, fN0, fN1, zN, zN_1, zN_2, zN_3⟩ := HN.out.two'
  have HF1 := Lib.hid hf1; clear hf1
  go_wp2_with fail
  refine (sameFr_any A1 A c1 c _ _ (R.map frQ) (Q.map frQ) _ w.heap.size _ (HF1.out.at' (by repeat (first | with_reducible exact Below.refl _ _ | with_reducible apply Below.drew | with_reducible apply below_drewN | with_reducible apply Below.alloc | omega | (focus (simp; done)) | (simp; omega)))) (HR.out.below (by repeat (first | with_reducible exact BEL.out | with_reducible apply Below.alloc | with_reducible apply Below.setCell | with_reducible apply Below.drew | with_reducible apply below_drewN | (first | omega | (focus (simp; done)) | (focus (simp; omega)) | (focus (simp [World.setCell]; omega))))) (Nat.le_refl _)) (by simp) (by simp) (Nat.le_refl _) (by first | omega | (focus (simp; done)) | (simp; omega)) true (by rw [HSM.out]; exact HB.out)).mono ?_; rintro e w5 ⟨rfl, hb5⟩
  have hk : Below w4.heap.size w4 w5 := Below.trans (by repeat (first | with_reducible exact Below.refl _ _ | with_reducible apply Below.drew | with_reducible apply below_drewN | with_reducible apply Below.alloc | omega | (focus (simp; done)) | (simp; omega))) (hb5.mono (by first | omega | (simp; done) | (simp; omega)))
  replace HN := Lib.hid (HN.out.go hk)
  replace HF1 := Lib.hid (HF1.out.at' hk)
  replace BEL : Hid (Below w.heap.size w w5) := Lib.hid (BEL.out.trans (hk.mono BEL.out.size))
  have z_w5 := hk.size; have y_w5 := BEL.out.size; clear hk hb5
  clear pN0 pN1 fN0 fN1 zN zN_1 zN_2 zN_3
  obtain ⟨pN0, pN1, fN0, fN1, zN, zN_1, zN_2, zN_3⟩ := HN.out.two'
  clear HF1
  go_wp2_with fail
  refine (necks_yes C cc caps P cp _ paths A c _ Q L w.heap.size _ (by first | omega | (focus (simp; done)) | (simp; omega)) (HC.out.below (by repeat (first | with_reducible exact BEL.out | with_reducible apply Below.alloc | with_reducible apply Below.setCell | with_reducible apply Below.drew | with_reducible apply below_drewN | (first | omega | (focus (simp; done)) | (focus (simp; omega)) | (focus (simp [World.setCell]; omega))))) (Nat.le_refl _)) (HP.out.below (by repeat (first | with_reducible exact BEL.out | with_reducible apply Below.alloc | with_reducible apply Below.setCell | with_reducible apply Below.drew | with_reducible apply below_drewN | (first | omega | (focus (simp; done)) | (focus (simp; omega)) | (focus (simp [World.setCell]; omega))))) (Nat.le_refl _)) (HR.out.below (by repeat (first | with_reducible exact BEL.out | with_reducible apply Below.alloc | with_reducible apply Below.setCell | with_reducible apply Below.drew | with_reducible apply below_drewN | (first | omega | (focus (simp; done)) | (focus (simp; omega)) | (focus (simp [World.setCell]; omega))))) (Nat.le_refl _)) rfl rfl HE.out HQL.out HQ.out HL.out V HV.out).mono ?_; rintro e w6 ⟨A2, c2, rfl, hi2, hb6⟩
  have hk : Below w5.heap.size w5 w6 := Below.trans (by repeat (first | with_reducible exact Below.refl _ _ | with_reducible apply Below.drew | with_reducible apply below_drewN | with_reducible apply Below.alloc | omega | (focus (simp; done)) | (simp; omega))) (hb6.mono (by first | omega | (simp; done) | (simp; omega)))
  replace HN := Lib.hid (HN.out.go hk)
  replace BEL : Hid (Below w.heap.size w w6) := Lib.hid (BEL.out.trans (hk.mono BEL.out.size))
  have z_w6 := hk.size; have y_w6 := BEL.out.size; clear hk hb6
  clear pN0 pN1 fN0 fN1 zN zN_1 zN_2 zN_3
  obtain ⟨pN0, pN1, fN0, fN1, zN, zN_1, zN_2, zN_3⟩ := HN.out.two'
  have HI2 := Lib.hid hi2; clear hi2
  go_wp2_with fail
  refine (nfull_yes C cc caps P cp _ paths A c _ Q L w.heap.size _ (by first | omega | (focus (simp; done)) | (simp; omega)) (HC.out.below (by repeat (first | with_reducible exact BEL.out | with_reducible apply Below.alloc | with_reducible apply Below.setCell | with_reducible apply Below.drew | with_reducible apply below_drewN | (first | omega | (focus (simp; done)) | (focus (simp; omega)) | (focus (simp [World.setCell]; omega))))) (Nat.le_refl _)) (HP.out.below (by repeat (first | with_reducible exact BEL.out | with_reducible apply Below.alloc | with_reducible apply Below.setCell | with_reducible apply Below.drew | with_reducible apply below_drewN | (first | omega | (focus (simp; done)) | (focus (simp; omega)) | (focus (simp [World.setCell]; omega))))) (Nat.le_refl _)) (HR.out.below (by repeat (first | with_reducible exact BEL.out | with_reducible apply Below.alloc | with_reducible apply Below.setCell | with_reducible apply Below.drew | with_reducible apply below_drewN | (first | omega | (focus (simp; done)) | (focus (simp; omega)) | (focus (simp [World.setCell]; omega))))) (Nat.le_refl _)) rfl rfl HE.out HQL.out HQ.out HL.out).mono ?_; rintro e w7 ⟨A3, c3, rfl, hi3, hb7⟩
  have hk : Below w6.heap.size w6 w7 := Below.trans (by repeat (first | with_reducible exact Below.refl _ _ | with_reducible apply Below.drew | with_reducible apply below_drewN | with_reducible apply Below.alloc | omega | (focus (simp; done)) | (simp; omega))) (hb7.mono (by first | omega | (simp; done) | (simp; omega)))
  replace HN := Lib.hid (HN.out.go hk)
  replace HI2 := Lib.hid (HI2.out.at' hk)
  replace BEL : Hid (Below w.heap.size w w7) := Lib.hid (BEL.out.trans (hk.mono BEL.out.size))
  have z_w7 := hk.size; have y_w7 := BEL.out.size; clear hk hb7
  clear pN0 pN1 fN0 fN1 zN zN_1 zN_2 zN_3
  obtain ⟨pN0, pN1, fN0, fN1, zN, zN_1, zN_2, zN_3⟩ := HN.out.two'
  have HI3 := Lib.hid hi3; clear hi3
  clear pN0 pN1 fN0 fN1 zN zN_1 zN_2 zN_3
  obtain ⟨wo, hwo⟩ : ∃ x, x = w7 := ⟨_, rfl⟩
  rw [← hwo] at HI2 HI3 HN BEL ⊢
  clear hwo
  obtain ⟨n0, n1, _, _, nz⟩ := HN.out.two
  have hbo := BEL.out.size
  have hm2 := HI2.out.cap; have hl2 := HI2.out.le
  unfold maxLen at hm2
  go_wp2
  go_loopw [18] (fun i wr => ∃ k d : Nat, k ≤ V.length ∧ i = .int .i64 k ∧ Hid (wr = wo.drewN d)) (fun i _ => V.length - (intOf i).toNat)
  case atStart => exact ⟨0, 0, Nat.zero_le _, rfl, Lib.hid rfl⟩
  case round =>
    clear n0 n1 nz
    obtain ⟨k, d, hk, rfl, HD⟩ := hrel
    have HBD : Hid (Below wo.heap.size wo wr) := Lib.hid (by rw [HD.out]; exact below_drewN (Below.refl _ _) _)
    have HND := Lib.hid (HN.out.go HBD.out)
    obtain ⟨n0, n1, _, _, nz⟩ := HND.out.two
    by_cases hlt : k < V.length
    · have k0 : (0 : Int) ≤ (k : Int) := by omega
      have hkp : k < paths.length := by have := HVL.out; omega
      have k1 : (k : Int) < (paths.length : Int) := by omega
      obtain ⟨b2, o2, v, rfl, hb2, hcv, _, _, HVX⟩ := (HI2.out.below HBD.out (Nat.le_refl _)).elem hlt
      have hvn : v = neckOf paths Q ((fulls caps L).map fun (i : Nat) => (i : Int)) k := by rw [← HVX.out, ← HV.out]; unfold necks; simp [List.getD_eq_getElem?_getD, hkp]
      have hbz : b2 < wr.heap.size := by have := HBD.out.size; omega
      by_cases hv1 : v = -1
      · clear hvn HVX
        subst hv1
        go_wp2
        go_roundw
        case rel => exact ⟨k + 1, d, by omega, by go_num, HD⟩
        case measure => simp [intOf]; omega
      · rcases HNI.out k hkp with ⟨h1, _⟩ | ⟨l, h1, h2, h3, _⟩
        · exact absurd (hvn.trans h1) hv1
        · have hvl : v = (l : Int) := hvn.trans h1
          have hvb : (v == -1) = false := beq_eq_false_iff_ne.2 hv1
          obtain ⟨bp, op, A', c', p, rfl, hbp, hcp, hip, HPX⟩ := ((HP.out.below BEL.out (Nat.le_refl _)).below HBD.out (by omega)).elem hkp
          have hpg : paths.getD k [] = p := by rw [List.getD_eq_getElem?_getD, HPX.out]; rfl
          have HON : Hid (inL p v = true) := Lib.hid (by rw [inL_iff, hvl, ← hpg]; exact h3)
          have HIS : Hid (inL ((fulls caps L).map fun (i : Nat) => (i : Int)) v = true) := Lib.hid (by rw [inL_iff, hvl]; exact List.mem_map_of_mem h2)
          have HIP := Lib.hid hip
          have hpz : bp < wr.heap.size := by have := HBD.out.size; omega
          clear hvn hvl h1 h2 h3 hv1 hip HPX hpg HVX
          go_wp2_with fail
          go_quiet ((go_at_call 59; exact quiet_left (refIn_any _ _ _ _ _ _ (HIP.out.below (below_drewN (Below.refl _ _) _) (Nat.le_refl _)) rfl _ _ HON.out)))
          go_wp2_with fail
          refine (refIn_any A3 c3 _ ((fulls caps L).map fun (i : Nat) => (i : Int)) wo.heap.size _ ((HI3.out.below HBD.out (Nat.le_refl _)).below (below_drewN (Below.refl _ _) _) (Nat.le_refl _)) (by simp) _ true HIS.out).mono ?_; rintro e w' ⟨rfl, rfl⟩
          go_wp2
          go_roundw
          case rel => exact ⟨k + 1, d + nq, by omega, by go_num, Lib.hid (by rw [HD.out, World.drewN_drewN])⟩
          case measure => simp [intOf]; omega
    · obtain rfl : k = V.length := by omega
      go_wp2
      go_ret
      exact ⟨rfl, BEL.out.trans (HBD.out.mono hbo)⟩
set_option maxHeartbeats 8000000 in
set_option maxRecDepth 100000 in
theorem neckOnly_false (C : Option Addr) (cc : Nat) (caps : List Int) (P : Option Addr) (cp : Nat) (paths : List (List Int)) (A : Option Addr) (c : Nat) (S : List Fr) (w : World) (hc : Ints w w.heap.size C cc caps) (hp : Rows2 w w.heap.size P cp paths) (hr : Frs w w.heap.size A c S) (Q L : List Rat) (hS : S = Q.map frQ) (he : netErr caps paths = 0) (hl : Q.length = paths.length) (hq : ∀ q ∈ Q, QIn q) (hL : loadsTo paths Q caps.length = some L) (hb : fairP caps paths Q L = false) :
    Calls Try.prog 18 #[.agg #[.slice C caps.length cc, .slice P paths.length cp], .slice A S.length c] w fun e w' => e = .returned (.bool true) ∧ Below w.heap.size w w' := by
  have HC := Lib.hid hc
  have HP := Lib.hid hp
  have HR := Lib.hid hr
  have hpm := hp.cap; have hpl := hp.le
  unfold maxLen at hpm
  clear hc hp hr
  subst hS
  obtain ⟨K, R, hK⟩ := fill_ends (netOk_of he)
  have HSM := Lib.hid (fair_same he hK hl hL)
  obtain ⟨V, hV⟩ : ∃ V, necks paths Q ((fulls caps L).map fun (i : Nat) => (i : Int)) paths.length = V := ⟨_, rfl⟩
  have hVl : V.length = paths.length := by rw [← hV, necks_len]
  have hn6 := (netErr_ok he).2.2.2.1
  have HNI := Lib.hid fun (f : Nat) (hf : f < paths.length) => neck_iff (netOk_of he) hL hf
  have HE := Lib.hid he; have HQL := Lib.hid hl; have HQ := Lib.hid hq; have HL := Lib.hid hL; have HB := Lib.hid hb; have HK := Lib.hid hK; have HV := Lib.hid hV; have HVL := Lib.hid hVl
  have hvp : ((V.length : Int) != (paths.length : Int)) = false := by rw [hVl]; simp
  have hv6 : V.length ≤ 6 := by omega
  rw [List.length_map]
  clear he hl hq hL hb hK hV hVl
  have BEL : Hid (Below w.heap.size w w) := Lib.hid (Below.refl _ _)
  have yB : w.heap.size ≤ w.heap.size := Nat.le_refl _
  go_enter Try.func18, Try.ntmps18
  go_wp2_with fail
  refine (neckOnly_fact 3 3 true (w.heap.size + 1) (w.heap.size + 1 + 1) (w.heap.size + 1 + 1 + 1) (w.heap.size + 1 + 1 + 1 + 1) (w.heap.size + 1 + 1 + 1 + 1 + 1 + 1) _ [3, 3] rfl (qin_all (by decide +kernel)) (by decide +kernel) (by decide +kernel) (by repeat (first | (with_reducible apply Blk.new'; first | with_reducible rfl | (focus (simp; done))) | with_reducible apply Blk.alloc)) (by repeat (first | (with_reducible apply Blk.new'; first | with_reducible rfl | (focus (simp; done))) | with_reducible apply Blk.alloc)) (by repeat (first | (with_reducible apply Blk.new'; first | with_reducible rfl | (focus (simp; done))) | with_reducible apply Blk.alloc)) (by repeat (first | (with_reducible apply Blk.new'; first | with_reducible rfl | (focus (simp; done))) | with_reducible apply Blk.alloc)) (by repeat (first | (with_reducible apply Blk.new'; first | with_reducible rfl | (focus (simp; done))) | with_reducible apply Blk.alloc))).mono ?_; rintro e w1 ⟨rfl, hb1⟩
  have hk : Below w.heap.size w w1 := Below.trans (by repeat (first | with_reducible exact Below.refl _ _ | with_reducible apply Below.drew | with_reducible apply below_drewN | with_reducible apply Below.alloc | omega | (focus (simp; done)) | (simp; omega))) (hb1.mono (by first | omega | (simp; done) | (simp; omega)))
  have HN := Lib.hid (show Blk w1 (w.heap.size) 56 _ from Blk.go (by repeat (first | (with_reducible apply Blk.new'; first | with_reducible rfl | (focus (simp; done))) | with_reducible apply Blk.alloc | with_reducible apply Blk.drew | with_reducible apply Blk.drewN)) hb1)
  have Ha := Lib.hid (show Blk w1 (w.heap.size + 1) 3 _ from Blk.go (by repeat (first | (with_reducible apply Blk.new'; first | with_reducible rfl | (focus (simp; done))) | with_reducible apply Blk.alloc | with_reducible apply Blk.drew | with_reducible apply Blk.drewN)) hb1)
  have Hb := Lib.hid (show Blk w1 (w.heap.size + 1 + 1) 3 _ from Blk.go (by repeat (first | (with_reducible apply Blk.new'; first | with_reducible rfl | (focus (simp; done))) | with_reducible apply Blk.alloc | with_reducible apply Blk.drew | with_reducible apply Blk.drewN)) hb1)
  have Hc := Lib.hid (show Blk w1 (w.heap.size + 1 + 1 + 1) 3 _ from Blk.go (by repeat (first | (with_reducible apply Blk.new'; first | with_reducible rfl | (focus (simp; done))) | with_reducible apply Blk.alloc | with_reducible apply Blk.drew | with_reducible apply Blk.drewN)) hb1)
  have Hd := Lib.hid (show Blk w1 (w.heap.size + 1 + 1 + 1 + 1) 38 _ from Blk.go (by repeat (first | (with_reducible apply Blk.new'; first | with_reducible rfl | (focus (simp; done))) | with_reducible apply Blk.alloc | with_reducible apply Blk.drew | with_reducible apply Blk.drewN)) hb1)
  have HO := Lib.hid (show Blk w1 (w.heap.size + 1 + 1 + 1 + 1 + 1) 56 _ from Blk.go (by repeat (first | (with_reducible apply Blk.new'; first | with_reducible rfl | (focus (simp; done))) | with_reducible apply Blk.alloc | with_reducible apply Blk.drew | with_reducible apply Blk.drewN)) hb1)
  replace BEL : Hid (Below w.heap.size w w1) := Lib.hid (BEL.out.trans (hk.mono BEL.out.size))
  have z_w1 := hk.size; have y_w1 := BEL.out.size; clear hk hb1
  obtain ⟨pN0, pN1, fN0, fN1, zN, zN_1, zN_2, zN_3⟩ := HN.out.two'
  obtain ⟨pa0, fa0, za, za_1, za_2, za_3⟩ := Ha.out.one'
  obtain ⟨pb0, fb0, zb, zb_1, zb_2, zb_3⟩ := Hb.out.one'
  obtain ⟨pc0, fc0, zc, zc_1, zc_2, zc_3⟩ := Hc.out.one'
  obtain ⟨pd0, pd1, fd0, fd1, zd, zd_1, zd_2, zd_3⟩ := Hd.out.two'
  obtain ⟨pO0, pO1, fO0, fO1, zO, zO_1, zO_2, zO_3⟩ := HO.out.two'
  go_wp2_with fail
  refine (neckOnly_fact 2 4 false (w.heap.size + 1) (w.heap.size + 1 + 1) (w.heap.size + 1 + 1 + 1) (w.heap.size + 1 + 1 + 1 + 1) (w1.heap.size) _ [2, 4] rfl (qin_all (by decide +kernel)) (by decide +kernel) (by decide +kernel) (by repeat (first | with_reducible exact Ha.out | with_reducible apply Blk.alloc)) (by repeat (first | with_reducible exact Hb.out | with_reducible apply Blk.alloc)) (by repeat (first | with_reducible exact Hc.out | with_reducible apply Blk.alloc)) (by repeat (first | with_reducible exact Hd.out | with_reducible apply Blk.alloc)) (by repeat (first | (with_reducible apply Blk.new'; first | with_reducible rfl | (focus (simp; done))) | with_reducible apply Blk.alloc))).mono ?_; rintro e w2 ⟨rfl, hb2⟩
  have hk : Below w1.heap.size w1 w2 := Below.trans (by repeat (first | with_reducible exact Below.refl _ _ | with_reducible apply Below.drew | with_reducible apply below_drewN | with_reducible apply Below.alloc | omega | (focus (simp; done)) | (simp; omega))) (hb2.mono (by first | omega | (simp; done) | (simp; omega)))
  replace HN := Lib.hid (HN.out.go hk)
  replace Ha := Lib.hid (Ha.out.go hk)
  replace Hb := Lib.hid (Hb.out.go hk)
  replace Hc := Lib.hid (Hc.out.go hk)
  replace Hd := Lib.hid (Hd.out.go hk)
  replace HO := Lib.hid (HO.out.go hk)
  replace BEL : Hid (Below w.heap.size w w2) := Lib.hid (BEL.out.trans (hk.mono BEL.out.size))
  have z_w2 := hk.size; have y_w2 := BEL.out.size; clear hk hb2
  clear pN0 pN1 fN0 fN1 zN zN_1 zN_2 zN_3 pa0 fa0 za za_1 za_2 za_3 pb0 fb0 zb zb_1 zb_2 zb_3 pc0 fc0 zc zc_1 zc_2 zc_3 pd0 pd1 fd0 fd1 zd zd_1 zd_2 zd_3 pO0 pO1 fO0 fO1 zO zO_1 zO_2 zO_3
  obtain ⟨pN0, pN1, fN0, fN1, zN, zN_1, zN_2, zN_3⟩ := HN.out.two'
  obtain ⟨pa0, fa0, za, za_1, za_2, za_3⟩ := Ha.out.one'
  obtain ⟨pb0, fb0, zb, zb_1, zb_2, zb_3⟩ := Hb.out.one'
  obtain ⟨pc0, fc0, zc, zc_1, zc_2, zc_3⟩ := Hc.out.one'
  obtain ⟨pd0, pd1, fd0, fd1, zd, zd_1, zd_2, zd_3⟩ := Hd.out.two'
  obtain ⟨pO0, pO1, fO0, fO1, zO, zO_1, zO_2, zO_3⟩ := HO.out.two'
  clear pa0 fa0 za za_1 za_2 za_3
  clear Ha
  clear pb0 fb0 zb zb_1 zb_2 zb_3
  clear Hb
  clear pc0 fc0 zc zc_1 zc_2 zc_3
  clear Hc
  clear pd0 pd1 fd0 fd1 zd zd_1 zd_2 zd_3
  clear Hd
  clear pO0 pO1 fO0 fO1 zO zO_1 zO_2 zO_3
  clear HO
  go_wp2_with fail
  refine (nfair_yes C cc caps P cp _ paths A c _ Q L false w.heap.size _ (by first | omega | (focus (simp; done)) | (simp; omega)) (HC.out.below (by repeat (first | with_reducible exact BEL.out | with_reducible apply Below.alloc | with_reducible apply Below.setCell | with_reducible apply Below.drew | with_reducible apply below_drewN | (first | omega | (focus (simp; done)) | (focus (simp; omega)) | (focus (simp [World.setCell]; omega))))) (Nat.le_refl _)) (HP.out.below (by repeat (first | with_reducible exact BEL.out | with_reducible apply Below.alloc | with_reducible apply Below.setCell | with_reducible apply Below.drew | with_reducible apply below_drewN | (first | omega | (focus (simp; done)) | (focus (simp; omega)) | (focus (simp [World.setCell]; omega))))) (Nat.le_refl _)) (HR.out.below (by repeat (first | with_reducible exact BEL.out | with_reducible apply Below.alloc | with_reducible apply Below.setCell | with_reducible apply Below.drew | with_reducible apply below_drewN | (first | omega | (focus (simp; done)) | (focus (simp; omega)) | (focus (simp [World.setCell]; omega))))) (Nat.le_refl _)) rfl rfl HE.out HQL.out HQ.out HL.out HB.out).mono ?_; rintro e w3 ⟨rfl, hb3⟩
  have hk : Below w2.heap.size w2 w3 := Below.trans (by repeat (first | with_reducible exact Below.refl _ _ | with_reducible apply Below.drew | with_reducible apply below_drewN | with_reducible apply Below.alloc | omega | (focus (simp; done)) | (simp; omega))) (hb3.mono (by first | omega | (simp; done) | (simp; omega)))
  replace HN := Lib.hid (HN.out.go hk)
  replace BEL : Hid (Below w.heap.size w w3) := Lib.hid (BEL.out.trans (hk.mono BEL.out.size))
  have z_w3 := hk.size; have y_w3 := BEL.out.size; clear hk hb3
  clear pN0 pN1 fN0 fN1 zN zN_1 zN_2 zN_3
  obtain ⟨pN0, pN1, fN0, fN1, zN, zN_1, zN_2, zN_3⟩ := HN.out.two'
  go_wp2_with fail
  refine (frates_yes C cc caps P cp _ paths w.heap.size _ K R (by first | omega | (focus (simp; done)) | (simp; omega)) (HC.out.below (by repeat (first | with_reducible exact BEL.out | with_reducible apply Below.alloc | with_reducible apply Below.setCell | with_reducible apply Below.drew | with_reducible apply below_drewN | (first | omega | (focus (simp; done)) | (focus (simp; omega)) | (focus (simp [World.setCell]; omega))))) (Nat.le_refl _)) (HP.out.below (by repeat (first | with_reducible exact BEL.out | with_reducible apply Below.alloc | with_reducible apply Below.setCell | with_reducible apply Below.drew | with_reducible apply below_drewN | (first | omega | (focus (simp; done)) | (focus (simp; omega)) | (focus (simp [World.setCell]; omega))))) (Nat.le_refl _)) rfl HE.out HK.out).mono ?_; rintro e w4 ⟨A1, c1, rfl, hf1, hb4⟩
  have hk : Below w3.heap.size w3 w4 := Below.trans (by repeat (first | with_reducible exact Below.refl _ _ | with_reducible apply Below.drew | with_reducible apply below_drewN | with_reducible apply Below.alloc | omega | (focus (simp; done)) | (simp; omega))) (hb4.mono (by first | omega | (simp; done) | (simp; omega)))
  replace HN := Lib.hid (HN.out.go hk)
  replace BEL : Hid (Below w.heap.size w w4) := Lib.hid (BEL.out.trans (hk.mono BEL.out.size))
  have z_w4 := hk.size; have y_w4 := BEL.out.size; clear hk hb4
  clear pN0 pN1 fN0 fN1 zN zN_1 zN_2 zN_3
  obtain ⟨pN0, pN1, fN0, fN1, zN, zN_1, zN_2, zN_3⟩ := HN.out.two'
  have HF1 := Lib.hid hf1; clear hf1
  go_wp2_with fail
  refine (sameFr_any A1 A c1 c _ _ (R.map frQ) (Q.map frQ) _ w.heap.size _ (HF1.out.at' (by repeat (first | with_reducible exact Below.refl _ _ | with_reducible apply Below.drew | with_reducible apply below_drewN | with_reducible apply Below.alloc | omega | (focus (simp; done)) | (simp; omega)))) (HR.out.below (by repeat (first | with_reducible exact BEL.out | with_reducible apply Below.alloc | with_reducible apply Below.setCell | with_reducible apply Below.drew | with_reducible apply below_drewN | (first | omega | (focus (simp; done)) | (focus (simp; omega)) | (focus (simp [World.setCell]; omega))))) (Nat.le_refl _)) (by simp) (by simp) (Nat.le_refl _) (by first | omega | (focus (simp; done)) | (simp; omega)) false (by rw [HSM.out]; exact HB.out)).mono ?_; rintro e w5 ⟨rfl, hb5⟩
  have hk : Below w4.heap.size w4 w5 := Below.trans (by repeat (first | with_reducible exact Below.refl _ _ | with_reducible apply Below.drew | with_reducible apply below_drewN | with_reducible apply Below.alloc | omega | (focus (simp; done)) | (simp; omega))) (hb5.mono (by first | omega | (simp; done) | (simp; omega)))
  replace HN := Lib.hid (HN.out.go hk)
  replace HF1 := Lib.hid (HF1.out.at' hk)
  replace BEL : Hid (Below w.heap.size w w5) := Lib.hid (BEL.out.trans (hk.mono BEL.out.size))
  have z_w5 := hk.size; have y_w5 := BEL.out.size; clear hk hb5
  clear pN0 pN1 fN0 fN1 zN zN_1 zN_2 zN_3
  obtain ⟨pN0, pN1, fN0, fN1, zN, zN_1, zN_2, zN_3⟩ := HN.out.two'
  clear HF1
  go_wp2_with fail
  refine (necks_yes C cc caps P cp _ paths A c _ Q L w.heap.size _ (by first | omega | (focus (simp; done)) | (simp; omega)) (HC.out.below (by repeat (first | with_reducible exact BEL.out | with_reducible apply Below.alloc | with_reducible apply Below.setCell | with_reducible apply Below.drew | with_reducible apply below_drewN | (first | omega | (focus (simp; done)) | (focus (simp; omega)) | (focus (simp [World.setCell]; omega))))) (Nat.le_refl _)) (HP.out.below (by repeat (first | with_reducible exact BEL.out | with_reducible apply Below.alloc | with_reducible apply Below.setCell | with_reducible apply Below.drew | with_reducible apply below_drewN | (first | omega | (focus (simp; done)) | (focus (simp; omega)) | (focus (simp [World.setCell]; omega))))) (Nat.le_refl _)) (HR.out.below (by repeat (first | with_reducible exact BEL.out | with_reducible apply Below.alloc | with_reducible apply Below.setCell | with_reducible apply Below.drew | with_reducible apply below_drewN | (first | omega | (focus (simp; done)) | (focus (simp; omega)) | (focus (simp [World.setCell]; omega))))) (Nat.le_refl _)) rfl rfl HE.out HQL.out HQ.out HL.out V HV.out).mono ?_; rintro e w6 ⟨A2, c2, rfl, hi2, hb6⟩
  have hk : Below w5.heap.size w5 w6 := Below.trans (by repeat (first | with_reducible exact Below.refl _ _ | with_reducible apply Below.drew | with_reducible apply below_drewN | with_reducible apply Below.alloc | omega | (focus (simp; done)) | (simp; omega))) (hb6.mono (by first | omega | (simp; done) | (simp; omega)))
  replace HN := Lib.hid (HN.out.go hk)
  replace BEL : Hid (Below w.heap.size w w6) := Lib.hid (BEL.out.trans (hk.mono BEL.out.size))
  have z_w6 := hk.size; have y_w6 := BEL.out.size; clear hk hb6
  clear pN0 pN1 fN0 fN1 zN zN_1 zN_2 zN_3
  obtain ⟨pN0, pN1, fN0, fN1, zN, zN_1, zN_2, zN_3⟩ := HN.out.two'
  have HI2 := Lib.hid hi2; clear hi2
  go_wp2_with fail
  refine (nfull_yes C cc caps P cp _ paths A c _ Q L w.heap.size _ (by first | omega | (focus (simp; done)) | (simp; omega)) (HC.out.below (by repeat (first | with_reducible exact BEL.out | with_reducible apply Below.alloc | with_reducible apply Below.setCell | with_reducible apply Below.drew | with_reducible apply below_drewN | (first | omega | (focus (simp; done)) | (focus (simp; omega)) | (focus (simp [World.setCell]; omega))))) (Nat.le_refl _)) (HP.out.below (by repeat (first | with_reducible exact BEL.out | with_reducible apply Below.alloc | with_reducible apply Below.setCell | with_reducible apply Below.drew | with_reducible apply below_drewN | (first | omega | (focus (simp; done)) | (focus (simp; omega)) | (focus (simp [World.setCell]; omega))))) (Nat.le_refl _)) (HR.out.below (by repeat (first | with_reducible exact BEL.out | with_reducible apply Below.alloc | with_reducible apply Below.setCell | with_reducible apply Below.drew | with_reducible apply below_drewN | (first | omega | (focus (simp; done)) | (focus (simp; omega)) | (focus (simp [World.setCell]; omega))))) (Nat.le_refl _)) rfl rfl HE.out HQL.out HQ.out HL.out).mono ?_; rintro e w7 ⟨A3, c3, rfl, hi3, hb7⟩
  have hk : Below w6.heap.size w6 w7 := Below.trans (by repeat (first | with_reducible exact Below.refl _ _ | with_reducible apply Below.drew | with_reducible apply below_drewN | with_reducible apply Below.alloc | omega | (focus (simp; done)) | (simp; omega))) (hb7.mono (by first | omega | (simp; done) | (simp; omega)))
  replace HN := Lib.hid (HN.out.go hk)
  replace HI2 := Lib.hid (HI2.out.at' hk)
  replace BEL : Hid (Below w.heap.size w w7) := Lib.hid (BEL.out.trans (hk.mono BEL.out.size))
  have z_w7 := hk.size; have y_w7 := BEL.out.size; clear hk hb7
  clear pN0 pN1 fN0 fN1 zN zN_1 zN_2 zN_3
  obtain ⟨pN0, pN1, fN0, fN1, zN, zN_1, zN_2, zN_3⟩ := HN.out.two'
  have HI3 := Lib.hid hi3; clear hi3
  clear pN0 pN1 fN0 fN1 zN zN_1 zN_2 zN_3
  obtain ⟨wo, hwo⟩ : ∃ x, x = w7 := ⟨_, rfl⟩
  rw [← hwo] at HI2 HI3 HN BEL ⊢
  clear hwo
  obtain ⟨n0, n1, _, _, nz⟩ := HN.out.two
  have hbo := BEL.out.size
  have hm2 := HI2.out.cap; have hl2 := HI2.out.le
  unfold maxLen at hm2
  go_wp2
  go_loopw [18] (fun i wr => ∃ k d : Nat, k ≤ V.length ∧ i = .int .i64 k ∧ Hid (wr = wo.drewN d)) (fun i _ => V.length - (intOf i).toNat)
  case atStart => exact ⟨0, 0, Nat.zero_le _, rfl, Lib.hid rfl⟩
  case round =>
    clear n0 n1 nz
    obtain ⟨k, d, hk, rfl, HD⟩ := hrel
    have HBD : Hid (Below wo.heap.size wo wr) := Lib.hid (by rw [HD.out]; exact below_drewN (Below.refl _ _) _)
    have HND := Lib.hid (HN.out.go HBD.out)
    obtain ⟨n0, n1, _, _, nz⟩ := HND.out.two
    by_cases hlt : k < V.length
    · have k0 : (0 : Int) ≤ (k : Int) := by omega
      have hkp : k < paths.length := by have := HVL.out; omega
      have k1 : (k : Int) < (paths.length : Int) := by omega
      obtain ⟨b2, o2, v, rfl, hb2, hcv, _, _, HVX⟩ := (HI2.out.below HBD.out (Nat.le_refl _)).elem hlt
      have hvn : v = neckOf paths Q ((fulls caps L).map fun (i : Nat) => (i : Int)) k := by rw [← HVX.out, ← HV.out]; unfold necks; simp [List.getD_eq_getElem?_getD, hkp]
      have hbz : b2 < wr.heap.size := by have := HBD.out.size; omega
      by_cases hv1 : v = -1
      · clear hvn HVX
        subst hv1
        go_wp2
        go_roundw
        case rel => exact ⟨k + 1, d, by omega, by go_num, HD⟩
        case measure => simp [intOf]; omega
      · rcases HNI.out k hkp with ⟨h1, _⟩ | ⟨l, h1, h2, h3, _⟩
        · exact absurd (hvn.trans h1) hv1
        · have hvl : v = (l : Int) := hvn.trans h1
          have hvb : (v == -1) = false := beq_eq_false_iff_ne.2 hv1
          obtain ⟨bp, op, A', c', p, rfl, hbp, hcp, hip, HPX⟩ := ((HP.out.below BEL.out (Nat.le_refl _)).below HBD.out (by omega)).elem hkp
          have hpg : paths.getD k [] = p := by rw [List.getD_eq_getElem?_getD, HPX.out]; rfl
          have HON : Hid (inL p v = true) := Lib.hid (by rw [inL_iff, hvl, ← hpg]; exact h3)
          have HIS : Hid (inL ((fulls caps L).map fun (i : Nat) => (i : Int)) v = true) := Lib.hid (by rw [inL_iff, hvl]; exact List.mem_map_of_mem h2)
          have HIP := Lib.hid hip
          have hpz : bp < wr.heap.size := by have := HBD.out.size; omega
          clear hvn hvl h1 h2 h3 hv1 hip HPX hpg HVX
          go_wp2_with fail
          go_quiet ((go_at_call 59; exact quiet_left (refIn_any _ _ _ _ _ _ (HIP.out.below (below_drewN (Below.refl _ _) _) (Nat.le_refl _)) rfl _ _ HON.out)))
          go_wp2_with fail
          refine (refIn_any A3 c3 _ ((fulls caps L).map fun (i : Nat) => (i : Int)) wo.heap.size _ ((HI3.out.below HBD.out (Nat.le_refl _)).below (below_drewN (Below.refl _ _) _) (Nat.le_refl _)) (by simp) _ true HIS.out).mono ?_; rintro e w' ⟨rfl, rfl⟩
          go_wp2
          go_roundw
          case rel => exact ⟨k + 1, d + nq, by omega, by go_num, Lib.hid (by rw [HD.out, World.drewN_drewN])⟩
          case measure => simp [intOf]; omega
    · obtain rfl : k = V.length := by omega
      go_wp2
      go_ret
      exact ⟨rfl, BEL.out.trans (HBD.out.mono hbo)⟩
theorem neckOnly_walk (w : World) (C : Option Addr) (cc : Nat) (caps : List Int) (hc : Ints w w.heap.size C cc caps) (_ : ∀ n ∈ caps, (Lit.int .i64 n).wf = true) (P : Option Addr) (cp : Nat) (paths : List (List Int)) (hp : Rows2 w w.heap.size P cp paths) (_ : ∀ l ∈ paths, ∀ n ∈ l, (Lit.int .i64 n).wf = true) (A : Option Addr) (c : Nat) (S : List Fr) (hr : Frs w w.heap.size A c S) (_ : True) :
    Calls Try.prog 18 #[.agg #[.slice C caps.length cc, .slice P paths.length cp], .slice A S.length c] w fun e w' => e = .returned (.bool true) ∧ Below w.heap.size w w' := by
  rcases lof_cases caps paths S with ⟨er, h0, hx⟩ | ⟨Q, L, hS, he, hl, hq, hL⟩
  · exact neckOnly_err C cc caps P cp paths A c S w hc hp hr er hx h0
  · cases hb : fairP caps paths Q L
    · exact neckOnly_false C cc caps P cp paths A c S w hc hp hr Q L hS he hl hq hL hb
    · exact neckOnly_true C cc caps P cp paths A c S w hc hp hr Q L hS he hl hq hL hb
end Go.Proofs.Ythffjnfnfddpdaa
