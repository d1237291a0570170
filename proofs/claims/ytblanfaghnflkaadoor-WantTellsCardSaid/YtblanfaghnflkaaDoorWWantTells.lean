/- The walk of WantTells: it returns true for every input. -/
import Derived.Test.YtblanfaghnflkaaDoorWant4
import Derived.Test.YtblanfaghnflkaaDoorWant5
import Derived.Test.YtblanfaghnflkaaDoorRefWide2
import Derived.Test.YtblanfaghnflkaaDoorRefFill3
import Derived.Test.YtblanfaghnflkaaDoorFrSame
import Derived.Test.YtblanfaghnflkaaDoorLibM
import Derived.Test.YtblanfaghnflkaaDoorTold
namespace Go.Proofs.YtblanfaghnflkaaDoor
open Go.RowKit
theorem same_er (n : Int) (w : World) (hg : Laid w) (h : n ≠ 0) : Calls Tryd.prog 15 #[.iface 119 (.int .i64 n), .int .i64 n] w fun e w' => e = .returned (.bool true) ∧ Below w.heap.size w w' := by
  have := same_yes n w hg
  rwa [errVal_pos h] at this
theorem same_z (w : World) (hg : Laid w) : Calls Tryd.prog 15 #[.nilIface, .int .i64 0] w fun e w' => e = .returned (.bool true) ∧ Below w.heap.size w w' := by
  have := same_yes 0 w hg
  rwa [errVal_zero] at this
theorem ints_none (w : World) (B : Nat) : Ints w B none 0 [] := ⟨Reads.none_, Nat.le_refl _, by simp [maxLen]⟩
theorem rows_none (w : World) (B : Nat) : Rows2 w B none 0 [] := ⟨fun h => absurd h (by simp), Nat.le_refl _, by simp [maxLen]⟩
theorem frs_none0 (w : World) (B : Nat) : Frs w B none 0 [] := ⟨⟨by simp [frCells], fun h => absurd h (by simp)⟩, Nat.le_refl _, by simp [maxLen]⟩
theorem sameNet_none (w : World) : Calls Tryd.prog 33 #[.agg #[.slice none 0 0, .slice none 0 0], .agg #[.slice none 0 0, .slice none 0 0]] w fun e w' => e = .returned (.bool true) ∧ Below w.heap.size w w' :=
  sameNet_n none none none none 0 0 0 0 0 0 0 0 [] [] _ _ w (ints_none _ _) (ints_none _ _) (rows_none _ _) (rows_none _ _) (Nat.le_refl _) (Nat.le_refl _) rfl rfl rfl rfl
set_option maxHeartbeats 16000000 in
set_option maxRecDepth 100000 in
theorem wantTells_er (C : Option Addr) (cc : Nat) (caps : List Int) (P : Option Addr) (cp : Nat) (paths : List (List Int)) (A : Option Addr) (c : Nat) (want : List Int) (w : World) (hg : Laid w) (hc : Ints w w.heap.size C cc caps) (hp : Rows2 w w.heap.size P cp paths) (hi : Ints w w.heap.size A c want) (e : Int) (he : wantsErr caps paths want = e) (h0 : e ≠ 0) :
    Calls Tryd.prog 8 #[.agg #[.slice C caps.length cc, .slice P paths.length cp], .slice A want.length c] w fun e w' => e = .returned (.bool true) ∧ Below w.heap.size w w' := by
  have LAID := Lib.hid hg
  have HC := Lib.hid hc; have HP := Lib.hid hp; have HI := Lib.hid hi
  have him := hi.cap; have hil := hi.le; have hcm := hc.cap; have hcl := hc.le
  unfold maxLen at him hcm
  clear hg hc hp hi
  have HE := Lib.hid he
  have H0 := Lib.hid h0
  have h0' : (e == 0) = false := beq_eq_false_iff_ne.2 h0
  clear he h0
  have HN0 := Lib.hid (Blk.new w 43 #[.slice C caps.length cc, .slice P paths.length cp])
  have HB0 := Lib.hid ((Below.refl w.heap.size w).alloc (Nat.le_refl _) (.cells #[.slice C caps.length cc, .slice P paths.length cp] 43))
  obtain ⟨wk0, hwk⟩ : ∃ x, x = w.alloc (.cells #[.slice C caps.length cc, .slice P paths.length cp] 43) := ⟨_, rfl⟩
  rw [← hwk] at HN0 HB0
  have HB := HB0; have HN := HN0
  clear HB0 HN0
  have hz := HB.out.size
  go_enter Tryd.func8, Tryd.ntmps8
  go_upto_region 1 with (fail)
  rw [← hwk]
  clear hwk
  obtain ⟨hn_0, hn_1, hn_2, hn_3, hn_4⟩ := HN.out.two
  go_wp2_with fail
  refine (refWants_any C cc caps P cp paths A c want w.heap.size _ e hz (HC.out.below HB.out (Nat.le_refl _)) (HP.out.below HB.out (Nat.le_refl _)) (HI.out.below HB.out (Nat.le_refl _)) HE.out).mono ?_; rintro e wk1 ⟨rfl, hb⟩
  clear hz
  have HBx := Lib.hid (HB.out.trans (hb.mono HB.out.size))
  have HNx := Lib.hid (HN.out.go hb)
  clear hb hn_0 hn_1 hn_2 hn_3 hn_4 HB HN 
  have HB := HBx; have HN := HNx
  clear HBx HNx
  have hz := HB.out.size
  obtain ⟨hn_0, hn_1, hn_2, hn_3, hn_4⟩ := HN.out.two
  have hle7 : w.heap.size < wk1.heap.size := HN.out.lt
  obtain ⟨wk2, hwk⟩ : ∃ x, x = wk1.alloc (.cells #[.slice none 0 0, .slice none 0 0] 43) := ⟨_, rfl⟩
  have hb : Below wk1.heap.size wk1 wk2 := by rw [hwk]; exact (Below.refl _ _).alloc (Nat.le_refl _) _
  have HX : Hid (Blk wk2 wk1.heap.size 43 #[.slice none 0 0, .slice none 0 0]) := Lib.hid (by rw [hwk]; exact Blk.new _ _ _)
  go_upto_region 4 with (fail)
  rw [← hwk]
  clear hwk hz
  obtain ⟨gHX, hgk⟩ : ∃ x, x = wk1.heap.size := ⟨_, rfl⟩
  rw [← hgk] at HX hle7 ⊢
  clear hgk
  have HBx := Lib.hid (HB.out.trans (hb.mono HB.out.size))
  have HNx := Lib.hid (HN.out.go hb)
  clear hb hn_0 hn_1 hn_2 hn_3 hn_4 HB HN 
  have HB := HBx; have HN := HNx
  clear HBx HNx
  have hz := HB.out.size
  obtain ⟨hn_0, hn_1, hn_2, hn_3, hn_4⟩ := HN.out.two
  clear hn_0 hn_1 hn_2 hn_3 hn_4
  obtain ⟨hn_0, hn_1, hn_2, hn_3, hn_4⟩ := HN.out.two
  obtain ⟨hx_0, hx_1, hx_2, hx_3, hx_4⟩ := HX.out.two
  go_wp2_with fail
  refine (wnet_er C cc caps P cp paths A c want w.heap.size _ e hz (HC.out.below HB.out (Nat.le_refl _)) (HP.out.below HB.out (Nat.le_refl _)) (HI.out.below HB.out (Nat.le_refl _)) HE.out H0.out).mono ?_; rintro e wk3 ⟨rfl, hb⟩
  clear hz
  have HBx := Lib.hid (HB.out.trans (hb.mono HB.out.size))
  have HNx := Lib.hid (HN.out.go hb)
  have HXx := Lib.hid (HX.out.go hb)
  clear hb hn_0 hn_1 hn_2 hn_3 hn_4 hx_0 hx_1 hx_2 hx_3 hx_4 HB HN HX 
  have HB := HBx; have HN := HNx; have HX := HXx
  clear HBx HNx HXx
  have hz := HB.out.size
  obtain ⟨hn_0, hn_1, hn_2, hn_3, hn_4⟩ := HN.out.two
  obtain ⟨hx_0, hx_1, hx_2, hx_3, hx_4⟩ := HX.out.two
  obtain ⟨wk4, hwk⟩ : ∃ x, x = wk3.alloc (.cells #[.slice none 0 0, .slice none 0 0] 43) := ⟨_, rfl⟩
  have hb : Below wk3.heap.size wk3 wk4 := by rw [hwk]; exact (Below.refl _ _).alloc (Nat.le_refl _) _
  have HY : Hid (Blk wk4 wk3.heap.size 43 #[.slice none 0 0, .slice none 0 0]) := Lib.hid (by rw [hwk]; exact Blk.new _ _ _)
  go_upto_region 9 with (fail)
  rw [← hwk]
  clear hwk hz
  obtain ⟨gHY, hgk⟩ : ∃ x, x = wk3.heap.size := ⟨_, rfl⟩
  rw [← hgk] at HY ⊢
  clear hgk
  have HBx := Lib.hid (HB.out.trans (hb.mono HB.out.size))
  have HNx := Lib.hid (HN.out.go hb)
  have HXx := Lib.hid (HX.out.go hb)
  clear hb hn_0 hn_1 hn_2 hn_3 hn_4 hx_0 hx_1 hx_2 hx_3 hx_4 HB HN HX 
  have HB := HBx; have HN := HNx; have HX := HXx
  clear HBx HNx HXx
  have hz := HB.out.size
  obtain ⟨hn_0, hn_1, hn_2, hn_3, hn_4⟩ := HN.out.two
  obtain ⟨hx_0, hx_1, hx_2, hx_3, hx_4⟩ := HX.out.two
  obtain ⟨hy_0, hy_1, hy_2, hy_3, hy_4⟩ := HY.out.two
  go_wp2_with fail
  refine (same_er e _ (LAID.out.below HB.out) H0.out).mono ?_; rintro e wk5 ⟨rfl, hb⟩
  clear hz
  have HBx := Lib.hid (HB.out.trans (hb.mono HB.out.size))
  have HNx := Lib.hid (HN.out.go hb)
  have HXx := Lib.hid (HX.out.go hb)
  have HYx := Lib.hid (HY.out.go hb)
  clear hb hn_0 hn_1 hn_2 hn_3 hn_4 hx_0 hx_1 hx_2 hx_3 hx_4 hy_0 hy_1 hy_2 hy_3 hy_4 HB HN HX HY 
  have HB := HBx; have HN := HNx; have HX := HXx; have HY := HYx
  clear HBx HNx HXx HYx
  have hz := HB.out.size
  obtain ⟨hn_0, hn_1, hn_2, hn_3, hn_4⟩ := HN.out.two
  obtain ⟨hx_0, hx_1, hx_2, hx_3, hx_4⟩ := HX.out.two
  obtain ⟨hy_0, hy_1, hy_2, hy_3, hy_4⟩ := HY.out.two
  go_wp2_with fail
  refine (sameNet_none _).mono ?_; rintro e wk6 ⟨rfl, hb⟩
  clear hz
  have HBx := Lib.hid (HB.out.trans (hb.mono HB.out.size))
  have HNx := Lib.hid (HN.out.go hb)
  have HXx := Lib.hid (HX.out.go hb)
  have HYx := Lib.hid (HY.out.go hb)
  clear hb hn_0 hn_1 hn_2 hn_3 hn_4 hx_0 hx_1 hx_2 hx_3 hx_4 hy_0 hy_1 hy_2 hy_3 hy_4 HB HN HX HY 
  have HB := HBx; have HN := HNx; have HX := HXx; have HY := HYx
  clear HBx HNx HXx HYx
  have hz := HB.out.size
  obtain ⟨hn_0, hn_1, hn_2, hn_3, hn_4⟩ := HN.out.two
  obtain ⟨hx_0, hx_1, hx_2, hx_3, hx_4⟩ := HX.out.two
  obtain ⟨hy_0, hy_1, hy_2, hy_3, hy_4⟩ := HY.out.two
  go_wp2
  refine wp_loop_rounds 1 ?_
  rw [rounds_succ]
  go_wp2_with fail
  refine (wrates_er C cc caps P cp _ paths A c _ want w.heap.size _ e hz (HC.out.below HB.out (Nat.le_refl _)) (HP.out.below HB.out (Nat.le_refl _)) (HI.out.below HB.out (Nat.le_refl _)) rfl rfl HE.out H0.out).mono ?_; rintro e wk7 ⟨rfl, hb⟩
  clear hz
  have HBx := Lib.hid (HB.out.trans (hb.mono HB.out.size))
  have HNx := Lib.hid (HN.out.go hb)
  have HXx := Lib.hid (HX.out.go hb)
  have HYx := Lib.hid (HY.out.go hb)
  clear hb hn_0 hn_1 hn_2 hn_3 hn_4 hx_0 hx_1 hx_2 hx_3 hx_4 hy_0 hy_1 hy_2 hy_3 hy_4 HB HN HX HY 
  have HB := HBx; have HN := HNx; have HX := HXx; have HY := HYx
  clear HBx HNx HXx HYx
  have hz := HB.out.size
  obtain ⟨hn_0, hn_1, hn_2, hn_3, hn_4⟩ := HN.out.two
  obtain ⟨hx_0, hx_1, hx_2, hx_3, hx_4⟩ := HX.out.two
  obtain ⟨hy_0, hy_1, hy_2, hy_3, hy_4⟩ := HY.out.two
  go_wp2_with fail
  refine (same_er e _ (LAID.out.below HB.out) H0.out).mono ?_; rintro e wk8 ⟨rfl, hb⟩
  clear hz
  have HBx := Lib.hid (HB.out.trans (hb.mono HB.out.size))
  have HNx := Lib.hid (HN.out.go hb)
  have HXx := Lib.hid (HX.out.go hb)
  have HYx := Lib.hid (HY.out.go hb)
  clear hb hn_0 hn_1 hn_2 hn_3 hn_4 hx_0 hx_1 hx_2 hx_3 hx_4 hy_0 hy_1 hy_2 hy_3 hy_4 HB HN HX HY 
  have HB := HBx; have HN := HNx; have HX := HXx; have HY := HYx
  clear HBx HNx HXx HYx
  have hz := HB.out.size
  obtain ⟨hn_0, hn_1, hn_2, hn_3, hn_4⟩ := HN.out.two
  obtain ⟨hx_0, hx_1, hx_2, hx_3, hx_4⟩ := HX.out.two
  obtain ⟨hy_0, hy_1, hy_2, hy_3, hy_4⟩ := HY.out.two
  go_wp2_with fail
  refine (sameFr_any none none 0 0 _ _ [] [] _ _ _ (frs_none0 _ _) (frs_none0 _ _) rfl rfl (Nat.le_refl _) (Nat.le_refl _) true (decide_eq_true rfl)).mono ?_; rintro e wk9 ⟨rfl, hb⟩
  clear hz
  have HBx := Lib.hid (HB.out.trans (hb.mono HB.out.size))
  have HNx := Lib.hid (HN.out.go hb)
  have HXx := Lib.hid (HX.out.go hb)
  have HYx := Lib.hid (HY.out.go hb)
  clear hb hn_0 hn_1 hn_2 hn_3 hn_4 hx_0 hx_1 hx_2 hx_3 hx_4 hy_0 hy_1 hy_2 hy_3 hy_4 HB HN HX HY 
  have HB := HBx; have HN := HNx; have HX := HXx; have HY := HYx
  clear HBx HNx HXx HYx
  have hz := HB.out.size
  obtain ⟨hn_0, hn_1, hn_2, hn_3, hn_4⟩ := HN.out.two
  obtain ⟨hx_0, hx_1, hx_2, hx_3, hx_4⟩ := HX.out.two
  obtain ⟨hy_0, hy_1, hy_2, hy_3, hy_4⟩ := HY.out.two
  go_wp2_with fail
  refine (wsated_er C cc caps P cp _ paths A c _ want w.heap.size _ e hz (HC.out.below HB.out (Nat.le_refl _)) (HP.out.below HB.out (Nat.le_refl _)) (HI.out.below HB.out (Nat.le_refl _)) rfl rfl HE.out H0.out).mono ?_; rintro e wk10 ⟨rfl, hb⟩
  clear hz
  have HBx := Lib.hid (HB.out.trans (hb.mono HB.out.size))
  have HNx := Lib.hid (HN.out.go hb)
  have HXx := Lib.hid (HX.out.go hb)
  have HYx := Lib.hid (HY.out.go hb)
  clear hb hn_0 hn_1 hn_2 hn_3 hn_4 hx_0 hx_1 hx_2 hx_3 hx_4 hy_0 hy_1 hy_2 hy_3 hy_4 HB HN HX HY 
  have HB := HBx; have HN := HNx; have HX := HXx; have HY := HYx
  clear HBx HNx HXx HYx
  have hz := HB.out.size
  obtain ⟨hn_0, hn_1, hn_2, hn_3, hn_4⟩ := HN.out.two
  obtain ⟨hx_0, hx_1, hx_2, hx_3, hx_4⟩ := HX.out.two
  obtain ⟨hy_0, hy_1, hy_2, hy_3, hy_4⟩ := HY.out.two
  go_wp2_with fail
  refine (same_er e _ (LAID.out.below HB.out) H0.out).mono ?_; rintro e wk11 ⟨rfl, hb⟩
  clear hz
  have HBx := Lib.hid (HB.out.trans (hb.mono HB.out.size))
  have HNx := Lib.hid (HN.out.go hb)
  have HXx := Lib.hid (HX.out.go hb)
  have HYx := Lib.hid (HY.out.go hb)
  clear hb hn_0 hn_1 hn_2 hn_3 hn_4 hx_0 hx_1 hx_2 hx_3 hx_4 hy_0 hy_1 hy_2 hy_3 hy_4 HB HN HX HY 
  have HB := HBx; have HN := HNx; have HX := HXx; have HY := HYx
  clear HBx HNx HXx HYx
  have hz := HB.out.size
  obtain ⟨hn_0, hn_1, hn_2, hn_3, hn_4⟩ := HN.out.two
  obtain ⟨hx_0, hx_1, hx_2, hx_3, hx_4⟩ := HX.out.two
  obtain ⟨hy_0, hy_1, hy_2, hy_3, hy_4⟩ := HY.out.two
  go_wp2_with fail
  refine (sameBl_any none none 0 0 _ _ [] [] _ _ _ (bls_none _ _) (bls_none _ _) rfl rfl (Nat.le_refl _) (Nat.le_refl _) true (decide_eq_true rfl)).mono ?_; rintro e wk12 ⟨rfl, hb⟩
  clear hz
  have HBx := Lib.hid (HB.out.trans (hb.mono HB.out.size))
  have HNx := Lib.hid (HN.out.go hb)
  have HXx := Lib.hid (HX.out.go hb)
  have HYx := Lib.hid (HY.out.go hb)
  clear hb hn_0 hn_1 hn_2 hn_3 hn_4 hx_0 hx_1 hx_2 hx_3 hx_4 hy_0 hy_1 hy_2 hy_3 hy_4 HB HN HX HY 
  have HB := HBx; have HN := HNx; have HX := HXx; have HY := HYx
  clear HBx HNx HXx HYx
  have hz := HB.out.size
  obtain ⟨hn_0, hn_1, hn_2, hn_3, hn_4⟩ := HN.out.two
  obtain ⟨hx_0, hx_1, hx_2, hx_3, hx_4⟩ := HX.out.two
  obtain ⟨hy_0, hy_1, hy_2, hy_3, hy_4⟩ := HY.out.two
  go_wp2
  go_ret
  exact ⟨rfl, HB.out⟩
set_option maxHeartbeats 16000000 in
set_option maxRecDepth 100000 in
theorem wantTells_full (C : Option Addr) (cc : Nat) (caps : List Int) (P : Option Addr) (cp : Nat) (paths : List (List Int)) (A : Option Addr) (c : Nat) (want : List Int) (w : World) (hg : Laid w) (hc : Ints w w.heap.size C cc caps) (hp : Rows2 w w.heap.size P cp paths) (hi : Ints w w.heap.size A c want) (he : wantsErr caps paths want = 0) (h6 : 6 < caps.length + want.length) (K : Nat) (R : List Rat) (hK : FillEnds (caps ++ want) (wideP paths caps.length) K R) :
    Calls Tryd.prog 8 #[.agg #[.slice C caps.length cc, .slice P paths.length cp], .slice A want.length c] w fun e w' => e = .returned (.bool true) ∧ Below w.heap.size w w' := by
  have LAID := Lib.hid hg
  have HC := Lib.hid hc; have HP := Lib.hid hp; have HI := Lib.hid hi
  have him := hi.cap; have hil := hi.le; have hcm := hc.cap; have hcl := hc.le
  unfold maxLen at him hcm
  clear hg hc hp hi
  have HE := Lib.hid he
  obtain ⟨hne, hwl, hwi⟩ := wants_ok he
  obtain ⟨a1, a2, a3, a4, a5, a6⟩ := netErr_ok hne
  have hsh := netErr_short hne
  have hll : ∀ l ∈ paths, 0 < l.length ∧ l.length ≤ 1000 := fun l hl => ⟨((netOk_of hne).path l hl).1, by have := hsh l hl; omega⟩
  have ok := wide_netOk he
  have hRl := hK.len ok
  rw [wideP_len] at hRl
  have HRW : Hid (R.length = want.length) := Lib.hid (by omega)
  have hr6 : R.length ≤ 6 := by omega
  have hw6 : want.length ≤ 6 := by omega
  have hc6 : caps.length ≤ 6 := a2
  have HWD := Lib.hid fun (W : World) (hz : w.heap.size ≤ W.heap.size) (h1 : Ints W w.heap.size C cc caps) (h2 : Rows2 W w.heap.size P cp paths) (h3 : Ints W w.heap.size A c want) => refWide_own C cc caps P cp paths A c want w.heap.size W hz h1 h2 h3 hwl a3 a4 a1 a2 hll
  have h6' : (6 : Int) < (caps.length : Int) + (want.length : Int) := by omega
  have H6 := Lib.hid h6
  have HK := Lib.hid hK; have HK2 := Lib.hid hK
  have HOK := Lib.hid ok
  have HL12 : Hid ((caps ++ want).length ≤ 12) := Lib.hid (by rw [List.length_append]; omega)
  have HLLW : Hid (∀ p ∈ wideP paths caps.length, p.length ≤ 1000) := Lib.hid fun p hp => by
    obtain ⟨f, hf, rfl⟩ := List.mem_map.1 hp
    have hf := List.mem_range.1 hf
    have hm : paths.getD f [] ∈ paths := by rw [List.getD_eq_getElem?_getD, List.getElem?_eq_getElem hf]; exact List.getElem_mem hf
    have := hsh _ hm
    rw [List.length_append, List.length_singleton]; omega
  obtain ⟨CW, hCW⟩ : ∃ l, caps ++ want = l := ⟨_, rfl⟩
  obtain ⟨PW, hPW⟩ : ∃ l, wideP paths caps.length = l := ⟨_, rfl⟩
  rw [hCW, hPW] at HWD HK HOK
  rw [hCW] at HL12
  rw [hPW] at HLLW
  clear he hne hwl hwi a1 a2 a3 a4 a5 a6 hsh hll ok hRl h6 hK hCW hPW
  have HN0 := Lib.hid (Blk.new w 43 #[.slice C caps.length cc, .slice P paths.length cp])
  have HB0 := Lib.hid ((Below.refl w.heap.size w).alloc (Nat.le_refl _) (.cells #[.slice C caps.length cc, .slice P paths.length cp] 43))
  obtain ⟨wk0, hwk⟩ : ∃ x, x = w.alloc (.cells #[.slice C caps.length cc, .slice P paths.length cp] 43) := ⟨_, rfl⟩
  rw [← hwk] at HN0 HB0
  have HB := HB0; have HN := HN0
  clear HB0 HN0
  have hz := HB.out.size
  go_enter Tryd.func8, Tryd.ntmps8
  go_upto_region 1 with (fail)
  rw [← hwk]
  clear hwk
  obtain ⟨hn_0, hn_1, hn_2, hn_3, hn_4⟩ := HN.out.two
  go_wp2_with fail
  refine (refWants_any C cc caps P cp paths A c want w.heap.size _ 0 hz (HC.out.below HB.out (Nat.le_refl _)) (HP.out.below HB.out (Nat.le_refl _)) (HI.out.below HB.out (Nat.le_refl _)) HE.out).mono ?_; rintro e wk1 ⟨rfl, hb⟩
  clear hz
  have HBx := Lib.hid (HB.out.trans (hb.mono HB.out.size))
  have HNx := Lib.hid (HN.out.go hb)
  clear hb hn_0 hn_1 hn_2 hn_3 hn_4 HB HN 
  have HB := HBx; have HN := HNx
  clear HBx HNx
  have hz := HB.out.size
  obtain ⟨hn_0, hn_1, hn_2, hn_3, hn_4⟩ := HN.out.two
  have hle7 : w.heap.size < wk1.heap.size := HN.out.lt
  obtain ⟨wk2, hwk⟩ : ∃ x, x = wk1.alloc (.cells #[.slice none 0 0, .slice none 0 0] 43) := ⟨_, rfl⟩
  have hb : Below wk1.heap.size wk1 wk2 := by rw [hwk]; exact (Below.refl _ _).alloc (Nat.le_refl _) _
  have HX : Hid (Blk wk2 wk1.heap.size 43 #[.slice none 0 0, .slice none 0 0]) := Lib.hid (by rw [hwk]; exact Blk.new _ _ _)
  go_upto_region 4 with (fail)
  rw [← hwk]
  clear hwk hz
  obtain ⟨gHX, hgk⟩ : ∃ x, x = wk1.heap.size := ⟨_, rfl⟩
  rw [← hgk] at HX hle7 ⊢
  clear hgk
  have HBx := Lib.hid (HB.out.trans (hb.mono HB.out.size))
  have HNx := Lib.hid (HN.out.go hb)
  clear hb hn_0 hn_1 hn_2 hn_3 hn_4 HB HN 
  have HB := HBx; have HN := HNx
  clear HBx HNx
  have hz := HB.out.size
  obtain ⟨hn_0, hn_1, hn_2, hn_3, hn_4⟩ := HN.out.two
  clear hn_0 hn_1 hn_2 hn_3 hn_4
  obtain ⟨hn_0, hn_1, hn_2, hn_3, hn_4⟩ := HN.out.two
  obtain ⟨hx_0, hx_1, hx_2, hx_3, hx_4⟩ := HX.out.two
  go_wp2_with fail
  refine (wnet_full C cc caps P cp paths A c want w.heap.size _ hz (HC.out.below HB.out (Nat.le_refl _)) (HP.out.below HB.out (Nat.le_refl _)) (HI.out.below HB.out (Nat.le_refl _)) HE.out H6.out).mono ?_; rintro e wk3 ⟨rfl, hb⟩
  clear hz
  have HBx := Lib.hid (HB.out.trans (hb.mono HB.out.size))
  have HNx := Lib.hid (HN.out.go hb)
  have HXx := Lib.hid (HX.out.go hb)
  clear hb hn_0 hn_1 hn_2 hn_3 hn_4 hx_0 hx_1 hx_2 hx_3 hx_4 HB HN HX 
  have HB := HBx; have HN := HNx; have HX := HXx
  clear HBx HNx HXx
  have hz := HB.out.size
  obtain ⟨hn_0, hn_1, hn_2, hn_3, hn_4⟩ := HN.out.two
  obtain ⟨hx_0, hx_1, hx_2, hx_3, hx_4⟩ := HX.out.two
  obtain ⟨wk4, hwk⟩ : ∃ x, x = wk3.alloc (.cells #[.slice none 0 0, .slice none 0 0] 43) := ⟨_, rfl⟩
  have hb : Below wk3.heap.size wk3 wk4 := by rw [hwk]; exact (Below.refl _ _).alloc (Nat.le_refl _) _
  have HY : Hid (Blk wk4 wk3.heap.size 43 #[.slice none 0 0, .slice none 0 0]) := Lib.hid (by rw [hwk]; exact Blk.new _ _ _)
  go_upto_region 9 with (fail)
  rw [← hwk]
  clear hwk hz
  obtain ⟨gHY, hgk⟩ : ∃ x, x = wk3.heap.size := ⟨_, rfl⟩
  rw [← hgk] at HY ⊢
  clear hgk
  have HBx := Lib.hid (HB.out.trans (hb.mono HB.out.size))
  have HNx := Lib.hid (HN.out.go hb)
  have HXx := Lib.hid (HX.out.go hb)
  clear hb hn_0 hn_1 hn_2 hn_3 hn_4 hx_0 hx_1 hx_2 hx_3 hx_4 HB HN HX 
  have HB := HBx; have HN := HNx; have HX := HXx
  clear HBx HNx HXx
  have hz := HB.out.size
  obtain ⟨hn_0, hn_1, hn_2, hn_3, hn_4⟩ := HN.out.two
  obtain ⟨hx_0, hx_1, hx_2, hx_3, hx_4⟩ := HX.out.two
  obtain ⟨hy_0, hy_1, hy_2, hy_3, hy_4⟩ := HY.out.two
  go_wp2_with fail
  refine (same_er 4 _ (LAID.out.below HB.out) (by decide)).mono ?_; rintro e wk5 ⟨rfl, hb⟩
  clear hz
  have HBx := Lib.hid (HB.out.trans (hb.mono HB.out.size))
  have HNx := Lib.hid (HN.out.go hb)
  have HXx := Lib.hid (HX.out.go hb)
  have HYx := Lib.hid (HY.out.go hb)
  clear hb hn_0 hn_1 hn_2 hn_3 hn_4 hx_0 hx_1 hx_2 hx_3 hx_4 hy_0 hy_1 hy_2 hy_3 hy_4 HB HN HX HY 
  have HB := HBx; have HN := HNx; have HX := HXx; have HY := HYx
  clear HBx HNx HXx HYx
  have hz := HB.out.size
  obtain ⟨hn_0, hn_1, hn_2, hn_3, hn_4⟩ := HN.out.two
  obtain ⟨hx_0, hx_1, hx_2, hx_3, hx_4⟩ := HX.out.two
  obtain ⟨hy_0, hy_1, hy_2, hy_3, hy_4⟩ := HY.out.two
  go_wp2_with fail
  refine (sameNet_none _).mono ?_; rintro e wk6 ⟨rfl, hb⟩
  clear hz
  have HBx := Lib.hid (HB.out.trans (hb.mono HB.out.size))
  have HNx := Lib.hid (HN.out.go hb)
  have HXx := Lib.hid (HX.out.go hb)
  have HYx := Lib.hid (HY.out.go hb)
  clear hb hn_0 hn_1 hn_2 hn_3 hn_4 hx_0 hx_1 hx_2 hx_3 hx_4 hy_0 hy_1 hy_2 hy_3 hy_4 HB HN HX HY 
  have HB := HBx; have HN := HNx; have HX := HXx; have HY := HYx
  clear HBx HNx HXx HYx
  have hz := HB.out.size
  obtain ⟨hn_0, hn_1, hn_2, hn_3, hn_4⟩ := HN.out.two
  obtain ⟨hx_0, hx_1, hx_2, hx_3, hx_4⟩ := HX.out.two
  obtain ⟨hy_0, hy_1, hy_2, hy_3, hy_4⟩ := HY.out.two
  go_wp2_with fail
  refine (HWD.out _ hz (HC.out.below HB.out (Nat.le_refl _)) (HP.out.below HB.out (Nat.le_refl _)) (HI.out.below HB.out (Nat.le_refl _))).mono ?_; rintro e wk7 ⟨C9, n9, d9, P9, m9, e9, vs9, rfl, hn9, hm9, ho9, hb⟩
  clear hz
  have HBx := Lib.hid (HB.out.trans (hb.mono HB.out.size))
  have HNx := Lib.hid (HN.out.go hb)
  have HXx := Lib.hid (HX.out.go hb)
  have HYx := Lib.hid (HY.out.go hb)
  clear hb hn_0 hn_1 hn_2 hn_3 hn_4 hx_0 hx_1 hx_2 hx_3 hx_4 hy_0 hy_1 hy_2 hy_3 hy_4 HB HN HX HY 
  have HB := HBx; have HN := HNx; have HX := HXx; have HY := HYx
  clear HBx HNx HXx HYx
  have hz := HB.out.size
  obtain ⟨hn_0, hn_1, hn_2, hn_3, hn_4⟩ := HN.out.two
  obtain ⟨hx_0, hx_1, hx_2, hx_3, hx_4⟩ := HX.out.two
  obtain ⟨hy_0, hy_1, hy_2, hy_3, hy_4⟩ := HY.out.two
  have HW9 := Lib.hid ho9
  have HN9 := Lib.hid hn9; have HM9 := Lib.hid hm9
  clear ho9 hn9 hm9
  go_wp2_with fail
  refine (refFill_yes C9 d9 n9 CW P9 e9 m9 PW wk7.heap.size _ K R (Nat.le_refl _) HW9.out.both.1 HW9.out.both.2 HN9.out HM9.out HOK.out HL12.out HLLW.out HK.out).mono ?_; rintro e wk8 ⟨A5, c5, U, u5, rfl, hf5, _, hb⟩
  clear hz
  have HBx := Lib.hid (HB.out.trans (hb.mono HB.out.size))
  have HNx := Lib.hid (HN.out.go hb)
  have HXx := Lib.hid (HX.out.go hb)
  have HYx := Lib.hid (HY.out.go hb)
  have HW9x := Lib.hid (HW9.out.at' hb)
  clear hb hn_0 hn_1 hn_2 hn_3 hn_4 hx_0 hx_1 hx_2 hx_3 hx_4 hy_0 hy_1 hy_2 hy_3 hy_4 HB HN HX HY HW9 
  have HB := HBx; have HN := HNx; have HX := HXx; have HY := HYx; have HW9 := HW9x
  clear HBx HNx HXx HYx HW9x
  have hz := HB.out.size
  obtain ⟨hn_0, hn_1, hn_2, hn_3, hn_4⟩ := HN.out.two
  obtain ⟨hx_0, hx_1, hx_2, hx_3, hx_4⟩ := HX.out.two
  obtain ⟨hy_0, hy_1, hy_2, hy_3, hy_4⟩ := HY.out.two
  have HFR := Lib.hid hf5
  clear hf5 HW9
  have hm5 := HFR.out.cap; have hl5 := HFR.out.le
  rw [List.length_map] at hl5
  unfold maxLen at hm5
  clear hn_0 hn_1 hn_2 hn_3 hn_4 hx_0 hx_1 hx_2 hx_3 hx_4 hy_0 hy_1 hy_2 hy_3 hy_4
  go_wp2
  go_loopw [12, 13] (fun v iv wr => ∃ j : Nat, j ≤ R.length ∧ iv = .int .i64 j ∧ Hid (wr.ownsRow wk8.heap.size 4 1 v j ((satTo want R j).map Value.bool)) ∧ Hid (Below wk8.heap.size wk8 wr)) (fun _ iv _ => R.length - (intOf iv).toNat)
  case atStart => exact ⟨0, Nat.zero_le _, rfl, Lib.hid (World.ownsRow_nil _ _ _ _), Lib.hid (Below.refl _ _)⟩
  case round =>
    obtain ⟨j, hj, rfl, HO, HBL⟩ := hrel
    have hzl := HBL.out.size
    by_cases hjl : j < R.length
    · have j0 : (0 : Int) ≤ (j : Int) := by omega
      have j1 : (j : Int) < (R.length : Int) := by omega
      have hjw : j < want.length := by have := HRW.out; omega
      have j2 : (j : Int) < (want.length : Int) := by omega
      obtain ⟨b, off, rfl, hb, c0, c1⟩ := frs_q (HFR.out.below HBL.out (Nat.le_refl _)) hjl
      obtain ⟨b2, off2, x, rfl, hb2, x0, _, _, HXX⟩ := (HI.out.below (HB.out.trans (HBL.out.mono hz)) (Nat.le_refl _)).elem hjw
      have hfb : satB want R j = decide (R.getD j 0 = (x : Rat)) := by unfold satB; rw [HXX.out]
      have hsu := satTo_succ want R j
      obtain ⟨q, hq⟩ : ∃ q, R.getD j 0 = q := ⟨_, rfl⟩
      rw [hq] at c0 c1 hfb
      have hiff := @q_int q x
      obtain ⟨a, ha⟩ : ∃ a, q.num = a := ⟨_, rfl⟩
      obtain ⟨d, hd⟩ : ∃ d : Int, (q.den : Int) = d := ⟨_, rfl⟩
      rw [ha] at c0
      rw [hd] at c1
      rw [ha, hd] at hiff
      have hz1 : b < wr.heap.size := by omega
      have hz2 : b2 < wr.heap.size := by have := HB.out.size; omega
      clear hq ha hd HXX hjw
      by_cases hx : q = (x : Rat)
      · obtain ⟨e1, e2⟩ := hiff.1 hx
        subst e1 e2
        have HSU : Hid (satTo want R (j + 1) = satTo want R j ++ [true]) := Lib.hid (by rw [hsu, hfb, decide_eq_true hx])
        have one1 : Hid (∀ u ∈ (#[Value.bool true] : Array Value).toList, u.oneCell' = true) := Lib.hid (by simp [Value.oneCell'])
        have hk6 : j ≤ 1000000 := by omega
        clear hsu hfb hiff hx
        go_upto_region 17 with (fail)
        go_region_law (first
            | (refine step_push rfl (.tmp 67) (.tmp 78) 99 rfl wk8.heap.size 4 (.bool false) 1 1 Tryd.underlying99 Tryd.info_boolF rfl Nat.one_pos _ j _ rfl HOV.out w5.heap.size #[.bool true] rfl (heap_alloc_new _ _) rfl one1.out hk6 (by decide) hz6 ?_; intro v9 w9 hown9 hg9 hblk9; have HO9 := Lib.hid hown9; have HB9 := Lib.hid (below_push HBV.out HOV.out hg9 (Nat.le_refl _) hz6); clear hown9 hg9 hblk9)
            | (go_simp; go_at_call 52; refine (refWhole_any _ _).mono ?_; rintro e w5 ⟨rfl, hb5⟩; have HB5 : Hid (Below wr.heap.size wr w5) := Lib.hid ((Below.refl _ _).drew.trans hb5); have y0 : w5.cell? ⟨b, off + j * 2, none⟩ = some (.int .i64 a) := (HB5.out.cell (p := ⟨b, off + j * 2, none⟩) hz1).trans c0; have y1 : w5.cell? ⟨b, off + j * 2 + 1, none⟩ = some (.int .i64 1) := (HB5.out.cell (p := ⟨b, off + j * 2 + 1, none⟩) hz1).trans c1; have HOV := Lib.hid ((own_below HO.out HB5.out).alloc (.cells #[.bool true] 4)); have hb6 := HBL.out.trans (HB5.out.mono hzl); have HBV := Lib.hid (hb6.alloc hb6.size (.cells #[.bool true] 4)); have hz6 := HBV.out.size; have hz5 := HB5.out.size; clear hb5 hb6))
        all_goals
          go_wp2
          go_roundw
          case rel => exact ⟨j + 1, by omega, by go_num, Lib.hid (by rw [HSU.out, List.map_append]; exact HO9.out), HB9⟩
          case measure => simp [intOf]; omega
      · have hne : ¬ (a = x ∧ d = 1) := fun h => hx (hiff.2 h)
        have HSU : Hid (satTo want R (j + 1) = satTo want R j ++ [false]) := Lib.hid (by rw [hsu, hfb, decide_eq_false hx])
        have one1 : Hid (∀ u ∈ (#[Value.bool false] : Array Value).toList, u.oneCell' = true) := Lib.hid (by simp [Value.oneCell'])
        have hk6 : j ≤ 1000000 := by omega
        clear hsu hfb hiff hx
        by_cases e1 : a = x
        · have e2 : (d == 1) = false := beq_eq_false_iff_ne.2 fun h => hne ⟨e1, h⟩
          subst e1
          clear hne
          go_upto_region 17 with (fail)
          go_region_law (first
              | (refine step_push rfl (.tmp 67) (.tmp 78) 99 rfl wk8.heap.size 4 (.bool false) 1 1 Tryd.underlying99 Tryd.info_boolF rfl Nat.one_pos _ j _ rfl HOV.out w5.heap.size #[.bool false] rfl (heap_alloc_new _ _) rfl one1.out hk6 (by decide) hz6 ?_; intro v9 w9 hown9 hg9 hblk9; have HO9 := Lib.hid hown9; have HB9 := Lib.hid (below_push HBV.out HOV.out hg9 (Nat.le_refl _) hz6); clear hown9 hg9 hblk9)
              | (go_simp; go_at_call 52; refine (refWhole_any _ _).mono ?_; rintro e w5 ⟨rfl, hb5⟩; have HB5 : Hid (Below wr.heap.size wr w5) := Lib.hid ((Below.refl _ _).drew.trans hb5); have y0 : w5.cell? ⟨b, off + j * 2, none⟩ = some (.int .i64 a) := (HB5.out.cell (p := ⟨b, off + j * 2, none⟩) hz1).trans c0; have y1 : w5.cell? ⟨b, off + j * 2 + 1, none⟩ = some (.int .i64 d) := (HB5.out.cell (p := ⟨b, off + j * 2 + 1, none⟩) hz1).trans c1; have HOV := Lib.hid ((own_below HO.out HB5.out).alloc (.cells #[.bool false] 4)); have hb6 := HBL.out.trans (HB5.out.mono hzl); have HBV := Lib.hid (hb6.alloc hb6.size (.cells #[.bool false] 4)); have hz6 := HBV.out.size; have hz5 := HB5.out.size; clear hb5 hb6))
          all_goals
            go_wp2
            go_roundw
            case rel => exact ⟨j + 1, by omega, by go_num, Lib.hid (by rw [HSU.out, List.map_append]; exact HO9.out), HB9⟩
            case measure => simp [intOf]; omega
        · have e2 : (a == x) = false := beq_eq_false_iff_ne.2 e1
          clear hne e1
          go_upto_region 17 with (fail)
          go_region_law (first
              | (refine step_push rfl (.tmp 67) (.tmp 78) 99 rfl wk8.heap.size 4 (.bool false) 1 1 Tryd.underlying99 Tryd.info_boolF rfl Nat.one_pos _ j _ rfl HOV.out w5.heap.size #[.bool false] rfl (heap_alloc_new _ _) rfl one1.out hk6 (by decide) hz6 ?_; intro v9 w9 hown9 hg9 hblk9; have HO9 := Lib.hid hown9; have HB9 := Lib.hid (below_push HBV.out HOV.out hg9 (Nat.le_refl _) hz6); clear hown9 hg9 hblk9)
              | (go_simp; go_at_call 52; refine (refWhole_any _ _).mono ?_; rintro e w5 ⟨rfl, hb5⟩; have HB5 : Hid (Below wr.heap.size wr w5) := Lib.hid ((Below.refl _ _).drew.trans hb5); have y0 : w5.cell? ⟨b, off + j * 2, none⟩ = some (.int .i64 a) := (HB5.out.cell (p := ⟨b, off + j * 2, none⟩) hz1).trans c0; have y1 : w5.cell? ⟨b, off + j * 2 + 1, none⟩ = some (.int .i64 d) := (HB5.out.cell (p := ⟨b, off + j * 2 + 1, none⟩) hz1).trans c1; have HOV := Lib.hid ((own_below HO.out HB5.out).alloc (.cells #[.bool false] 4)); have hb6 := HBL.out.trans (HB5.out.mono hzl); have HBV := Lib.hid (hb6.alloc hb6.size (.cells #[.bool false] 4)); have hz6 := HBV.out.size; have hz5 := HB5.out.size; clear hb5 hb6))
          all_goals
            go_wp2
            go_roundw
            case rel => exact ⟨j + 1, by omega, by go_num, Lib.hid (by rw [HSU.out, List.map_append]; exact HO9.out), HB9⟩
            case measure => simp [intOf]; omega
    · obtain rfl : j = R.length := by omega
      obtain ⟨A6, c6, hv6, hn6, hs6⟩ := owns_bls HO.out
      rw [satTo_len] at hv6
      subst hv6
      have HSB := Lib.hid hs6
      have hb := HBL.out
      clear hj hjl hzl HBL HO hn6 hs6
      obtain ⟨wk9, hwk⟩ : ∃ x, x = wr := ⟨_, rfl⟩
      rw [← hwk] at hb HSB ⊢
      clear hwk hz
      have HBx := Lib.hid (HB.out.trans (hb.mono HB.out.size))
      have HNx := Lib.hid (HN.out.go hb)
      have HXx := Lib.hid (HX.out.go hb)
      have HYx := Lib.hid (HY.out.go hb)
      have HFRx := Lib.hid (HFR.out.at' hb)
      clear hb  HB HN HX HY HFR 
      have HB := HBx; have HN := HNx; have HX := HXx; have HY := HYx; have HFR := HFRx
      clear HBx HNx HXx HYx HFRx
      have hz := HB.out.size
      obtain ⟨hn_0, hn_1, hn_2, hn_3, hn_4⟩ := HN.out.two
      obtain ⟨hx_0, hx_1, hx_2, hx_3, hx_4⟩ := HX.out.two
      obtain ⟨hy_0, hy_1, hy_2, hy_3, hy_4⟩ := HY.out.two
      go_wp2_with fail
      refine (wrates_yes C cc caps P cp _ paths A c _ want w.heap.size _ K R hz (HC.out.below HB.out (Nat.le_refl _)) (HP.out.below HB.out (Nat.le_refl _)) (HI.out.below HB.out (Nat.le_refl _)) rfl rfl HE.out HK2.out).mono ?_; rintro e wk10 ⟨A7, c7, rfl, hf7, hb⟩
      clear hz
      have HBx := Lib.hid (HB.out.trans (hb.mono HB.out.size))
      have HNx := Lib.hid (HN.out.go hb)
      have HXx := Lib.hid (HX.out.go hb)
      have HYx := Lib.hid (HY.out.go hb)
      have HFRx := Lib.hid (HFR.out.at' hb)
      have HSBx := Lib.hid (HSB.out.at' hb)
      clear hb hn_0 hn_1 hn_2 hn_3 hn_4 hx_0 hx_1 hx_2 hx_3 hx_4 hy_0 hy_1 hy_2 hy_3 hy_4 HB HN HX HY HFR HSB 
      have HB := HBx; have HN := HNx; have HX := HXx; have HY := HYx; have HFR := HFRx; have HSB := HSBx
      clear HBx HNx HXx HYx HFRx HSBx
      have hz := HB.out.size
      obtain ⟨hn_0, hn_1, hn_2, hn_3, hn_4⟩ := HN.out.two
      obtain ⟨hx_0, hx_1, hx_2, hx_3, hx_4⟩ := HX.out.two
      obtain ⟨hy_0, hy_1, hy_2, hy_3, hy_4⟩ := HY.out.two
      have HF7 := Lib.hid hf7
      clear hf7
      go_wp2_with fail
      refine (same_z _ (LAID.out.below HB.out)).mono ?_; rintro e wk11 ⟨rfl, hb⟩
      clear hz
      have HBx := Lib.hid (HB.out.trans (hb.mono HB.out.size))
      have HNx := Lib.hid (HN.out.go hb)
      have HXx := Lib.hid (HX.out.go hb)
      have HYx := Lib.hid (HY.out.go hb)
      have HFRx := Lib.hid (HFR.out.at' hb)
      have HSBx := Lib.hid (HSB.out.at' hb)
      have HF7x := Lib.hid (HF7.out.at' hb)
      clear hb hn_0 hn_1 hn_2 hn_3 hn_4 hx_0 hx_1 hx_2 hx_3 hx_4 hy_0 hy_1 hy_2 hy_3 hy_4 HB HN HX HY HFR HSB HF7 
      have HB := HBx; have HN := HNx; have HX := HXx; have HY := HYx; have HFR := HFRx; have HSB := HSBx; have HF7 := HF7x
      clear HBx HNx HXx HYx HFRx HSBx HF7x
      have hz := HB.out.size
      obtain ⟨hn_0, hn_1, hn_2, hn_3, hn_4⟩ := HN.out.two
      obtain ⟨hx_0, hx_1, hx_2, hx_3, hx_4⟩ := HX.out.two
      obtain ⟨hy_0, hy_1, hy_2, hy_3, hy_4⟩ := HY.out.two
      go_wp2_with fail
      refine (sameFr_any A7 A5 c7 c5 _ _ (R.map frQ) (R.map frQ) _ _ _ HF7.out HFR.out (by rw [List.length_map]) (by rw [List.length_map]) (Nat.le_refl _) (Nat.le_refl _) true (decide_eq_true rfl)).mono ?_; rintro e wk12 ⟨rfl, hb⟩
      clear hz
      have HBx := Lib.hid (HB.out.trans (hb.mono HB.out.size))
      have HNx := Lib.hid (HN.out.go hb)
      have HXx := Lib.hid (HX.out.go hb)
      have HYx := Lib.hid (HY.out.go hb)
      have HFRx := Lib.hid (HFR.out.at' hb)
      have HSBx := Lib.hid (HSB.out.at' hb)
      have HF7x := Lib.hid (HF7.out.at' hb)
      clear hb hn_0 hn_1 hn_2 hn_3 hn_4 hx_0 hx_1 hx_2 hx_3 hx_4 hy_0 hy_1 hy_2 hy_3 hy_4 HB HN HX HY HFR HSB HF7 
      have HB := HBx; have HN := HNx; have HX := HXx; have HY := HYx; have HFR := HFRx; have HSB := HSBx; have HF7 := HF7x
      clear HBx HNx HXx HYx HFRx HSBx HF7x
      have hz := HB.out.size
      obtain ⟨hn_0, hn_1, hn_2, hn_3, hn_4⟩ := HN.out.two
      obtain ⟨hx_0, hx_1, hx_2, hx_3, hx_4⟩ := HX.out.two
      obtain ⟨hy_0, hy_1, hy_2, hy_3, hy_4⟩ := HY.out.two
      go_wp2_with fail
      refine (wsated_yes C cc caps P cp _ paths A c _ want w.heap.size _ K R hz (HC.out.below HB.out (Nat.le_refl _)) (HP.out.below HB.out (Nat.le_refl _)) (HI.out.below HB.out (Nat.le_refl _)) rfl rfl HE.out HK2.out).mono ?_; rintro e wk13 ⟨A8, c8, rfl, hs8, hb⟩
      clear hz
      have HBx := Lib.hid (HB.out.trans (hb.mono HB.out.size))
      have HNx := Lib.hid (HN.out.go hb)
      have HXx := Lib.hid (HX.out.go hb)
      have HYx := Lib.hid (HY.out.go hb)
      have HFRx := Lib.hid (HFR.out.at' hb)
      have HSBx := Lib.hid (HSB.out.at' hb)
      have HF7x := Lib.hid (HF7.out.at' hb)
      clear hb hn_0 hn_1 hn_2 hn_3 hn_4 hx_0 hx_1 hx_2 hx_3 hx_4 hy_0 hy_1 hy_2 hy_3 hy_4 HB HN HX HY HFR HSB HF7 
      have HB := HBx; have HN := HNx; have HX := HXx; have HY := HYx; have HFR := HFRx; have HSB := HSBx; have HF7 := HF7x
      clear HBx HNx HXx HYx HFRx HSBx HF7x
      have hz := HB.out.size
      obtain ⟨hn_0, hn_1, hn_2, hn_3, hn_4⟩ := HN.out.two
      obtain ⟨hx_0, hx_1, hx_2, hx_3, hx_4⟩ := HX.out.two
      obtain ⟨hy_0, hy_1, hy_2, hy_3, hy_4⟩ := HY.out.two
      have HS8 := Lib.hid hs8
      clear hs8
      go_wp2_with fail
      refine (same_z _ (LAID.out.below HB.out)).mono ?_; rintro e wk14 ⟨rfl, hb⟩
      clear hz
      have HBx := Lib.hid (HB.out.trans (hb.mono HB.out.size))
      have HNx := Lib.hid (HN.out.go hb)
      have HXx := Lib.hid (HX.out.go hb)
      have HYx := Lib.hid (HY.out.go hb)
      have HFRx := Lib.hid (HFR.out.at' hb)
      have HSBx := Lib.hid (HSB.out.at' hb)
      have HF7x := Lib.hid (HF7.out.at' hb)
      have HS8x := Lib.hid (HS8.out.at' hb)
      clear hb hn_0 hn_1 hn_2 hn_3 hn_4 hx_0 hx_1 hx_2 hx_3 hx_4 hy_0 hy_1 hy_2 hy_3 hy_4 HB HN HX HY HFR HSB HF7 HS8 
      have HB := HBx; have HN := HNx; have HX := HXx; have HY := HYx; have HFR := HFRx; have HSB := HSBx; have HF7 := HF7x; have HS8 := HS8x
      clear HBx HNx HXx HYx HFRx HSBx HF7x HS8x
      have hz := HB.out.size
      obtain ⟨hn_0, hn_1, hn_2, hn_3, hn_4⟩ := HN.out.two
      obtain ⟨hx_0, hx_1, hx_2, hx_3, hx_4⟩ := HX.out.two
      obtain ⟨hy_0, hy_1, hy_2, hy_3, hy_4⟩ := HY.out.two
      go_wp2_with fail
      refine (sameBl_any A8 A6 c8 c6 _ _ (satTo want R R.length) (satTo want R R.length) _ _ _ HS8.out HSB.out (satTo_len _ _ _).symm (satTo_len _ _ _).symm (Nat.le_refl _) (Nat.le_refl _) true (decide_eq_true rfl)).mono ?_; rintro e wk15 ⟨rfl, hb⟩
      clear hz
      have HBx := Lib.hid (HB.out.trans (hb.mono HB.out.size))
      have HNx := Lib.hid (HN.out.go hb)
      have HXx := Lib.hid (HX.out.go hb)
      have HYx := Lib.hid (HY.out.go hb)
      have HFRx := Lib.hid (HFR.out.at' hb)
      have HSBx := Lib.hid (HSB.out.at' hb)
      have HF7x := Lib.hid (HF7.out.at' hb)
      have HS8x := Lib.hid (HS8.out.at' hb)
      clear hb hn_0 hn_1 hn_2 hn_3 hn_4 hx_0 hx_1 hx_2 hx_3 hx_4 hy_0 hy_1 hy_2 hy_3 hy_4 HB HN HX HY HFR HSB HF7 HS8 
      have HB := HBx; have HN := HNx; have HX := HXx; have HY := HYx; have HFR := HFRx; have HSB := HSBx; have HF7 := HF7x; have HS8 := HS8x
      clear HBx HNx HXx HYx HFRx HSBx HF7x HS8x
      have hz := HB.out.size
      obtain ⟨hn_0, hn_1, hn_2, hn_3, hn_4⟩ := HN.out.two
      obtain ⟨hx_0, hx_1, hx_2, hx_3, hx_4⟩ := HX.out.two
      obtain ⟨hy_0, hy_1, hy_2, hy_3, hy_4⟩ := HY.out.two
      go_wp2
      go_ret
      exact ⟨rfl, HB.out⟩
set_option maxHeartbeats 16000000 in
set_option maxRecDepth 100000 in
theorem wantTells_yes (C : Option Addr) (cc : Nat) (caps : List Int) (P : Option Addr) (cp : Nat) (paths : List (List Int)) (A : Option Addr) (c : Nat) (want : List Int) (w : World) (hg : Laid w) (hc : Ints w w.heap.size C cc caps) (hp : Rows2 w w.heap.size P cp paths) (hi : Ints w w.heap.size A c want) (he : wantsErr caps paths want = 0) (h6 : caps.length + want.length ≤ 6) (K : Nat) (R : List Rat) (hK : FillEnds (caps ++ want) (wideP paths caps.length) K R) :
    Calls Tryd.prog 8 #[.agg #[.slice C caps.length cc, .slice P paths.length cp], .slice A want.length c] w fun e w' => e = .returned (.bool true) ∧ Below w.heap.size w w' := by
  have LAID := Lib.hid hg
  have HC := Lib.hid hc; have HP := Lib.hid hp; have HI := Lib.hid hi
  have him := hi.cap; have hil := hi.le; have hcm := hc.cap; have hcl := hc.le
  unfold maxLen at him hcm
  clear hg hc hp hi
  have HE := Lib.hid he
  obtain ⟨hne, hwl, hwi⟩ := wants_ok he
  obtain ⟨a1, a2, a3, a4, a5, a6⟩ := netErr_ok hne
  have hsh := netErr_short hne
  have hll : ∀ l ∈ paths, 0 < l.length ∧ l.length ≤ 1000 := fun l hl => ⟨((netOk_of hne).path l hl).1, by have := hsh l hl; omega⟩
  have ok := wide_netOk he
  have hRl := hK.len ok
  rw [wideP_len] at hRl
  have HRW : Hid (R.length = want.length) := Lib.hid (by omega)
  have hr6 : R.length ≤ 6 := by omega
  have hw6 : want.length ≤ 6 := by omega
  have hc6 : caps.length ≤ 6 := a2
  have HWD := Lib.hid fun (W : World) (hz : w.heap.size ≤ W.heap.size) (h1 : Ints W w.heap.size C cc caps) (h2 : Rows2 W w.heap.size P cp paths) (h3 : Ints W w.heap.size A c want) => refWide_own C cc caps P cp paths A c want w.heap.size W hz h1 h2 h3 hwl a3 a4 a1 a2 hll
  have h6' : decide ((6 : Int) < (caps.length : Int) + (want.length : Int)) = false := decide_eq_false (by omega)
  have HWN := Lib.hid fun (W : World) (hz : w.heap.size ≤ W.heap.size) (h1 : Ints W w.heap.size C cc caps) (h2 : Rows2 W w.heap.size P cp paths) (h3 : Ints W w.heap.size A c want) => wnet_yes C cc caps P cp paths A c want w.heap.size W hz h1 h2 h3 he h6
  have H6 := Lib.hid h6
  have HK := Lib.hid hK; have HK2 := Lib.hid hK
  have HOK := Lib.hid ok
  have HL12 : Hid ((caps ++ want).length ≤ 12) := Lib.hid (by rw [List.length_append]; omega)
  have HLLW : Hid (∀ p ∈ wideP paths caps.length, p.length ≤ 1000) := Lib.hid fun p hp => by
    obtain ⟨f, hf, rfl⟩ := List.mem_map.1 hp
    have hf := List.mem_range.1 hf
    have hm : paths.getD f [] ∈ paths := by rw [List.getD_eq_getElem?_getD, List.getElem?_eq_getElem hf]; exact List.getElem_mem hf
    have := hsh _ hm
    rw [List.length_append, List.length_singleton]; omega
  obtain ⟨CW, hCW⟩ : ∃ l, caps ++ want = l := ⟨_, rfl⟩
  obtain ⟨PW, hPW⟩ : ∃ l, wideP paths caps.length = l := ⟨_, rfl⟩
  rw [hCW, hPW] at HWD HK HOK HWN
  rw [hCW] at HL12
  rw [hPW] at HLLW
  clear he hne hwl hwi a1 a2 a3 a4 a5 a6 hsh hll ok hRl h6 hK hCW hPW
  have HN0 := Lib.hid (Blk.new w 43 #[.slice C caps.length cc, .slice P paths.length cp])
  have HB0 := Lib.hid ((Below.refl w.heap.size w).alloc (Nat.le_refl _) (.cells #[.slice C caps.length cc, .slice P paths.length cp] 43))
  obtain ⟨wk0, hwk⟩ : ∃ x, x = w.alloc (.cells #[.slice C caps.length cc, .slice P paths.length cp] 43) := ⟨_, rfl⟩
  rw [← hwk] at HN0 HB0
  have HB := HB0; have HN := HN0
  clear HB0 HN0
  have hz := HB.out.size
  go_enter Tryd.func8, Tryd.ntmps8
  go_upto_region 1 with (fail)
  rw [← hwk]
  clear hwk
  obtain ⟨hn_0, hn_1, hn_2, hn_3, hn_4⟩ := HN.out.two
  go_wp2_with fail
  refine (refWants_any C cc caps P cp paths A c want w.heap.size _ 0 hz (HC.out.below HB.out (Nat.le_refl _)) (HP.out.below HB.out (Nat.le_refl _)) (HI.out.below HB.out (Nat.le_refl _)) HE.out).mono ?_; rintro e wk1 ⟨rfl, hb⟩
  clear hz
  have HBx := Lib.hid (HB.out.trans (hb.mono HB.out.size))
  have HNx := Lib.hid (HN.out.go hb)
  clear hb hn_0 hn_1 hn_2 hn_3 hn_4 HB HN 
  have HB := HBx; have HN := HNx
  clear HBx HNx
  have hz := HB.out.size
  obtain ⟨hn_0, hn_1, hn_2, hn_3, hn_4⟩ := HN.out.two
  have hle7 : w.heap.size < wk1.heap.size := HN.out.lt
  obtain ⟨wk2, hwk⟩ : ∃ x, x = wk1.alloc (.cells #[.slice none 0 0, .slice none 0 0] 43) := ⟨_, rfl⟩
  have hb : Below wk1.heap.size wk1 wk2 := by rw [hwk]; exact (Below.refl _ _).alloc (Nat.le_refl _) _
  have HX : Hid (Blk wk2 wk1.heap.size 43 #[.slice none 0 0, .slice none 0 0]) := Lib.hid (by rw [hwk]; exact Blk.new _ _ _)
  go_upto_region 4 with (fail)
  rw [← hwk]
  clear hwk hz
  obtain ⟨gHX, hgk⟩ : ∃ x, x = wk1.heap.size := ⟨_, rfl⟩
  rw [← hgk] at HX hle7 ⊢
  clear hgk
  have HBx := Lib.hid (HB.out.trans (hb.mono HB.out.size))
  have HNx := Lib.hid (HN.out.go hb)
  clear hb hn_0 hn_1 hn_2 hn_3 hn_4 HB HN 
  have HB := HBx; have HN := HNx
  clear HBx HNx
  have hz := HB.out.size
  obtain ⟨hn_0, hn_1, hn_2, hn_3, hn_4⟩ := HN.out.two
  clear hn_0 hn_1 hn_2 hn_3 hn_4
  obtain ⟨hn_0, hn_1, hn_2, hn_3, hn_4⟩ := HN.out.two
  obtain ⟨hx_0, hx_1, hx_2, hx_3, hx_4⟩ := HX.out.two
  go_wp2_with fail
  refine (HWD.out _ hz (HC.out.below HB.out (Nat.le_refl _)) (HP.out.below HB.out (Nat.le_refl _)) (HI.out.below HB.out (Nat.le_refl _))).mono ?_; rintro e wk3 ⟨C7, n7, d7, P7, m7, e7, vs7, rfl, hn7, hm7, ho7, hb⟩
  clear hz
  have HBx := Lib.hid (HB.out.trans (hb.mono HB.out.size))
  have HNx := Lib.hid (HN.out.go hb)
  have HXx := Lib.hid (HX.out.go hb)
  clear hb hn_0 hn_1 hn_2 hn_3 hn_4 hx_0 hx_1 hx_2 hx_3 hx_4 HB HN HX 
  have HB := HBx; have HN := HNx; have HX := HXx
  clear HBx HNx HXx
  have hz := HB.out.size
  obtain ⟨hn_0, hn_1, hn_2, hn_3, hn_4⟩ := HN.out.two
  obtain ⟨hx_0, hx_1, hx_2, hx_3, hx_4⟩ := HX.out.two
  have HW7 := Lib.hid ho7
  have HN7 := Lib.hid hn7; have HM7 := Lib.hid hm7
  clear ho7 hn7 hm7
  have hgne : w.heap.size ≠ gHX := Nat.ne_of_lt hle7
  have hleX : w.heap.size ≤ gHX := Nat.le_of_lt hle7
  obtain ⟨wk4, hwk⟩ : ∃ y, y = (wk3.setCell ⟨gHX, 0, none⟩ (.slice C7 n7 d7)).setCell ⟨gHX, 1, none⟩ (.slice P7 m7 e7) := ⟨_, rfl⟩
  have HBx : Hid (Below w.heap.size w wk4) := Lib.hid (by rw [hwk]; exact (HB.out.setCell (p := ⟨gHX, 0, none⟩) hleX _).setCell (p := ⟨gHX, 1, none⟩) hleX _)
  have HXx : Hid (Blk wk4 gHX 43 #[.slice C7 n7 d7, .slice P7 m7 e7]) := Lib.hid (by rw [hwk]; exact (HX.out.s2_0 _).s2_1 _)
  have HNx : Hid (Blk wk4 w.heap.size 43 #[.slice C caps.length cc, .slice P paths.length cp]) := Lib.hid (by rw [hwk]; exact (HN.out.far (p := ⟨gHX, 0, none⟩) hgne _).far (p := ⟨gHX, 1, none⟩) hgne _)
  have HW7x := Lib.hid (show NetOwn wk4 _ (.slice C7 n7 d7) (.slice P7 m7 e7) vs7 CW PW from by rw [hwk]; exact (HW7.out.far HX.out (by decide) (by decide) 0 _).far (HX.out.s2_0 _) (by decide) (by decide) 1 _)
  go_upto_region 8 with (fail)
  rw [← hwk]
  clear hwk hz HB HX HN HW7 hn_0 hn_1 hn_2 hn_3 hn_4 hx_0 hx_1 hx_2 hx_3 hx_4
  have HB := HBx; have HX := HXx; have HN := HNx; have HW7 := HW7x
  clear HBx HXx HNx HW7x
  have hz := HB.out.size
  obtain ⟨hn_0, hn_1, hn_2, hn_3, hn_4⟩ := HN.out.two
  obtain ⟨hx_0, hx_1, hx_2, hx_3, hx_4⟩ := HX.out.two
  go_wp2_with fail
  refine (HWN.out _ hz (HC.out.below HB.out (Nat.le_refl _)) (HP.out.below HB.out (Nat.le_refl _)) (HI.out.below HB.out (Nat.le_refl _))).mono ?_; rintro e wk5 ⟨C8, d8, P8, e8, rfl, hi8, hp8, hb⟩
  clear hz
  have HBx := Lib.hid (HB.out.trans (hb.mono HB.out.size))
  have HNx := Lib.hid (HN.out.go hb)
  have HXx := Lib.hid (HX.out.go hb)
  have HW7x := Lib.hid (HW7.out.at' hb)
  clear hb hn_0 hn_1 hn_2 hn_3 hn_4 hx_0 hx_1 hx_2 hx_3 hx_4 HB HN HX HW7 
  have HB := HBx; have HN := HNx; have HX := HXx; have HW7 := HW7x
  clear HBx HNx HXx HW7x
  have hz := HB.out.size
  obtain ⟨hn_0, hn_1, hn_2, hn_3, hn_4⟩ := HN.out.two
  obtain ⟨hx_0, hx_1, hx_2, hx_3, hx_4⟩ := HX.out.two
  have HC8 := Lib.hid hi8
  have HP8 := Lib.hid hp8
  clear hi8 hp8
  obtain ⟨wk6, hwk⟩ : ∃ x, x = wk5.alloc (.cells #[.slice C8 CW.length d8, .slice P8 PW.length e8] 43) := ⟨_, rfl⟩
  have hb : Below wk5.heap.size wk5 wk6 := by rw [hwk]; exact (Below.refl _ _).alloc (Nat.le_refl _) _
  have HY : Hid (Blk wk6 wk5.heap.size 43 #[.slice C8 CW.length d8, .slice P8 PW.length e8]) := Lib.hid (by rw [hwk]; exact Blk.new _ _ _)
  go_upto_region 9 with (fail)
  rw [← hwk]
  clear hwk hz
  obtain ⟨gHY, hgk⟩ : ∃ x, x = wk5.heap.size := ⟨_, rfl⟩
  rw [← hgk] at HY ⊢
  clear hgk
  have HBx := Lib.hid (HB.out.trans (hb.mono HB.out.size))
  have HNx := Lib.hid (HN.out.go hb)
  have HXx := Lib.hid (HX.out.go hb)
  have HW7x := Lib.hid (HW7.out.at' hb)
  have HC8x := Lib.hid (HC8.out.at' hb)
  have HP8x := Lib.hid (HP8.out.at' hb)
  clear hb hn_0 hn_1 hn_2 hn_3 hn_4 hx_0 hx_1 hx_2 hx_3 hx_4 HB HN HX HW7 HC8 HP8 
  have HB := HBx; have HN := HNx; have HX := HXx; have HW7 := HW7x; have HC8 := HC8x; have HP8 := HP8x
  clear HBx HNx HXx HW7x HC8x HP8x
  have hz := HB.out.size
  obtain ⟨hn_0, hn_1, hn_2, hn_3, hn_4⟩ := HN.out.two
  obtain ⟨hx_0, hx_1, hx_2, hx_3, hx_4⟩ := HX.out.two
  obtain ⟨hy_0, hy_1, hy_2, hy_3, hy_4⟩ := HY.out.two
  go_wp2_with fail
  refine (same_z _ (LAID.out.below HB.out)).mono ?_; rintro e wk7 ⟨rfl, hb⟩
  clear hz
  have HBx := Lib.hid (HB.out.trans (hb.mono HB.out.size))
  have HNx := Lib.hid (HN.out.go hb)
  have HXx := Lib.hid (HX.out.go hb)
  have HYx := Lib.hid (HY.out.go hb)
  have HW7x := Lib.hid (HW7.out.at' hb)
  have HC8x := Lib.hid (HC8.out.at' hb)
  have HP8x := Lib.hid (HP8.out.at' hb)
  clear hb hn_0 hn_1 hn_2 hn_3 hn_4 hx_0 hx_1 hx_2 hx_3 hx_4 hy_0 hy_1 hy_2 hy_3 hy_4 HB HN HX HY HW7 HC8 HP8 
  have HB := HBx; have HN := HNx; have HX := HXx; have HY := HYx; have HW7 := HW7x; have HC8 := HC8x; have HP8 := HP8x
  clear HBx HNx HXx HYx HW7x HC8x HP8x
  have hz := HB.out.size
  obtain ⟨hn_0, hn_1, hn_2, hn_3, hn_4⟩ := HN.out.two
  obtain ⟨hx_0, hx_1, hx_2, hx_3, hx_4⟩ := HX.out.two
  obtain ⟨hy_0, hy_1, hy_2, hy_3, hy_4⟩ := HY.out.two
  go_wp2_with fail
  refine (sameNet_n C8 C7 P8 P7 d8 d7 e8 e7 _ _ _ _ CW PW _ _ _ HC8.out HW7.out.both.1 HP8.out HW7.out.both.2 (Nat.le_refl _) (Nat.le_refl _) rfl HN7.out rfl HM7.out).mono ?_; rintro e wk8 ⟨rfl, hb⟩
  clear hz
  have HBx := Lib.hid (HB.out.trans (hb.mono HB.out.size))
  have HNx := Lib.hid (HN.out.go hb)
  have HXx := Lib.hid (HX.out.go hb)
  have HYx := Lib.hid (HY.out.go hb)
  have HW7x := Lib.hid (HW7.out.at' hb)
  have HC8x := Lib.hid (HC8.out.at' hb)
  have HP8x := Lib.hid (HP8.out.at' hb)
  clear hb hn_0 hn_1 hn_2 hn_3 hn_4 hx_0 hx_1 hx_2 hx_3 hx_4 hy_0 hy_1 hy_2 hy_3 hy_4 HB HN HX HY HW7 HC8 HP8 
  have HB := HBx; have HN := HNx; have HX := HXx; have HY := HYx; have HW7 := HW7x; have HC8 := HC8x; have HP8 := HP8x
  clear HBx HNx HXx HYx HW7x HC8x HP8x
  have hz := HB.out.size
  obtain ⟨hn_0, hn_1, hn_2, hn_3, hn_4⟩ := HN.out.two
  obtain ⟨hx_0, hx_1, hx_2, hx_3, hx_4⟩ := HX.out.two
  obtain ⟨hy_0, hy_1, hy_2, hy_3, hy_4⟩ := HY.out.two
  clear HC8 HP8 HW7
  go_wp2_with fail
  refine (HWD.out _ hz (HC.out.below HB.out (Nat.le_refl _)) (HP.out.below HB.out (Nat.le_refl _)) (HI.out.below HB.out (Nat.le_refl _))).mono ?_; rintro e wk9 ⟨C9, n9, d9, P9, m9, e9, vs9, rfl, hn9, hm9, ho9, hb⟩
  clear hz
  have HBx := Lib.hid (HB.out.trans (hb.mono HB.out.size))
  have HNx := Lib.hid (HN.out.go hb)
  have HXx := Lib.hid (HX.out.go hb)
  have HYx := Lib.hid (HY.out.go hb)
  clear hb hn_0 hn_1 hn_2 hn_3 hn_4 hx_0 hx_1 hx_2 hx_3 hx_4 hy_0 hy_1 hy_2 hy_3 hy_4 HB HN HX HY 
  have HB := HBx; have HN := HNx; have HX := HXx; have HY := HYx
  clear HBx HNx HXx HYx
  have hz := HB.out.size
  obtain ⟨hn_0, hn_1, hn_2, hn_3, hn_4⟩ := HN.out.two
  obtain ⟨hx_0, hx_1, hx_2, hx_3, hx_4⟩ := HX.out.two
  obtain ⟨hy_0, hy_1, hy_2, hy_3, hy_4⟩ := HY.out.two
  have HW9 := Lib.hid ho9
  have HN9 := Lib.hid hn9; have HM9 := Lib.hid hm9
  clear ho9 hn9 hm9
  go_wp2_with fail
  refine (refFill_yes C9 d9 n9 CW P9 e9 m9 PW wk9.heap.size _ K R (Nat.le_refl _) HW9.out.both.1 HW9.out.both.2 HN9.out HM9.out HOK.out HL12.out HLLW.out HK.out).mono ?_; rintro e wk10 ⟨A5, c5, U, u5, rfl, hf5, _, hb⟩
  clear hz
  have HBx := Lib.hid (HB.out.trans (hb.mono HB.out.size))
  have HNx := Lib.hid (HN.out.go hb)
  have HXx := Lib.hid (HX.out.go hb)
  have HYx := Lib.hid (HY.out.go hb)
  have HW9x := Lib.hid (HW9.out.at' hb)
  clear hb hn_0 hn_1 hn_2 hn_3 hn_4 hx_0 hx_1 hx_2 hx_3 hx_4 hy_0 hy_1 hy_2 hy_3 hy_4 HB HN HX HY HW9 
  have HB := HBx; have HN := HNx; have HX := HXx; have HY := HYx; have HW9 := HW9x
  clear HBx HNx HXx HYx HW9x
  have hz := HB.out.size
  obtain ⟨hn_0, hn_1, hn_2, hn_3, hn_4⟩ := HN.out.two
  obtain ⟨hx_0, hx_1, hx_2, hx_3, hx_4⟩ := HX.out.two
  obtain ⟨hy_0, hy_1, hy_2, hy_3, hy_4⟩ := HY.out.two
  have HFR := Lib.hid hf5
  clear hf5 HW9
  have hm5 := HFR.out.cap; have hl5 := HFR.out.le
  rw [List.length_map] at hl5
  unfold maxLen at hm5
  clear hn_0 hn_1 hn_2 hn_3 hn_4 hx_0 hx_1 hx_2 hx_3 hx_4 hy_0 hy_1 hy_2 hy_3 hy_4
  go_wp2
  go_loopw [12, 13] (fun v iv wr => ∃ j : Nat, j ≤ R.length ∧ iv = .int .i64 j ∧ Hid (wr.ownsRow wk10.heap.size 4 1 v j ((satTo want R j).map Value.bool)) ∧ Hid (Below wk10.heap.size wk10 wr)) (fun _ iv _ => R.length - (intOf iv).toNat)
  case atStart => exact ⟨0, Nat.zero_le _, rfl, Lib.hid (World.ownsRow_nil _ _ _ _), Lib.hid (Below.refl _ _)⟩
  case round =>
    obtain ⟨j, hj, rfl, HO, HBL⟩ := hrel
    have hzl := HBL.out.size
    by_cases hjl : j < R.length
    · have j0 : (0 : Int) ≤ (j : Int) := by omega
      have j1 : (j : Int) < (R.length : Int) := by omega
      have hjw : j < want.length := by have := HRW.out; omega
      have j2 : (j : Int) < (want.length : Int) := by omega
      obtain ⟨b, off, rfl, hb, c0, c1⟩ := frs_q (HFR.out.below HBL.out (Nat.le_refl _)) hjl
      obtain ⟨b2, off2, x, rfl, hb2, x0, _, _, HXX⟩ := (HI.out.below (HB.out.trans (HBL.out.mono hz)) (Nat.le_refl _)).elem hjw
      have hfb : satB want R j = decide (R.getD j 0 = (x : Rat)) := by unfold satB; rw [HXX.out]
      have hsu := satTo_succ want R j
      obtain ⟨q, hq⟩ : ∃ q, R.getD j 0 = q := ⟨_, rfl⟩
      rw [hq] at c0 c1 hfb
      have hiff := @q_int q x
      obtain ⟨a, ha⟩ : ∃ a, q.num = a := ⟨_, rfl⟩
      obtain ⟨d, hd⟩ : ∃ d : Int, (q.den : Int) = d := ⟨_, rfl⟩
      rw [ha] at c0
      rw [hd] at c1
      rw [ha, hd] at hiff
      have hz1 : b < wr.heap.size := by omega
      have hz2 : b2 < wr.heap.size := by have := HB.out.size; omega
      clear hq ha hd HXX hjw
      by_cases hx : q = (x : Rat)
      · obtain ⟨e1, e2⟩ := hiff.1 hx
        subst e1 e2
        have HSU : Hid (satTo want R (j + 1) = satTo want R j ++ [true]) := Lib.hid (by rw [hsu, hfb, decide_eq_true hx])
        have one1 : Hid (∀ u ∈ (#[Value.bool true] : Array Value).toList, u.oneCell' = true) := Lib.hid (by simp [Value.oneCell'])
        have hk6 : j ≤ 1000000 := by omega
        clear hsu hfb hiff hx
        go_upto_region 17 with (fail)
        go_region_law (first
            | (refine step_push rfl (.tmp 67) (.tmp 78) 99 rfl wk10.heap.size 4 (.bool false) 1 1 Tryd.underlying99 Tryd.info_boolF rfl Nat.one_pos _ j _ rfl HOV.out w5.heap.size #[.bool true] rfl (heap_alloc_new _ _) rfl one1.out hk6 (by decide) hz6 ?_; intro v9 w9 hown9 hg9 hblk9; have HO9 := Lib.hid hown9; have HB9 := Lib.hid (below_push HBV.out HOV.out hg9 (Nat.le_refl _) hz6); clear hown9 hg9 hblk9)
            | (go_simp; go_at_call 52; refine (refWhole_any _ _).mono ?_; rintro e w5 ⟨rfl, hb5⟩; have HB5 : Hid (Below wr.heap.size wr w5) := Lib.hid ((Below.refl _ _).drew.trans hb5); have y0 : w5.cell? ⟨b, off + j * 2, none⟩ = some (.int .i64 a) := (HB5.out.cell (p := ⟨b, off + j * 2, none⟩) hz1).trans c0; have y1 : w5.cell? ⟨b, off + j * 2 + 1, none⟩ = some (.int .i64 1) := (HB5.out.cell (p := ⟨b, off + j * 2 + 1, none⟩) hz1).trans c1; have HOV := Lib.hid ((own_below HO.out HB5.out).alloc (.cells #[.bool true] 4)); have hb6 := HBL.out.trans (HB5.out.mono hzl); have HBV := Lib.hid (hb6.alloc hb6.size (.cells #[.bool true] 4)); have hz6 := HBV.out.size; have hz5 := HB5.out.size; clear hb5 hb6))
        all_goals
          go_wp2
          go_roundw
          case rel => exact ⟨j + 1, by omega, by go_num, Lib.hid (by rw [HSU.out, List.map_append]; exact HO9.out), HB9⟩
          case measure => simp [intOf]; omega
      · have hne : ¬ (a = x ∧ d = 1) := fun h => hx (hiff.2 h)
        have HSU : Hid (satTo want R (j + 1) = satTo want R j ++ [false]) := Lib.hid (by rw [hsu, hfb, decide_eq_false hx])
        have one1 : Hid (∀ u ∈ (#[Value.bool false] : Array Value).toList, u.oneCell' = true) := Lib.hid (by simp [Value.oneCell'])
        have hk6 : j ≤ 1000000 := by omega
        clear hsu hfb hiff hx
        by_cases e1 : a = x
        · have e2 : (d == 1) = false := beq_eq_false_iff_ne.2 fun h => hne ⟨e1, h⟩
          subst e1
          clear hne
          go_upto_region 17 with (fail)
          go_region_law (first
              | (refine step_push rfl (.tmp 67) (.tmp 78) 99 rfl wk10.heap.size 4 (.bool false) 1 1 Tryd.underlying99 Tryd.info_boolF rfl Nat.one_pos _ j _ rfl HOV.out w5.heap.size #[.bool false] rfl (heap_alloc_new _ _) rfl one1.out hk6 (by decide) hz6 ?_; intro v9 w9 hown9 hg9 hblk9; have HO9 := Lib.hid hown9; have HB9 := Lib.hid (below_push HBV.out HOV.out hg9 (Nat.le_refl _) hz6); clear hown9 hg9 hblk9)
              | (go_simp; go_at_call 52; refine (refWhole_any _ _).mono ?_; rintro e w5 ⟨rfl, hb5⟩; have HB5 : Hid (Below wr.heap.size wr w5) := Lib.hid ((Below.refl _ _).drew.trans hb5); have y0 : w5.cell? ⟨b, off + j * 2, none⟩ = some (.int .i64 a) := (HB5.out.cell (p := ⟨b, off + j * 2, none⟩) hz1).trans c0; have y1 : w5.cell? ⟨b, off + j * 2 + 1, none⟩ = some (.int .i64 d) := (HB5.out.cell (p := ⟨b, off + j * 2 + 1, none⟩) hz1).trans c1; have HOV := Lib.hid ((own_below HO.out HB5.out).alloc (.cells #[.bool false] 4)); have hb6 := HBL.out.trans (HB5.out.mono hzl); have HBV := Lib.hid (hb6.alloc hb6.size (.cells #[.bool false] 4)); have hz6 := HBV.out.size; have hz5 := HB5.out.size; clear hb5 hb6))
          all_goals
            go_wp2
            go_roundw
            case rel => exact ⟨j + 1, by omega, by go_num, Lib.hid (by rw [HSU.out, List.map_append]; exact HO9.out), HB9⟩
            case measure => simp [intOf]; omega
        · have e2 : (a == x) = false := beq_eq_false_iff_ne.2 e1
          clear hne e1
          go_upto_region 17 with (fail)
          go_region_law (first
              | (refine step_push rfl (.tmp 67) (.tmp 78) 99 rfl wk10.heap.size 4 (.bool false) 1 1 Tryd.underlying99 Tryd.info_boolF rfl Nat.one_pos _ j _ rfl HOV.out w5.heap.size #[.bool false] rfl (heap_alloc_new _ _) rfl one1.out hk6 (by decide) hz6 ?_; intro v9 w9 hown9 hg9 hblk9; have HO9 := Lib.hid hown9; have HB9 := Lib.hid (below_push HBV.out HOV.out hg9 (Nat.le_refl _) hz6); clear hown9 hg9 hblk9)
              | (go_simp; go_at_call 52; refine (refWhole_any _ _).mono ?_; rintro e w5 ⟨rfl, hb5⟩; have HB5 : Hid (Below wr.heap.size wr w5) := Lib.hid ((Below.refl _ _).drew.trans hb5); have y0 : w5.cell? ⟨b, off + j * 2, none⟩ = some (.int .i64 a) := (HB5.out.cell (p := ⟨b, off + j * 2, none⟩) hz1).trans c0; have y1 : w5.cell? ⟨b, off + j * 2 + 1, none⟩ = some (.int .i64 d) := (HB5.out.cell (p := ⟨b, off + j * 2 + 1, none⟩) hz1).trans c1; have HOV := Lib.hid ((own_below HO.out HB5.out).alloc (.cells #[.bool false] 4)); have hb6 := HBL.out.trans (HB5.out.mono hzl); have HBV := Lib.hid (hb6.alloc hb6.size (.cells #[.bool false] 4)); have hz6 := HBV.out.size; have hz5 := HB5.out.size; clear hb5 hb6))
          all_goals
            go_wp2
            go_roundw
            case rel => exact ⟨j + 1, by omega, by go_num, Lib.hid (by rw [HSU.out, List.map_append]; exact HO9.out), HB9⟩
            case measure => simp [intOf]; omega
    · obtain rfl : j = R.length := by omega
      obtain ⟨A6, c6, hv6, hn6, hs6⟩ := owns_bls HO.out
      rw [satTo_len] at hv6
      subst hv6
      have HSB := Lib.hid hs6
      have hb := HBL.out
      clear hj hjl hzl HBL HO hn6 hs6
      obtain ⟨wk11, hwk⟩ : ∃ x, x = wr := ⟨_, rfl⟩
      rw [← hwk] at hb HSB ⊢
      clear hwk hz
      have HBx := Lib.hid (HB.out.trans (hb.mono HB.out.size))
      have HNx := Lib.hid (HN.out.go hb)
      have HXx := Lib.hid (HX.out.go hb)
      have HYx := Lib.hid (HY.out.go hb)
      have HFRx := Lib.hid (HFR.out.at' hb)
      clear hb  HB HN HX HY HFR 
      have HB := HBx; have HN := HNx; have HX := HXx; have HY := HYx; have HFR := HFRx
      clear HBx HNx HXx HYx HFRx
      have hz := HB.out.size
      obtain ⟨hn_0, hn_1, hn_2, hn_3, hn_4⟩ := HN.out.two
      obtain ⟨hx_0, hx_1, hx_2, hx_3, hx_4⟩ := HX.out.two
      obtain ⟨hy_0, hy_1, hy_2, hy_3, hy_4⟩ := HY.out.two
      go_wp2_with fail
      refine (wrates_yes C cc caps P cp _ paths A c _ want w.heap.size _ K R hz (HC.out.below HB.out (Nat.le_refl _)) (HP.out.below HB.out (Nat.le_refl _)) (HI.out.below HB.out (Nat.le_refl _)) rfl rfl HE.out HK2.out).mono ?_; rintro e wk12 ⟨A7, c7, rfl, hf7, hb⟩
      clear hz
      have HBx := Lib.hid (HB.out.trans (hb.mono HB.out.size))
      have HNx := Lib.hid (HN.out.go hb)
      have HXx := Lib.hid (HX.out.go hb)
      have HYx := Lib.hid (HY.out.go hb)
      have HFRx := Lib.hid (HFR.out.at' hb)
      have HSBx := Lib.hid (HSB.out.at' hb)
      clear hb hn_0 hn_1 hn_2 hn_3 hn_4 hx_0 hx_1 hx_2 hx_3 hx_4 hy_0 hy_1 hy_2 hy_3 hy_4 HB HN HX HY HFR HSB 
      have HB := HBx; have HN := HNx; have HX := HXx; have HY := HYx; have HFR := HFRx; have HSB := HSBx
      clear HBx HNx HXx HYx HFRx HSBx
      have hz := HB.out.size
      obtain ⟨hn_0, hn_1, hn_2, hn_3, hn_4⟩ := HN.out.two
      obtain ⟨hx_0, hx_1, hx_2, hx_3, hx_4⟩ := HX.out.two
      obtain ⟨hy_0, hy_1, hy_2, hy_3, hy_4⟩ := HY.out.two
      have HF7 := Lib.hid hf7
      clear hf7
      go_wp2_with fail
      refine (same_z _ (LAID.out.below HB.out)).mono ?_; rintro e wk13 ⟨rfl, hb⟩
      clear hz
      have HBx := Lib.hid (HB.out.trans (hb.mono HB.out.size))
      have HNx := Lib.hid (HN.out.go hb)
      have HXx := Lib.hid (HX.out.go hb)
      have HYx := Lib.hid (HY.out.go hb)
      have HFRx := Lib.hid (HFR.out.at' hb)
      have HSBx := Lib.hid (HSB.out.at' hb)
      have HF7x := Lib.hid (HF7.out.at' hb)
      clear hb hn_0 hn_1 hn_2 hn_3 hn_4 hx_0 hx_1 hx_2 hx_3 hx_4 hy_0 hy_1 hy_2 hy_3 hy_4 HB HN HX HY HFR HSB HF7 
      have HB := HBx; have HN := HNx; have HX := HXx; have HY := HYx; have HFR := HFRx; have HSB := HSBx; have HF7 := HF7x
      clear HBx HNx HXx HYx HFRx HSBx HF7x
      have hz := HB.out.size
      obtain ⟨hn_0, hn_1, hn_2, hn_3, hn_4⟩ := HN.out.two
      obtain ⟨hx_0, hx_1, hx_2, hx_3, hx_4⟩ := HX.out.two
      obtain ⟨hy_0, hy_1, hy_2, hy_3, hy_4⟩ := HY.out.two
      go_wp2_with fail
      refine (sameFr_any A7 A5 c7 c5 _ _ (R.map frQ) (R.map frQ) _ _ _ HF7.out HFR.out (by rw [List.length_map]) (by rw [List.length_map]) (Nat.le_refl _) (Nat.le_refl _) true (decide_eq_true rfl)).mono ?_; rintro e wk14 ⟨rfl, hb⟩
      clear hz
      have HBx := Lib.hid (HB.out.trans (hb.mono HB.out.size))
      have HNx := Lib.hid (HN.out.go hb)
      have HXx := Lib.hid (HX.out.go hb)
      have HYx := Lib.hid (HY.out.go hb)
      have HFRx := Lib.hid (HFR.out.at' hb)
      have HSBx := Lib.hid (HSB.out.at' hb)
      have HF7x := Lib.hid (HF7.out.at' hb)
      clear hb hn_0 hn_1 hn_2 hn_3 hn_4 hx_0 hx_1 hx_2 hx_3 hx_4 hy_0 hy_1 hy_2 hy_3 hy_4 HB HN HX HY HFR HSB HF7 
      have HB := HBx; have HN := HNx; have HX := HXx; have HY := HYx; have HFR := HFRx; have HSB := HSBx; have HF7 := HF7x
      clear HBx HNx HXx HYx HFRx HSBx HF7x
      have hz := HB.out.size
      obtain ⟨hn_0, hn_1, hn_2, hn_3, hn_4⟩ := HN.out.two
      obtain ⟨hx_0, hx_1, hx_2, hx_3, hx_4⟩ := HX.out.two
      obtain ⟨hy_0, hy_1, hy_2, hy_3, hy_4⟩ := HY.out.two
      go_wp2_with fail
      refine (wsated_yes C cc caps P cp _ paths A c _ want w.heap.size _ K R hz (HC.out.below HB.out (Nat.le_refl _)) (HP.out.below HB.out (Nat.le_refl _)) (HI.out.below HB.out (Nat.le_refl _)) rfl rfl HE.out HK2.out).mono ?_; rintro e wk15 ⟨A8, c8, rfl, hs8, hb⟩
      clear hz
      have HBx := Lib.hid (HB.out.trans (hb.mono HB.out.size))
      have HNx := Lib.hid (HN.out.go hb)
      have HXx := Lib.hid (HX.out.go hb)
      have HYx := Lib.hid (HY.out.go hb)
      have HFRx := Lib.hid (HFR.out.at' hb)
      have HSBx := Lib.hid (HSB.out.at' hb)
      have HF7x := Lib.hid (HF7.out.at' hb)
      clear hb hn_0 hn_1 hn_2 hn_3 hn_4 hx_0 hx_1 hx_2 hx_3 hx_4 hy_0 hy_1 hy_2 hy_3 hy_4 HB HN HX HY HFR HSB HF7 
      have HB := HBx; have HN := HNx; have HX := HXx; have HY := HYx; have HFR := HFRx; have HSB := HSBx; have HF7 := HF7x
      clear HBx HNx HXx HYx HFRx HSBx HF7x
      have hz := HB.out.size
      obtain ⟨hn_0, hn_1, hn_2, hn_3, hn_4⟩ := HN.out.two
      obtain ⟨hx_0, hx_1, hx_2, hx_3, hx_4⟩ := HX.out.two
      obtain ⟨hy_0, hy_1, hy_2, hy_3, hy_4⟩ := HY.out.two
      have HS8 := Lib.hid hs8
      clear hs8
      go_wp2_with fail
      refine (same_z _ (LAID.out.below HB.out)).mono ?_; rintro e wk16 ⟨rfl, hb⟩
      clear hz
      have HBx := Lib.hid (HB.out.trans (hb.mono HB.out.size))
      have HNx := Lib.hid (HN.out.go hb)
      have HXx := Lib.hid (HX.out.go hb)
      have HYx := Lib.hid (HY.out.go hb)
      have HFRx := Lib.hid (HFR.out.at' hb)
      have HSBx := Lib.hid (HSB.out.at' hb)
      have HF7x := Lib.hid (HF7.out.at' hb)
      have HS8x := Lib.hid (HS8.out.at' hb)
      clear hb hn_0 hn_1 hn_2 hn_3 hn_4 hx_0 hx_1 hx_2 hx_3 hx_4 hy_0 hy_1 hy_2 hy_3 hy_4 HB HN HX HY HFR HSB HF7 HS8 
      have HB := HBx; have HN := HNx; have HX := HXx; have HY := HYx; have HFR := HFRx; have HSB := HSBx; have HF7 := HF7x; have HS8 := HS8x
      clear HBx HNx HXx HYx HFRx HSBx HF7x HS8x
      have hz := HB.out.size
      obtain ⟨hn_0, hn_1, hn_2, hn_3, hn_4⟩ := HN.out.two
      obtain ⟨hx_0, hx_1, hx_2, hx_3, hx_4⟩ := HX.out.two
      obtain ⟨hy_0, hy_1, hy_2, hy_3, hy_4⟩ := HY.out.two
      go_wp2_with fail
      refine (sameBl_any A8 A6 c8 c6 _ _ (satTo want R R.length) (satTo want R R.length) _ _ _ HS8.out HSB.out (satTo_len _ _ _).symm (satTo_len _ _ _).symm (Nat.le_refl _) (Nat.le_refl _) true (decide_eq_true rfl)).mono ?_; rintro e wk17 ⟨rfl, hb⟩
      clear hz
      have HBx := Lib.hid (HB.out.trans (hb.mono HB.out.size))
      have HNx := Lib.hid (HN.out.go hb)
      have HXx := Lib.hid (HX.out.go hb)
      have HYx := Lib.hid (HY.out.go hb)
      have HFRx := Lib.hid (HFR.out.at' hb)
      have HSBx := Lib.hid (HSB.out.at' hb)
      have HF7x := Lib.hid (HF7.out.at' hb)
      have HS8x := Lib.hid (HS8.out.at' hb)
      clear hb hn_0 hn_1 hn_2 hn_3 hn_4 hx_0 hx_1 hx_2 hx_3 hx_4 hy_0 hy_1 hy_2 hy_3 hy_4 HB HN HX HY HFR HSB HF7 HS8 
      have HB := HBx; have HN := HNx; have HX := HXx; have HY := HYx; have HFR := HFRx; have HSB := HSBx; have HF7 := HF7x; have HS8 := HS8x
      clear HBx HNx HXx HYx HFRx HSBx HF7x HS8x
      have hz := HB.out.size
      obtain ⟨hn_0, hn_1, hn_2, hn_3, hn_4⟩ := HN.out.two
      obtain ⟨hx_0, hx_1, hx_2, hx_3, hx_4⟩ := HX.out.two
      obtain ⟨hy_0, hy_1, hy_2, hy_3, hy_4⟩ := HY.out.two
      go_wp2
      go_ret
      exact ⟨rfl, HB.out⟩
theorem wantTells_walk (w : World) (C : Option Addr) (cc : Nat) (caps : List Int) (hc : Ints w w.heap.size C cc caps) (_ : ∀ n ∈ caps, (Lit.int .i64 n).wf = true) (P : Option Addr) (cp : Nat) (paths : List (List Int)) (hp : Rows2 w w.heap.size P cp paths) (_ : ∀ l ∈ paths, ∀ n ∈ l, (Lit.int .i64 n).wf = true) (A : Option Addr) (c : Nat) (want : List Int) (hi : Ints w w.heap.size A c want) (_ : ∀ n ∈ want, (Lit.int .i64 n).wf = true) (hg : Laid w) :
    Calls Tryd.prog 8 #[.agg #[.slice C caps.length cc, .slice P paths.length cp], .slice A want.length c] w fun e w' => e = .returned (.bool true) ∧ Below w.heap.size w w' := by
  by_cases he : wantsErr caps paths want = 0
  · obtain ⟨K, R, hK⟩ := fill_ends (wide_netOk he)
    by_cases h6 : caps.length + want.length ≤ 6
    · exact wantTells_yes C cc caps P cp paths A c want w hg hc hp hi he h6 K R hK
    · exact wantTells_full C cc caps P cp paths A c want w hg hc hp hi he (by omega) K R hK
  · exact wantTells_er C cc caps P cp paths A c want w hg hc hp hi _ rfl he
end Go.Proofs.YtblanfaghnflkaaDoor
