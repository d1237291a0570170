/- The walk of RankTells: it returns true for every input. -/
import Derived.Test.YtblanfaghnflkaaDoorRefRates
import Derived.Test.YtblanfaghnflkaaDoorFrSame
import Derived.Test.YtblanfaghnflkaaDoorTold
import Derived.Test.YtblanfaghnflkaaDoorPlGrowLess
namespace Go.Proofs.YtblanfaghnflkaaDoor
open Go.RowKit
theorem same_e (n : Int) (w : World) (hg : Laid w) (h : n ≠ 0) : Calls Tryd.prog 15 #[.iface 119 (.int .i64 n), .int .i64 n] w fun e w' => e = .returned (.bool true) ∧ Below w.heap.size w w' := by
  have := same_yes n w hg
  rwa [errVal_pos h] at this
theorem same_nl (w : World) (hg : Laid w) : Calls Tryd.prog 15 #[.nilIface, .int .i64 0] w fun e w' => e = .returned (.bool true) ∧ Below w.heap.size w w' := by
  have := same_yes 0 w hg
  rwa [errVal_zero] at this
theorem refRates_er (A : Option Addr) (c n : Nat) (S : List Fr) (e : Int) (B : Nat) (w : World) (hB : B ≤ w.heap.size) (hr : Frs w B A c S) (hn : n = S.length) (he : rkErr S = e) (h0 : e ≠ 0) :
    Calls Tryd.prog 67 #[.slice A n c] w fun r w' => ∃ A' c', r = .returned (.tuple #[.slice A' 0 c', .int .i64 e]) ∧ Frs w' w'.heap.size A' c' [] ∧ Below w.heap.size w w' := by
  subst hn
  exact refRates_any A c S [] e B w hB hr he ⟨fun _ => rfl, fun h => absurd (he.symm.trans h) h0⟩
theorem refRates_yes (A : Option Addr) (c n : Nat) (Q : List Rat) (B : Nat) (w : World) (hB : B ≤ w.heap.size) (hr : Frs w B A c (Q.map frQ)) (hn : n = Q.length) (h6 : Q.length ≤ 6) (hq : ∀ q ∈ Q, QIn q) :
    Calls Tryd.prog 67 #[.slice A n c] w fun r w' => ∃ A' c', r = .returned (.tuple #[.slice A' Q.length c', .int .i64 0]) ∧ Frs w' w'.heap.size A' c' ((MM.srt Q).map frQ) ∧ Below w.heap.size w w' := by
  subst hn
  have := refRates_any A c (Q.map frQ) ((MM.srt Q).map frQ) 0 B w hB hr (rk_of h6 hq) ⟨fun h => absurd (rk_of h6 hq) h, fun _ => ⟨Q, rfl, h6, hq, rfl⟩⟩
  rwa [List.length_map, List.length_map, QS.srt_len] at this
set_option maxHeartbeats 16000000 in
set_option maxRecDepth 100000 in
theorem rankTells_er_any (A : Option Addr) (c : Nat) (S : List Fr) (A2 : Option Addr) (c2 : Nat) (S2 : List Fr) (w : World) (hg : Laid w) (hr : Frs w w.heap.size A c S) (hr2 : Frs w w.heap.size A2 c2 S2) (e : Int) (he : rkErr S = e) (h0 : e ≠ 0) (g : Int) (T2 : List Fr) (hg2 : rkErr S2 = g) (hT2 : RkIs S2 T2)  :
    Calls Tryd.prog 10 #[.slice A S.length c, .slice A2 S2.length c2] w fun e w' => e = .returned (.bool true) ∧ Below w.heap.size w w' := by
  have LAID := Lib.hid hg
  have hrm := hr.cap; have hrl := hr.le; have hrm2 := hr2.cap; have hrl2 := hr2.le
  unfold maxLen at hrm hrm2
  have HCE : Hid (cmpErr S S2 = e) := Lib.hid (by unfold cmpErr; rw [if_neg (by rw [he]; exact h0), he])
  have HE := Lib.hid he; have H0 := Lib.hid h0; have HG2 := Lib.hid hg2; have HT2 := Lib.hid hT2
  have h0' : (e == 0) = false := beq_eq_false_iff_ne.2 h0
  clear he hg2 hT2
  have HR := Lib.hid hr; have HR2 := Lib.hid hr2
  clear hg hr hr2
  have HB := Lib.hid (Below.refl w.heap.size w)
  obtain ⟨wk0, hwk⟩ : ∃ x, x = w := ⟨_, rfl⟩
  rw [show Below w.heap.size w w = Below w.heap.size w wk0 from by rw [hwk]] at HB
  have hz := HB.out.size
  go_enter Tryd.func10, Tryd.ntmps10
  go_upto_region 1 with (fail)
  rw [← hwk]
  clear hwk
  go_wp2_with fail
  refine (refRates_er A c _ S e w.heap.size _ hz (HR.out.below HB.out (Nat.le_refl _)) rfl HE.out H0.out).mono ?_; rintro e wk1 ⟨A5, c5, rfl, hf5, hb⟩
  clear hz
  have HBx := Lib.hid (HB.out.trans (hb.mono HB.out.size))
  clear hb  HB 
  have HB := HBx
  clear HBx
  have hz := HB.out.size
  have HX5 := Lib.hid hf5
  clear hf5
  go_wp2_with fail
  refine (rsort_er A c _ S w.heap.size _ e hz (HR.out.below HB.out (Nat.le_refl _)) rfl HE.out H0.out).mono ?_; rintro e wk2 ⟨rfl, hb⟩
  clear hz
  have HBx := Lib.hid (HB.out.trans (hb.mono HB.out.size))
  have HX5x := Lib.hid (HX5.out.at' hb)
  clear hb  HB HX5 
  have HB := HBx; have HX5 := HX5x
  clear HBx HX5x
  have hz := HB.out.size
  go_wp2_with fail
  refine (same_e e _ (LAID.out.below HB.out) H0.out).mono ?_; rintro e wk3 ⟨rfl, hb⟩
  clear hz
  have HBx := Lib.hid (HB.out.trans (hb.mono HB.out.size))
  have HX5x := Lib.hid (HX5.out.at' hb)
  clear hb  HB HX5 
  have HB := HBx; have HX5 := HX5x
  clear HBx HX5x
  have hz := HB.out.size
  go_wp2_with fail
  refine (sameFr_any A5 none c5 0 _ _ [] [] _ _ _ HX5.out (frs_none' _ _) rfl rfl (Nat.le_refl _) (Nat.le_refl _) true (decide_eq_true rfl)).mono ?_; rintro e wk4 ⟨rfl, hb⟩
  clear hz
  have HBx := Lib.hid (HB.out.trans (hb.mono HB.out.size))
  have HX5x := Lib.hid (HX5.out.at' hb)
  clear hb  HB HX5 
  have HB := HBx; have HX5 := HX5x
  clear HBx HX5x
  have hz := HB.out.size
  have hm5 := HX5.out.cap; have hl5 := HX5.out.le
  unfold maxLen at hm5
  have HFX := HX5
  have hleX : w.heap.size ≤ wk4.heap.size := hz
  clear HX5
  obtain ⟨wk5, hwk⟩ : ∃ x, x = wk4.alloc (.cells #[.int .i64 0, .int .i64 0] 23) := ⟨_, rfl⟩
  have hb : Below wk4.heap.size wk4 wk5 := by rw [hwk]; exact (Below.refl _ _).alloc (Nat.le_refl _) _
  have HX : Hid (Blk wk5 wk4.heap.size 23 #[.int .i64 0, .int .i64 0]) := Lib.hid (by rw [hwk]; exact Blk.new _ _ _)
  replace HFX := Lib.hid (HFX.out.below hb (Nat.le_refl _))
  go_upto_region 6 with (fail)
  rw [← hwk]
  clear hwk hz
  obtain ⟨gHX, hgk⟩ : ∃ x, x = wk4.heap.size := ⟨_, rfl⟩
  rw [← hgk] at HX HFX hleX ⊢
  clear hgk
  have HBx := Lib.hid (HB.out.trans (hb.mono HB.out.size))
  clear hb  HB 
  have HB := HBx
  clear HBx
  have hz := HB.out.size
  obtain ⟨hx_0, hx_1, hx_2, hx_3, hx_4⟩ := HX.out.two
  go_wp2_with fail
  refine (rleast_er A c _ S e w.heap.size _ hz (HR.out.below HB.out (Nat.le_refl _)) rfl HE.out H0.out).mono ?_; rintro e wk6 ⟨rfl, hb⟩
  replace HFX := Lib.hid (HFX.out.below hb (Nat.le_of_lt HX.out.lt))
  clear hz
  have HBx := Lib.hid (HB.out.trans (hb.mono HB.out.size))
  have HXx := Lib.hid (HX.out.go hb)
  clear hb hx_0 hx_1 hx_2 hx_3 hx_4 HB HX 
  have HB := HBx; have HX := HXx
  clear HBx HXx
  have hz := HB.out.size
  obtain ⟨hx_0, hx_1, hx_2, hx_3, hx_4⟩ := HX.out.two
  obtain ⟨wk7, hwk⟩ : ∃ x, x = wk6.alloc (.cells #[.int .i64 0, .int .i64 0] 23) := ⟨_, rfl⟩
  have hb : Below wk6.heap.size wk6 wk7 := by rw [hwk]; exact (Below.refl _ _).alloc (Nat.le_refl _) _
  have HY : Hid (Blk wk7 wk6.heap.size 23 #[.int .i64 0, .int .i64 0]) := Lib.hid (by rw [hwk]; exact Blk.new _ _ _)
  replace HFX := Lib.hid (HFX.out.below hb (Nat.le_of_lt HX.out.lt))
  go_upto_region 11 with (fail)
  rw [← hwk]
  clear hwk hz
  obtain ⟨gHY, hgk⟩ : ∃ x, x = wk6.heap.size := ⟨_, rfl⟩
  rw [← hgk] at HY ⊢
  clear hgk
  have HBx := Lib.hid (HB.out.trans (hb.mono HB.out.size))
  have HXx := Lib.hid (HX.out.go hb)
  clear hb hx_0 hx_1 hx_2 hx_3 hx_4 HB HX 
  have HB := HBx; have HX := HXx
  clear HBx HXx
  have hz := HB.out.size
  obtain ⟨hx_0, hx_1, hx_2, hx_3, hx_4⟩ := HX.out.two
  clear hx_0 hx_1 hx_2 hx_3 hx_4
  obtain ⟨hx_0, hx_1, hx_2, hx_3, hx_4⟩ := HX.out.two
  obtain ⟨hy_0, hy_1, hy_2, hy_3, hy_4⟩ := HY.out.two
  go_wp2_with fail
  refine (same_e e _ (LAID.out.below HB.out) H0.out).mono ?_; rintro e wk8 ⟨rfl, hb⟩
  replace HFX := Lib.hid (HFX.out.below hb (Nat.le_of_lt HX.out.lt))
  clear hz
  have HBx := Lib.hid (HB.out.trans (hb.mono HB.out.size))
  have HXx := Lib.hid (HX.out.go hb)
  have HYx := Lib.hid (HY.out.go hb)
  clear hb hx_0 hx_1 hx_2 hx_3 hx_4 hy_0 hy_1 hy_2 hy_3 hy_4 HB HX HY 
  have HB := HBx; have HX := HXx; have HY := HYx
  clear HBx HXx HYx
  have hz := HB.out.size
  obtain ⟨hx_0, hx_1, hx_2, hx_3, hx_4⟩ := HX.out.two
  obtain ⟨hy_0, hy_1, hy_2, hy_3, hy_4⟩ := HY.out.two
  go_wp2_with fail
  refine (refRates_any A2 c2 S2 T2 g w.heap.size _ hz (HR2.out.below HB.out (Nat.le_refl _)) HG2.out HT2.out).mono ?_; rintro e wk9 ⟨A7, c7, rfl, hf7, hb⟩
  have hm7 := hf7.cap; have hl7 := hf7.le
  unfold maxLen at hm7
  clear hf7
  replace HFX := Lib.hid (HFX.out.below hb (Nat.le_of_lt HX.out.lt))
  clear hz
  have HBx := Lib.hid (HB.out.trans (hb.mono HB.out.size))
  have HXx := Lib.hid (HX.out.go hb)
  have HYx := Lib.hid (HY.out.go hb)
  clear hb hx_0 hx_1 hx_2 hx_3 hx_4 hy_0 hy_1 hy_2 hy_3 hy_4 HB HX HY 
  have HB := HBx; have HX := HXx; have HY := HYx
  clear HBx HXx HYx
  have hz := HB.out.size
  obtain ⟨hx_0, hx_1, hx_2, hx_3, hx_4⟩ := HX.out.two
  obtain ⟨hy_0, hy_1, hy_2, hy_3, hy_4⟩ := HY.out.two
  go_wp2
  refine wp_loop_rounds 1 ?_
  rw [rounds_succ]
  go_wp2_with fail
  refine (rcmp_er A A2 c c2 _ _ S S2 e w.heap.size _ hz (HR.out.below HB.out (Nat.le_refl _)) (HR2.out.below HB.out (Nat.le_refl _)) rfl rfl HCE.out H0.out).mono ?_; rintro e wk10 ⟨rfl, hb⟩
  replace HFX := Lib.hid (HFX.out.below hb (Nat.le_of_lt HX.out.lt))
  clear hz
  have HBx := Lib.hid (HB.out.trans (hb.mono HB.out.size))
  have HXx := Lib.hid (HX.out.go hb)
  have HYx := Lib.hid (HY.out.go hb)
  clear hb hx_0 hx_1 hx_2 hx_3 hx_4 hy_0 hy_1 hy_2 hy_3 hy_4 HB HX HY 
  have HB := HBx; have HX := HXx; have HY := HYx
  clear HBx HXx HYx
  have hz := HB.out.size
  obtain ⟨hx_0, hx_1, hx_2, hx_3, hx_4⟩ := HX.out.two
  obtain ⟨hy_0, hy_1, hy_2, hy_3, hy_4⟩ := HY.out.two
  go_wp2_with fail
  refine (same_e e _ (LAID.out.below HB.out) H0.out).mono ?_; rintro e wk11 ⟨rfl, hb⟩
  replace HFX := Lib.hid (HFX.out.below hb (Nat.le_of_lt HX.out.lt))
  clear hz
  have HBx := Lib.hid (HB.out.trans (hb.mono HB.out.size))
  have HXx := Lib.hid (HX.out.go hb)
  have HYx := Lib.hid (HY.out.go hb)
  clear hb hx_0 hx_1 hx_2 hx_3 hx_4 hy_0 hy_1 hy_2 hy_3 hy_4 HB HX HY 
  have HB := HBx; have HX := HXx; have HY := HYx
  clear HBx HXx HYx
  have hz := HB.out.size
  obtain ⟨hx_0, hx_1, hx_2, hx_3, hx_4⟩ := HX.out.two
  obtain ⟨hy_0, hy_1, hy_2, hy_3, hy_4⟩ := HY.out.two
  go_wp2
  go_ret
  exact ⟨rfl, HB.out⟩
set_option maxHeartbeats 16000000 in
set_option maxRecDepth 100000 in
theorem rankTells_none_er (A : Option Addr) (c : Nat) (S : List Fr) (A2 : Option Addr) (c2 : Nat) (S2 : List Fr) (w : World) (hg : Laid w) (hr : Frs w w.heap.size A c S) (hr2 : Frs w w.heap.size A2 c2 S2) (hS : S = []) (g : Int) (hg2 : rkErr S2 = g) (hg0 : g ≠ 0) :
    Calls Tryd.prog 10 #[.slice A S.length c, .slice A2 S2.length c2] w fun e w' => e = .returned (.bool true) ∧ Below w.heap.size w w' := by
  have LAID := Lib.hid hg
  have hrm := hr.cap; have hrl := hr.le; have hrm2 := hr2.cap; have hrl2 := hr2.le
  unfold maxLen at hrm hrm2
  have HCE : Hid (cmpErr S S2 = g) := Lib.hid (by
    unfold cmpErr
    rw [if_pos (by rw [hS]; rfl), if_neg (by rw [hg2]; exact hg0), hg2])
  subst hS
  rw [show ([] : List Fr).length = 0 from rfl] at hrl ⊢
  have HG2 := Lib.hid hg2; have HG0 := Lib.hid hg0
  have hg0' : (g == 0) = false := beq_eq_false_iff_ne.2 hg0
  clear hg2 hg0
  have HR := Lib.hid hr; have HR2 := Lib.hid hr2
  clear hg hr hr2
  have HB := Lib.hid (Below.refl w.heap.size w)
  obtain ⟨wk0, hwk⟩ : ∃ x, x = w := ⟨_, rfl⟩
  rw [show Below w.heap.size w w = Below w.heap.size w wk0 from by rw [hwk]] at HB
  have hz := HB.out.size
  go_enter Tryd.func10, Tryd.ntmps10
  go_upto_region 1 with (fail)
  rw [← hwk]
  clear hwk
  go_wp2_with fail
  refine (refRates_yes A c _ [] w.heap.size _ hz (HR.out.below HB.out (Nat.le_refl _)) rfl (by decide) (fun q h => by cases h)).mono ?_; rintro e wk1 ⟨A5, c5, rfl, hf5, hb⟩
  clear hz
  have HBx := Lib.hid (HB.out.trans (hb.mono HB.out.size))
  clear hb  HB 
  have HB := HBx
  clear HBx
  have hz := HB.out.size
  have HX5 := Lib.hid hf5
  clear hf5
  go_wp2_with fail
  refine (rsort_yes A c _ [] w.heap.size _ hz (HR.out.below HB.out (Nat.le_refl _)) rfl (by decide) (fun q h => by cases h)).mono ?_; rintro e wk2 ⟨A6, c6, rfl, hf6, hb⟩
  clear hz
  have HBx := Lib.hid (HB.out.trans (hb.mono HB.out.size))
  have HX5x := Lib.hid (HX5.out.at' hb)
  clear hb  HB HX5 
  have HB := HBx; have HX5 := HX5x
  clear HBx HX5x
  have hz := HB.out.size
  have HX6 := Lib.hid hf6
  clear hf6
  go_wp2_with fail
  refine (same_nl _ (LAID.out.below HB.out)).mono ?_; rintro e wk3 ⟨rfl, hb⟩
  clear hz
  have HBx := Lib.hid (HB.out.trans (hb.mono HB.out.size))
  have HX5x := Lib.hid (HX5.out.at' hb)
  have HX6x := Lib.hid (HX6.out.at' hb)
  clear hb  HB HX5 HX6 
  have HB := HBx; have HX5 := HX5x; have HX6 := HX6x
  clear HBx HX5x HX6x
  have hz := HB.out.size
  go_wp2_with fail
  refine (sameFr_any A5 A6 c5 c6 _ _ ((MM.srt []).map frQ) ((MM.srt []).map frQ) _ _ _ HX5.out HX6.out rfl rfl (Nat.le_refl _) (Nat.le_refl _) true (decide_eq_true rfl)).mono ?_; rintro e wk4 ⟨rfl, hb⟩
  clear hz
  have HBx := Lib.hid (HB.out.trans (hb.mono HB.out.size))
  have HX5x := Lib.hid (HX5.out.at' hb)
  have HX6x := Lib.hid (HX6.out.at' hb)
  clear hb  HB HX5 HX6 
  have HB := HBx; have HX5 := HX5x; have HX6 := HX6x
  clear HBx HX5x HX6x
  have hz := HB.out.size
  have hm5 := HX5.out.cap; have hl5 := HX5.out.le
  unfold maxLen at hm5
  have HFX := HX5
  have hleX : w.heap.size ≤ wk4.heap.size := hz
  clear HX5 HX6
  obtain ⟨wk5, hwk⟩ : ∃ x, x = wk4.alloc (.cells #[.int .i64 0, .int .i64 0] 23) := ⟨_, rfl⟩
  have hb : Below wk4.heap.size wk4 wk5 := by rw [hwk]; exact (Below.refl _ _).alloc (Nat.le_refl _) _
  have HX : Hid (Blk wk5 wk4.heap.size 23 #[.int .i64 0, .int .i64 0]) := Lib.hid (by rw [hwk]; exact Blk.new _ _ _)
  replace HFX := Lib.hid (HFX.out.below hb (Nat.le_refl _))
  go_upto_region 6 with (fail)
  rw [← hwk]
  clear hwk hz
  obtain ⟨gHX, hgk⟩ : ∃ x, x = wk4.heap.size := ⟨_, rfl⟩
  rw [← hgk] at HX HFX hleX ⊢
  clear hgk
  have HBx := Lib.hid (HB.out.trans (hb.mono HB.out.size))
  clear hb  HB 
  have HB := HBx
  clear HBx
  have hz := HB.out.size
  obtain ⟨hx_0, hx_1, hx_2, hx_3, hx_4⟩ := HX.out.two
  go_wp2_with fail
  refine (rleast_none A c _ ((HR.out.below HB.out (Nat.le_refl _)).more hz)).mono ?_; rintro e wk6 ⟨rfl, hb⟩
  replace HFX := Lib.hid (HFX.out.below hb (Nat.le_of_lt HX.out.lt))
  clear hz
  have HBx := Lib.hid (HB.out.trans (hb.mono HB.out.size))
  have HXx := Lib.hid (HX.out.go hb)
  clear hb hx_0 hx_1 hx_2 hx_3 hx_4 HB HX 
  have HB := HBx; have HX := HXx
  clear HBx HXx
  have hz := HB.out.size
  obtain ⟨hx_0, hx_1, hx_2, hx_3, hx_4⟩ := HX.out.two
  obtain ⟨wk7, hwk⟩ : ∃ x, x = wk6.alloc (.cells #[.int .i64 0, .int .i64 0] 23) := ⟨_, rfl⟩
  have hb : Below wk6.heap.size wk6 wk7 := by rw [hwk]; exact (Below.refl _ _).alloc (Nat.le_refl _) _
  have HY : Hid (Blk wk7 wk6.heap.size 23 #[.int .i64 0, .int .i64 0]) := Lib.hid (by rw [hwk]; exact Blk.new _ _ _)
  replace HFX := Lib.hid (HFX.out.below hb (Nat.le_of_lt HX.out.lt))
  go_upto_region 11 with (fail)
  rw [← hwk]
  clear hwk hz
  obtain ⟨gHY, hgk⟩ : ∃ x, x = wk6.heap.size := ⟨_, rfl⟩
  rw [← hgk] at HY ⊢
  clear hgk
  have HBx := Lib.hid (HB.out.trans (hb.mono HB.out.size))
  have HXx := Lib.hid (HX.out.go hb)
  clear hb hx_0 hx_1 hx_2 hx_3 hx_4 HB HX 
  have HB := HBx; have HX := HXx
  clear HBx HXx
  have hz := HB.out.size
  obtain ⟨hx_0, hx_1, hx_2, hx_3, hx_4⟩ := HX.out.two
  clear hx_0 hx_1 hx_2 hx_3 hx_4
  obtain ⟨hx_0, hx_1, hx_2, hx_3, hx_4⟩ := HX.out.two
  obtain ⟨hy_0, hy_1, hy_2, hy_3, hy_4⟩ := HY.out.two
  go_wp2_with fail
  refine (same_e 5 _ (LAID.out.below HB.out) (by decide)).mono ?_; rintro e wk8 ⟨rfl, hb⟩
  replace HFX := Lib.hid (HFX.out.below hb (Nat.le_of_lt HX.out.lt))
  clear hz
  have HBx := Lib.hid (HB.out.trans (hb.mono HB.out.size))
  have HXx := Lib.hid (HX.out.go hb)
  have HYx := Lib.hid (HY.out.go hb)
  clear hb hx_0 hx_1 hx_2 hx_3 hx_4 hy_0 hy_1 hy_2 hy_3 hy_4 HB HX HY 
  have HB := HBx; have HX := HXx; have HY := HYx
  clear HBx HXx HYx
  have hz := HB.out.size
  obtain ⟨hx_0, hx_1, hx_2, hx_3, hx_4⟩ := HX.out.two
  obtain ⟨hy_0, hy_1, hy_2, hy_3, hy_4⟩ := HY.out.two
  go_wp2_with fail
  refine (refRates_er A2 c2 _ S2 g w.heap.size _ hz (HR2.out.below HB.out (Nat.le_refl _)) rfl HG2.out HG0.out).mono ?_; rintro e wk9 ⟨A7, c7, rfl, _, hb⟩
  replace HFX := Lib.hid (HFX.out.below hb (Nat.le_of_lt HX.out.lt))
  clear hz
  have HBx := Lib.hid (HB.out.trans (hb.mono HB.out.size))
  have HXx := Lib.hid (HX.out.go hb)
  have HYx := Lib.hid (HY.out.go hb)
  clear hb hx_0 hx_1 hx_2 hx_3 hx_4 hy_0 hy_1 hy_2 hy_3 hy_4 HB HX HY 
  have HB := HBx; have HX := HXx; have HY := HYx
  clear HBx HXx HYx
  have hz := HB.out.size
  obtain ⟨hx_0, hx_1, hx_2, hx_3, hx_4⟩ := HX.out.two
  obtain ⟨hy_0, hy_1, hy_2, hy_3, hy_4⟩ := HY.out.two
  go_wp2
  refine wp_loop_rounds 1 ?_
  rw [rounds_succ]
  go_wp2_with fail
  refine (rcmp_er A A2 c c2 _ _ [] S2 g w.heap.size _ hz (HR.out.below HB.out (Nat.le_refl _)) (HR2.out.below HB.out (Nat.le_refl _)) rfl rfl HCE.out HG0.out).mono ?_; rintro e wk10 ⟨rfl, hb⟩
  replace HFX := Lib.hid (HFX.out.below hb (Nat.le_of_lt HX.out.lt))
  clear hz
  have HBx := Lib.hid (HB.out.trans (hb.mono HB.out.size))
  have HXx := Lib.hid (HX.out.go hb)
  have HYx := Lib.hid (HY.out.go hb)
  clear hb hx_0 hx_1 hx_2 hx_3 hx_4 hy_0 hy_1 hy_2 hy_3 hy_4 HB HX HY 
  have HB := HBx; have HX := HXx; have HY := HYx
  clear HBx HXx HYx
  have hz := HB.out.size
  obtain ⟨hx_0, hx_1, hx_2, hx_3, hx_4⟩ := HX.out.two
  obtain ⟨hy_0, hy_1, hy_2, hy_3, hy_4⟩ := HY.out.two
  go_wp2_with fail
  refine (same_e g _ (LAID.out.below HB.out) HG0.out).mono ?_; rintro e wk11 ⟨rfl, hb⟩
  replace HFX := Lib.hid (HFX.out.below hb (Nat.le_of_lt HX.out.lt))
  clear hz
  have HBx := Lib.hid (HB.out.trans (hb.mono HB.out.size))
  have HXx := Lib.hid (HX.out.go hb)
  have HYx := Lib.hid (HY.out.go hb)
  clear hb hx_0 hx_1 hx_2 hx_3 hx_4 hy_0 hy_1 hy_2 hy_3 hy_4 HB HX HY 
  have HB := HBx; have HX := HXx; have HY := HYx
  clear HBx HXx HYx
  have hz := HB.out.size
  obtain ⟨hx_0, hx_1, hx_2, hx_3, hx_4⟩ := HX.out.two
  obtain ⟨hy_0, hy_1, hy_2, hy_3, hy_4⟩ := HY.out.two
  go_wp2
  go_ret
  exact ⟨rfl, HB.out⟩
set_option maxHeartbeats 16000000 in
set_option maxRecDepth 100000 in
theorem rankTells_none_dif (A : Option Addr) (c : Nat) (S : List Fr) (A2 : Option Addr) (c2 : Nat) (S2 : List Fr) (w : World) (hg : Laid w) (hr : Frs w w.heap.size A c S) (hr2 : Frs w w.heap.size A2 c2 S2) (hS : S = []) (R : List Rat) (hS2 : S2 = R.map frQ) (h62 : R.length ≤ 6) (hq2 : ∀ q ∈ R, QIn q) (hlen : S.length ≠ S2.length) :
    Calls Tryd.prog 10 #[.slice A S.length c, .slice A2 S2.length c2] w fun e w' => e = .returned (.bool true) ∧ Below w.heap.size w w' := by
  have LAID := Lib.hid hg
  have hrm := hr.cap; have hrl := hr.le; have hrm2 := hr2.cap; have hrl2 := hr2.le
  unfold maxLen at hrm hrm2
  have HCE : Hid (cmpErr S S2 = 3) := Lib.hid (by
    unfold cmpErr
    rw [if_pos (by rw [hS]; rfl), if_pos (by rw [hS2]; exact rk_of h62 hq2), if_neg hlen])
  subst hS
  rw [show ([] : List Fr).length = 0 from rfl] at hrl ⊢
  subst hS2
  rw [List.length_map] at hrl2 ⊢
  rw [List.length_map] at hlen
  have hld : ((0 : Int) != (R.length : Int)) = true := by rw [bne_iff_ne]; simp at hlen; omega
  have HQ2 := Lib.hid hq2; have H62 := Lib.hid h62
  have hr26 : R.length ≤ 6 := h62
  clear hq2 h62 hlen
  have HR := Lib.hid hr; have HR2 := Lib.hid hr2
  clear hg hr hr2
  have HB := Lib.hid (Below.refl w.heap.size w)
  obtain ⟨wk0, hwk⟩ : ∃ x, x = w := ⟨_, rfl⟩
  rw [show Below w.heap.size w w = Below w.heap.size w wk0 from by rw [hwk]] at HB
  have hz := HB.out.size
  go_enter Tryd.func10, Tryd.ntmps10
  go_upto_region 1 with (fail)
  rw [← hwk]
  clear hwk
  go_wp2_with fail
  refine (refRates_yes A c _ [] w.heap.size _ hz (HR.out.below HB.out (Nat.le_refl _)) rfl (by decide) (fun q h => by cases h)).mono ?_; rintro e wk1 ⟨A5, c5, rfl, hf5, hb⟩
  clear hz
  have HBx := Lib.hid (HB.out.trans (hb.mono HB.out.size))
  clear hb  HB 
  have HB := HBx
  clear HBx
  have hz := HB.out.size
  have HX5 := Lib.hid hf5
  clear hf5
  go_wp2_with fail
  refine (rsort_yes A c _ [] w.heap.size _ hz (HR.out.below HB.out (Nat.le_refl _)) rfl (by decide) (fun q h => by cases h)).mono ?_; rintro e wk2 ⟨A6, c6, rfl, hf6, hb⟩
  clear hz
  have HBx := Lib.hid (HB.out.trans (hb.mono HB.out.size))
  have HX5x := Lib.hid (HX5.out.at' hb)
  clear hb  HB HX5 
  have HB := HBx; have HX5 := HX5x
  clear HBx HX5x
  have hz := HB.out.size
  have HX6 := Lib.hid hf6
  clear hf6
  go_wp2_with fail
  refine (same_nl _ (LAID.out.below HB.out)).mono ?_; rintro e wk3 ⟨rfl, hb⟩
  clear hz
  have HBx := Lib.hid (HB.out.trans (hb.mono HB.out.size))
  have HX5x := Lib.hid (HX5.out.at' hb)
  have HX6x := Lib.hid (HX6.out.at' hb)
  clear hb  HB HX5 HX6 
  have HB := HBx; have HX5 := HX5x; have HX6 := HX6x
  clear HBx HX5x HX6x
  have hz := HB.out.size
  go_wp2_with fail
  refine (sameFr_any A5 A6 c5 c6 _ _ ((MM.srt []).map frQ) ((MM.srt []).map frQ) _ _ _ HX5.out HX6.out rfl rfl (Nat.le_refl _) (Nat.le_refl _) true (decide_eq_true rfl)).mono ?_; rintro e wk4 ⟨rfl, hb⟩
  clear hz
  have HBx := Lib.hid (HB.out.trans (hb.mono HB.out.size))
  have HX5x := Lib.hid (HX5.out.at' hb)
  have HX6x := Lib.hid (HX6.out.at' hb)
  clear hb  HB HX5 HX6 
  have HB := HBx; have HX5 := HX5x; have HX6 := HX6x
  clear HBx HX5x HX6x
  have hz := HB.out.size
  have hm5 := HX5.out.cap; have hl5 := HX5.out.le
  unfold maxLen at hm5
  have HFX := HX5
  have hleX : w.heap.size ≤ wk4.heap.size := hz
  clear HX5 HX6
  obtain ⟨wk5, hwk⟩ : ∃ x, x = wk4.alloc (.cells #[.int .i64 0, .int .i64 0] 23) := ⟨_, rfl⟩
  have hb : Below wk4.heap.size wk4 wk5 := by rw [hwk]; exact (Below.refl _ _).alloc (Nat.le_refl _) _
  have HX : Hid (Blk wk5 wk4.heap.size 23 #[.int .i64 0, .int .i64 0]) := Lib.hid (by rw [hwk]; exact Blk.new _ _ _)
  replace HFX := Lib.hid (HFX.out.below hb (Nat.le_refl _))
  go_upto_region 6 with (fail)
  rw [← hwk]
  clear hwk hz
  obtain ⟨gHX, hgk⟩ : ∃ x, x = wk4.heap.size := ⟨_, rfl⟩
  rw [← hgk] at HX HFX hleX ⊢
  clear hgk
  have HBx := Lib.hid (HB.out.trans (hb.mono HB.out.size))
  clear hb  HB 
  have HB := HBx
  clear HBx
  have hz := HB.out.size
  obtain ⟨hx_0, hx_1, hx_2, hx_3, hx_4⟩ := HX.out.two
  go_wp2_with fail
  refine (rleast_none A c _ ((HR.out.below HB.out (Nat.le_refl _)).more hz)).mono ?_; rintro e wk6 ⟨rfl, hb⟩
  replace HFX := Lib.hid (HFX.out.below hb (Nat.le_of_lt HX.out.lt))
  clear hz
  have HBx := Lib.hid (HB.out.trans (hb.mono HB.out.size))
  have HXx := Lib.hid (HX.out.go hb)
  clear hb hx_0 hx_1 hx_2 hx_3 hx_4 HB HX 
  have HB := HBx; have HX := HXx
  clear HBx HXx
  have hz := HB.out.size
  obtain ⟨hx_0, hx_1, hx_2, hx_3, hx_4⟩ := HX.out.two
  obtain ⟨wk7, hwk⟩ : ∃ x, x = wk6.alloc (.cells #[.int .i64 0, .int .i64 0] 23) := ⟨_, rfl⟩
  have hb : Below wk6.heap.size wk6 wk7 := by rw [hwk]; exact (Below.refl _ _).alloc (Nat.le_refl _) _
  have HY : Hid (Blk wk7 wk6.heap.size 23 #[.int .i64 0, .int .i64 0]) := Lib.hid (by rw [hwk]; exact Blk.new _ _ _)
  replace HFX := Lib.hid (HFX.out.below hb (Nat.le_of_lt HX.out.lt))
  go_upto_region 11 with (fail)
  rw [← hwk]
  clear hwk hz
  obtain ⟨gHY, hgk⟩ : ∃ x, x = wk6.heap.size := ⟨_, rfl⟩
  rw [← hgk] at HY ⊢
  clear hgk
  have HBx := Lib.hid (HB.out.trans (hb.mono HB.out.size))
  have HXx := Lib.hid (HX.out.go hb)
  clear hb hx_0 hx_1 hx_2 hx_3 hx_4 HB HX 
  have HB := HBx; have HX := HXx
  clear HBx HXx
  have hz := HB.out.size
  obtain ⟨hx_0, hx_1, hx_2, hx_3, hx_4⟩ := HX.out.two
  clear hx_0 hx_1 hx_2 hx_3 hx_4
  obtain ⟨hx_0, hx_1, hx_2, hx_3, hx_4⟩ := HX.out.two
  obtain ⟨hy_0, hy_1, hy_2, hy_3, hy_4⟩ := HY.out.two
  go_wp2_with fail
  refine (same_e 5 _ (LAID.out.below HB.out) (by decide)).mono ?_; rintro e wk8 ⟨rfl, hb⟩
  replace HFX := Lib.hid (HFX.out.below hb (Nat.le_of_lt HX.out.lt))
  clear hz
  have HBx := Lib.hid (HB.out.trans (hb.mono HB.out.size))
  have HXx := Lib.hid (HX.out.go hb)
  have HYx := Lib.hid (HY.out.go hb)
  clear hb hx_0 hx_1 hx_2 hx_3 hx_4 hy_0 hy_1 hy_2 hy_3 hy_4 HB HX HY 
  have HB := HBx; have HX := HXx; have HY := HYx
  clear HBx HXx HYx
  have hz := HB.out.size
  obtain ⟨hx_0, hx_1, hx_2, hx_3, hx_4⟩ := HX.out.two
  obtain ⟨hy_0, hy_1, hy_2, hy_3, hy_4⟩ := HY.out.two
  go_wp2_with fail
  refine (refRates_yes A2 c2 _ R w.heap.size _ hz (HR2.out.below HB.out (Nat.le_refl _)) rfl H62.out HQ2.out).mono ?_; rintro e wk9 ⟨A7, c7, rfl, hf7, hb⟩
  replace HFX := Lib.hid (HFX.out.below hb (Nat.le_of_lt HX.out.lt))
  clear hz
  have HBx := Lib.hid (HB.out.trans (hb.mono HB.out.size))
  have HXx := Lib.hid (HX.out.go hb)
  have HYx := Lib.hid (HY.out.go hb)
  clear hb hx_0 hx_1 hx_2 hx_3 hx_4 hy_0 hy_1 hy_2 hy_3 hy_4 HB HX HY 
  have HB := HBx; have HX := HXx; have HY := HYx
  clear HBx HXx HYx
  have hz := HB.out.size
  obtain ⟨hx_0, hx_1, hx_2, hx_3, hx_4⟩ := HX.out.two
  obtain ⟨hy_0, hy_1, hy_2, hy_3, hy_4⟩ := HY.out.two
  have HZ := Lib.hid hf7
  clear hf7
  go_wp2
  refine wp_loop_rounds 1 ?_
  rw [rounds_succ]
  go_wp2_with fail
  refine (rcmp_er A A2 c c2 _ _ [] (R.map frQ) 3 w.heap.size _ hz (HR.out.below HB.out (Nat.le_refl _)) (HR2.out.below HB.out (Nat.le_refl _)) rfl (by rw [List.length_map]) HCE.out (by decide)).mono ?_; rintro e wk10 ⟨rfl, hb⟩
  replace HFX := Lib.hid (HFX.out.below hb (Nat.le_of_lt HX.out.lt))
  clear hz
  have HBx := Lib.hid (HB.out.trans (hb.mono HB.out.size))
  have HXx := Lib.hid (HX.out.go hb)
  have HYx := Lib.hid (HY.out.go hb)
  have HZx := Lib.hid (HZ.out.at' hb)
  clear hb hx_0 hx_1 hx_2 hx_3 hx_4 hy_0 hy_1 hy_2 hy_3 hy_4 HB HX HY HZ 
  have HB := HBx; have HX := HXx; have HY := HYx; have HZ := HZx
  clear HBx HXx HYx HZx
  have hz := HB.out.size
  obtain ⟨hx_0, hx_1, hx_2, hx_3, hx_4⟩ := HX.out.two
  obtain ⟨hy_0, hy_1, hy_2, hy_3, hy_4⟩ := HY.out.two
  go_wp2_with fail
  refine (same_e 3 _ (LAID.out.below HB.out) (by decide)).mono ?_; rintro e wk11 ⟨rfl, hb⟩
  replace HFX := Lib.hid (HFX.out.below hb (Nat.le_of_lt HX.out.lt))
  clear hz
  have HBx := Lib.hid (HB.out.trans (hb.mono HB.out.size))
  have HXx := Lib.hid (HX.out.go hb)
  have HYx := Lib.hid (HY.out.go hb)
  have HZx := Lib.hid (HZ.out.at' hb)
  clear hb hx_0 hx_1 hx_2 hx_3 hx_4 hy_0 hy_1 hy_2 hy_3 hy_4 HB HX HY HZ 
  have HB := HBx; have HX := HXx; have HY := HYx; have HZ := HZx
  clear HBx HXx HYx HZx
  have hz := HB.out.size
  obtain ⟨hx_0, hx_1, hx_2, hx_3, hx_4⟩ := HX.out.two
  obtain ⟨hy_0, hy_1, hy_2, hy_3, hy_4⟩ := HY.out.two
  go_wp2
  go_ret
  exact ⟨rfl, HB.out⟩
set_option maxHeartbeats 16000000 in
set_option maxRecDepth 100000 in
theorem rankTells_none_same (A : Option Addr) (c : Nat) (S : List Fr) (A2 : Option Addr) (c2 : Nat) (S2 : List Fr) (w : World) (hg : Laid w) (hr : Frs w w.heap.size A c S) (hr2 : Frs w w.heap.size A2 c2 S2) (hS : S = []) (R : List Rat) (hS2 : S2 = R.map frQ) (h62 : R.length ≤ 6) (hq2 : ∀ q ∈ R, QIn q) (hlen : S.length = S2.length) :
    Calls Tryd.prog 10 #[.slice A S.length c, .slice A2 S2.length c2] w fun e w' => e = .returned (.bool true) ∧ Below w.heap.size w w' := by
  have LAID := Lib.hid hg
  have hrm := hr.cap; have hrl := hr.le; have hrm2 := hr2.cap; have hrl2 := hr2.le
  unfold maxLen at hrm hrm2
  subst hS
  rw [show ([] : List Fr).length = 0 from rfl] at hrl ⊢
  subst hS2
  rw [List.length_map] at hrl2 ⊢
  rw [List.length_map] at hlen
  have hld : ((0 : Int) != (R.length : Int)) = false := by rw [bne_eq_false_iff_eq]; simp at hlen; omega
  obtain ⟨o, ho⟩ : ∃ o, MM.lex (MM.srt []) (MM.srt R) = o := ⟨_, rfl⟩
  have HO := Lib.hid ho
  have HLN : Hid (([] : List Rat).length = R.length) := Lib.hid (by simpa using hlen)
  clear ho
  have HQ2 := Lib.hid hq2; have H62 := Lib.hid h62
  have hr26 : R.length ≤ 6 := h62
  clear hq2 h62 hlen
  have HR := Lib.hid hr; have HR2 := Lib.hid hr2
  clear hg hr hr2
  have HB := Lib.hid (Below.refl w.heap.size w)
  obtain ⟨wk0, hwk⟩ : ∃ x, x = w := ⟨_, rfl⟩
  rw [show Below w.heap.size w w = Below w.heap.size w wk0 from by rw [hwk]] at HB
  have hz := HB.out.size
  go_enter Tryd.func10, Tryd.ntmps10
  go_upto_region 1 with (fail)
  rw [← hwk]
  clear hwk
  go_wp2_with fail
  refine (refRates_yes A c _ [] w.heap.size _ hz (HR.out.below HB.out (Nat.le_refl _)) rfl (by decide) (fun q h => by cases h)).mono ?_; rintro e wk1 ⟨A5, c5, rfl, hf5, hb⟩
  clear hz
  have HBx := Lib.hid (HB.out.trans (hb.mono HB.out.size))
  clear hb  HB 
  have HB := HBx
  clear HBx
  have hz := HB.out.size
  have HX5 := Lib.hid hf5
  clear hf5
  go_wp2_with fail
  refine (rsort_yes A c _ [] w.heap.size _ hz (HR.out.below HB.out (Nat.le_refl _)) rfl (by decide) (fun q h => by cases h)).mono ?_; rintro e wk2 ⟨A6, c6, rfl, hf6, hb⟩
  clear hz
  have HBx := Lib.hid (HB.out.trans (hb.mono HB.out.size))
  have HX5x := Lib.hid (HX5.out.at' hb)
  clear hb  HB HX5 
  have HB := HBx; have HX5 := HX5x
  clear HBx HX5x
  have hz := HB.out.size
  have HX6 := Lib.hid hf6
  clear hf6
  go_wp2_with fail
  refine (same_nl _ (LAID.out.below HB.out)).mono ?_; rintro e wk3 ⟨rfl, hb⟩
  clear hz
  have HBx := Lib.hid (HB.out.trans (hb.mono HB.out.size))
  have HX5x := Lib.hid (HX5.out.at' hb)
  have HX6x := Lib.hid (HX6.out.at' hb)
  clear hb  HB HX5 HX6 
  have HB := HBx; have HX5 := HX5x; have HX6 := HX6x
  clear HBx HX5x HX6x
  have hz := HB.out.size
  go_wp2_with fail
  refine (sameFr_any A5 A6 c5 c6 _ _ ((MM.srt []).map frQ) ((MM.srt []).map frQ) _ _ _ HX5.out HX6.out rfl rfl (Nat.le_refl _) (Nat.le_refl _) true (decide_eq_true rfl)).mono ?_; rintro e wk4 ⟨rfl, hb⟩
  clear hz
  have HBx := Lib.hid (HB.out.trans (hb.mono HB.out.size))
  have HX5x := Lib.hid (HX5.out.at' hb)
  have HX6x := Lib.hid (HX6.out.at' hb)
  clear hb  HB HX5 HX6 
  have HB := HBx; have HX5 := HX5x; have HX6 := HX6x
  clear HBx HX5x HX6x
  have hz := HB.out.size
  have hm5 := HX5.out.cap; have hl5 := HX5.out.le
  unfold maxLen at hm5
  have HFX := HX5
  have hleX : w.heap.size ≤ wk4.heap.size := hz
  clear HX5 HX6
  obtain ⟨wk5, hwk⟩ : ∃ x, x = wk4.alloc (.cells #[.int .i64 0, .int .i64 0] 23) := ⟨_, rfl⟩
  have hb : Below wk4.heap.size wk4 wk5 := by rw [hwk]; exact (Below.refl _ _).alloc (Nat.le_refl _) _
  have HX : Hid (Blk wk5 wk4.heap.size 23 #[.int .i64 0, .int .i64 0]) := Lib.hid (by rw [hwk]; exact Blk.new _ _ _)
  replace HFX := Lib.hid (HFX.out.below hb (Nat.le_refl _))
  go_upto_region 6 with (fail)
  rw [← hwk]
  clear hwk hz
  obtain ⟨gHX, hgk⟩ : ∃ x, x = wk4.heap.size := ⟨_, rfl⟩
  rw [← hgk] at HX HFX hleX ⊢
  clear hgk
  have HBx := Lib.hid (HB.out.trans (hb.mono HB.out.size))
  clear hb  HB 
  have HB := HBx
  clear HBx
  have hz := HB.out.size
  obtain ⟨hx_0, hx_1, hx_2, hx_3, hx_4⟩ := HX.out.two
  go_wp2_with fail
  refine (rleast_none A c _ ((HR.out.below HB.out (Nat.le_refl _)).more hz)).mono ?_; rintro e wk6 ⟨rfl, hb⟩
  replace HFX := Lib.hid (HFX.out.below hb (Nat.le_of_lt HX.out.lt))
  clear hz
  have HBx := Lib.hid (HB.out.trans (hb.mono HB.out.size))
  have HXx := Lib.hid (HX.out.go hb)
  clear hb hx_0 hx_1 hx_2 hx_3 hx_4 HB HX 
  have HB := HBx; have HX := HXx
  clear HBx HXx
  have hz := HB.out.size
  obtain ⟨hx_0, hx_1, hx_2, hx_3, hx_4⟩ := HX.out.two
  obtain ⟨wk7, hwk⟩ : ∃ x, x = wk6.alloc (.cells #[.int .i64 0, .int .i64 0] 23) := ⟨_, rfl⟩
  have hb : Below wk6.heap.size wk6 wk7 := by rw [hwk]; exact (Below.refl _ _).alloc (Nat.le_refl _) _
  have HY : Hid (Blk wk7 wk6.heap.size 23 #[.int .i64 0, .int .i64 0]) := Lib.hid (by rw [hwk]; exact Blk.new _ _ _)
  replace HFX := Lib.hid (HFX.out.below hb (Nat.le_of_lt HX.out.lt))
  go_upto_region 11 with (fail)
  rw [← hwk]
  clear hwk hz
  obtain ⟨gHY, hgk⟩ : ∃ x, x = wk6.heap.size := ⟨_, rfl⟩
  rw [← hgk] at HY ⊢
  clear hgk
  have HBx := Lib.hid (HB.out.trans (hb.mono HB.out.size))
  have HXx := Lib.hid (HX.out.go hb)
  clear hb hx_0 hx_1 hx_2 hx_3 hx_4 HB HX 
  have HB := HBx; have HX := HXx
  clear HBx HXx
  have hz := HB.out.size
  obtain ⟨hx_0, hx_1, hx_2, hx_3, hx_4⟩ := HX.out.two
  clear hx_0 hx_1 hx_2 hx_3 hx_4
  obtain ⟨hx_0, hx_1, hx_2, hx_3, hx_4⟩ := HX.out.two
  obtain ⟨hy_0, hy_1, hy_2, hy_3, hy_4⟩ := HY.out.two
  go_wp2_with fail
  refine (same_e 5 _ (LAID.out.below HB.out) (by decide)).mono ?_; rintro e wk8 ⟨rfl, hb⟩
  replace HFX := Lib.hid (HFX.out.below hb (Nat.le_of_lt HX.out.lt))
  clear hz
  have HBx := Lib.hid (HB.out.trans (hb.mono HB.out.size))
  have HXx := Lib.hid (HX.out.go hb)
  have HYx := Lib.hid (HY.out.go hb)
  clear hb hx_0 hx_1 hx_2 hx_3 hx_4 hy_0 hy_1 hy_2 hy_3 hy_4 HB HX HY 
  have HB := HBx; have HX := HXx; have HY := HYx
  clear HBx HXx HYx
  have hz := HB.out.size
  obtain ⟨hx_0, hx_1, hx_2, hx_3, hx_4⟩ := HX.out.two
  obtain ⟨hy_0, hy_1, hy_2, hy_3, hy_4⟩ := HY.out.two
  go_wp2_with fail
  refine (refRates_yes A2 c2 _ R w.heap.size _ hz (HR2.out.below HB.out (Nat.le_refl _)) rfl H62.out HQ2.out).mono ?_; rintro e wk9 ⟨A7, c7, rfl, hf7, hb⟩
  replace HFX := Lib.hid (HFX.out.below hb (Nat.le_of_lt HX.out.lt))
  clear hz
  have HBx := Lib.hid (HB.out.trans (hb.mono HB.out.size))
  have HXx := Lib.hid (HX.out.go hb)
  have HYx := Lib.hid (HY.out.go hb)
  clear hb hx_0 hx_1 hx_2 hx_3 hx_4 hy_0 hy_1 hy_2 hy_3 hy_4 HB HX HY 
  have HB := HBx; have HX := HXx; have HY := HYx
  clear HBx HXx HYx
  have hz := HB.out.size
  obtain ⟨hx_0, hx_1, hx_2, hx_3, hx_4⟩ := HX.out.two
  obtain ⟨hy_0, hy_1, hy_2, hy_3, hy_4⟩ := HY.out.two
  have HZ := Lib.hid hf7
  clear hf7
  have hmz := HZ.out.cap; have hlz := HZ.out.le
  rw [List.length_map, QS.srt_len] at hlz
  unfold maxLen at hmz
  have HLX : Hid ((MM.srt []).length = 0) := Lib.hid (QS.srt_len _); have HLZ : Hid ((MM.srt R).length = R.length) := Lib.hid (QS.srt_len _)
  have HQI : Hid (∀ q ∈ MM.srt [], QIn q) := Lib.hid (srt_in (fun q h => by cases h)); have HRI : Hid (∀ q ∈ MM.srt R, QIn q) := Lib.hid (srt_in HQ2.out)
  have HO0 : Hid (MM.lex ((MM.srt []).drop 0) ((MM.srt R).drop 0) = o) := HO
  go_wp2
  go_loopw [16, 17] (fun wv iv wr => ∃ (j : Nat) (wi : Int), j ≤ 0 ∧ wv = .int .i64 wi ∧ iv = .int .i64 j ∧ ((wi = 0 ∧ Hid (MM.lex ((MM.srt []).drop j) ((MM.srt R).drop j) = o)) ∨ (wi ≠ 0 ∧ wi = o)) ∧ Hid (Below wk9.heap.size wk9 wr)) (fun _ iv _ => 0 - (intOf iv).toNat)
  case atStart => exact ⟨0, 0, Nat.zero_le _, rfl, rfl, .inl ⟨rfl, HO0⟩, Lib.hid (Below.refl _ _)⟩
  case round =>
    obtain ⟨j, wi, hj, rfl, rfl, hw, HBL⟩ := hrel
    have hzl := HBL.out.size
    obtain rfl : j = 0 := by omega
    have hwo : wi = o := by
      rcases hw with ⟨rfl, HLJ⟩ | ⟨_, h⟩
      · have := HLJ.out
        rw [List.drop_of_length_le (Nat.zero_le _), List.drop_of_length_le (by rw [HLZ.out, ← HLN.out]; exact Nat.le_refl _)] at this
        exact this
      · exact h
    subst hwo
    have hb := HBL.out
    clear HBL hzl hj hw
    obtain ⟨wk10, hwk⟩ : ∃ x, x = wr := ⟨_, rfl⟩
    rw [← hwk] at hb ⊢
    clear hwk hz
    replace HFX := Lib.hid (HFX.out.below hb (Nat.le_of_lt HX.out.lt))
    have HBx := Lib.hid (HB.out.trans (hb.mono HB.out.size))
    have HXx := Lib.hid (HX.out.go hb)
    have HYx := Lib.hid (HY.out.go hb)
    have HZx := Lib.hid (HZ.out.at' hb)
    clear hb hx_0 hx_1 hx_2 hx_3 hx_4 hy_0 hy_1 hy_2 hy_3 hy_4 HB HX HY HZ 
    have HB := HBx; have HX := HXx; have HY := HYx; have HZ := HZx
    clear HBx HXx HYx HZx
    have hz := HB.out.size
    obtain ⟨hx_0, hx_1, hx_2, hx_3, hx_4⟩ := HX.out.two
    obtain ⟨hy_0, hy_1, hy_2, hy_3, hy_4⟩ := HY.out.two
    go_wp2_with fail
    refine (rcmp_yes A A2 c c2 _ _ [] R wi w.heap.size _ hz (HR.out.below HB.out (Nat.le_refl _)) (HR2.out.below HB.out (Nat.le_refl _)) rfl rfl HLN.out (by decide) (fun q h => by cases h) HQ2.out HO.out).mono ?_; rintro e wk11 ⟨rfl, hb⟩
    clear hz
    have HBx := Lib.hid (HB.out.trans (hb.mono HB.out.size))
    have HXx := Lib.hid (HX.out.go hb)
    have HYx := Lib.hid (HY.out.go hb)
    have HZx := Lib.hid (HZ.out.at' hb)
    clear hb hx_0 hx_1 hx_2 hx_3 hx_4 hy_0 hy_1 hy_2 hy_3 hy_4 HB HX HY HZ 
    have HB := HBx; have HX := HXx; have HY := HYx; have HZ := HZx
    clear HBx HXx HYx HZx
    have hz := HB.out.size
    obtain ⟨hx_0, hx_1, hx_2, hx_3, hx_4⟩ := HX.out.two
    obtain ⟨hy_0, hy_1, hy_2, hy_3, hy_4⟩ := HY.out.two
    go_wp2_with fail
    refine (same_nl _ (LAID.out.below HB.out)).mono ?_; rintro e wk12 ⟨rfl, hb⟩
    clear hz
    have HBx := Lib.hid (HB.out.trans (hb.mono HB.out.size))
    have HXx := Lib.hid (HX.out.go hb)
    have HYx := Lib.hid (HY.out.go hb)
    have HZx := Lib.hid (HZ.out.at' hb)
    clear hb hx_0 hx_1 hx_2 hx_3 hx_4 hy_0 hy_1 hy_2 hy_3 hy_4 HB HX HY HZ 
    have HB := HBx; have HX := HXx; have HY := HYx; have HZ := HZx
    clear HBx HXx HYx HZx
    have hz := HB.out.size
    obtain ⟨hx_0, hx_1, hx_2, hx_3, hx_4⟩ := HX.out.two
    obtain ⟨hy_0, hy_1, hy_2, hy_3, hy_4⟩ := HY.out.two
    go_wp2
    go_ret
    exact ⟨rfl, HB.out⟩
set_option maxHeartbeats 16000000 in
set_option maxRecDepth 100000 in
theorem rankTells_some_er (A : Option Addr) (c : Nat) (S : List Fr) (A2 : Option Addr) (c2 : Nat) (S2 : List Fr) (w : World) (hg : Laid w) (hr : Frs w w.heap.size A c S) (hr2 : Frs w w.heap.size A2 c2 S2) (Q : List Rat) (hS : S = Q.map frQ) (h6 : Q.length ≤ 6) (hq : ∀ q ∈ Q, QIn q) (hq0 : 0 < Q.length) (g : Int) (hg2 : rkErr S2 = g) (hg0 : g ≠ 0) :
    Calls Tryd.prog 10 #[.slice A S.length c, .slice A2 S2.length c2] w fun e w' => e = .returned (.bool true) ∧ Below w.heap.size w w' := by
  have LAID := Lib.hid hg
  have hrm := hr.cap; have hrl := hr.le; have hrm2 := hr2.cap; have hrl2 := hr2.le
  unfold maxLen at hrm hrm2
  have HCE : Hid (cmpErr S S2 = g) := Lib.hid (by
    unfold cmpErr
    rw [if_pos (by rw [hS]; exact rk_of h6 hq), if_neg (by rw [hg2]; exact hg0), hg2])
  subst hS
  rw [List.length_map] at hrl ⊢
  obtain ⟨m, hm⟩ := srt_head (Q := Q) hq0
  have HM := Lib.hid hm
  have HQ := Lib.hid hq; have HQ6 := Lib.hid h6
  have HH0 : Hid (0 < (MM.srt Q).length) := Lib.hid (by rw [QS.srt_len]; exact hq0)
  have HGD : Hid ((MM.srt Q).getD 0 0 = m) := Lib.hid (by rw [List.getD_eq_getElem?_getD, hm]; rfl)
  have hq6 : Q.length ≤ 6 := h6
  have hqz : ((Q.length : Int) == 0) = false := beq_eq_false_iff_ne.2 (by omega)
  have hqz2 : (0 : Int) < (Q.length : Int) := by omega
  clear hm hq h6
  have HG2 := Lib.hid hg2; have HG0 := Lib.hid hg0
  have hg0' : (g == 0) = false := beq_eq_false_iff_ne.2 hg0
  clear hg2 hg0
  have HR := Lib.hid hr; have HR2 := Lib.hid hr2
  clear hg hr hr2
  have HB := Lib.hid (Below.refl w.heap.size w)
  obtain ⟨wk0, hwk⟩ : ∃ x, x = w := ⟨_, rfl⟩
  rw [show Below w.heap.size w w = Below w.heap.size w wk0 from by rw [hwk]] at HB
  have hz := HB.out.size
  go_enter Tryd.func10, Tryd.ntmps10
  go_upto_region 1 with (fail)
  rw [← hwk]
  clear hwk
  go_wp2_with fail
  refine (refRates_yes A c _ Q w.heap.size _ hz (HR.out.below HB.out (Nat.le_refl _)) rfl HQ6.out HQ.out).mono ?_; rintro e wk1 ⟨A5, c5, rfl, hf5, hb⟩
  clear hz
  have HBx := Lib.hid (HB.out.trans (hb.mono HB.out.size))
  clear hb  HB 
  have HB := HBx
  clear HBx
  have hz := HB.out.size
  have HX5 := Lib.hid hf5
  clear hf5
  go_wp2_with fail
  refine (rsort_yes A c _ Q w.heap.size _ hz (HR.out.below HB.out (Nat.le_refl _)) rfl HQ6.out HQ.out).mono ?_; rintro e wk2 ⟨A6, c6, rfl, hf6, hb⟩
  clear hz
  have HBx := Lib.hid (HB.out.trans (hb.mono HB.out.size))
  have HX5x := Lib.hid (HX5.out.at' hb)
  clear hb  HB HX5 
  have HB := HBx; have HX5 := HX5x
  clear HBx HX5x
  have hz := HB.out.size
  have HX6 := Lib.hid hf6
  clear hf6
  go_wp2_with fail
  refine (same_nl _ (LAID.out.below HB.out)).mono ?_; rintro e wk3 ⟨rfl, hb⟩
  clear hz
  have HBx := Lib.hid (HB.out.trans (hb.mono HB.out.size))
  have HX5x := Lib.hid (HX5.out.at' hb)
  have HX6x := Lib.hid (HX6.out.at' hb)
  clear hb  HB HX5 HX6 
  have HB := HBx; have HX5 := HX5x; have HX6 := HX6x
  clear HBx HX5x HX6x
  have hz := HB.out.size
  go_wp2_with fail
  refine (sameFr_any A5 A6 c5 c6 _ _ ((MM.srt Q).map frQ) ((MM.srt Q).map frQ) _ _ _ HX5.out HX6.out (by rw [List.length_map, QS.srt_len]) (by rw [List.length_map, QS.srt_len]) (Nat.le_refl _) (Nat.le_refl _) true (decide_eq_true rfl)).mono ?_; rintro e wk4 ⟨rfl, hb⟩
  clear hz
  have HBx := Lib.hid (HB.out.trans (hb.mono HB.out.size))
  have HX5x := Lib.hid (HX5.out.at' hb)
  have HX6x := Lib.hid (HX6.out.at' hb)
  clear hb  HB HX5 HX6 
  have HB := HBx; have HX5 := HX5x; have HX6 := HX6x
  clear HBx HX5x HX6x
  have hz := HB.out.size
  have hm5 := HX5.out.cap; have hl5 := HX5.out.le
  rw [List.length_map, QS.srt_len] at hl5
  unfold maxLen at hm5
  have HFX := HX5
  have hleX : w.heap.size ≤ wk4.heap.size := hz
  clear HX5 HX6
  obtain ⟨wk5, hwk⟩ : ∃ x, x = wk4.alloc (.cells #[.int .i64 0, .int .i64 0] 23) := ⟨_, rfl⟩
  have hb : Below wk4.heap.size wk4 wk5 := by rw [hwk]; exact (Below.refl _ _).alloc (Nat.le_refl _) _
  have HX : Hid (Blk wk5 wk4.heap.size 23 #[.int .i64 0, .int .i64 0]) := Lib.hid (by rw [hwk]; exact Blk.new _ _ _)
  replace HFX := Lib.hid (HFX.out.below hb (Nat.le_refl _))
  go_upto_region 6 with (fail)
  rw [← hwk]
  clear hwk hz
  obtain ⟨gHX, hgk⟩ : ∃ x, x = wk4.heap.size := ⟨_, rfl⟩
  rw [← hgk] at HX HFX hleX ⊢
  clear hgk
  have HBx := Lib.hid (HB.out.trans (hb.mono HB.out.size))
  clear hb  HB 
  have HB := HBx
  clear HBx
  have hz := HB.out.size
  obtain ⟨hx_0, hx_1, hx_2, hx_3, hx_4⟩ := HX.out.two
  obtain ⟨bx, ox, rfl, hbx, x0, x1⟩ := frs_q HFX.out HH0.out
  rw [HGD.out, Nat.zero_mul, Nat.add_zero] at x0 x1
  have hbxz : bx < wk5.heap.size := by have := HX.out.lt; omega
  obtain ⟨wk6, hwk⟩ : ∃ y, y = (wk5.setCell ⟨gHX, 0, none⟩ (.int .i64 m.num)).setCell ⟨gHX, 1, none⟩ (.int .i64 m.den) := ⟨_, rfl⟩
  have HBx : Hid (Below w.heap.size w wk6) := Lib.hid (by rw [hwk]; exact (HB.out.setCell (p := ⟨gHX, 0, none⟩) hleX _).setCell (p := ⟨gHX, 1, none⟩) hleX _)
  have HXx : Hid (Blk wk6 gHX 23 #[.int .i64 m.num, .int .i64 m.den]) := Lib.hid (by rw [hwk]; exact (HX.out.s2_0 _).s2_1 _)
  have HFXx := Lib.hid (show Frs wk6 gHX (some ⟨bx, ox, none⟩) c5 ((MM.srt Q).map frQ) from by rw [hwk]; exact HFX.out.below (((Below.refl gHX wk5).setCell (p := ⟨gHX, 0, none⟩) (Nat.le_refl _) _).setCell (p := ⟨gHX, 1, none⟩) (Nat.le_refl _) _) (Nat.le_refl _))
  go_upto_region 10 with (fail)
  rw [← hwk]
  clear hwk hz x0 x1 hbxz HB HX HFX hx_0 hx_1 hx_2 hx_3 hx_4
  have HB := HBx; have HX := HXx; have HFX := HFXx
  clear HBx HXx HFXx
  have hz := HB.out.size
  obtain ⟨hx_0, hx_1, hx_2, hx_3, hx_4⟩ := HX.out.two
  go_wp2_with fail
  refine (rleast_yes A c _ Q m w.heap.size _ hz (HR.out.below HB.out (Nat.le_refl _)) rfl HQ6.out HQ.out HM.out).mono ?_; rintro e wk7 ⟨rfl, hb⟩
  replace HFX := Lib.hid (HFX.out.below hb (Nat.le_of_lt HX.out.lt))
  clear hz
  have HBx := Lib.hid (HB.out.trans (hb.mono HB.out.size))
  have HXx := Lib.hid (HX.out.go hb)
  clear hb hx_0 hx_1 hx_2 hx_3 hx_4 HB HX 
  have HB := HBx; have HX := HXx
  clear HBx HXx
  have hz := HB.out.size
  obtain ⟨hx_0, hx_1, hx_2, hx_3, hx_4⟩ := HX.out.two
  obtain ⟨wk8, hwk⟩ : ∃ x, x = wk7.alloc (.cells #[.int .i64 m.num, .int .i64 m.den] 23) := ⟨_, rfl⟩
  have hb : Below wk7.heap.size wk7 wk8 := by rw [hwk]; exact (Below.refl _ _).alloc (Nat.le_refl _) _
  have HY : Hid (Blk wk8 wk7.heap.size 23 #[.int .i64 m.num, .int .i64 m.den]) := Lib.hid (by rw [hwk]; exact Blk.new _ _ _)
  replace HFX := Lib.hid (HFX.out.below hb (Nat.le_of_lt HX.out.lt))
  go_upto_region 11 with (fail)
  rw [← hwk]
  clear hwk hz
  obtain ⟨gHY, hgk⟩ : ∃ x, x = wk7.heap.size := ⟨_, rfl⟩
  rw [← hgk] at HY ⊢
  clear hgk
  have HBx := Lib.hid (HB.out.trans (hb.mono HB.out.size))
  have HXx := Lib.hid (HX.out.go hb)
  clear hb hx_0 hx_1 hx_2 hx_3 hx_4 HB HX 
  have HB := HBx; have HX := HXx
  clear HBx HXx
  have hz := HB.out.size
  obtain ⟨hx_0, hx_1, hx_2, hx_3, hx_4⟩ := HX.out.two
  clear hx_0 hx_1 hx_2 hx_3 hx_4
  obtain ⟨hx_0, hx_1, hx_2, hx_3, hx_4⟩ := HX.out.two
  obtain ⟨hy_0, hy_1, hy_2, hy_3, hy_4⟩ := HY.out.two
  go_wp2_with fail
  refine (same_nl _ (LAID.out.below HB.out)).mono ?_; rintro e wk9 ⟨rfl, hb⟩
  replace HFX := Lib.hid (HFX.out.below hb (Nat.le_of_lt HX.out.lt))
  clear hz
  have HBx := Lib.hid (HB.out.trans (hb.mono HB.out.size))
  have HXx := Lib.hid (HX.out.go hb)
  have HYx := Lib.hid (HY.out.go hb)
  clear hb hx_0 hx_1 hx_2 hx_3 hx_4 hy_0 hy_1 hy_2 hy_3 hy_4 HB HX HY 
  have HB := HBx; have HX := HXx; have HY := HYx
  clear HBx HXx HYx
  have hz := HB.out.size
  obtain ⟨hx_0, hx_1, hx_2, hx_3, hx_4⟩ := HX.out.two
  obtain ⟨hy_0, hy_1, hy_2, hy_3, hy_4⟩ := HY.out.two
  go_wp2_with fail
  refine (refRates_er A2 c2 _ S2 g w.heap.size _ hz (HR2.out.below HB.out (Nat.le_refl _)) rfl HG2.out HG0.out).mono ?_; rintro e wk10 ⟨A7, c7, rfl, _, hb⟩
  replace HFX := Lib.hid (HFX.out.below hb (Nat.le_of_lt HX.out.lt))
  clear hz
  have HBx := Lib.hid (HB.out.trans (hb.mono HB.out.size))
  have HXx := Lib.hid (HX.out.go hb)
  have HYx := Lib.hid (HY.out.go hb)
  clear hb hx_0 hx_1 hx_2 hx_3 hx_4 hy_0 hy_1 hy_2 hy_3 hy_4 HB HX HY 
  have HB := HBx; have HX := HXx; have HY := HYx
  clear HBx HXx HYx
  have hz := HB.out.size
  obtain ⟨hx_0, hx_1, hx_2, hx_3, hx_4⟩ := HX.out.two
  obtain ⟨hy_0, hy_1, hy_2, hy_3, hy_4⟩ := HY.out.two
  go_wp2
  refine wp_loop_rounds 1 ?_
  rw [rounds_succ]
  go_wp2_with fail
  refine (rcmp_er A A2 c c2 _ _ (Q.map frQ) S2 g w.heap.size _ hz (HR.out.below HB.out (Nat.le_refl _)) (HR2.out.below HB.out (Nat.le_refl _)) (by rw [List.length_map]) rfl HCE.out HG0.out).mono ?_; rintro e wk11 ⟨rfl, hb⟩
  replace HFX := Lib.hid (HFX.out.below hb (Nat.le_of_lt HX.out.lt))
  clear hz
  have HBx := Lib.hid (HB.out.trans (hb.mono HB.out.size))
  have HXx := Lib.hid (HX.out.go hb)
  have HYx := Lib.hid (HY.out.go hb)
  clear hb hx_0 hx_1 hx_2 hx_3 hx_4 hy_0 hy_1 hy_2 hy_3 hy_4 HB HX HY 
  have HB := HBx; have HX := HXx; have HY := HYx
  clear HBx HXx HYx
  have hz := HB.out.size
  obtain ⟨hx_0, hx_1, hx_2, hx_3, hx_4⟩ := HX.out.two
  obtain ⟨hy_0, hy_1, hy_2, hy_3, hy_4⟩ := HY.out.two
  go_wp2_with fail
  refine (same_e g _ (LAID.out.below HB.out) HG0.out).mono ?_; rintro e wk12 ⟨rfl, hb⟩
  replace HFX := Lib.hid (HFX.out.below hb (Nat.le_of_lt HX.out.lt))
  clear hz
  have HBx := Lib.hid (HB.out.trans (hb.mono HB.out.size))
  have HXx := Lib.hid (HX.out.go hb)
  have HYx := Lib.hid (HY.out.go hb)
  clear hb hx_0 hx_1 hx_2 hx_3 hx_4 hy_0 hy_1 hy_2 hy_3 hy_4 HB HX HY 
  have HB := HBx; have HX := HXx; have HY := HYx
  clear HBx HXx HYx
  have hz := HB.out.size
  obtain ⟨hx_0, hx_1, hx_2, hx_3, hx_4⟩ := HX.out.two
  obtain ⟨hy_0, hy_1, hy_2, hy_3, hy_4⟩ := HY.out.two
  go_wp2
  go_ret
  exact ⟨rfl, HB.out⟩
set_option maxHeartbeats 16000000 in
set_option maxRecDepth 100000 in
theorem rankTells_some_dif (A : Option Addr) (c : Nat) (S : List Fr) (A2 : Option Addr) (c2 : Nat) (S2 : List Fr) (w : World) (hg : Laid w) (hr : Frs w w.heap.size A c S) (hr2 : Frs w w.heap.size A2 c2 S2) (Q : List Rat) (hS : S = Q.map frQ) (h6 : Q.length ≤ 6) (hq : ∀ q ∈ Q, QIn q) (hq0 : 0 < Q.length) (R : List Rat) (hS2 : S2 = R.map frQ) (h62 : R.length ≤ 6) (hq2 : ∀ q ∈ R, QIn q) (hlen : S.length ≠ S2.length) :
    Calls Tryd.prog 10 #[.slice A S.length c, .slice A2 S2.length c2] w fun e w' => e = .returned (.bool true) ∧ Below w.heap.size w w' := by
  have LAID := Lib.hid hg
  have hrm := hr.cap; have hrl := hr.le; have hrm2 := hr2.cap; have hrl2 := hr2.le
  unfold maxLen at hrm hrm2
  have HCE : Hid (cmpErr S S2 = 3) := Lib.hid (by
    unfold cmpErr
    rw [if_pos (by rw [hS]; exact rk_of h6 hq), if_pos (by rw [hS2]; exact rk_of h62 hq2), if_neg hlen])
  subst hS
  rw [List.length_map] at hrl ⊢
  subst hS2
  rw [List.length_map] at hrl2 ⊢
  rw [List.length_map, List.length_map] at hlen
  have hld : (((Q.length : Int) : Int) != (R.length : Int)) = true := by rw [bne_iff_ne]; omega
  obtain ⟨m, hm⟩ := srt_head (Q := Q) hq0
  have HM := Lib.hid hm
  have HQ := Lib.hid hq; have HQ6 := Lib.hid h6
  have HH0 : Hid (0 < (MM.srt Q).length) := Lib.hid (by rw [QS.srt_len]; exact hq0)
  have HGD : Hid ((MM.srt Q).getD 0 0 = m) := Lib.hid (by rw [List.getD_eq_getElem?_getD, hm]; rfl)
  have hq6 : Q.length ≤ 6 := h6
  have hqz : ((Q.length : Int) == 0) = false := beq_eq_false_iff_ne.2 (by omega)
  have hqz2 : (0 : Int) < (Q.length : Int) := by omega
  clear hm hq h6
  have HQ2 := Lib.hid hq2; have H62 := Lib.hid h62
  have hr26 : R.length ≤ 6 := h62
  clear hq2 h62 hlen
  have HR := Lib.hid hr; have HR2 := Lib.hid hr2
  clear hg hr hr2
  have HB := Lib.hid (Below.refl w.heap.size w)
  obtain ⟨wk0, hwk⟩ : ∃ x, x = w := ⟨_, rfl⟩
  rw [show Below w.heap.size w w = Below w.heap.size w wk0 from by rw [hwk]] at HB
  have hz := HB.out.size
  go_enter Tryd.func10, Tryd.ntmps10
  go_upto_region 1 with (fail)
  rw [← hwk]
  clear hwk
  go_wp2_with fail
  refine (refRates_yes A c _ Q w.heap.size _ hz (HR.out.below HB.out (Nat.le_refl _)) rfl HQ6.out HQ.out).mono ?_; rintro e wk1 ⟨A5, c5, rfl, hf5, hb⟩
  clear hz
  have HBx := Lib.hid (HB.out.trans (hb.mono HB.out.size))
  clear hb  HB 
  have HB := HBx
  clear HBx
  have hz := HB.out.size
  have HX5 := Lib.hid hf5
  clear hf5
  go_wp2_with fail
  refine (rsort_yes A c _ Q w.heap.size _ hz (HR.out.below HB.out (Nat.le_refl _)) rfl HQ6.out HQ.out).mono ?_; rintro e wk2 ⟨A6, c6, rfl, hf6, hb⟩
  clear hz
  have HBx := Lib.hid (HB.out.trans (hb.mono HB.out.size))
  have HX5x := Lib.hid (HX5.out.at' hb)
  clear hb  HB HX5 
  have HB := HBx; have HX5 := HX5x
  clear HBx HX5x
  have hz := HB.out.size
  have HX6 := Lib.hid hf6
  clear hf6
  go_wp2_with fail
  refine (same_nl _ (LAID.out.below HB.out)).mono ?_; rintro e wk3 ⟨rfl, hb⟩
  clear hz
  have HBx := Lib.hid (HB.out.trans (hb.mono HB.out.size))
  have HX5x := Lib.hid (HX5.out.at' hb)
  have HX6x := Lib.hid (HX6.out.at' hb)
  clear hb  HB HX5 HX6 
  have HB := HBx; have HX5 := HX5x; have HX6 := HX6x
  clear HBx HX5x HX6x
  have hz := HB.out.size
  go_wp2_with fail
  refine (sameFr_any A5 A6 c5 c6 _ _ ((MM.srt Q).map frQ) ((MM.srt Q).map frQ) _ _ _ HX5.out HX6.out (by rw [List.length_map, QS.srt_len]) (by rw [List.length_map, QS.srt_len]) (Nat.le_refl _) (Nat.le_refl _) true (decide_eq_true rfl)).mono ?_; rintro e wk4 ⟨rfl, hb⟩
  clear hz
  have HBx := Lib.hid (HB.out.trans (hb.mono HB.out.size))
  have HX5x := Lib.hid (HX5.out.at' hb)
  have HX6x := Lib.hid (HX6.out.at' hb)
  clear hb  HB HX5 HX6 
  have HB := HBx; have HX5 := HX5x; have HX6 := HX6x
  clear HBx HX5x HX6x
  have hz := HB.out.size
  have hm5 := HX5.out.cap; have hl5 := HX5.out.le
  rw [List.length_map, QS.srt_len] at hl5
  unfold maxLen at hm5
  have HFX := HX5
  have hleX : w.heap.size ≤ wk4.heap.size := hz
  clear HX5 HX6
  obtain ⟨wk5, hwk⟩ : ∃ x, x = wk4.alloc (.cells #[.int .i64 0, .int .i64 0] 23) := ⟨_, rfl⟩
  have hb : Below wk4.heap.size wk4 wk5 := by rw [hwk]; exact (Below.refl _ _).alloc (Nat.le_refl _) _
  have HX : Hid (Blk wk5 wk4.heap.size 23 #[.int .i64 0, .int .i64 0]) := Lib.hid (by rw [hwk]; exact Blk.new _ _ _)
  replace HFX := Lib.hid (HFX.out.below hb (Nat.le_refl _))
  go_upto_region 6 with (fail)
  rw [← hwk]
  clear hwk hz
  obtain ⟨gHX, hgk⟩ : ∃ x, x = wk4.heap.size := ⟨_, rfl⟩
  rw [← hgk] at HX HFX hleX ⊢
  clear hgk
  have HBx := Lib.hid (HB.out.trans (hb.mono HB.out.size))
  clear hb  HB 
  have HB := HBx
  clear HBx
  have hz := HB.out.size
  obtain ⟨hx_0, hx_1, hx_2, hx_3, hx_4⟩ := HX.out.two
  obtain ⟨bx, ox, rfl, hbx, x0, x1⟩ := frs_q HFX.out HH0.out
  rw [HGD.out, Nat.zero_mul, Nat.add_zero] at x0 x1
  have hbxz : bx < wk5.heap.size := by have := HX.out.lt; omega
  obtain ⟨wk6, hwk⟩ : ∃ y, y = (wk5.setCell ⟨gHX, 0, none⟩ (.int .i64 m.num)).setCell ⟨gHX, 1, none⟩ (.int .i64 m.den) := ⟨_, rfl⟩
  have HBx : Hid (Below w.heap.size w wk6) := Lib.hid (by rw [hwk]; exact (HB.out.setCell (p := ⟨gHX, 0, none⟩) hleX _).setCell (p := ⟨gHX, 1, none⟩) hleX _)
  have HXx : Hid (Blk wk6 gHX 23 #[.int .i64 m.num, .int .i64 m.den]) := Lib.hid (by rw [hwk]; exact (HX.out.s2_0 _).s2_1 _)
  have HFXx := Lib.hid (show Frs wk6 gHX (some ⟨bx, ox, none⟩) c5 ((MM.srt Q).map frQ) from by rw [hwk]; exact HFX.out.below (((Below.refl gHX wk5).setCell (p := ⟨gHX, 0, none⟩) (Nat.le_refl _) _).setCell (p := ⟨gHX, 1, none⟩) (Nat.le_refl _) _) (Nat.le_refl _))
  go_upto_region 10 with (fail)
  rw [← hwk]
  clear hwk hz x0 x1 hbxz HB HX HFX hx_0 hx_1 hx_2 hx_3 hx_4
  have HB := HBx; have HX := HXx; have HFX := HFXx
  clear HBx HXx HFXx
  have hz := HB.out.size
  obtain ⟨hx_0, hx_1, hx_2, hx_3, hx_4⟩ := HX.out.two
  go_wp2_with fail
  refine (rleast_yes A c _ Q m w.heap.size _ hz (HR.out.below HB.out (Nat.le_refl _)) rfl HQ6.out HQ.out HM.out).mono ?_; rintro e wk7 ⟨rfl, hb⟩
  replace HFX := Lib.hid (HFX.out.below hb (Nat.le_of_lt HX.out.lt))
  clear hz
  have HBx := Lib.hid (HB.out.trans (hb.mono HB.out.size))
  have HXx := Lib.hid (HX.out.go hb)
  clear hb hx_0 hx_1 hx_2 hx_3 hx_4 HB HX 
  have HB := HBx; have HX := HXx
  clear HBx HXx
  have hz := HB.out.size
  obtain ⟨hx_0, hx_1, hx_2, hx_3, hx_4⟩ := HX.out.two
  obtain ⟨wk8, hwk⟩ : ∃ x, x = wk7.alloc (.cells #[.int .i64 m.num, .int .i64 m.den] 23) := ⟨_, rfl⟩
  have hb : Below wk7.heap.size wk7 wk8 := by rw [hwk]; exact (Below.refl _ _).alloc (Nat.le_refl _) _
  have HY : Hid (Blk wk8 wk7.heap.size 23 #[.int .i64 m.num, .int .i64 m.den]) := Lib.hid (by rw [hwk]; exact Blk.new _ _ _)
  replace HFX := Lib.hid (HFX.out.below hb (Nat.le_of_lt HX.out.lt))
  go_upto_region 11 with (fail)
  rw [← hwk]
  clear hwk hz
  obtain ⟨gHY, hgk⟩ : ∃ x, x = wk7.heap.size := ⟨_, rfl⟩
  rw [← hgk] at HY ⊢
  clear hgk
  have HBx := Lib.hid (HB.out.trans (hb.mono HB.out.size))
  have HXx := Lib.hid (HX.out.go hb)
  clear hb hx_0 hx_1 hx_2 hx_3 hx_4 HB HX 
  have HB := HBx; have HX := HXx
  clear HBx HXx
  have hz := HB.out.size
  obtain ⟨hx_0, hx_1, hx_2, hx_3, hx_4⟩ := HX.out.two
  clear hx_0 hx_1 hx_2 hx_3 hx_4
  obtain ⟨hx_0, hx_1, hx_2, hx_3, hx_4⟩ := HX.out.two
  obtain ⟨hy_0, hy_1, hy_2, hy_3, hy_4⟩ := HY.out.two
  go_wp2_with fail
  refine (same_nl _ (LAID.out.below HB.out)).mono ?_; rintro e wk9 ⟨rfl, hb⟩
  replace HFX := Lib.hid (HFX.out.below hb (Nat.le_of_lt HX.out.lt))
  clear hz
  have HBx := Lib.hid (HB.out.trans (hb.mono HB.out.size))
  have HXx := Lib.hid (HX.out.go hb)
  have HYx := Lib.hid (HY.out.go hb)
  clear hb hx_0 hx_1 hx_2 hx_3 hx_4 hy_0 hy_1 hy_2 hy_3 hy_4 HB HX HY 
  have HB := HBx; have HX := HXx; have HY := HYx
  clear HBx HXx HYx
  have hz := HB.out.size
  obtain ⟨hx_0, hx_1, hx_2, hx_3, hx_4⟩ := HX.out.two
  obtain ⟨hy_0, hy_1, hy_2, hy_3, hy_4⟩ := HY.out.two
  go_wp2_with fail
  refine (refRates_yes A2 c2 _ R w.heap.size _ hz (HR2.out.below HB.out (Nat.le_refl _)) rfl H62.out HQ2.out).mono ?_; rintro e wk10 ⟨A7, c7, rfl, hf7, hb⟩
  replace HFX := Lib.hid (HFX.out.below hb (Nat.le_of_lt HX.out.lt))
  clear hz
  have HBx := Lib.hid (HB.out.trans (hb.mono HB.out.size))
  have HXx := Lib.hid (HX.out.go hb)
  have HYx := Lib.hid (HY.out.go hb)
  clear hb hx_0 hx_1 hx_2 hx_3 hx_4 hy_0 hy_1 hy_2 hy_3 hy_4 HB HX HY 
  have HB := HBx; have HX := HXx; have HY := HYx
  clear HBx HXx HYx
  have hz := HB.out.size
  obtain ⟨hx_0, hx_1, hx_2, hx_3, hx_4⟩ := HX.out.two
  obtain ⟨hy_0, hy_1, hy_2, hy_3, hy_4⟩ := HY.out.two
  have HZ := Lib.hid hf7
  clear hf7
  go_wp2
  refine wp_loop_rounds 1 ?_
  rw [rounds_succ]
  go_wp2_with fail
  refine (rcmp_er A A2 c c2 _ _ (Q.map frQ) (R.map frQ) 3 w.heap.size _ hz (HR.out.below HB.out (Nat.le_refl _)) (HR2.out.below HB.out (Nat.le_refl _)) (by rw [List.length_map]) (by rw [List.length_map]) HCE.out (by decide)).mono ?_; rintro e wk11 ⟨rfl, hb⟩
  replace HFX := Lib.hid (HFX.out.below hb (Nat.le_of_lt HX.out.lt))
  clear hz
  have HBx := Lib.hid (HB.out.trans (hb.mono HB.out.size))
  have HXx := Lib.hid (HX.out.go hb)
  have HYx := Lib.hid (HY.out.go hb)
  have HZx := Lib.hid (HZ.out.at' hb)
  clear hb hx_0 hx_1 hx_2 hx_3 hx_4 hy_0 hy_1 hy_2 hy_3 hy_4 HB HX HY HZ 
  have HB := HBx; have HX := HXx; have HY := HYx; have HZ := HZx
  clear HBx HXx HYx HZx
  have hz := HB.out.size
  obtain ⟨hx_0, hx_1, hx_2, hx_3, hx_4⟩ := HX.out.two
  obtain ⟨hy_0, hy_1, hy_2, hy_3, hy_4⟩ := HY.out.two
  go_wp2_with fail
  refine (same_e 3 _ (LAID.out.below HB.out) (by decide)).mono ?_; rintro e wk12 ⟨rfl, hb⟩
  replace HFX := Lib.hid (HFX.out.below hb (Nat.le_of_lt HX.out.lt))
  clear hz
  have HBx := Lib.hid (HB.out.trans (hb.mono HB.out.size))
  have HXx := Lib.hid (HX.out.go hb)
  have HYx := Lib.hid (HY.out.go hb)
  have HZx := Lib.hid (HZ.out.at' hb)
  clear hb hx_0 hx_1 hx_2 hx_3 hx_4 hy_0 hy_1 hy_2 hy_3 hy_4 HB HX HY HZ 
  have HB := HBx; have HX := HXx; have HY := HYx; have HZ := HZx
  clear HBx HXx HYx HZx
  have hz := HB.out.size
  obtain ⟨hx_0, hx_1, hx_2, hx_3, hx_4⟩ := HX.out.two
  obtain ⟨hy_0, hy_1, hy_2, hy_3, hy_4⟩ := HY.out.two
  go_wp2
  go_ret
  exact ⟨rfl, HB.out⟩
set_option maxHeartbeats 16000000 in
set_option maxRecDepth 100000 in
theorem rankTells_some_same (A : Option Addr) (c : Nat) (S : List Fr) (A2 : Option Addr) (c2 : Nat) (S2 : List Fr) (w : World) (hg : Laid w) (hr : Frs w w.heap.size A c S) (hr2 : Frs w w.heap.size A2 c2 S2) (Q : List Rat) (hS : S = Q.map frQ) (h6 : Q.length ≤ 6) (hq : ∀ q ∈ Q, QIn q) (hq0 : 0 < Q.length) (R : List Rat) (hS2 : S2 = R.map frQ) (h62 : R.length ≤ 6) (hq2 : ∀ q ∈ R, QIn q) (hlen : S.length = S2.length) :
    Calls Tryd.prog 10 #[.slice A S.length c, .slice A2 S2.length c2] w fun e w' => e = .returned (.bool true) ∧ Below w.heap.size w w' := by
  have LAID := Lib.hid hg
  have hrm := hr.cap; have hrl := hr.le; have hrm2 := hr2.cap; have hrl2 := hr2.le
  unfold maxLen at hrm hrm2
  subst hS
  rw [List.length_map] at hrl ⊢
  subst hS2
  rw [List.length_map] at hrl2 ⊢
  rw [List.length_map, List.length_map] at hlen
  have hld : (((Q.length : Int) : Int) != (R.length : Int)) = false := by rw [bne_eq_false_iff_eq]; omega
  obtain ⟨o, ho⟩ : ∃ o, MM.lex (MM.srt Q) (MM.srt R) = o := ⟨_, rfl⟩
  have HO := Lib.hid ho
  have HLN : Hid ((Q : List Rat).length = R.length) := Lib.hid (by exact hlen)
  clear ho
  obtain ⟨m, hm⟩ := srt_head (Q := Q) hq0
  have HM := Lib.hid hm
  have HQ := Lib.hid hq; have HQ6 := Lib.hid h6
  have HH0 : Hid (0 < (MM.srt Q).length) := Lib.hid (by rw [QS.srt_len]; exact hq0)
  have HGD : Hid ((MM.srt Q).getD 0 0 = m) := Lib.hid (by rw [List.getD_eq_getElem?_getD, hm]; rfl)
  have hq6 : Q.length ≤ 6 := h6
  have hqz : ((Q.length : Int) == 0) = false := beq_eq_false_iff_ne.2 (by omega)
  have hqz2 : (0 : Int) < (Q.length : Int) := by omega
  clear hm hq h6
  have HQ2 := Lib.hid hq2; have H62 := Lib.hid h62
  have hr26 : R.length ≤ 6 := h62
  clear hq2 h62 hlen
  have HR := Lib.hid hr; have HR2 := Lib.hid hr2
  clear hg hr hr2
  have HB := Lib.hid (Below.refl w.heap.size w)
  obtain ⟨wk0, hwk⟩ : ∃ x, x = w := ⟨_, rfl⟩
  rw [show Below w.heap.size w w = Below w.heap.size w wk0 from by rw [hwk]] at HB
  have hz := HB.out.size
  go_enter Tryd.func10, Tryd.ntmps10
  go_upto_region 1 with (fail)
  rw [← hwk]
  clear hwk
  go_wp2_with fail
  refine (refRates_yes A c _ Q w.heap.size _ hz (HR.out.below HB.out (Nat.le_refl _)) rfl HQ6.out HQ.out).mono ?_; rintro e wk1 ⟨A5, c5, rfl, hf5, hb⟩
  clear hz
  have HBx := Lib.hid (HB.out.trans (hb.mono HB.out.size))
  clear hb  HB 
  have HB := HBx
  clear HBx
  have hz := HB.out.size
  have HX5 := Lib.hid hf5
  clear hf5
  go_wp2_with fail
  refine (rsort_yes A c _ Q w.heap.size _ hz (HR.out.below HB.out (Nat.le_refl _)) rfl HQ6.out HQ.out).mono ?_; rintro e wk2 ⟨A6, c6, rfl, hf6, hb⟩
  clear hz
  have HBx := Lib.hid (HB.out.trans (hb.mono HB.out.size))
  have HX5x := Lib.hid (HX5.out.at' hb)
  clear hb  HB HX5 
  have HB := HBx; have HX5 := HX5x
  clear HBx HX5x
  have hz := HB.out.size
  have HX6 := Lib.hid hf6
  clear hf6
  go_wp2_with fail
  refine (same_nl _ (LAID.out.below HB.out)).mono ?_; rintro e wk3 ⟨rfl, hb⟩
  clear hz
  have HBx := Lib.hid (HB.out.trans (hb.mono HB.out.size))
  have HX5x := Lib.hid (HX5.out.at' hb)
  have HX6x := Lib.hid (HX6.out.at' hb)
  clear hb  HB HX5 HX6 
  have HB := HBx; have HX5 := HX5x; have HX6 := HX6x
  clear HBx HX5x HX6x
  have hz := HB.out.size
  go_wp2_with fail
  refine (sameFr_any A5 A6 c5 c6 _ _ ((MM.srt Q).map frQ) ((MM.srt Q).map frQ) _ _ _ HX5.out HX6.out (by rw [List.length_map, QS.srt_len]) (by rw [List.length_map, QS.srt_len]) (Nat.le_refl _) (Nat.le_refl _) true (decide_eq_true rfl)).mono ?_; rintro e wk4 ⟨rfl, hb⟩
  clear hz
  have HBx := Lib.hid (HB.out.trans (hb.mono HB.out.size))
  have HX5x := Lib.hid (HX5.out.at' hb)
  have HX6x := Lib.hid (HX6.out.at' hb)
  clear hb  HB HX5 HX6 
  have HB := HBx; have HX5 := HX5x; have HX6 := HX6x
  clear HBx HX5x HX6x
  have hz := HB.out.size
  have hm5 := HX5.out.cap; have hl5 := HX5.out.le
  rw [List.length_map, QS.srt_len] at hl5
  unfold maxLen at hm5
  have HFX := HX5
  have hleX : w.heap.size ≤ wk4.heap.size := hz
  clear HX5 HX6
  obtain ⟨wk5, hwk⟩ : ∃ x, x = wk4.alloc (.cells #[.int .i64 0, .int .i64 0] 23) := ⟨_, rfl⟩
  have hb : Below wk4.heap.size wk4 wk5 := by rw [hwk]; exact (Below.refl _ _).alloc (Nat.le_refl _) _
  have HX : Hid (Blk wk5 wk4.heap.size 23 #[.int .i64 0, .int .i64 0]) := Lib.hid (by rw [hwk]; exact Blk.new _ _ _)
  replace HFX := Lib.hid (HFX.out.below hb (Nat.le_refl _))
  go_upto_region 6 with (fail)
  rw [← hwk]
  clear hwk hz
  obtain ⟨gHX, hgk⟩ : ∃ x, x = wk4.heap.size := ⟨_, rfl⟩
  rw [← hgk] at HX HFX hleX ⊢
  clear hgk
  have HBx := Lib.hid (HB.out.trans (hb.mono HB.out.size))
  clear hb  HB 
  have HB := HBx
  clear HBx
  have hz := HB.out.size
  obtain ⟨hx_0, hx_1, hx_2, hx_3, hx_4⟩ := HX.out.two
  obtain ⟨bx, ox, rfl, hbx, x0, x1⟩ := frs_q HFX.out HH0.out
  rw [HGD.out, Nat.zero_mul, Nat.add_zero] at x0 x1
  have hbxz : bx < wk5.heap.size := by have := HX.out.lt; omega
  obtain ⟨wk6, hwk⟩ : ∃ y, y = (wk5.setCell ⟨gHX, 0, none⟩ (.int .i64 m.num)).setCell ⟨gHX, 1, none⟩ (.int .i64 m.den) := ⟨_, rfl⟩
  have HBx : Hid (Below w.heap.size w wk6) := Lib.hid (by rw [hwk]; exact (HB.out.setCell (p := ⟨gHX, 0, none⟩) hleX _).setCell (p := ⟨gHX, 1, none⟩) hleX _)
  have HXx : Hid (Blk wk6 gHX 23 #[.int .i64 m.num, .int .i64 m.den]) := Lib.hid (by rw [hwk]; exact (HX.out.s2_0 _).s2_1 _)
  have HFXx := Lib.hid (show Frs wk6 gHX (some ⟨bx, ox, none⟩) c5 ((MM.srt Q).map frQ) from by rw [hwk]; exact HFX.out.below (((Below.refl gHX wk5).setCell (p := ⟨gHX, 0, none⟩) (Nat.le_refl _) _).setCell (p := ⟨gHX, 1, none⟩) (Nat.le_refl _) _) (Nat.le_refl _))
  go_upto_region 10 with (fail)
  rw [← hwk]
  clear hwk hz x0 x1 hbxz HB HX HFX hx_0 hx_1 hx_2 hx_3 hx_4
  have HB := HBx; have HX := HXx; have HFX := HFXx
  clear HBx HXx HFXx
  have hz := HB.out.size
  obtain ⟨hx_0, hx_1, hx_2, hx_3, hx_4⟩ := HX.out.two
  go_wp2_with fail
  refine (rleast_yes A c _ Q m w.heap.size _ hz (HR.out.below HB.out (Nat.le_refl _)) rfl HQ6.out HQ.out HM.out).mono ?_; rintro e wk7 ⟨rfl, hb⟩
  replace HFX := Lib.hid (HFX.out.below hb (Nat.le_of_lt HX.out.lt))
  clear hz
  have HBx := Lib.hid (HB.out.trans (hb.mono HB.out.size))
  have HXx := Lib.hid (HX.out.go hb)
  clear hb hx_0 hx_1 hx_2 hx_3 hx_4 HB HX 
  have HB := HBx; have HX := HXx
  clear HBx HXx
  have hz := HB.out.size
  obtain ⟨hx_0, hx_1, hx_2, hx_3, hx_4⟩ := HX.out.two
  obtain ⟨wk8, hwk⟩ : ∃ x, x = wk7.alloc (.cells #[.int .i64 m.num, .int .i64 m.den] 23) := ⟨_, rfl⟩
  have hb : Below wk7.heap.size wk7 wk8 := by rw [hwk]; exact (Below.refl _ _).alloc (Nat.le_refl _) _
  have HY : Hid (Blk wk8 wk7.heap.size 23 #[.int .i64 m.num, .int .i64 m.den]) := Lib.hid (by rw [hwk]; exact Blk.new _ _ _)
  replace HFX := Lib.hid (HFX.out.below hb (Nat.le_of_lt HX.out.lt))
  go_upto_region 11 with (fail)
  rw [← hwk]
  clear hwk hz
  obtain ⟨gHY, hgk⟩ : ∃ x, x = wk7.heap.size := ⟨_, rfl⟩
  rw [← hgk] at HY ⊢
  clear hgk
  have HBx := Lib.hid (HB.out.trans (hb.mono HB.out.size))
  have HXx := Lib.hid (HX.out.go hb)
  clear hb hx_0 hx_1 hx_2 hx_3 hx_4 HB HX 
  have HB := HBx; have HX := HXx
  clear HBx HXx
  have hz := HB.out.size
  obtain ⟨hx_0, hx_1, hx_2, hx_3, hx_4⟩ := HX.out.two
  clear hx_0 hx_1 hx_2 hx_3 hx_4
  obtain ⟨hx_0, hx_1, hx_2, hx_3, hx_4⟩ := HX.out.two
  obtain ⟨hy_0, hy_1, hy_2, hy_3, hy_4⟩ := HY.out.two
  go_wp2_with fail
  refine (same_nl _ (LAID.out.below HB.out)).mono ?_; rintro e wk9 ⟨rfl, hb⟩
  replace HFX := Lib.hid (HFX.out.below hb (Nat.le_of_lt HX.out.lt))
  clear hz
  have HBx := Lib.hid (HB.out.trans (hb.mono HB.out.size))
  have HXx := Lib.hid (HX.out.go hb)
  have HYx := Lib.hid (HY.out.go hb)
  clear hb hx_0 hx_1 hx_2 hx_3 hx_4 hy_0 hy_1 hy_2 hy_3 hy_4 HB HX HY 
  have HB := HBx; have HX := HXx; have HY := HYx
  clear HBx HXx HYx
  have hz := HB.out.size
  obtain ⟨hx_0, hx_1, hx_2, hx_3, hx_4⟩ := HX.out.two
  obtain ⟨hy_0, hy_1, hy_2, hy_3, hy_4⟩ := HY.out.two
  go_wp2_with fail
  refine (refRates_yes A2 c2 _ R w.heap.size _ hz (HR2.out.below HB.out (Nat.le_refl _)) rfl H62.out HQ2.out).mono ?_; rintro e wk10 ⟨A7, c7, rfl, hf7, hb⟩
  replace HFX := Lib.hid (HFX.out.below hb (Nat.le_of_lt HX.out.lt))
  clear hz
  have HBx := Lib.hid (HB.out.trans (hb.mono HB.out.size))
  have HXx := Lib.hid (HX.out.go hb)
  have HYx := Lib.hid (HY.out.go hb)
  clear hb hx_0 hx_1 hx_2 hx_3 hx_4 hy_0 hy_1 hy_2 hy_3 hy_4 HB HX HY 
  have HB := HBx; have HX := HXx; have HY := HYx
  clear HBx HXx HYx
  have hz := HB.out.size
  obtain ⟨hx_0, hx_1, hx_2, hx_3, hx_4⟩ := HX.out.two
  obtain ⟨hy_0, hy_1, hy_2, hy_3, hy_4⟩ := HY.out.two
  have HZ := Lib.hid hf7
  clear hf7
  have hmz := HZ.out.cap; have hlz := HZ.out.le
  rw [List.length_map, QS.srt_len] at hlz
  unfold maxLen at hmz
  have HLX : Hid ((MM.srt Q).length = Q.length) := Lib.hid (QS.srt_len _); have HLZ : Hid ((MM.srt R).length = R.length) := Lib.hid (QS.srt_len _)
  have HQI : Hid (∀ q ∈ MM.srt Q, QIn q) := Lib.hid (srt_in HQ.out); have HRI : Hid (∀ q ∈ MM.srt R, QIn q) := Lib.hid (srt_in HQ2.out)
  have HO0 : Hid (MM.lex ((MM.srt Q).drop 0) ((MM.srt R).drop 0) = o) := HO
  go_wp2
  go_loopw [16, 17] (fun wv iv wr => ∃ (j : Nat) (wi : Int), j ≤ Q.length ∧ wv = .int .i64 wi ∧ iv = .int .i64 j ∧ ((wi = 0 ∧ Hid (MM.lex ((MM.srt Q).drop j) ((MM.srt R).drop j) = o)) ∨ (wi ≠ 0 ∧ wi = o)) ∧ Hid (Below wk10.heap.size wk10 wr)) (fun _ iv _ => Q.length - (intOf iv).toNat)
  case atStart => exact ⟨0, 0, Nat.zero_le _, rfl, rfl, .inl ⟨rfl, HO0⟩, Lib.hid (Below.refl _ _)⟩
  case round =>
    obtain ⟨j, wi, hj, rfl, rfl, hw, HBL⟩ := hrel
    have hzl := HBL.out.size
    by_cases hjl : j < Q.length
    · have j0 : (0 : Int) ≤ (j : Int) := by omega
      have j1 : (j : Int) < (Q.length : Int) := by omega
      rcases hw with ⟨rfl, HLJ⟩ | ⟨hwz, rfl⟩
      · have hjx : j < (MM.srt Q).length := by rw [HLX.out]; exact hjl
        have hjr : j < (MM.srt R).length := by rw [HLZ.out, ← HLN.out]; exact hjl
        have j2 : (j : Int) < (R.length : Int) := by have := HLN.out; omega
        obtain ⟨b1, o1, hA1, hb1, c0, c1⟩ := frs_q (HFX.out.below HBL.out (Nat.le_of_lt HX.out.lt)) hjx
        injection hA1 with hA1
        injection hA1 with e1 e2
        subst e1 e2
        obtain ⟨b2, o2, rfl, hb2, d0, d1⟩ := frs_q (HZ.out.below HBL.out (Nat.le_refl _)) hjr
        have hst := HLJ.out
        rw [lex_step (q_at hjx) (q_at hjr)] at hst
        have hqi := HQI.out _ (q_mem hjx)
        have hri := HRI.out _ (q_mem hjr)
        obtain ⟨q, hqq⟩ : ∃ q, (MM.srt Q).getD j 0 = q := ⟨_, rfl⟩
        obtain ⟨r, hrr⟩ : ∃ r, (MM.srt R).getD j 0 = r := ⟨_, rfl⟩
        rw [hqq] at c0 c1 hst hqi
        rw [hrr] at d0 d1 hst hri
        obtain ⟨o', ho'⟩ : ∃ o', ordQ q r = o' := ⟨_, rfl⟩
        have HC := Lib.hid fun W => refOrder_q q r o' W hqi hri ho'
        rw [ho'] at hst
        have HST := Lib.hid hst
        have hbz1 : bx < wr.heap.size := by have := HX.out.lt; omega
        have hbz2 : b2 < wr.heap.size := by omega
        clear hqq hrr ho' hqi hri hjx hjr hst
        go_wp2_with fail
        go_region_held3 (fun w' => w'.cell? ⟨bx, ox + j * 2, none⟩ = some (.int .i64 q.num) ∧ w'.cell? ⟨bx, ox + j * 2 + 1, none⟩ = some (.int .i64 q.den) ∧ w'.cell? ⟨b2, o2 + j * 2, none⟩ = some (.int .i64 r.num) ∧ w'.cell? ⟨b2, o2 + j * 2 + 1, none⟩ = some (.int .i64 r.den)) (go_keep)
          (first
            | (go_simp; go_at_call 21; refine (HC.out _).mono ?_; rintro e w5 ⟨rfl, hb5⟩; have HB5 : Hid (Below wr.heap.size wr w5) := Lib.hid (by first | exact hb5 | exact (Below.refl _ _).drew.trans hb5); have y0 : w5.cell? ⟨bx, ox + j * 2, none⟩ = some (.int .i64 q.num) := (HB5.out.cell (p := ⟨bx, ox + j * 2, none⟩) hbz1).trans c0; have y1 : w5.cell? ⟨bx, ox + j * 2 + 1, none⟩ = some (.int .i64 q.den) := (HB5.out.cell (p := ⟨bx, ox + j * 2 + 1, none⟩) hbz1).trans c1; have y2 : w5.cell? ⟨b2, o2 + j * 2, none⟩ = some (.int .i64 r.num) := (HB5.out.cell (p := ⟨b2, o2 + j * 2, none⟩) hbz2).trans d0; have y3 : w5.cell? ⟨b2, o2 + j * 2 + 1, none⟩ = some (.int .i64 r.den) := (HB5.out.cell (p := ⟨b2, o2 + j * 2 + 1, none⟩) hbz2).trans d1; have hz5 := HB5.out.size; clear hb5; dsimp only))
        have HB6 := Lib.hid (HBL.out.trans (HB5.out.mono hzl))
        go_wp2
        go_roundw
        case rel =>
          refine ⟨j + 1, o', by omega, rfl, by go_num, ?_, HB6⟩
          by_cases hoz : o' = 0
          · exact .inl ⟨hoz, Lib.hid (by have := HST.out; rwa [if_pos hoz] at this)⟩
          · exact .inr ⟨hoz, by have := HST.out; rwa [if_neg hoz] at this⟩
        case measure => simp [intOf]; omega
      · have hwz' : (wi == 0) = false := beq_eq_false_iff_ne.2 hwz
        have hb := HBL.out
        clear HBL hzl 
        obtain ⟨wk11, hwk⟩ : ∃ x, x = wr := ⟨_, rfl⟩
        rw [← hwk] at hb ⊢
        clear hwk hz
        replace HFX := Lib.hid (HFX.out.below hb (Nat.le_of_lt HX.out.lt))
        have HBx := Lib.hid (HB.out.trans (hb.mono HB.out.size))
        have HXx := Lib.hid (HX.out.go hb)
        have HYx := Lib.hid (HY.out.go hb)
        have HZx := Lib.hid (HZ.out.at' hb)
        clear hb hx_0 hx_1 hx_2 hx_3 hx_4 hy_0 hy_1 hy_2 hy_3 hy_4 HB HX HY HZ 
        have HB := HBx; have HX := HXx; have HY := HYx; have HZ := HZx
        clear HBx HXx HYx HZx
        have hz := HB.out.size
        obtain ⟨hx_0, hx_1, hx_2, hx_3, hx_4⟩ := HX.out.two
        obtain ⟨hy_0, hy_1, hy_2, hy_3, hy_4⟩ := HY.out.two
        go_wp2_with fail
        refine (rcmp_yes A A2 c c2 _ _ Q R wi w.heap.size _ hz (HR.out.below HB.out (Nat.le_refl _)) (HR2.out.below HB.out (Nat.le_refl _)) rfl rfl HLN.out HQ6.out HQ.out HQ2.out HO.out).mono ?_; rintro e wk12 ⟨rfl, hb⟩
        clear hz
        have HBx := Lib.hid (HB.out.trans (hb.mono HB.out.size))
        have HXx := Lib.hid (HX.out.go hb)
        have HYx := Lib.hid (HY.out.go hb)
        have HZx := Lib.hid (HZ.out.at' hb)
        clear hb hx_0 hx_1 hx_2 hx_3 hx_4 hy_0 hy_1 hy_2 hy_3 hy_4 HB HX HY HZ 
        have HB := HBx; have HX := HXx; have HY := HYx; have HZ := HZx
        clear HBx HXx HYx HZx
        have hz := HB.out.size
        obtain ⟨hx_0, hx_1, hx_2, hx_3, hx_4⟩ := HX.out.two
        obtain ⟨hy_0, hy_1, hy_2, hy_3, hy_4⟩ := HY.out.two
        go_wp2_with fail
        refine (same_nl _ (LAID.out.below HB.out)).mono ?_; rintro e wk13 ⟨rfl, hb⟩
        clear hz
        have HBx := Lib.hid (HB.out.trans (hb.mono HB.out.size))
        have HXx := Lib.hid (HX.out.go hb)
        have HYx := Lib.hid (HY.out.go hb)
        have HZx := Lib.hid (HZ.out.at' hb)
        clear hb hx_0 hx_1 hx_2 hx_3 hx_4 hy_0 hy_1 hy_2 hy_3 hy_4 HB HX HY HZ 
        have HB := HBx; have HX := HXx; have HY := HYx; have HZ := HZx
        clear HBx HXx HYx HZx
        have hz := HB.out.size
        obtain ⟨hx_0, hx_1, hx_2, hx_3, hx_4⟩ := HX.out.two
        obtain ⟨hy_0, hy_1, hy_2, hy_3, hy_4⟩ := HY.out.two
        go_wp2
        go_ret
        exact ⟨rfl, HB.out⟩
    · obtain rfl : j = Q.length := by omega
      have hwo : wi = o := by
        rcases hw with ⟨rfl, HLJ⟩ | ⟨_, h⟩
        · have := HLJ.out
          rw [List.drop_of_length_le (by rw [HLX.out]; exact Nat.le_refl _), List.drop_of_length_le (by rw [HLZ.out, HLN.out]; exact Nat.le_refl _)] at this
          exact this
        · exact h
      subst hwo
      have hb := HBL.out
      clear HBL hzl hj hjl hw
      obtain ⟨wk11, hwk⟩ : ∃ x, x = wr := ⟨_, rfl⟩
      rw [← hwk] at hb ⊢
      clear hwk hz
      replace HFX := Lib.hid (HFX.out.below hb (Nat.le_of_lt HX.out.lt))
      have HBx := Lib.hid (HB.out.trans (hb.mono HB.out.size))
      have HXx := Lib.hid (HX.out.go hb)
      have HYx := Lib.hid (HY.out.go hb)
      have HZx := Lib.hid (HZ.out.at' hb)
      clear hb hx_0 hx_1 hx_2 hx_3 hx_4 hy_0 hy_1 hy_2 hy_3 hy_4 HB HX HY HZ 
      have HB := HBx; have HX := HXx; have HY := HYx; have HZ := HZx
      clear HBx HXx HYx HZx
      have hz := HB.out.size
      obtain ⟨hx_0, hx_1, hx_2, hx_3, hx_4⟩ := HX.out.two
      obtain ⟨hy_0, hy_1, hy_2, hy_3, hy_4⟩ := HY.out.two
      go_wp2_with fail
      refine (rcmp_yes A A2 c c2 _ _ Q R wi w.heap.size _ hz (HR.out.below HB.out (Nat.le_refl _)) (HR2.out.below HB.out (Nat.le_refl _)) rfl rfl HLN.out HQ6.out HQ.out HQ2.out HO.out).mono ?_; rintro e wk12 ⟨rfl, hb⟩
      clear hz
      have HBx := Lib.hid (HB.out.trans (hb.mono HB.out.size))
      have HXx := Lib.hid (HX.out.go hb)
      have HYx := Lib.hid (HY.out.go hb)
      have HZx := Lib.hid (HZ.out.at' hb)
      clear hb hx_0 hx_1 hx_2 hx_3 hx_4 hy_0 hy_1 hy_2 hy_3 hy_4 HB HX HY HZ 
      have HB := HBx; have HX := HXx; have HY := HYx; have HZ := HZx
      clear HBx HXx HYx HZx
      have hz := HB.out.size
      obtain ⟨hx_0, hx_1, hx_2, hx_3, hx_4⟩ := HX.out.two
      obtain ⟨hy_0, hy_1, hy_2, hy_3, hy_4⟩ := HY.out.two
      go_wp2_with fail
      refine (same_nl _ (LAID.out.below HB.out)).mono ?_; rintro e wk13 ⟨rfl, hb⟩
      clear hz
      have HBx := Lib.hid (HB.out.trans (hb.mono HB.out.size))
      have HXx := Lib.hid (HX.out.go hb)
      have HYx := Lib.hid (HY.out.go hb)
      have HZx := Lib.hid (HZ.out.at' hb)
      clear hb hx_0 hx_1 hx_2 hx_3 hx_4 hy_0 hy_1 hy_2 hy_3 hy_4 HB HX HY HZ 
      have HB := HBx; have HX := HXx; have HY := HYx; have HZ := HZx
      clear HBx HXx HYx HZx
      have hz := HB.out.size
      obtain ⟨hx_0, hx_1, hx_2, hx_3, hx_4⟩ := HX.out.two
      obtain ⟨hy_0, hy_1, hy_2, hy_3, hy_4⟩ := HY.out.two
      go_wp2
      go_ret
      exact ⟨rfl, HB.out⟩
theorem rankTells_walk (w : World) (A : Option Addr) (c : Nat) (S : List Fr) (hr : Frs w w.heap.size A c S) (_ : True) (A2 : Option Addr) (c2 : Nat) (S2 : List Fr) (hr2 : Frs w w.heap.size A2 c2 S2) (_ : True) (hg : Laid w) :
    Calls Tryd.prog 10 #[.slice A S.length c, .slice A2 S2.length c2] w fun e w' => e = .returned (.bool true) ∧ Below w.heap.size w w' := by
  by_cases he : rkErr S = 0
  · obtain ⟨Q, hS, h6, hq⟩ := rk_ok he
    by_cases h2 : rkErr S2 = 0
    · obtain ⟨R, hS2, h62, hq2⟩ := rk_ok h2
      by_cases hlen : S.length = S2.length
      · rcases Nat.eq_zero_or_pos Q.length with h0 | h0
        · exact rankTells_none_same A c S A2 c2 S2 w hg hr hr2 (by rw [hS, List.length_eq_zero_iff.1 h0]; rfl) R hS2 h62 hq2 hlen
        · exact rankTells_some_same A c S A2 c2 S2 w hg hr hr2 Q hS h6 hq h0 R hS2 h62 hq2 hlen
      · rcases Nat.eq_zero_or_pos Q.length with h0 | h0
        · exact rankTells_none_dif A c S A2 c2 S2 w hg hr hr2 (by rw [hS, List.length_eq_zero_iff.1 h0]; rfl) R hS2 h62 hq2 hlen
        · exact rankTells_some_dif A c S A2 c2 S2 w hg hr hr2 Q hS h6 hq h0 R hS2 h62 hq2 hlen
    · rcases Nat.eq_zero_or_pos Q.length with h0 | h0
      · exact rankTells_none_er A c S A2 c2 S2 w hg hr hr2 (by rw [hS, List.length_eq_zero_iff.1 h0]; rfl) _ rfl h2
      · exact rankTells_some_er A c S A2 c2 S2 w hg hr hr2 Q hS h6 hq h0 _ rfl h2
  · obtain ⟨T2, hT2⟩ := rkIs_ex S2
    exact rankTells_er_any A c S A2 c2 S2 w hg hr hr2 _ rfl he _ T2 rfl hT2
end Go.Proofs.YtblanfaghnflkaaDoor
