/- GrowTells: some of its ways. -/
import Derived.Test.YtblanfaghnflkaaDoorGrowTot1
import Derived.Test.YtblanfaghnflkaaDoorWNetTells
namespace Go.Proofs.YtblanfaghnflkaaDoor
open Go.RowKit
attribute [local go_sem ↓] run_min_mn run_max_mx

set_option maxHeartbeats 40000000 in
set_option maxRecDepth 100000 in
theorem growTells_KSK (C : Option Addr) (cc : Nat) (caps : List Int) (P : Option Addr) (cp : Nat) (paths : List (List Int)) (A : Option Addr) (c : Nat) (path : List Int) (by_ : Int) (w : World) (hg : Laid w) (hc : Ints w w.heap.size C cc caps) (hp : Rows2 w w.heap.size P cp paths) (hi : Ints w w.heap.size A c path) (he1 : netErr caps paths = 0) (he2 : addErr caps paths path = 0) (S2 : List Fr) (hs2 : RatesIs 0 caps (paths ++ [path]) S2) (f : Nat) (hf : f < paths.length) (h1p : paths.length = 1) (k : Nat) (hk : k < caps.length) (b0 : 0 ≤ by_) (b9 : by_ ≤ 1000) (hw4 : ¬ 1000 < caps.getD k 0 + by_) (S4 : List Fr) (hs4 : RatesIs 0 (caps.set k (caps.getD k 0 + by_)) paths S4) :
    Calls Tryd.prog 11 #[.agg #[.slice C caps.length cc, .slice P paths.length cp], .slice A path.length c, .int .i64 (f : Int), .int .i64 (k : Int), .int .i64 by_] w fun e w' => e = .returned (.bool true) ∧ Below w.heap.size w w' := by
  have LAID := Lib.hid hg; have HC := Lib.hid hc; have HP := Lib.hid hp; have HI := Lib.hid hi
  have hpm := hp.cap; have hpl := hp.le; have hcm := hc.cap; have hcl := hc.le; have him := hi.cap; have hil := hi.le
  unfold maxLen at hpm hcm him
  have HE1 := Lib.hid he1
  obtain ⟨_, hc6, hp0, hp6, _, _⟩ := netErr_ok he1
  have HE2 := Lib.hid he2; have HS2 := Lib.hid hs2
  obtain ⟨_, h6, hq, ha4⟩ := addErr_ok he2
  have HQ := Lib.hid hq; have HSH2 := Lib.hid (netErr_short ha4)
  have h6' : ((paths.length : Int) == 6) = false := beq_eq_false_iff_ne.2 (by omega)
  have hl2 : S2.length ≤ 6 := hs2.six
  clear h6 hq ha4 he2 hs2
  have fl0 : (0 : Int) ≤ (f : Int) := by omega
  have fl1 : decide ((f : Int) < 0) = false := decide_eq_false (by omega)
  have fl2 : decide ((paths.length : Int) ≤ (f : Int)) = false := decide_eq_false (by omega)
  have fl3 : decide (paths.length ≤ f) = false := decide_eq_false (by omega)
  have HE3 := Lib.hid (show dropErr caps paths (f : Int) = 5 from by unfold dropErr; rw [if_pos he1, if_neg (by omega), if_pos h1p])
  have HS3 := Lib.hid (rates_no 5 (by decide) caps (paths.eraseIdx (f : Int).toNat))
  have s1p : ((paths.length : Int) == 1) = true := by simp; omega
  clear h1p
  have hci := caps_in he1 hk
  have k0 : (0 : Int) ≤ (k : Int) := by omega
  have k1 : decide ((k : Int) < 0) = false := decide_eq_false (by omega)
  have k2 : decide ((caps.length : Int) ≤ (k : Int)) = false := decide_eq_false (by omega)
  have k9 : decide (caps.length ≤ k) = false := decide_eq_false (by omega)
  have k3 : (k : Int) < (caps.length : Int) := by omega
  have k4 : decide (by_ < 0) = false := decide_eq_false (by omega)
  have k5 : decide (1000 < by_) = false := decide_eq_false (by omega)
  obtain ⟨b, off, hCe, hbb, _⟩ := caps_get hc hk
  subst hCe
  have HCG := Lib.hid fun (W : World) (h : Ints W w.heap.size (some ⟨b, off, none⟩) cc caps) => (show W.cell? ⟨b, off + k, none⟩ = some (.int .i64 (caps.getD k 0)) from by obtain ⟨b', off', e, _, h⟩ := caps_get h hk; injection e with e; injection e with e1 e2; subst e1 e2; exact h)
  have HE4 := Lib.hid (show widerErr caps paths (k : Int) by_ = 0 from by unfold widerErr; rw [if_pos he1, if_neg (by omega), Int.toNat_natCast, if_neg hw4])
  have HS4 := Lib.hid (show RatesIs 0 (caps.set (k : Int).toNat (caps.getD (k : Int).toNat 0 + by_)) paths S4 from by rw [Int.toNat_natCast]; exact hs4)
  have HS4' := Lib.hid hs4
  have hl4 : S4.length ≤ 6 := hs4.six
  have HSH4 := Lib.hid (netErr_short he1)
  clear hs4
  obtain ⟨cv, hcv⟩ : ∃ x, caps.getD k 0 = x := ⟨_, rfl⟩
  rw [hcv] at hci hw4 HCG HS4'
  have HCV := Lib.hid hcv
  obtain ⟨hci1, hci2⟩ := hci
  clear hcv
  have hw4' : decide (1000 < cv + by_) = false := decide_eq_false hw4
  clear hw4
  have hgw : w.heap.size ≤ w.heap.size := Nat.le_refl _
  have hgw : w.heap.size ≤ w.heap.size := Nat.le_refl _
  have RN := Lib.hid fun (W : World) (hW : w.heap.size ≤ W.heap.size) (h1 : Ints W w.heap.size (some ⟨b, off, none⟩) cc caps) (h2 : Rows2 W w.heap.size P cp paths) => (show Calls Tryd.prog 25 #[.agg #[.slice (some ⟨b, off, none⟩) caps.length cc, .slice P paths.length cp]] W fun r w' => r = .returned (.int .i64 0) ∧ Below W.heap.size W w' from by have := refNet_all _ cc caps P cp paths w.heap.size W hW h1 h2; rwa [HE1.out] at this)
  clear hg hc hp hi he1
  have HN := Lib.hid (Blk.new w 43 #[.slice (some ⟨b, off, none⟩) caps.length cc, .slice P paths.length cp])
  have HB : Hid (Below w.heap.size w (w.alloc (.cells #[.slice (some ⟨b, off, none⟩) caps.length cc, .slice P paths.length cp] 43))) := Lib.hid ((Below.refl _ _).alloc (Nat.le_refl _) _)
  have hz := HB.out.size
  obtain ⟨n0, n1, nf0, nf1, nz⟩ := HN.out.two
  go_enter Tryd.func11, Tryd.ntmps11
  go_wp2_with fail
  refine (RN.out _ (by first | omega | (focus (simp; done)) | (simp; omega)) (HC.out.below HB.out (Nat.le_refl _)) (HP.out.below HB.out (Nat.le_refl _))).mono ?_; rintro r ww ⟨rfl, hb⟩
  clear RN
  have HBx := Lib.hid (HB.out.trans (hb.mono HB.out.size)); have HNx := Lib.hid (HN.out.go hb)
  clear HB HN n0 n1 nf0 nf1 nz hb hz
  have HB := HBx; have HN := HNx
  clear HBx HNx
  have hz := HB.out.size
  obtain ⟨n0, n1, nf0, nf1, nz⟩ := HN.out.two
  go_wp2_with fail
  refine (refPath_any (caps.length : Int) A c path w.heap.size _ (HI.out.below HB.out (Nat.le_refl _))).mono ?_; rintro r w9 ⟨rfl, d, rfl⟩
  rw [HQ.out]
  have hb : Below ww.heap.size ww (ww.drewN d) := below_drewN (Below.refl _ _) _
  obtain ⟨wd, hwd⟩ : ∃ x, x = ww.drewN d := ⟨_, rfl⟩
  rw [← hwd] at hb ⊢
  clear hwd
  have HBx := Lib.hid (HB.out.trans (hb.mono HB.out.size)); have HNx := Lib.hid (HN.out.go hb)
  clear HB HN n0 n1 nf0 nf1 nz hb hz
  have HB := HBx; have HN := HNx
  clear HBx HNx
  have hz := HB.out.size
  obtain ⟨n0, n1, nf0, nf1, nz⟩ := HN.out.two
  obtain ⟨ww, hww⟩ : ∃ x, x = wd := ⟨_, rfl⟩
  rw [← hww] at HB HN n0 n1 nf0 nf1 nz hz ⊢
  clear hww
  go_wp2_with fail
  refine (refWith_any (some ⟨b, off, none⟩) cc caps.length P cp _ paths A c _ path w.heap.size _ (by first | omega | (focus (simp; done)) | (simp; omega)) (HP.out.below HB.out (Nat.le_refl _)) (HI.out.below HB.out (Nat.le_refl _)) hp0 (by omega) rfl rfl).mono ?_; rintro r ww ⟨P1, cp1, rfl, ⟨vs, hr1, hr2⟩, hb⟩
  have HBx := Lib.hid (HB.out.trans (hb.mono HB.out.size)); have HNx := Lib.hid (HN.out.go hb)
  clear HB HN n0 n1 nf0 nf1 nz hb hz
  have HB := HBx; have HN := HNx
  clear HBx HNx
  have hz := HB.out.size
  obtain ⟨n0, n1, nf0, nf1, nz⟩ := HN.out.two
  obtain ⟨P2, cp2, hv2, hr3⟩ := rows_own hr1 hr2 hz
  injection hv2 with k1 _ k3
  subst k1 k3
  have HR1 := Lib.hid hr3
  clear hr1 hr2 hr3
  have HC1 := Lib.hid ((HC.out.below HB.out (Nat.le_refl _)).more hz)
  go_wp2_with fail
  refine (refFill_tot (some ⟨b, off, none⟩) cc _ caps P1 cp1 _ (paths ++ [path]) S2 ww.heap.size _ (Nat.le_refl _) HC1.out HR1.out rfl (by simp) (by omega) (fun p hp => by have := HSH2.out p hp; omega) HS2.out).mono ?_; rintro r ww ⟨A4, c4, U, rfl, hf4, hb⟩
  have HFR := Lib.hid hf4
  clear hf4
  have HBx := Lib.hid (HB.out.trans (hb.mono HB.out.size)); have HNx := Lib.hid (HN.out.go hb)
  clear HB HN n0 n1 nf0 nf1 nz hb hz
  have HB := HBx; have HN := HNx
  clear HBx HNx
  have hz := HB.out.size
  obtain ⟨n0, n1, nf0, nf1, nz⟩ := HN.out.two
  clear HR1 HC1
  go_wp2_with fail
  refine (more_v (some ⟨b, off, none⟩) cc caps P cp paths A c path w.heap.size _ (by first | omega | (focus (simp; done)) | (simp; omega)) (HC.out.below HB.out (Nat.le_refl _)) (HP.out.below HB.out (Nat.le_refl _)) (HI.out.below HB.out (Nat.le_refl _)) 0 S2 HE2.out HS2.out (.nilIface) errVal_zero S2.length rfl).mono ?_; rintro r ww ⟨A5, c5, rfl, hf5, hb⟩
  have HFA := Lib.hid hf5
  replace HFR := Lib.hid (HFR.out.at' hb)
  clear hf5
  have HBx := Lib.hid (HB.out.trans (hb.mono HB.out.size)); have HNx := Lib.hid (HN.out.go hb)
  clear HB HN n0 n1 nf0 nf1 nz hb hz
  have HB := HBx; have HN := HNx
  clear HBx HNx
  have hz := HB.out.size
  obtain ⟨n0, n1, nf0, nf1, nz⟩ := HN.out.two
  go_wp2_with fail
  refine (same_ok _).mono ?_; rintro r ww ⟨rfl, hb⟩
  have HBx := Lib.hid (HB.out.trans (hb.mono HB.out.size)); have HNx := Lib.hid (HN.out.go hb)
  replace HFA := Lib.hid (HFA.out.at' hb)
  replace HFR := Lib.hid (HFR.out.at' hb)
  clear HB HN n0 n1 nf0 nf1 nz hb hz
  have HB := HBx; have HN := HNx
  clear HBx HNx
  have hz := HB.out.size
  obtain ⟨n0, n1, nf0, nf1, nz⟩ := HN.out.two
  go_wp2_with fail
  refine (sameFr_any A5 A4 c5 c4 _ _ S2 S2 _ _ _ HFA.out HFR.out rfl rfl (Nat.le_refl _) (Nat.le_refl _) true (decide_eq_true rfl)).mono ?_; rintro r ww ⟨rfl, hb⟩
  clear HFA HFR
  have HBx := Lib.hid (HB.out.trans (hb.mono HB.out.size)); have HNx := Lib.hid (HN.out.go hb)
  clear HB HN n0 n1 nf0 nf1 nz hb hz
  have HB := HBx; have HN := HNx
  clear HBx HNx
  have hz := HB.out.size
  obtain ⟨n0, n1, nf0, nf1, nz⟩ := HN.out.two
  have HFR := Lib.hid (frs_none ww ww.heap.size)
  go_wp2_with fail
  refine (fewer_v (some ⟨b, off, none⟩) cc caps P cp paths (f : Int) w.heap.size _ (by first | omega | (focus (simp; done)) | (simp; omega)) (HC.out.below HB.out (Nat.le_refl _)) (HP.out.below HB.out (Nat.le_refl _)) 5 [] HE3.out HS3.out (.iface 119 (.int .i64 5)) (errVal_pos (by decide)) 0 rfl).mono ?_; rintro r ww ⟨A5, c5, rfl, hf5, hb⟩
  have HFA := Lib.hid hf5
  replace HFR := Lib.hid (HFR.out.at' hb)
  clear hf5
  have HBx := Lib.hid (HB.out.trans (hb.mono HB.out.size)); have HNx := Lib.hid (HN.out.go hb)
  clear HB HN n0 n1 nf0 nf1 nz hb hz
  have HB := HBx; have HN := HNx
  clear HBx HNx
  have hz := HB.out.size
  obtain ⟨n0, n1, nf0, nf1, nz⟩ := HN.out.two
  go_wp2_with fail
  refine (same_hit 5 _ (LAID.out.below HB.out)).mono ?_; rintro r ww ⟨rfl, hb⟩
  have HBx := Lib.hid (HB.out.trans (hb.mono HB.out.size)); have HNx := Lib.hid (HN.out.go hb)
  replace HFA := Lib.hid (HFA.out.at' hb)
  replace HFR := Lib.hid (HFR.out.at' hb)
  clear HB HN n0 n1 nf0 nf1 nz hb hz
  have HB := HBx; have HN := HNx
  clear HBx HNx
  have hz := HB.out.size
  obtain ⟨n0, n1, nf0, nf1, nz⟩ := HN.out.two
  go_wp2_with fail
  refine (sameFr_any A5 none c5 0 _ _ [] [] _ _ _ HFA.out HFR.out rfl rfl (Nat.le_refl _) (Nat.le_refl _) true (decide_eq_true rfl)).mono ?_; rintro r ww ⟨rfl, hb⟩
  clear HFA HFR
  have HBx := Lib.hid (HB.out.trans (hb.mono HB.out.size)); have HNx := Lib.hid (HN.out.go hb)
  clear HB HN n0 n1 nf0 nf1 nz hb hz
  have HB := HBx; have HN := HNx
  clear HBx HNx
  have hz := HB.out.size
  obtain ⟨n0, n1, nf0, nf1, nz⟩ := HN.out.two
  have hcell := HCG.out ww (HC.out.below HB.out (Nat.le_refl _))
  have hbz : b < ww.heap.size := by omega
  go_upto_region 29 with fail
  have HM := Lib.hid (Blk.new ww 43 #[.slice none 0 0, .slice none 0 0])
  have HBM := Lib.hid (HB.out.alloc HB.out.size (.cells #[.slice none 0 0, .slice none 0 0] 43))
  have HNM := Lib.hid (HN.out.alloc (.cells #[.slice none 0 0, .slice none 0 0] 43))
  have hg7z : w.heap.size ≤ ww.heap.size := hz
  have hg7n : w.heap.size ≠ ww.heap.size := by have := HN.out.lt; omega
  obtain ⟨wm, hwm⟩ : ∃ x, x = ww.alloc (.cells #[.slice none 0 0, .slice none 0 0] 43) := ⟨_, rfl⟩
  rw [← hwm] at HM HBM HNM ⊢
  clear hwm n0 n1 nf0 nf1 nz hcell
  obtain ⟨n0, n1, nf0, nf1, nz⟩ := HNM.out.two
  obtain ⟨m0, m1, mf0, mf1, mz⟩ := HM.out.two
  go_upto_region 30 with fail
  have HM1 := Lib.hid (HM.out.s2_1 (.slice P paths.length cp)); have HN1 := Lib.hid (HNM.out.far (p := ⟨ww.heap.size, 1, none⟩) hg7n (.slice P paths.length cp)); have HB1 := Lib.hid (HBM.out.setCell (p := ⟨ww.heap.size, 1, none⟩) hg7z (.slice P paths.length cp))
  obtain ⟨wn, hwn⟩ : ∃ x, x = wm.setCell ⟨ww.heap.size, 1, none⟩ (.slice P paths.length cp) := ⟨_, rfl⟩
  rw [← hwn] at HM1 HN1 HB1 ⊢
  clear hwn n0 n1 nf0 nf1 nz m0 m1 mf0 mf1 mz HM HNM HBM
  obtain ⟨n0, n1, nf0, nf1, nz⟩ := HN1.out.two
  obtain ⟨m0, m1, mf0, mf1, mz⟩ := HM1.out.two
  have hzn := HB1.out.size
  have HCE := Lib.hid (show ∀ j u, (caps.map (Value.int .i64))[j]? = some u → wn.cell? ((⟨b, off, none⟩ : Addr).add j) = some u from fun j u hu => (HC.out.below HB1.out (Nat.le_refl _)).cells j u hu)
  obtain ⟨i0, hi0, hz0, hz1, hz2⟩ := info_parts Tryd.info_int
  have HON := Lib.hid (show ∀ u ∈ caps.map (Value.int .i64), u.oneCell' = true from fun u hu => by obtain ⟨x, _, rfl⟩ := List.mem_map.1 hu; rfl)
  go_upto_region 31 with (at_builtin; refine wpList_append_own _ rfl (.tmp 145) (.tmp 147) 40 rfl w.heap.size 3 i0 (.int .i64 0) 1 8 Tryd.underlying40 hi0 hz0 hz1 hz2 rfl (by omega) _ 0 [] rfl (World.ownsRow_nil _ _ _ _) ⟨b, off, none⟩ caps.length cc (caps.map (Value.int .i64)) rfl (by simp) HCE.out HON.out (by simp only [maxLen]; omega) (by omega) hzn ?_; intro v' w2 hown hgrow _; rw [Nat.zero_add, List.nil_append] at hown; obtain ⟨g2, c2, hv', hg2b, hg2z, hl2', hm2⟩ := own_form hown (by omega); subst hv'; have HO2 := Lib.hid hown; have HB2 : Hid (Below w.heap.size w w2) := Lib.hid (HB1.out.grown hgrow hzn (fun k hk => by cases hk)); have HM2 := Lib.hid (HM1.out.grown hgrow (fun e => by cases e)); have HN2 := Lib.hid (HN1.out.grown hgrow (fun e => by cases e)); clear hown hgrow n0 n1 nf0 nf1 nz m0 m1 mf0 mf1 mz; obtain ⟨n0, n1, nf0, nf1, nz⟩ := HN2.out.two; obtain ⟨m0, m1, mf0, mf1, mz⟩ := HM2.out.two)
  unfold maxLen at hm2
  have hgg : ww.heap.size ≠ g2 := by intro h; exact own_blk_ne HO2.out HM2.out (by decide) (by rw [h]; rfl)
  have hwg : w.heap.size ≠ g2 := by intro h; exact own_blk_ne HO2.out HN2.out (by decide) (by rw [h]; rfl)
  have HM3 := Lib.hid (HM2.out.s2_0 (.slice (some ⟨g2, 0, none⟩) caps.length c2)); have HN3 := Lib.hid (HN2.out.far (p := ⟨ww.heap.size, 0, none⟩) hg7n (.slice (some ⟨g2, 0, none⟩) caps.length c2)); have HB3 := Lib.hid (HB2.out.setCell (p := ⟨ww.heap.size, 0, none⟩) hg7z (.slice (some ⟨g2, 0, none⟩) caps.length c2)); have HO3 := Lib.hid (own_farB HO2.out (own_blk_ne HO2.out HM2.out (by decide)) (k := 0) (.slice (some ⟨g2, 0, none⟩) caps.length c2))
  obtain ⟨w3, hw3⟩ : ∃ x, x = w2.setCell ⟨ww.heap.size, 0, none⟩ (.slice (some ⟨g2, 0, none⟩) caps.length c2) := ⟨_, rfl⟩
  rw [← hw3] at HM3 HN3 HB3 HO3 ⊢
  clear hw3 n0 n1 nf0 nf1 nz m0 m1 mf0 mf1 mz HM2 HN2 HB2 HO2 HM1 HN1 HB1
  obtain ⟨n0, n1, nf0, nf1, nz⟩ := HN3.out.two
  obtain ⟨m0, m1, mf0, mf1, mz⟩ := HM3.out.two
  have q0 : w3.cell? ⟨g2, k, none⟩ = some (.int .i64 cv) := by rw [HO3.out.cellAt (g := g2) k (by omega), List.getElem?_map, List.getElem?_eq_getElem hk, ← HCV.out, List.getD_eq_getElem?_getD, List.getElem?_eq_getElem hk]; rfl
  have qf := HO3.out.frozenAt (g := g2) k
  have hz3 := HB3.out.size
  have HM4 := Lib.hid (HM3.out.far (p := ⟨g2, k, none⟩) hgg (.int .i64 (cv + by_))); have HN4 := Lib.hid (HN3.out.far (p := ⟨g2, k, none⟩) hwg (.int .i64 (cv + by_))); have HB4 := Lib.hid (HB3.out.setCell (p := ⟨g2, k, none⟩) hg2b (.int .i64 (cv + by_)))
  have HO4 := Lib.hid (show (w3.setCell ⟨g2, k, none⟩ (.int .i64 (cv + by_))).ownsRow w.heap.size 3 1 (.slice (some ⟨g2, 0, none⟩) caps.length c2) caps.length ((caps.set k (cv + by_)).map (Value.int .i64)) from by have := (HO3.out.stored k (.int .i64 (cv + by_))).1; rwa [← List.map_set] at this)
  go_wp2_with fail
  go_region
  obtain ⟨w4, hw4⟩ : ∃ x, x = w3.setCell ⟨g2, k, none⟩ (.int .i64 (cv + by_)) := ⟨_, rfl⟩
  rw [← hw4] at HM4 HN4 HB4 HO4 ⊢
  clear hw4 n0 n1 nf0 nf1 nz m0 m1 mf0 mf1 mz q0 qf HM3 HN3 HB3 HO3
  have HB4' := Lib.hid (HB4.out.drew); have HN4' := Lib.hid HN4.out.drew; have HM4' := Lib.hid HM4.out.drew
  obtain ⟨m0, m1, mf0, mf1, mz⟩ := HM4'.out.two
  have HI4 := Lib.hid ((own_ints' HO4.out).at' (Below.refl _ _).drew)
  have hsl : (caps.set k (cv + by_)).length = caps.length := List.length_set ..
  go_wp2_with fail
  refine (refFill_tot (some ⟨g2, 0, none⟩) c2 _ (caps.set k (cv + by_)) P cp _ paths S4 w4.drew.heap.size _ (Nat.le_refl _) HI4.out ((HP.out.below HB4'.out (Nat.le_refl _)).more HB4'.out.size) hsl.symm rfl (by omega) (fun p hp => by have := HSH4.out p hp; omega) HS4'.out).mono ?_; rintro r ww ⟨A4, c4, U, rfl, hf4, hb4⟩
  have HB5 := Lib.hid (HB4'.out.trans (hb4.mono HB4'.out.size)); have HN5 := Lib.hid (HN4'.out.go hb4); have HFR := Lib.hid hf4
  clear hb4 hf4 HB HN m0 m1 mf0 mf1 mz hz HB4 HB4' HN4 HN4' HM4 HM4' HO4 HI4 hsl
  have HB := HB5; have HN := HN5
  clear HB5 HN5
  have hz := HB.out.size
  obtain ⟨n0, n1, nf0, nf1, nz⟩ := HN.out.two
  go_wp2_with fail
  refine (wider_v (some ⟨b, off, none⟩) cc caps P cp paths (k : Int) by_ w.heap.size _ (by first | omega | (focus (simp; done)) | (simp; omega)) (HC.out.below HB.out (Nat.le_refl _)) (HP.out.below HB.out (Nat.le_refl _)) 0 S4 HE4.out HS4.out (.nilIface) errVal_zero S4.length rfl).mono ?_; rintro r ww ⟨A5, c5, rfl, hf5, hb⟩
  have HFA := Lib.hid hf5
  replace HFR := Lib.hid (HFR.out.at' hb)
  clear hf5
  have HBx := Lib.hid (HB.out.trans (hb.mono HB.out.size)); have HNx := Lib.hid (HN.out.go hb)
  clear HB HN n0 n1 nf0 nf1 nz hb hz
  have HB := HBx; have HN := HNx
  clear HBx HNx
  have hz := HB.out.size
  obtain ⟨n0, n1, nf0, nf1, nz⟩ := HN.out.two
  go_wp2_with fail
  refine (same_ok _).mono ?_; rintro r ww ⟨rfl, hb⟩
  have HBx := Lib.hid (HB.out.trans (hb.mono HB.out.size)); have HNx := Lib.hid (HN.out.go hb)
  replace HFA := Lib.hid (HFA.out.at' hb)
  replace HFR := Lib.hid (HFR.out.at' hb)
  clear HB HN n0 n1 nf0 nf1 nz hb hz
  have HB := HBx; have HN := HNx
  clear HBx HNx
  have hz := HB.out.size
  obtain ⟨n0, n1, nf0, nf1, nz⟩ := HN.out.two
  go_wp2_with fail
  refine (sameFr_any A5 A4 c5 c4 _ _ S4 S4 _ _ _ HFA.out HFR.out rfl rfl (Nat.le_refl _) (Nat.le_refl _) true (decide_eq_true rfl)).mono ?_; rintro r ww ⟨rfl, hb⟩
  clear HFA HFR
  have HBx := Lib.hid (HB.out.trans (hb.mono HB.out.size)); have HNx := Lib.hid (HN.out.go hb)
  clear HB HN n0 n1 nf0 nf1 nz hb hz
  have HB := HBx; have HN := HNx
  clear HBx HNx
  have hz := HB.out.size
  obtain ⟨n0, n1, nf0, nf1, nz⟩ := HN.out.two
  go_wp2
  go_ret
  exact ⟨rfl, HB.out⟩
set_option maxHeartbeats 40000000 in
set_option maxRecDepth 100000 in
theorem growTells_KKO (C : Option Addr) (cc : Nat) (caps : List Int) (P : Option Addr) (cp : Nat) (paths : List (List Int)) (A : Option Addr) (c : Nat) (path : List Int) (by_ : Int) (w : World) (hg : Laid w) (hc : Ints w w.heap.size C cc caps) (hp : Rows2 w w.heap.size P cp paths) (hi : Ints w w.heap.size A c path) (he1 : netErr caps paths = 0) (he2 : addErr caps paths path = 0) (S2 : List Fr) (hs2 : RatesIs 0 caps (paths ++ [path]) S2) (f : Nat) (hf : f < paths.length) (h1p : paths.length ≠ 1) (S3 : List Fr) (hs3 : RatesIs 0 caps (paths.eraseIdx f) S3) (link : Int) (hx : link < 0 ∨ (caps.length : Int) ≤ link ∨ by_ < 0 ∨ 1000 < by_) :
    Calls Tryd.prog 11 #[.agg #[.slice C caps.length cc, .slice P paths.length cp], .slice A path.length c, .int .i64 (f : Int), .int .i64 link, .int .i64 by_] w fun e w' => e = .returned (.bool true) ∧ Below w.heap.size w w' := by
  have LAID := Lib.hid hg; have HC := Lib.hid hc; have HP := Lib.hid hp; have HI := Lib.hid hi
  have hpm := hp.cap; have hpl := hp.le; have hcm := hc.cap; have hcl := hc.le; have him := hi.cap; have hil := hi.le
  unfold maxLen at hpm hcm him
  have HE1 := Lib.hid he1
  obtain ⟨_, hc6, hp0, hp6, _, _⟩ := netErr_ok he1
  have HE2 := Lib.hid he2; have HS2 := Lib.hid hs2
  obtain ⟨_, h6, hq, ha4⟩ := addErr_ok he2
  have HQ := Lib.hid hq; have HSH2 := Lib.hid (netErr_short ha4)
  have h6' : ((paths.length : Int) == 6) = false := beq_eq_false_iff_ne.2 (by omega)
  have hl2 : S2.length ≤ 6 := hs2.six
  clear h6 hq ha4 he2 hs2
  have fl0 : (0 : Int) ≤ (f : Int) := by omega
  have fl1 : decide ((f : Int) < 0) = false := decide_eq_false (by omega)
  have fl2 : decide ((paths.length : Int) ≤ (f : Int)) = false := decide_eq_false (by omega)
  have fl3 : decide (paths.length ≤ f) = false := decide_eq_false (by omega)
  have he3 : dropErr caps paths (f : Int) = 0 := by unfold dropErr; rw [if_pos he1, if_neg (by omega), if_neg h1p]
  have HSH3 := Lib.hid (netErr_short (dropErr_ok he3))
  rw [Int.toNat_natCast] at HSH3
  have HE3 := Lib.hid he3
  have HS3 := Lib.hid (show RatesIs 0 caps (paths.eraseIdx (f : Int).toNat) S3 from by rw [Int.toNat_natCast]; exact hs3)
  have HS3' := Lib.hid hs3
  have hl3 : S3.length ≤ 6 := hs3.six
  have s1p : ((paths.length : Int) == 1) = false := beq_eq_false_iff_ne.2 (by omega)
  have hel : (paths.eraseIdx f).length = paths.length - 1 := by rw [List.length_eraseIdx, if_pos hf]
  have HEL := Lib.hid hel
  clear h1p he3 hs3 hel
  have HE4 := Lib.hid (show widerErr caps paths link by_ = 1 from by unfold widerErr; rw [if_pos he1, if_pos hx])
  have HS4 := Lib.hid (rates_no 1 (by decide) (caps.set link.toNat (caps.getD link.toNat 0 + by_)) paths)
  have HX4 := Lib.hid hx
  clear hx
  have hgw : w.heap.size ≤ w.heap.size := Nat.le_refl _
  have RN := Lib.hid fun (W : World) (hW : w.heap.size ≤ W.heap.size) (h1 : Ints W w.heap.size C cc caps) (h2 : Rows2 W w.heap.size P cp paths) => (show Calls Tryd.prog 25 #[.agg #[.slice C caps.length cc, .slice P paths.length cp]] W fun r w' => r = .returned (.int .i64 0) ∧ Below W.heap.size W w' from by have := refNet_all C cc caps P cp paths w.heap.size W hW h1 h2; rwa [HE1.out] at this)
  clear hg hc hp hi he1
  have HN := Lib.hid (Blk.new w 43 #[.slice C caps.length cc, .slice P paths.length cp])
  have HB : Hid (Below w.heap.size w (w.alloc (.cells #[.slice C caps.length cc, .slice P paths.length cp] 43))) := Lib.hid ((Below.refl _ _).alloc (Nat.le_refl _) _)
  have hz := HB.out.size
  obtain ⟨n0, n1, nf0, nf1, nz⟩ := HN.out.two
  go_enter Tryd.func11, Tryd.ntmps11
  go_wp2_with fail
  refine (RN.out _ (by first | omega | (focus (simp; done)) | (simp; omega)) (HC.out.below HB.out (Nat.le_refl _)) (HP.out.below HB.out (Nat.le_refl _))).mono ?_; rintro r ww ⟨rfl, hb⟩
  clear RN
  have HBx := Lib.hid (HB.out.trans (hb.mono HB.out.size)); have HNx := Lib.hid (HN.out.go hb)
  clear HB HN n0 n1 nf0 nf1 nz hb hz
  have HB := HBx; have HN := HNx
  clear HBx HNx
  have hz := HB.out.size
  obtain ⟨n0, n1, nf0, nf1, nz⟩ := HN.out.two
  go_wp2_with fail
  refine (refPath_any (caps.length : Int) A c path w.heap.size _ (HI.out.below HB.out (Nat.le_refl _))).mono ?_; rintro r w9 ⟨rfl, d, rfl⟩
  rw [HQ.out]
  have hb : Below ww.heap.size ww (ww.drewN d) := below_drewN (Below.refl _ _) _
  obtain ⟨wd, hwd⟩ : ∃ x, x = ww.drewN d := ⟨_, rfl⟩
  rw [← hwd] at hb ⊢
  clear hwd
  have HBx := Lib.hid (HB.out.trans (hb.mono HB.out.size)); have HNx := Lib.hid (HN.out.go hb)
  clear HB HN n0 n1 nf0 nf1 nz hb hz
  have HB := HBx; have HN := HNx
  clear HBx HNx
  have hz := HB.out.size
  obtain ⟨n0, n1, nf0, nf1, nz⟩ := HN.out.two
  obtain ⟨ww, hww⟩ : ∃ x, x = wd := ⟨_, rfl⟩
  rw [← hww] at HB HN n0 n1 nf0 nf1 nz hz ⊢
  clear hww
  go_wp2_with fail
  refine (refWith_any C cc caps.length P cp _ paths A c _ path w.heap.size _ (by first | omega | (focus (simp; done)) | (simp; omega)) (HP.out.below HB.out (Nat.le_refl _)) (HI.out.below HB.out (Nat.le_refl _)) hp0 (by omega) rfl rfl).mono ?_; rintro r ww ⟨P1, cp1, rfl, ⟨vs, hr1, hr2⟩, hb⟩
  have HBx := Lib.hid (HB.out.trans (hb.mono HB.out.size)); have HNx := Lib.hid (HN.out.go hb)
  clear HB HN n0 n1 nf0 nf1 nz hb hz
  have HB := HBx; have HN := HNx
  clear HBx HNx
  have hz := HB.out.size
  obtain ⟨n0, n1, nf0, nf1, nz⟩ := HN.out.two
  obtain ⟨P2, cp2, hv2, hr3⟩ := rows_own hr1 hr2 hz
  injection hv2 with k1 _ k3
  subst k1 k3
  have HR1 := Lib.hid hr3
  clear hr1 hr2 hr3
  have HC1 := Lib.hid ((HC.out.below HB.out (Nat.le_refl _)).more hz)
  go_wp2_with fail
  refine (refFill_tot C cc _ caps P1 cp1 _ (paths ++ [path]) S2 ww.heap.size _ (Nat.le_refl _) HC1.out HR1.out rfl (by simp) (by omega) (fun p hp => by have := HSH2.out p hp; omega) HS2.out).mono ?_; rintro r ww ⟨A4, c4, U, rfl, hf4, hb⟩
  have HFR := Lib.hid hf4
  clear hf4
  have HBx := Lib.hid (HB.out.trans (hb.mono HB.out.size)); have HNx := Lib.hid (HN.out.go hb)
  clear HB HN n0 n1 nf0 nf1 nz hb hz
  have HB := HBx; have HN := HNx
  clear HBx HNx
  have hz := HB.out.size
  obtain ⟨n0, n1, nf0, nf1, nz⟩ := HN.out.two
  clear HR1 HC1
  go_wp2_with fail
  refine (more_v C cc caps P cp paths A c path w.heap.size _ (by first | omega | (focus (simp; done)) | (simp; omega)) (HC.out.below HB.out (Nat.le_refl _)) (HP.out.below HB.out (Nat.le_refl _)) (HI.out.below HB.out (Nat.le_refl _)) 0 S2 HE2.out HS2.out (.nilIface) errVal_zero S2.length rfl).mono ?_; rintro r ww ⟨A5, c5, rfl, hf5, hb⟩
  have HFA := Lib.hid hf5
  replace HFR := Lib.hid (HFR.out.at' hb)
  clear hf5
  have HBx := Lib.hid (HB.out.trans (hb.mono HB.out.size)); have HNx := Lib.hid (HN.out.go hb)
  clear HB HN n0 n1 nf0 nf1 nz hb hz
  have HB := HBx; have HN := HNx
  clear HBx HNx
  have hz := HB.out.size
  obtain ⟨n0, n1, nf0, nf1, nz⟩ := HN.out.two
  go_wp2_with fail
  refine (same_ok _).mono ?_; rintro r ww ⟨rfl, hb⟩
  have HBx := Lib.hid (HB.out.trans (hb.mono HB.out.size)); have HNx := Lib.hid (HN.out.go hb)
  replace HFA := Lib.hid (HFA.out.at' hb)
  replace HFR := Lib.hid (HFR.out.at' hb)
  clear HB HN n0 n1 nf0 nf1 nz hb hz
  have HB := HBx; have HN := HNx
  clear HBx HNx
  have hz := HB.out.size
  obtain ⟨n0, n1, nf0, nf1, nz⟩ := HN.out.two
  go_wp2_with fail
  refine (sameFr_any A5 A4 c5 c4 _ _ S2 S2 _ _ _ HFA.out HFR.out rfl rfl (Nat.le_refl _) (Nat.le_refl _) true (decide_eq_true rfl)).mono ?_; rintro r ww ⟨rfl, hb⟩
  clear HFA HFR
  have HBx := Lib.hid (HB.out.trans (hb.mono HB.out.size)); have HNx := Lib.hid (HN.out.go hb)
  clear HB HN n0 n1 nf0 nf1 nz hb hz
  have HB := HBx; have HN := HNx
  clear HBx HNx
  have hz := HB.out.size
  obtain ⟨n0, n1, nf0, nf1, nz⟩ := HN.out.two
  go_wp2_with fail
  refine (refWithout_any C cc caps.length P cp _ paths f w.heap.size _ (by first | omega | (focus (simp; done)) | (simp; omega)) (HP.out.below HB.out (Nat.le_refl _)) hf (by omega) rfl).mono ?_; rintro r ww ⟨P1, cp1, rfl, ⟨vs, hr1, hr2⟩, hb⟩
  have HBx := Lib.hid (HB.out.trans (hb.mono HB.out.size)); have HNx := Lib.hid (HN.out.go hb)
  clear HB HN n0 n1 nf0 nf1 nz hb hz
  have HB := HBx; have HN := HNx
  clear HBx HNx
  have hz := HB.out.size
  obtain ⟨n0, n1, nf0, nf1, nz⟩ := HN.out.two
  obtain ⟨P2, cp2, hv2, hr3⟩ := rows_own hr1 hr2 hz
  injection hv2 with k1 _ k3
  subst k1 k3
  have HR1 := Lib.hid hr3
  clear hr1 hr2 hr3
  have HC1 := Lib.hid ((HC.out.below HB.out (Nat.le_refl _)).more hz)
  go_wp2_with fail
  refine (refFill_tot C cc _ caps P1 cp1 _ (paths.eraseIdx f) S3 ww.heap.size _ (Nat.le_refl _) HC1.out HR1.out rfl rfl (by omega) (fun p hp => by have := HSH3.out p hp; omega) HS3'.out).mono ?_; rintro r ww ⟨A4, c4, U, rfl, hf4, hb⟩
  have HFR := Lib.hid hf4
  clear hf4
  have HBx := Lib.hid (HB.out.trans (hb.mono HB.out.size)); have HNx := Lib.hid (HN.out.go hb)
  clear HB HN n0 n1 nf0 nf1 nz hb hz
  have HB := HBx; have HN := HNx
  clear HBx HNx
  have hz := HB.out.size
  obtain ⟨n0, n1, nf0, nf1, nz⟩ := HN.out.two
  clear HR1 HC1
  go_wp2_with fail
  refine (fewer_v C cc caps P cp paths (f : Int) w.heap.size _ (by first | omega | (focus (simp; done)) | (simp; omega)) (HC.out.below HB.out (Nat.le_refl _)) (HP.out.below HB.out (Nat.le_refl _)) 0 S3 HE3.out HS3.out (.nilIface) errVal_zero S3.length rfl).mono ?_; rintro r ww ⟨A5, c5, rfl, hf5, hb⟩
  have HFA := Lib.hid hf5
  replace HFR := Lib.hid (HFR.out.at' hb)
  clear hf5
  have HBx := Lib.hid (HB.out.trans (hb.mono HB.out.size)); have HNx := Lib.hid (HN.out.go hb)
  clear HB HN n0 n1 nf0 nf1 nz hb hz
  have HB := HBx; have HN := HNx
  clear HBx HNx
  have hz := HB.out.size
  obtain ⟨n0, n1, nf0, nf1, nz⟩ := HN.out.two
  go_wp2_with fail
  refine (same_ok _).mono ?_; rintro r ww ⟨rfl, hb⟩
  have HBx := Lib.hid (HB.out.trans (hb.mono HB.out.size)); have HNx := Lib.hid (HN.out.go hb)
  replace HFA := Lib.hid (HFA.out.at' hb)
  replace HFR := Lib.hid (HFR.out.at' hb)
  clear HB HN n0 n1 nf0 nf1 nz hb hz
  have HB := HBx; have HN := HNx
  clear HBx HNx
  have hz := HB.out.size
  obtain ⟨n0, n1, nf0, nf1, nz⟩ := HN.out.two
  go_wp2_with fail
  refine (sameFr_any A5 A4 c5 c4 _ _ S3 S3 _ _ _ HFA.out HFR.out rfl rfl (Nat.le_refl _) (Nat.le_refl _) true (decide_eq_true rfl)).mono ?_; rintro r ww ⟨rfl, hb⟩
  clear HFA HFR
  have HBx := Lib.hid (HB.out.trans (hb.mono HB.out.size)); have HNx := Lib.hid (HN.out.go hb)
  clear HB HN n0 n1 nf0 nf1 nz hb hz
  have HB := HBx; have HN := HNx
  clear HBx HNx
  have hz := HB.out.size
  obtain ⟨n0, n1, nf0, nf1, nz⟩ := HN.out.two
  go_upto_region 23 with fail
  go_cut [126] (fun s126 wx => s126 = .bool true ∧ wx = ww)
  case first =>
    have hx := HX4.out
    by_cases hl : link < 0
    · go_wp2
      go_meet
      exact ⟨rfl, rfl⟩
    · have hl' : decide (link < 0) = false := decide_eq_false hl
      by_cases hm : (caps.length : Int) ≤ link
      · go_wp2
        go_meet
        exact ⟨rfl, rfl⟩
      · have hm' : decide ((caps.length : Int) ≤ link) = false := decide_eq_false hm
        by_cases hn : by_ < 0
        · go_wp2
          go_meet
          exact ⟨rfl, rfl⟩
        · have hn' : decide (by_ < 0) = false := decide_eq_false hn
          have ho : 1000 < by_ := by omega
          go_wp2
          go_meet
          exact ⟨rfl, rfl⟩
  case rest =>
    obtain ⟨rfl, hw⟩ := hcut; rw [hw]; clear hw
    have HFR := Lib.hid (frs_none ww ww.heap.size)
    go_wp2_with fail
    refine (wider_v C cc caps P cp paths link by_ w.heap.size _ (by first | omega | (focus (simp; done)) | (simp; omega)) (HC.out.below HB.out (Nat.le_refl _)) (HP.out.below HB.out (Nat.le_refl _)) 1 [] HE4.out HS4.out (.iface 119 (.int .i64 1)) (errVal_pos (by decide)) 0 rfl).mono ?_; rintro r ww ⟨A5, c5, rfl, hf5, hb⟩
    have HFA := Lib.hid hf5
    replace HFR := Lib.hid (HFR.out.at' hb)
    clear hf5
    have HBx := Lib.hid (HB.out.trans (hb.mono HB.out.size)); have HNx := Lib.hid (HN.out.go hb)
    clear HB HN n0 n1 nf0 nf1 nz hb hz
    have HB := HBx; have HN := HNx
    clear HBx HNx
    have hz := HB.out.size
    obtain ⟨n0, n1, nf0, nf1, nz⟩ := HN.out.two
    go_wp2_with fail
    refine (same_hit 1 _ (LAID.out.below HB.out)).mono ?_; rintro r ww ⟨rfl, hb⟩
    have HBx := Lib.hid (HB.out.trans (hb.mono HB.out.size)); have HNx := Lib.hid (HN.out.go hb)
    replace HFA := Lib.hid (HFA.out.at' hb)
    replace HFR := Lib.hid (HFR.out.at' hb)
    clear HB HN n0 n1 nf0 nf1 nz hb hz
    have HB := HBx; have HN := HNx
    clear HBx HNx
    have hz := HB.out.size
    obtain ⟨n0, n1, nf0, nf1, nz⟩ := HN.out.two
    go_wp2_with fail
    refine (sameFr_any A5 none c5 0 _ _ [] [] _ _ _ HFA.out HFR.out rfl rfl (Nat.le_refl _) (Nat.le_refl _) true (decide_eq_true rfl)).mono ?_; rintro r ww ⟨rfl, hb⟩
    clear HFA HFR
    have HBx := Lib.hid (HB.out.trans (hb.mono HB.out.size)); have HNx := Lib.hid (HN.out.go hb)
    clear HB HN n0 n1 nf0 nf1 nz hb hz
    have HB := HBx; have HN := HNx
    clear HBx HNx
    have hz := HB.out.size
    obtain ⟨n0, n1, nf0, nf1, nz⟩ := HN.out.two
    go_wp2
    go_ret
    exact ⟨rfl, HB.out⟩
set_option maxHeartbeats 40000000 in
set_option maxRecDepth 100000 in
theorem growTells_KKL (C : Option Addr) (cc : Nat) (caps : List Int) (P : Option Addr) (cp : Nat) (paths : List (List Int)) (A : Option Addr) (c : Nat) (path : List Int) (by_ : Int) (w : World) (hg : Laid w) (hc : Ints w w.heap.size C cc caps) (hp : Rows2 w w.heap.size P cp paths) (hi : Ints w w.heap.size A c path) (he1 : netErr caps paths = 0) (he2 : addErr caps paths path = 0) (S2 : List Fr) (hs2 : RatesIs 0 caps (paths ++ [path]) S2) (f : Nat) (hf : f < paths.length) (h1p : paths.length ≠ 1) (S3 : List Fr) (hs3 : RatesIs 0 caps (paths.eraseIdx f) S3) (k : Nat) (hk : k < caps.length) (b0 : 0 ≤ by_) (b9 : by_ ≤ 1000) (hw4 : 1000 < caps.getD k 0 + by_) :
    Calls Tryd.prog 11 #[.agg #[.slice C caps.length cc, .slice P paths.length cp], .slice A path.length c, .int .i64 (f : Int), .int .i64 (k : Int), .int .i64 by_] w fun e w' => e = .returned (.bool true) ∧ Below w.heap.size w w' := by
  have LAID := Lib.hid hg; have HC := Lib.hid hc; have HP := Lib.hid hp; have HI := Lib.hid hi
  have hpm := hp.cap; have hpl := hp.le; have hcm := hc.cap; have hcl := hc.le; have him := hi.cap; have hil := hi.le
  unfold maxLen at hpm hcm him
  have HE1 := Lib.hid he1
  obtain ⟨_, hc6, hp0, hp6, _, _⟩ := netErr_ok he1
  have HE2 := Lib.hid he2; have HS2 := Lib.hid hs2
  obtain ⟨_, h6, hq, ha4⟩ := addErr_ok he2
  have HQ := Lib.hid hq; have HSH2 := Lib.hid (netErr_short ha4)
  have h6' : ((paths.length : Int) == 6) = false := beq_eq_false_iff_ne.2 (by omega)
  have hl2 : S2.length ≤ 6 := hs2.six
  clear h6 hq ha4 he2 hs2
  have fl0 : (0 : Int) ≤ (f : Int) := by omega
  have fl1 : decide ((f : Int) < 0) = false := decide_eq_false (by omega)
  have fl2 : decide ((paths.length : Int) ≤ (f : Int)) = false := decide_eq_false (by omega)
  have fl3 : decide (paths.length ≤ f) = false := decide_eq_false (by omega)
  have he3 : dropErr caps paths (f : Int) = 0 := by unfold dropErr; rw [if_pos he1, if_neg (by omega), if_neg h1p]
  have HSH3 := Lib.hid (netErr_short (dropErr_ok he3))
  rw [Int.toNat_natCast] at HSH3
  have HE3 := Lib.hid he3
  have HS3 := Lib.hid (show RatesIs 0 caps (paths.eraseIdx (f : Int).toNat) S3 from by rw [Int.toNat_natCast]; exact hs3)
  have HS3' := Lib.hid hs3
  have hl3 : S3.length ≤ 6 := hs3.six
  have s1p : ((paths.length : Int) == 1) = false := beq_eq_false_iff_ne.2 (by omega)
  have hel : (paths.eraseIdx f).length = paths.length - 1 := by rw [List.length_eraseIdx, if_pos hf]
  have HEL := Lib.hid hel
  clear h1p he3 hs3 hel
  have hci := caps_in he1 hk
  have k0 : (0 : Int) ≤ (k : Int) := by omega
  have k1 : decide ((k : Int) < 0) = false := decide_eq_false (by omega)
  have k2 : decide ((caps.length : Int) ≤ (k : Int)) = false := decide_eq_false (by omega)
  have k9 : decide (caps.length ≤ k) = false := decide_eq_false (by omega)
  have k3 : (k : Int) < (caps.length : Int) := by omega
  have k4 : decide (by_ < 0) = false := decide_eq_false (by omega)
  have k5 : decide (1000 < by_) = false := decide_eq_false (by omega)
  obtain ⟨b, off, hCe, hbb, _⟩ := caps_get hc hk
  subst hCe
  have HCG := Lib.hid fun (W : World) (h : Ints W w.heap.size (some ⟨b, off, none⟩) cc caps) => (show W.cell? ⟨b, off + k, none⟩ = some (.int .i64 (caps.getD k 0)) from by obtain ⟨b', off', e, _, h⟩ := caps_get h hk; injection e with e; injection e with e1 e2; subst e1 e2; exact h)
  have HE4 := Lib.hid (show widerErr caps paths (k : Int) by_ = 4 from by unfold widerErr; rw [if_pos he1, if_neg (by omega), Int.toNat_natCast, if_pos hw4])
  have HS4 := Lib.hid (rates_no 4 (by decide) (caps.set (k : Int).toNat (caps.getD (k : Int).toNat 0 + by_)) paths)
  obtain ⟨cv, hcv⟩ : ∃ x, caps.getD k 0 = x := ⟨_, rfl⟩
  rw [hcv] at hci hw4 HCG
  have HCV := Lib.hid hcv
  obtain ⟨hci1, hci2⟩ := hci
  clear hcv
  have hgw : w.heap.size ≤ w.heap.size := Nat.le_refl _
  have hgw : w.heap.size ≤ w.heap.size := Nat.le_refl _
  have RN := Lib.hid fun (W : World) (hW : w.heap.size ≤ W.heap.size) (h1 : Ints W w.heap.size (some ⟨b, off, none⟩) cc caps) (h2 : Rows2 W w.heap.size P cp paths) => (show Calls Tryd.prog 25 #[.agg #[.slice (some ⟨b, off, none⟩) caps.length cc, .slice P paths.length cp]] W fun r w' => r = .returned (.int .i64 0) ∧ Below W.heap.size W w' from by have := refNet_all _ cc caps P cp paths w.heap.size W hW h1 h2; rwa [HE1.out] at this)
  clear hg hc hp hi he1
  have HN := Lib.hid (Blk.new w 43 #[.slice (some ⟨b, off, none⟩) caps.length cc, .slice P paths.length cp])
  have HB : Hid (Below w.heap.size w (w.alloc (.cells #[.slice (some ⟨b, off, none⟩) caps.length cc, .slice P paths.length cp] 43))) := Lib.hid ((Below.refl _ _).alloc (Nat.le_refl _) _)
  have hz := HB.out.size
  obtain ⟨n0, n1, nf0, nf1, nz⟩ := HN.out.two
  go_enter Tryd.func11, Tryd.ntmps11
  go_wp2_with fail
  refine (RN.out _ (by first | omega | (focus (simp; done)) | (simp; omega)) (HC.out.below HB.out (Nat.le_refl _)) (HP.out.below HB.out (Nat.le_refl _))).mono ?_; rintro r ww ⟨rfl, hb⟩
  clear RN
  have HBx := Lib.hid (HB.out.trans (hb.mono HB.out.size)); have HNx := Lib.hid (HN.out.go hb)
  clear HB HN n0 n1 nf0 nf1 nz hb hz
  have HB := HBx; have HN := HNx
  clear HBx HNx
  have hz := HB.out.size
  obtain ⟨n0, n1, nf0, nf1, nz⟩ := HN.out.two
  go_wp2_with fail
  refine (refPath_any (caps.length : Int) A c path w.heap.size _ (HI.out.below HB.out (Nat.le_refl _))).mono ?_; rintro r w9 ⟨rfl, d, rfl⟩
  rw [HQ.out]
  have hb : Below ww.heap.size ww (ww.drewN d) := below_drewN (Below.refl _ _) _
  obtain ⟨wd, hwd⟩ : ∃ x, x = ww.drewN d := ⟨_, rfl⟩
  rw [← hwd] at hb ⊢
  clear hwd
  have HBx := Lib.hid (HB.out.trans (hb.mono HB.out.size)); have HNx := Lib.hid (HN.out.go hb)
  clear HB HN n0 n1 nf0 nf1 nz hb hz
  have HB := HBx; have HN := HNx
  clear HBx HNx
  have hz := HB.out.size
  obtain ⟨n0, n1, nf0, nf1, nz⟩ := HN.out.two
  obtain ⟨ww, hww⟩ : ∃ x, x = wd := ⟨_, rfl⟩
  rw [← hww] at HB HN n0 n1 nf0 nf1 nz hz ⊢
  clear hww
  go_wp2_with fail
  refine (refWith_any (some ⟨b, off, none⟩) cc caps.length P cp _ paths A c _ path w.heap.size _ (by first | omega | (focus (simp; done)) | (simp; omega)) (HP.out.below HB.out (Nat.le_refl _)) (HI.out.below HB.out (Nat.le_refl _)) hp0 (by omega) rfl rfl).mono ?_; rintro r ww ⟨P1, cp1, rfl, ⟨vs, hr1, hr2⟩, hb⟩
  have HBx := Lib.hid (HB.out.trans (hb.mono HB.out.size)); have HNx := Lib.hid (HN.out.go hb)
  clear HB HN n0 n1 nf0 nf1 nz hb hz
  have HB := HBx; have HN := HNx
  clear HBx HNx
  have hz := HB.out.size
  obtain ⟨n0, n1, nf0, nf1, nz⟩ := HN.out.two
  obtain ⟨P2, cp2, hv2, hr3⟩ := rows_own hr1 hr2 hz
  injection hv2 with k1 _ k3
  subst k1 k3
  have HR1 := Lib.hid hr3
  clear hr1 hr2 hr3
  have HC1 := Lib.hid ((HC.out.below HB.out (Nat.le_refl _)).more hz)
  go_wp2_with fail
  refine (refFill_tot (some ⟨b, off, none⟩) cc _ caps P1 cp1 _ (paths ++ [path]) S2 ww.heap.size _ (Nat.le_refl _) HC1.out HR1.out rfl (by simp) (by omega) (fun p hp => by have := HSH2.out p hp; omega) HS2.out).mono ?_; rintro r ww ⟨A4, c4, U, rfl, hf4, hb⟩
  have HFR := Lib.hid hf4
  clear hf4
  have HBx := Lib.hid (HB.out.trans (hb.mono HB.out.size)); have HNx := Lib.hid (HN.out.go hb)
  clear HB HN n0 n1 nf0 nf1 nz hb hz
  have HB := HBx; have HN := HNx
  clear HBx HNx
  have hz := HB.out.size
  obtain ⟨n0, n1, nf0, nf1, nz⟩ := HN.out.two
  clear HR1 HC1
  go_wp2_with fail
  refine (more_v (some ⟨b, off, none⟩) cc caps P cp paths A c path w.heap.size _ (by first | omega | (focus (simp; done)) | (simp; omega)) (HC.out.below HB.out (Nat.le_refl _)) (HP.out.below HB.out (Nat.le_refl _)) (HI.out.below HB.out (Nat.le_refl _)) 0 S2 HE2.out HS2.out (.nilIface) errVal_zero S2.length rfl).mono ?_; rintro r ww ⟨A5, c5, rfl, hf5, hb⟩
  have HFA := Lib.hid hf5
  replace HFR := Lib.hid (HFR.out.at' hb)
  clear hf5
  have HBx := Lib.hid (HB.out.trans (hb.mono HB.out.size)); have HNx := Lib.hid (HN.out.go hb)
  clear HB HN n0 n1 nf0 nf1 nz hb hz
  have HB := HBx; have HN := HNx
  clear HBx HNx
  have hz := HB.out.size
  obtain ⟨n0, n1, nf0, nf1, nz⟩ := HN.out.two
  go_wp2_with fail
  refine (same_ok _).mono ?_; rintro r ww ⟨rfl, hb⟩
  have HBx := Lib.hid (HB.out.trans (hb.mono HB.out.size)); have HNx := Lib.hid (HN.out.go hb)
  replace HFA := Lib.hid (HFA.out.at' hb)
  replace HFR := Lib.hid (HFR.out.at' hb)
  clear HB HN n0 n1 nf0 nf1 nz hb hz
  have HB := HBx; have HN := HNx
  clear HBx HNx
  have hz := HB.out.size
  obtain ⟨n0, n1, nf0, nf1, nz⟩ := HN.out.two
  go_wp2_with fail
  refine (sameFr_any A5 A4 c5 c4 _ _ S2 S2 _ _ _ HFA.out HFR.out rfl rfl (Nat.le_refl _) (Nat.le_refl _) true (decide_eq_true rfl)).mono ?_; rintro r ww ⟨rfl, hb⟩
  clear HFA HFR
  have HBx := Lib.hid (HB.out.trans (hb.mono HB.out.size)); have HNx := Lib.hid (HN.out.go hb)
  clear HB HN n0 n1 nf0 nf1 nz hb hz
  have HB := HBx; have HN := HNx
  clear HBx HNx
  have hz := HB.out.size
  obtain ⟨n0, n1, nf0, nf1, nz⟩ := HN.out.two
  go_wp2_with fail
  refine (refWithout_any (some ⟨b, off, none⟩) cc caps.length P cp _ paths f w.heap.size _ (by first | omega | (focus (simp; done)) | (simp; omega)) (HP.out.below HB.out (Nat.le_refl _)) hf (by omega) rfl).mono ?_; rintro r ww ⟨P1, cp1, rfl, ⟨vs, hr1, hr2⟩, hb⟩
  have HBx := Lib.hid (HB.out.trans (hb.mono HB.out.size)); have HNx := Lib.hid (HN.out.go hb)
  clear HB HN n0 n1 nf0 nf1 nz hb hz
  have HB := HBx; have HN := HNx
  clear HBx HNx
  have hz := HB.out.size
  obtain ⟨n0, n1, nf0, nf1, nz⟩ := HN.out.two
  obtain ⟨P2, cp2, hv2, hr3⟩ := rows_own hr1 hr2 hz
  injection hv2 with k1 _ k3
  subst k1 k3
  have HR1 := Lib.hid hr3
  clear hr1 hr2 hr3
  have HC1 := Lib.hid ((HC.out.below HB.out (Nat.le_refl _)).more hz)
  go_wp2_with fail
  refine (refFill_tot (some ⟨b, off, none⟩) cc _ caps P1 cp1 _ (paths.eraseIdx f) S3 ww.heap.size _ (Nat.le_refl _) HC1.out HR1.out rfl rfl (by omega) (fun p hp => by have := HSH3.out p hp; omega) HS3'.out).mono ?_; rintro r ww ⟨A4, c4, U, rfl, hf4, hb⟩
  have HFR := Lib.hid hf4
  clear hf4
  have HBx := Lib.hid (HB.out.trans (hb.mono HB.out.size)); have HNx := Lib.hid (HN.out.go hb)
  clear HB HN n0 n1 nf0 nf1 nz hb hz
  have HB := HBx; have HN := HNx
  clear HBx HNx
  have hz := HB.out.size
  obtain ⟨n0, n1, nf0, nf1, nz⟩ := HN.out.two
  clear HR1 HC1
  go_wp2_with fail
  refine (fewer_v (some ⟨b, off, none⟩) cc caps P cp paths (f : Int) w.heap.size _ (by first | omega | (focus (simp; done)) | (simp; omega)) (HC.out.below HB.out (Nat.le_refl _)) (HP.out.below HB.out (Nat.le_refl _)) 0 S3 HE3.out HS3.out (.nilIface) errVal_zero S3.length rfl).mono ?_; rintro r ww ⟨A5, c5, rfl, hf5, hb⟩
  have HFA := Lib.hid hf5
  replace HFR := Lib.hid (HFR.out.at' hb)
  clear hf5
  have HBx := Lib.hid (HB.out.trans (hb.mono HB.out.size)); have HNx := Lib.hid (HN.out.go hb)
  clear HB HN n0 n1 nf0 nf1 nz hb hz
  have HB := HBx; have HN := HNx
  clear HBx HNx
  have hz := HB.out.size
  obtain ⟨n0, n1, nf0, nf1, nz⟩ := HN.out.two
  go_wp2_with fail
  refine (same_ok _).mono ?_; rintro r ww ⟨rfl, hb⟩
  have HBx := Lib.hid (HB.out.trans (hb.mono HB.out.size)); have HNx := Lib.hid (HN.out.go hb)
  replace HFA := Lib.hid (HFA.out.at' hb)
  replace HFR := Lib.hid (HFR.out.at' hb)
  clear HB HN n0 n1 nf0 nf1 nz hb hz
  have HB := HBx; have HN := HNx
  clear HBx HNx
  have hz := HB.out.size
  obtain ⟨n0, n1, nf0, nf1, nz⟩ := HN.out.two
  go_wp2_with fail
  refine (sameFr_any A5 A4 c5 c4 _ _ S3 S3 _ _ _ HFA.out HFR.out rfl rfl (Nat.le_refl _) (Nat.le_refl _) true (decide_eq_true rfl)).mono ?_; rintro r ww ⟨rfl, hb⟩
  clear HFA HFR
  have HBx := Lib.hid (HB.out.trans (hb.mono HB.out.size)); have HNx := Lib.hid (HN.out.go hb)
  clear HB HN n0 n1 nf0 nf1 nz hb hz
  have HB := HBx; have HN := HNx
  clear HBx HNx
  have hz := HB.out.size
  obtain ⟨n0, n1, nf0, nf1, nz⟩ := HN.out.two
  have hcell := HCG.out ww (HC.out.below HB.out (Nat.le_refl _))
  have hbz : b < ww.heap.size := by omega
  have HFR := Lib.hid (frs_none ww ww.heap.size)
  go_wp2_with fail
  refine (wider_v (some ⟨b, off, none⟩) cc caps P cp paths (k : Int) by_ w.heap.size _ (by first | omega | (focus (simp; done)) | (simp; omega)) (HC.out.below HB.out (Nat.le_refl _)) (HP.out.below HB.out (Nat.le_refl _)) 4 [] HE4.out HS4.out (.iface 119 (.int .i64 4)) (errVal_pos (by decide)) 0 rfl).mono ?_; rintro r ww ⟨A5, c5, rfl, hf5, hb⟩
  have HFA := Lib.hid hf5
  replace HFR := Lib.hid (HFR.out.at' hb)
  clear hf5
  have HBx := Lib.hid (HB.out.trans (hb.mono HB.out.size)); have HNx := Lib.hid (HN.out.go hb)
  clear HB HN n0 n1 nf0 nf1 nz hb hz
  have HB := HBx; have HN := HNx
  clear HBx HNx
  have hz := HB.out.size
  obtain ⟨n0, n1, nf0, nf1, nz⟩ := HN.out.two
  go_wp2_with fail
  refine (same_hit 4 _ (LAID.out.below HB.out)).mono ?_; rintro r ww ⟨rfl, hb⟩
  have HBx := Lib.hid (HB.out.trans (hb.mono HB.out.size)); have HNx := Lib.hid (HN.out.go hb)
  replace HFA := Lib.hid (HFA.out.at' hb)
  replace HFR := Lib.hid (HFR.out.at' hb)
  clear HB HN n0 n1 nf0 nf1 nz hb hz
  have HB := HBx; have HN := HNx
  clear HBx HNx
  have hz := HB.out.size
  obtain ⟨n0, n1, nf0, nf1, nz⟩ := HN.out.two
  go_wp2_with fail
  refine (sameFr_any A5 none c5 0 _ _ [] [] _ _ _ HFA.out HFR.out rfl rfl (Nat.le_refl _) (Nat.le_refl _) true (decide_eq_true rfl)).mono ?_; rintro r ww ⟨rfl, hb⟩
  clear HFA HFR
  have HBx := Lib.hid (HB.out.trans (hb.mono HB.out.size)); have HNx := Lib.hid (HN.out.go hb)
  clear HB HN n0 n1 nf0 nf1 nz hb hz
  have HB := HBx; have HN := HNx
  clear HBx HNx
  have hz := HB.out.size
  obtain ⟨n0, n1, nf0, nf1, nz⟩ := HN.out.two
  go_wp2
  go_ret
  exact ⟨rfl, HB.out⟩
set_option maxHeartbeats 40000000 in
set_option maxRecDepth 100000 in
theorem growTells_KKK (C : Option Addr) (cc : Nat) (caps : List Int) (P : Option Addr) (cp : Nat) (paths : List (List Int)) (A : Option Addr) (c : Nat) (path : List Int) (by_ : Int) (w : World) (hg : Laid w) (hc : Ints w w.heap.size C cc caps) (hp : Rows2 w w.heap.size P cp paths) (hi : Ints w w.heap.size A c path) (he1 : netErr caps paths = 0) (he2 : addErr caps paths path = 0) (S2 : List Fr) (hs2 : RatesIs 0 caps (paths ++ [path]) S2) (f : Nat) (hf : f < paths.length) (h1p : paths.length ≠ 1) (S3 : List Fr) (hs3 : RatesIs 0 caps (paths.eraseIdx f) S3) (k : Nat) (hk : k < caps.length) (b0 : 0 ≤ by_) (b9 : by_ ≤ 1000) (hw4 : ¬ 1000 < caps.getD k 0 + by_) (S4 : List Fr) (hs4 : RatesIs 0 (caps.set k (caps.getD k 0 + by_)) paths S4) :
    Calls Tryd.prog 11 #[.agg #[.slice C caps.length cc, .slice P paths.length cp], .slice A path.length c, .int .i64 (f : Int), .int .i64 (k : Int), .int .i64 by_] w fun e w' => e = .returned (.bool true) ∧ Below w.heap.size w w' := by
  have LAID := Lib.hid hg; have HC := Lib.hid hc; have HP := Lib.hid hp; have HI := Lib.hid hi
  have hpm := hp.cap; have hpl := hp.le; have hcm := hc.cap; have hcl := hc.le; have him := hi.cap; have hil := hi.le
  unfold maxLen at hpm hcm him
  have HE1 := Lib.hid he1
  obtain ⟨_, hc6, hp0, hp6, _, _⟩ := netErr_ok he1
  have HE2 := Lib.hid he2; have HS2 := Lib.hid hs2
  obtain ⟨_, h6, hq, ha4⟩ := addErr_ok he2
  have HQ := Lib.hid hq; have HSH2 := Lib.hid (netErr_short ha4)
  have h6' : ((paths.length : Int) == 6) = false := beq_eq_false_iff_ne.2 (by omega)
  have hl2 : S2.length ≤ 6 := hs2.six
  clear h6 hq ha4 he2 hs2
  have fl0 : (0 : Int) ≤ (f : Int) := by omega
  have fl1 : decide ((f : Int) < 0) = false := decide_eq_false (by omega)
  have fl2 : decide ((paths.length : Int) ≤ (f : Int)) = false := decide_eq_false (by omega)
  have fl3 : decide (paths.length ≤ f) = false := decide_eq_false (by omega)
  have he3 : dropErr caps paths (f : Int) = 0 := by unfold dropErr; rw [if_pos he1, if_neg (by omega), if_neg h1p]
  have HSH3 := Lib.hid (netErr_short (dropErr_ok he3))
  rw [Int.toNat_natCast] at HSH3
  have HE3 := Lib.hid he3
  have HS3 := Lib.hid (show RatesIs 0 caps (paths.eraseIdx (f : Int).toNat) S3 from by rw [Int.toNat_natCast]; exact hs3)
  have HS3' := Lib.hid hs3
  have hl3 : S3.length ≤ 6 := hs3.six
  have s1p : ((paths.length : Int) == 1) = false := beq_eq_false_iff_ne.2 (by omega)
  have hel : (paths.eraseIdx f).length = paths.length - 1 := by rw [List.length_eraseIdx, if_pos hf]
  have HEL := Lib.hid hel
  clear h1p he3 hs3 hel
  have hci := caps_in he1 hk
  have k0 : (0 : Int) ≤ (k : Int) := by omega
  have k1 : decide ((k : Int) < 0) = false := decide_eq_false (by omega)
  have k2 : decide ((caps.length : Int) ≤ (k : Int)) = false := decide_eq_false (by omega)
  have k9 : decide (caps.length ≤ k) = false := decide_eq_false (by omega)
  have k3 : (k : Int) < (caps.length : Int) := by omega
  have k4 : decide (by_ < 0) = false := decide_eq_false (by omega)
  have k5 : decide (1000 < by_) = false := decide_eq_false (by omega)
  obtain ⟨b, off, hCe, hbb, _⟩ := caps_get hc hk
  subst hCe
  have HCG := Lib.hid fun (W : World) (h : Ints W w.heap.size (some ⟨b, off, none⟩) cc caps) => (show W.cell? ⟨b, off + k, none⟩ = some (.int .i64 (caps.getD k 0)) from by obtain ⟨b', off', e, _, h⟩ := caps_get h hk; injection e with e; injection e with e1 e2; subst e1 e2; exact h)
  have HE4 := Lib.hid (show widerErr caps paths (k : Int) by_ = 0 from by unfold widerErr; rw [if_pos he1, if_neg (by omega), Int.toNat_natCast, if_neg hw4])
  have HS4 := Lib.hid (show RatesIs 0 (caps.set (k : Int).toNat (caps.getD (k : Int).toNat 0 + by_)) paths S4 from by rw [Int.toNat_natCast]; exact hs4)
  have HS4' := Lib.hid hs4
  have hl4 : S4.length ≤ 6 := hs4.six
  have HSH4 := Lib.hid (netErr_short he1)
  clear hs4
  obtain ⟨cv, hcv⟩ : ∃ x, caps.getD k 0 = x := ⟨_, rfl⟩
  rw [hcv] at hci hw4 HCG HS4'
  have HCV := Lib.hid hcv
  obtain ⟨hci1, hci2⟩ := hci
  clear hcv
  have hw4' : decide (1000 < cv + by_) = false := decide_eq_false hw4
  clear hw4
  have hgw : w.heap.size ≤ w.heap.size := Nat.le_refl _
  have hgw : w.heap.size ≤ w.heap.size := Nat.le_refl _
  have RN := Lib.hid fun (W : World) (hW : w.heap.size ≤ W.heap.size) (h1 : Ints W w.heap.size (some ⟨b, off, none⟩) cc caps) (h2 : Rows2 W w.heap.size P cp paths) => (show Calls Tryd.prog 25 #[.agg #[.slice (some ⟨b, off, none⟩) caps.length cc, .slice P paths.length cp]] W fun r w' => r = .returned (.int .i64 0) ∧ Below W.heap.size W w' from by have := refNet_all _ cc caps P cp paths w.heap.size W hW h1 h2; rwa [HE1.out] at this)
  clear hg hc hp hi he1
  have HN := Lib.hid (Blk.new w 43 #[.slice (some ⟨b, off, none⟩) caps.length cc, .slice P paths.length cp])
  have HB : Hid (Below w.heap.size w (w.alloc (.cells #[.slice (some ⟨b, off, none⟩) caps.length cc, .slice P paths.length cp] 43))) := Lib.hid ((Below.refl _ _).alloc (Nat.le_refl _) _)
  have hz := HB.out.size
  obtain ⟨n0, n1, nf0, nf1, nz⟩ := HN.out.two
  go_enter Tryd.func11, Tryd.ntmps11
  go_wp2_with fail
  refine (RN.out _ (by first | omega | (focus (simp; done)) | (simp; omega)) (HC.out.below HB.out (Nat.le_refl _)) (HP.out.below HB.out (Nat.le_refl _))).mono ?_; rintro r ww ⟨rfl, hb⟩
  clear RN
  have HBx := Lib.hid (HB.out.trans (hb.mono HB.out.size)); have HNx := Lib.hid (HN.out.go hb)
  clear HB HN n0 n1 nf0 nf1 nz hb hz
  have HB := HBx; have HN := HNx
  clear HBx HNx
  have hz := HB.out.size
  obtain ⟨n0, n1, nf0, nf1, nz⟩ := HN.out.two
  go_wp2_with fail
  refine (refPath_any (caps.length : Int) A c path w.heap.size _ (HI.out.below HB.out (Nat.le_refl _))).mono ?_; rintro r w9 ⟨rfl, d, rfl⟩
  rw [HQ.out]
  have hb : Below ww.heap.size ww (ww.drewN d) := below_drewN (Below.refl _ _) _
  obtain ⟨wd, hwd⟩ : ∃ x, x = ww.drewN d := ⟨_, rfl⟩
  rw [← hwd] at hb ⊢
  clear hwd
  have HBx := Lib.hid (HB.out.trans (hb.mono HB.out.size)); have HNx := Lib.hid (HN.out.go hb)
  clear HB HN n0 n1 nf0 nf1 nz hb hz
  have HB := HBx; have HN := HNx
  clear HBx HNx
  have hz := HB.out.size
  obtain ⟨n0, n1, nf0, nf1, nz⟩ := HN.out.two
  obtain ⟨ww, hww⟩ : ∃ x, x = wd := ⟨_, rfl⟩
  rw [← hww] at HB HN n0 n1 nf0 nf1 nz hz ⊢
  clear hww
  go_wp2_with fail
  refine (refWith_any (some ⟨b, off, none⟩) cc caps.length P cp _ paths A c _ path w.heap.size _ (by first | omega | (focus (simp; done)) | (simp; omega)) (HP.out.below HB.out (Nat.le_refl _)) (HI.out.below HB.out (Nat.le_refl _)) hp0 (by omega) rfl rfl).mono ?_; rintro r ww ⟨P1, cp1, rfl, ⟨vs, hr1, hr2⟩, hb⟩
  have HBx := Lib.hid (HB.out.trans (hb.mono HB.out.size)); have HNx := Lib.hid (HN.out.go hb)
  clear HB HN n0 n1 nf0 nf1 nz hb hz
  have HB := HBx; have HN := HNx
  clear HBx HNx
  have hz := HB.out.size
  obtain ⟨n0, n1, nf0, nf1, nz⟩ := HN.out.two
  obtain ⟨P2, cp2, hv2, hr3⟩ := rows_own hr1 hr2 hz
  injection hv2 with k1 _ k3
  subst k1 k3
  have HR1 := Lib.hid hr3
  clear hr1 hr2 hr3
  have HC1 := Lib.hid ((HC.out.below HB.out (Nat.le_refl _)).more hz)
  go_wp2_with fail
  refine (refFill_tot (some ⟨b, off, none⟩) cc _ caps P1 cp1 _ (paths ++ [path]) S2 ww.heap.size _ (Nat.le_refl _) HC1.out HR1.out rfl (by simp) (by omega) (fun p hp => by have := HSH2.out p hp; omega) HS2.out).mono ?_; rintro r ww ⟨A4, c4, U, rfl, hf4, hb⟩
  have HFR := Lib.hid hf4
  clear hf4
  have HBx := Lib.hid (HB.out.trans (hb.mono HB.out.size)); have HNx := Lib.hid (HN.out.go hb)
  clear HB HN n0 n1 nf0 nf1 nz hb hz
  have HB := HBx; have HN := HNx
  clear HBx HNx
  have hz := HB.out.size
  obtain ⟨n0, n1, nf0, nf1, nz⟩ := HN.out.two
  clear HR1 HC1
  go_wp2_with fail
  refine (more_v (some ⟨b, off, none⟩) cc caps P cp paths A c path w.heap.size _ (by first | omega | (focus (simp; done)) | (simp; omega)) (HC.out.below HB.out (Nat.le_refl _)) (HP.out.below HB.out (Nat.le_refl _)) (HI.out.below HB.out (Nat.le_refl _)) 0 S2 HE2.out HS2.out (.nilIface) errVal_zero S2.length rfl).mono ?_; rintro r ww ⟨A5, c5, rfl, hf5, hb⟩
  have HFA := Lib.hid hf5
  replace HFR := Lib.hid (HFR.out.at' hb)
  clear hf5
  have HBx := Lib.hid (HB.out.trans (hb.mono HB.out.size)); have HNx := Lib.hid (HN.out.go hb)
  clear HB HN n0 n1 nf0 nf1 nz hb hz
  have HB := HBx; have HN := HNx
  clear HBx HNx
  have hz := HB.out.size
  obtain ⟨n0, n1, nf0, nf1, nz⟩ := HN.out.two
  go_wp2_with fail
  refine (same_ok _).mono ?_; rintro r ww ⟨rfl, hb⟩
  have HBx := Lib.hid (HB.out.trans (hb.mono HB.out.size)); have HNx := Lib.hid (HN.out.go hb)
  replace HFA := Lib.hid (HFA.out.at' hb)
  replace HFR := Lib.hid (HFR.out.at' hb)
  clear HB HN n0 n1 nf0 nf1 nz hb hz
  have HB := HBx; have HN := HNx
  clear HBx HNx
  have hz := HB.out.size
  obtain ⟨n0, n1, nf0, nf1, nz⟩ := HN.out.two
  go_wp2_with fail
  refine (sameFr_any A5 A4 c5 c4 _ _ S2 S2 _ _ _ HFA.out HFR.out rfl rfl (Nat.le_refl _) (Nat.le_refl _) true (decide_eq_true rfl)).mono ?_; rintro r ww ⟨rfl, hb⟩
  clear HFA HFR
  have HBx := Lib.hid (HB.out.trans (hb.mono HB.out.size)); have HNx := Lib.hid (HN.out.go hb)
  clear HB HN n0 n1 nf0 nf1 nz hb hz
  have HB := HBx; have HN := HNx
  clear HBx HNx
  have hz := HB.out.size
  obtain ⟨n0, n1, nf0, nf1, nz⟩ := HN.out.two
  go_wp2_with fail
  refine (refWithout_any (some ⟨b, off, none⟩) cc caps.length P cp _ paths f w.heap.size _ (by first | omega | (focus (simp; done)) | (simp; omega)) (HP.out.below HB.out (Nat.le_refl _)) hf (by omega) rfl).mono ?_; rintro r ww ⟨P1, cp1, rfl, ⟨vs, hr1, hr2⟩, hb⟩
  have HBx := Lib.hid (HB.out.trans (hb.mono HB.out.size)); have HNx := Lib.hid (HN.out.go hb)
  clear HB HN n0 n1 nf0 nf1 nz hb hz
  have HB := HBx; have HN := HNx
  clear HBx HNx
  have hz := HB.out.size
  obtain ⟨n0, n1, nf0, nf1, nz⟩ := HN.out.two
  obtain ⟨P2, cp2, hv2, hr3⟩ := rows_own hr1 hr2 hz
  injection hv2 with k1 _ k3
  subst k1 k3
  have HR1 := Lib.hid hr3
  clear hr1 hr2 hr3
  have HC1 := Lib.hid ((HC.out.below HB.out (Nat.le_refl _)).more hz)
  go_wp2_with fail
  refine (refFill_tot (some ⟨b, off, none⟩) cc _ caps P1 cp1 _ (paths.eraseIdx f) S3 ww.heap.size _ (Nat.le_refl _) HC1.out HR1.out rfl rfl (by omega) (fun p hp => by have := HSH3.out p hp; omega) HS3'.out).mono ?_; rintro r ww ⟨A4, c4, U, rfl, hf4, hb⟩
  have HFR := Lib.hid hf4
  clear hf4
  have HBx := Lib.hid (HB.out.trans (hb.mono HB.out.size)); have HNx := Lib.hid (HN.out.go hb)
  clear HB HN n0 n1 nf0 nf1 nz hb hz
  have HB := HBx; have HN := HNx
  clear HBx HNx
  have hz := HB.out.size
  obtain ⟨n0, n1, nf0, nf1, nz⟩ := HN.out.two
  clear HR1 HC1
  go_wp2_with fail
  refine (fewer_v (some ⟨b, off, none⟩) cc caps P cp paths (f : Int) w.heap.size _ (by first | omega | (focus (simp; done)) | (simp; omega)) (HC.out.below HB.out (Nat.le_refl _)) (HP.out.below HB.out (Nat.le_refl _)) 0 S3 HE3.out HS3.out (.nilIface) errVal_zero S3.length rfl).mono ?_; rintro r ww ⟨A5, c5, rfl, hf5, hb⟩
  have HFA := Lib.hid hf5
  replace HFR := Lib.hid (HFR.out.at' hb)
  clear hf5
  have HBx := Lib.hid (HB.out.trans (hb.mono HB.out.size)); have HNx := Lib.hid (HN.out.go hb)
  clear HB HN n0 n1 nf0 nf1 nz hb hz
  have HB := HBx; have HN := HNx
  clear HBx HNx
  have hz := HB.out.size
  obtain ⟨n0, n1, nf0, nf1, nz⟩ := HN.out.two
  go_wp2_with fail
  refine (same_ok _).mono ?_; rintro r ww ⟨rfl, hb⟩
  have HBx := Lib.hid (HB.out.trans (hb.mono HB.out.size)); have HNx := Lib.hid (HN.out.go hb)
  replace HFA := Lib.hid (HFA.out.at' hb)
  replace HFR := Lib.hid (HFR.out.at' hb)
  clear HB HN n0 n1 nf0 nf1 nz hb hz
  have HB := HBx; have HN := HNx
  clear HBx HNx
  have hz := HB.out.size
  obtain ⟨n0, n1, nf0, nf1, nz⟩ := HN.out.two
  go_wp2_with fail
  refine (sameFr_any A5 A4 c5 c4 _ _ S3 S3 _ _ _ HFA.out HFR.out rfl rfl (Nat.le_refl _) (Nat.le_refl _) true (decide_eq_true rfl)).mono ?_; rintro r ww ⟨rfl, hb⟩
  clear HFA HFR
  have HBx := Lib.hid (HB.out.trans (hb.mono HB.out.size)); have HNx := Lib.hid (HN.out.go hb)
  clear HB HN n0 n1 nf0 nf1 nz hb hz
  have HB := HBx; have HN := HNx
  clear HBx HNx
  have hz := HB.out.size
  obtain ⟨n0, n1, nf0, nf1, nz⟩ := HN.out.two
  have hcell := HCG.out ww (HC.out.below HB.out (Nat.le_refl _))
  have hbz : b < ww.heap.size := by omega
  go_upto_region 29 with fail
  have HM := Lib.hid (Blk.new ww 43 #[.slice none 0 0, .slice none 0 0])
  have HBM := Lib.hid (HB.out.alloc HB.out.size (.cells #[.slice none 0 0, .slice none 0 0] 43))
  have HNM := Lib.hid (HN.out.alloc (.cells #[.slice none 0 0, .slice none 0 0] 43))
  have hg7z : w.heap.size ≤ ww.heap.size := hz
  have hg7n : w.heap.size ≠ ww.heap.size := by have := HN.out.lt; omega
  obtain ⟨wm, hwm⟩ : ∃ x, x = ww.alloc (.cells #[.slice none 0 0, .slice none 0 0] 43) := ⟨_, rfl⟩
  rw [← hwm] at HM HBM HNM ⊢
  clear hwm n0 n1 nf0 nf1 nz hcell
  obtain ⟨n0, n1, nf0, nf1, nz⟩ := HNM.out.two
  obtain ⟨m0, m1, mf0, mf1, mz⟩ := HM.out.two
  go_upto_region 30 with fail
  have HM1 := Lib.hid (HM.out.s2_1 (.slice P paths.length cp)); have HN1 := Lib.hid (HNM.out.far (p := ⟨ww.heap.size, 1, none⟩) hg7n (.slice P paths.length cp)); have HB1 := Lib.hid (HBM.out.setCell (p := ⟨ww.heap.size, 1, none⟩) hg7z (.slice P paths.length cp))
  obtain ⟨wn, hwn⟩ : ∃ x, x = wm.setCell ⟨ww.heap.size, 1, none⟩ (.slice P paths.length cp) := ⟨_, rfl⟩
  rw [← hwn] at HM1 HN1 HB1 ⊢
  clear hwn n0 n1 nf0 nf1 nz m0 m1 mf0 mf1 mz HM HNM HBM
  obtain ⟨n0, n1, nf0, nf1, nz⟩ := HN1.out.two
  obtain ⟨m0, m1, mf0, mf1, mz⟩ := HM1.out.two
  have hzn := HB1.out.size
  have HCE := Lib.hid (show ∀ j u, (caps.map (Value.int .i64))[j]? = some u → wn.cell? ((⟨b, off, none⟩ : Addr).add j) = some u from fun j u hu => (HC.out.below HB1.out (Nat.le_refl _)).cells j u hu)
  obtain ⟨i0, hi0, hz0, hz1, hz2⟩ := info_parts Tryd.info_int
  have HON := Lib.hid (show ∀ u ∈ caps.map (Value.int .i64), u.oneCell' = true from fun u hu => by obtain ⟨x, _, rfl⟩ := List.mem_map.1 hu; rfl)
  go_upto_region 31 with (at_builtin; refine wpList_append_own _ rfl (.tmp 145) (.tmp 147) 40 rfl w.heap.size 3 i0 (.int .i64 0) 1 8 Tryd.underlying40 hi0 hz0 hz1 hz2 rfl (by omega) _ 0 [] rfl (World.ownsRow_nil _ _ _ _) ⟨b, off, none⟩ caps.length cc (caps.map (Value.int .i64)) rfl (by simp) HCE.out HON.out (by simp only [maxLen]; omega) (by omega) hzn ?_; intro v' w2 hown hgrow _; rw [Nat.zero_add, List.nil_append] at hown; obtain ⟨g2, c2, hv', hg2b, hg2z, hl2', hm2⟩ := own_form hown (by omega); subst hv'; have HO2 := Lib.hid hown; have HB2 : Hid (Below w.heap.size w w2) := Lib.hid (HB1.out.grown hgrow hzn (fun k hk => by cases hk)); have HM2 := Lib.hid (HM1.out.grown hgrow (fun e => by cases e)); have HN2 := Lib.hid (HN1.out.grown hgrow (fun e => by cases e)); clear hown hgrow n0 n1 nf0 nf1 nz m0 m1 mf0 mf1 mz; obtain ⟨n0, n1, nf0, nf1, nz⟩ := HN2.out.two; obtain ⟨m0, m1, mf0, mf1, mz⟩ := HM2.out.two)
  unfold maxLen at hm2
  have hgg : ww.heap.size ≠ g2 := by intro h; exact own_blk_ne HO2.out HM2.out (by decide) (by rw [h]; rfl)
  have hwg : w.heap.size ≠ g2 := by intro h; exact own_blk_ne HO2.out HN2.out (by decide) (by rw [h]; rfl)
  have HM3 := Lib.hid (HM2.out.s2_0 (.slice (some ⟨g2, 0, none⟩) caps.length c2)); have HN3 := Lib.hid (HN2.out.far (p := ⟨ww.heap.size, 0, none⟩) hg7n (.slice (some ⟨g2, 0, none⟩) caps.length c2)); have HB3 := Lib.hid (HB2.out.setCell (p := ⟨ww.heap.size, 0, none⟩) hg7z (.slice (some ⟨g2, 0, none⟩) caps.length c2)); have HO3 := Lib.hid (own_farB HO2.out (own_blk_ne HO2.out HM2.out (by decide)) (k := 0) (.slice (some ⟨g2, 0, none⟩) caps.length c2))
  obtain ⟨w3, hw3⟩ : ∃ x, x = w2.setCell ⟨ww.heap.size, 0, none⟩ (.slice (some ⟨g2, 0, none⟩) caps.length c2) := ⟨_, rfl⟩
  rw [← hw3] at HM3 HN3 HB3 HO3 ⊢
  clear hw3 n0 n1 nf0 nf1 nz m0 m1 mf0 mf1 mz HM2 HN2 HB2 HO2 HM1 HN1 HB1
  obtain ⟨n0, n1, nf0, nf1, nz⟩ := HN3.out.two
  obtain ⟨m0, m1, mf0, mf1, mz⟩ := HM3.out.two
  have q0 : w3.cell? ⟨g2, k, none⟩ = some (.int .i64 cv) := by rw [HO3.out.cellAt (g := g2) k (by omega), List.getElem?_map, List.getElem?_eq_getElem hk, ← HCV.out, List.getD_eq_getElem?_getD, List.getElem?_eq_getElem hk]; rfl
  have qf := HO3.out.frozenAt (g := g2) k
  have hz3 := HB3.out.size
  have HM4 := Lib.hid (HM3.out.far (p := ⟨g2, k, none⟩) hgg (.int .i64 (cv + by_))); have HN4 := Lib.hid (HN3.out.far (p := ⟨g2, k, none⟩) hwg (.int .i64 (cv + by_))); have HB4 := Lib.hid (HB3.out.setCell (p := ⟨g2, k, none⟩) hg2b (.int .i64 (cv + by_)))
  have HO4 := Lib.hid (show (w3.setCell ⟨g2, k, none⟩ (.int .i64 (cv + by_))).ownsRow w.heap.size 3 1 (.slice (some ⟨g2, 0, none⟩) caps.length c2) caps.length ((caps.set k (cv + by_)).map (Value.int .i64)) from by have := (HO3.out.stored k (.int .i64 (cv + by_))).1; rwa [← List.map_set] at this)
  go_wp2_with fail
  go_region
  obtain ⟨w4, hw4⟩ : ∃ x, x = w3.setCell ⟨g2, k, none⟩ (.int .i64 (cv + by_)) := ⟨_, rfl⟩
  rw [← hw4] at HM4 HN4 HB4 HO4 ⊢
  clear hw4 n0 n1 nf0 nf1 nz m0 m1 mf0 mf1 mz q0 qf HM3 HN3 HB3 HO3
  have HB4' := Lib.hid (HB4.out.drew); have HN4' := Lib.hid HN4.out.drew; have HM4' := Lib.hid HM4.out.drew
  obtain ⟨m0, m1, mf0, mf1, mz⟩ := HM4'.out.two
  have HI4 := Lib.hid ((own_ints' HO4.out).at' (Below.refl _ _).drew)
  have hsl : (caps.set k (cv + by_)).length = caps.length := List.length_set ..
  go_wp2_with fail
  refine (refFill_tot (some ⟨g2, 0, none⟩) c2 _ (caps.set k (cv + by_)) P cp _ paths S4 w4.drew.heap.size _ (Nat.le_refl _) HI4.out ((HP.out.below HB4'.out (Nat.le_refl _)).more HB4'.out.size) hsl.symm rfl (by omega) (fun p hp => by have := HSH4.out p hp; omega) HS4'.out).mono ?_; rintro r ww ⟨A4, c4, U, rfl, hf4, hb4⟩
  have HB5 := Lib.hid (HB4'.out.trans (hb4.mono HB4'.out.size)); have HN5 := Lib.hid (HN4'.out.go hb4); have HFR := Lib.hid hf4
  clear hb4 hf4 HB HN m0 m1 mf0 mf1 mz hz HB4 HB4' HN4 HN4' HM4 HM4' HO4 HI4 hsl
  have HB := HB5; have HN := HN5
  clear HB5 HN5
  have hz := HB.out.size
  obtain ⟨n0, n1, nf0, nf1, nz⟩ := HN.out.two
  go_wp2_with fail
  refine (wider_v (some ⟨b, off, none⟩) cc caps P cp paths (k : Int) by_ w.heap.size _ (by first | omega | (focus (simp; done)) | (simp; omega)) (HC.out.below HB.out (Nat.le_refl _)) (HP.out.below HB.out (Nat.le_refl _)) 0 S4 HE4.out HS4.out (.nilIface) errVal_zero S4.length rfl).mono ?_; rintro r ww ⟨A5, c5, rfl, hf5, hb⟩
  have HFA := Lib.hid hf5
  replace HFR := Lib.hid (HFR.out.at' hb)
  clear hf5
  have HBx := Lib.hid (HB.out.trans (hb.mono HB.out.size)); have HNx := Lib.hid (HN.out.go hb)
  clear HB HN n0 n1 nf0 nf1 nz hb hz
  have HB := HBx; have HN := HNx
  clear HBx HNx
  have hz := HB.out.size
  obtain ⟨n0, n1, nf0, nf1, nz⟩ := HN.out.two
  go_wp2_with fail
  refine (same_ok _).mono ?_; rintro r ww ⟨rfl, hb⟩
  have HBx := Lib.hid (HB.out.trans (hb.mono HB.out.size)); have HNx := Lib.hid (HN.out.go hb)
  replace HFA := Lib.hid (HFA.out.at' hb)
  replace HFR := Lib.hid (HFR.out.at' hb)
  clear HB HN n0 n1 nf0 nf1 nz hb hz
  have HB := HBx; have HN := HNx
  clear HBx HNx
  have hz := HB.out.size
  obtain ⟨n0, n1, nf0, nf1, nz⟩ := HN.out.two
  go_wp2_with fail
  refine (sameFr_any A5 A4 c5 c4 _ _ S4 S4 _ _ _ HFA.out HFR.out rfl rfl (Nat.le_refl _) (Nat.le_refl _) true (decide_eq_true rfl)).mono ?_; rintro r ww ⟨rfl, hb⟩
  clear HFA HFR
  have HBx := Lib.hid (HB.out.trans (hb.mono HB.out.size)); have HNx := Lib.hid (HN.out.go hb)
  clear HB HN n0 n1 nf0 nf1 nz hb hz
  have HB := HBx; have HN := HNx
  clear HBx HNx
  have hz := HB.out.size
  obtain ⟨n0, n1, nf0, nf1, nz⟩ := HN.out.two
  go_wp2
  go_ret
  exact ⟨rfl, HB.out⟩
end Go.Proofs.YtblanfaghnflkaaDoor
