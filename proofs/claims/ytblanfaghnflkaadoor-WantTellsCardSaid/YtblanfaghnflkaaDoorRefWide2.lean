/- The reference's wide net. -/
import Derived.Test.YtblanfaghnflkaaDoorRefWide
import Derived.Test.YtblanfaghnflkaaDoorWantOwn
namespace Go.Proofs.YtblanfaghnflkaaDoor
open Go.RowKit
set_option maxHeartbeats 16000000 in
set_option maxRecDepth 100000 in
theorem refWide_own (C : Option Addr) (cc : Nat) (caps : List Int) (P : Option Addr) (cp : Nat) (paths : List (List Int)) (A : Option Addr) (c : Nat) (want : List Int) (B : Nat) (w : World) (hB : B ≤ w.heap.size) (hc : Ints w B C cc caps) (hp : Rows2 w B P cp paths) (hi : Ints w B A c want)
    (hl : want.length = paths.length) (h0 : 0 < paths.length) (hp6 : paths.length ≤ 6) (hc0 : 0 < caps.length) (hc6 : caps.length ≤ 6) (hll : ∀ l ∈ paths, 0 < l.length ∧ l.length ≤ 1000) :
    Calls Tryd.prog 56 #[.agg #[.slice C caps.length cc, .slice P paths.length cp], .slice A want.length c] w fun e w' => ∃ C' n cc' P' m cp' vs, e = .returned (.agg #[.slice C' n cc', .slice P' m cp']) ∧ n = (caps ++ want).length ∧ m = (wideP paths caps.length).length ∧ NetOwn w' w.heap.size (.slice C' n cc') (.slice P' m cp') vs (caps ++ want) (wideP paths caps.length) ∧ Below w.heap.size w w' := by
  have HC := Lib.hid hc; have HP := Lib.hid hp; have HI := Lib.hid hi; have HLL := Lib.hid hll
  have hcm := hc.cap; have hcl := hc.le; have hpm := hp.cap; have hpl := hp.le; have him := hi.cap; have hil := hi.le
  unfold maxLen at hcm hpm him
  obtain ⟨bc, oc, rfl, hbc, hcc⟩ := hc.rd.2 hc0
  obtain ⟨bi, oi, rfl, hbi, hii⟩ := hi.rd.2 (by omega)
  have HCC := Lib.hid (show ∀ (W : World), Below w.heap.size w W → ∀ (j : Nat) (u : Value), (caps.map (Value.int .i64))[j]? = some u → W.cell? ((⟨bc, oc, none⟩ : Addr).add j) = some u from fun W hW j u hu => by rw [addr_add']; exact (hW.cell (p := ⟨bc, oc + j, none⟩) (by show bc < _; omega)).trans (hcc j u hu))
  have HII := Lib.hid (show ∀ (W : World), Below w.heap.size w W → ∀ (j : Nat) (u : Value), (want.map (Value.int .i64))[j]? = some u → W.cell? ((⟨bi, oi, none⟩ : Addr).add j) = some u from fun W hW j u hu => by rw [addr_add']; exact (hW.cell (p := ⟨bi, oi + j, none⟩) (by show bi < _; omega)).trans (hii j u hu))
  obtain ⟨i0, hi0, hz0, hz1, hz2⟩ := info_parts Tryd.info_int
  obtain ⟨w3, hw3⟩ : ∃ x, x = (((w.alloc (.cells #[.slice (some ⟨bc, oc, none⟩) caps.length cc, .slice P paths.length cp] 43)).alloc (.cells #[.slice none 0 0, .slice none 0 0] 43)).alloc (.cells #[.slice none 0 0, .slice none 0 0] 43)) := ⟨_, rfl⟩
  have HN3 := Lib.hid (show Blk w3 w.heap.size 43 #[.slice (some ⟨bc, oc, none⟩) caps.length cc, .slice P paths.length cp] from by rw [hw3]; exact ((Blk.new _ _ _).alloc _).alloc _)
  have HR3 := Lib.hid (show Blk w3 (w.heap.size + 1) 43 #[.slice none 0 0, .slice none 0 0] from by rw [hw3]; exact (Blk.new' _ _ _ (by simp)).alloc _)
  have HM3 := Lib.hid (show Blk w3 (w.heap.size + 1 + 1) 43 #[.slice none 0 0, .slice none 0 0] from by rw [hw3]; exact Blk.new' _ _ _ (by simp))
  have HB3 := Lib.hid (show Below w.heap.size w w3 from by rw [hw3]; exact (((Below.refl _ _).alloc (Nat.le_refl _) _).alloc (by simp) _).alloc (by simp; omega) _)
  have hBz := HB3.out.size
  have HMEM : ∀ u ∈ caps.map (Value.int .i64), u.oneCell' = true := fun u hu => by obtain ⟨x, _, rfl⟩ := List.mem_map.1 hu; rfl
  have HMEI : ∀ u ∈ want.map (Value.int .i64), u.oneCell' = true := fun u hu => by obtain ⟨x, _, rfl⟩ := List.mem_map.1 hu; rfl
  have hmap : (caps.map (Value.int .i64)).length = caps.length * 1 := by simp
  have hmapi : (want.map (Value.int .i64)).length = want.length * 1 := by simp
  have HME := Lib.hid HMEM; have HMI := Lib.hid HMEI; have HMC := Lib.hid hmap; have HMW := Lib.hid hmapi
  have HL := Lib.hid hl
  have hw6 : want.length ≤ 6 := by omega
  have hne2 : w.heap.size + 1 + 1 ≠ w.heap.size + 1 := by omega
  have hne1 : w.heap.size + 1 + 1 ≠ w.heap.size := by omega
  clear hc hp hi hll hcc hii HMEM HMEI hmap hmapi hl
  go_enter Tryd.func56, Tryd.ntmps56
  go_upto_region 2 with (fail)
  rw [← hw3]
  clear hw3
  obtain ⟨m0, m1, mf0, mf1, mz⟩ := HM3.out.two
  obtain ⟨n0, n1, nf0, nf1, nz⟩ := HN3.out.two
  go_upto_region 3 with (at_builtin; refine wpList_append_own _ rfl (.tmp 9) (.tmp 11) 40 rfl w.heap.size 3 i0 (.int .i64 0) 1 8 Tryd.underlying40 hi0 hz0 hz1 hz2 rfl (by omega) (.slice none 0 0) 0 [] rfl (World.ownsRow_nil _ _ _ _) ⟨bc, oc, none⟩ caps.length cc (caps.map (Value.int .i64)) rfl HMC.out (HCC.out _ HB3.out) HME.out (by simp only [maxLen]; omega) (by omega) hBz ?_; intro v6 wm hown6 hgrow6 _; rw [Nat.zero_add, List.nil_append] at hown6; obtain ⟨A6, c6, rfl, hl6, hm6, _⟩ := owns_reads hown6; have HO6 := Lib.hid hown6; have HBM : Hid (Below w.heap.size w wm) := Lib.hid (HB3.out.grown hgrow6 hBz (fun k hk => by cases hk)); have HMM : Hid (Blk wm (w.heap.size + 1 + 1) 43 _) := Lib.hid (HM3.out.grown hgrow6 (fun e => by cases e)); have HRM : Hid (Blk wm (w.heap.size + 1) 43 _) := Lib.hid (HR3.out.grown hgrow6 (fun e => by cases e)); have HNM : Hid (Blk wm w.heap.size 43 _) := Lib.hid (HN3.out.grown hgrow6 (fun e => by cases e)); clear hown6 hgrow6 m0 m1 mf0 mf1 mz n0 n1 nf0 nf1 nz; obtain ⟨m0, m1, mf0, mf1, mz⟩ := HMM.out.two)
  unfold maxLen at hm6
  have HM5 := Lib.hid (HMM.out.s2_0 (.slice A6 caps.length c6))
  have HO5 := Lib.hid (own_farB HO6.out (own_blk_ne HO6.out HMM.out (by decide)) (k := 0) (.slice A6 caps.length c6))
  have HR5 := Lib.hid (HRM.out.far (p := ⟨w.heap.size + 1 + 1, 0, none⟩) hne2.symm (.slice A6 caps.length c6))
  have HN5 := Lib.hid (HNM.out.far (p := ⟨w.heap.size + 1 + 1, 0, none⟩) hne1.symm (.slice A6 caps.length c6))
  have HB5 := Lib.hid (HBM.out.setCell (p := ⟨w.heap.size + 1 + 1, 0, none⟩) (show w.heap.size ≤ w.heap.size + 1 + 1 by omega) (.slice A6 caps.length c6))
  obtain ⟨w5, hw5⟩ : ∃ x, x = wm.setCell ⟨w.heap.size + 1 + 1, 0, none⟩ (.slice A6 caps.length c6) := ⟨_, rfl⟩
  rw [← hw5] at HM5 HO5 HR5 HN5 HB5 ⊢
  have hz5 := HB5.out.size
  clear hw5 m0 m1 mf0 mf1 mz HM3 HR3 HN3 HB3 HMM HRM HNM HBM HO6
  obtain ⟨m0, m1, mf0, mf1, mz⟩ := HM5.out.two
  go_upto_region 4 with (at_builtin; refine wpList_append_own _ rfl (.tmp 15) (.tmp 16) 40 rfl w.heap.size 3 i0 (.int .i64 0) 1 8 Tryd.underlying40 hi0 hz0 hz1 hz2 rfl (by omega) _ caps.length (caps.map (Value.int .i64)) rfl HO5.out ⟨bi, oi, none⟩ want.length c (want.map (Value.int .i64)) rfl HMW.out (HII.out _ HB5.out) HMI.out (by simp only [maxLen]; omega) (by omega) hz5 ?_; intro v7 w7 hown7 hg7 _; obtain ⟨A7, c7, rfl, hl7, hm7, _⟩ := owns_reads hown7; have HO7 := Lib.hid hown7; have HB7 := Lib.hid (below_push HB5.out HO5.out hg7 (Nat.le_refl _) hz5); have HM7 := Lib.hid (HM5.out.grown hg7 fun e => own_blk_ne HO5.out HM5.out (by decide) e.symm); have HR7 := Lib.hid (HR5.out.grown hg7 fun e => own_blk_ne HO5.out HR5.out (by decide) e.symm); have HN7 := Lib.hid (HN5.out.grown hg7 fun e => own_blk_ne HO5.out HN5.out (by decide) e.symm); clear hown7 hg7 m0 m1 mf0 mf1 mz; obtain ⟨m0, m1, mf0, mf1, mz⟩ := HM7.out.two)
  have hcw : (caps ++ want).length = caps.length + want.length := List.length_append
  obtain ⟨mm, hmm⟩ : ∃ m, m = caps.length + want.length := ⟨_, rfl⟩
  have HCW := Lib.hid (hcw.trans hmm.symm)
  have HOC : Hid (w7.ownsRow w.heap.size 3 1 (.slice A7 mm c7) (caps ++ want).length ((caps ++ want).map (Value.int .i64))) := Lib.hid (by rw [hcw, List.map_append, hmm]; exact HO7.out)
  have HM8 := Lib.hid (HM7.out.s2_0 (.slice A7 mm c7))
  have HR8 := Lib.hid (HR7.out.far (p := ⟨w.heap.size + 1 + 1, 0, none⟩) hne2.symm (.slice A7 mm c7))
  have HN8 := Lib.hid (HN7.out.far (p := ⟨w.heap.size + 1 + 1, 0, none⟩) hne1.symm (.slice A7 mm c7))
  have HB8 := Lib.hid (HB7.out.setCell (p := ⟨w.heap.size + 1 + 1, 0, none⟩) (show w.heap.size ≤ w.heap.size + 1 + 1 by omega) (.slice A7 mm c7))
  have HO8 : Hid (NetOwn (w7.setCell ⟨w.heap.size + 1 + 1, 0, none⟩ (.slice A7 mm c7)) w.heap.size (.slice A7 mm c7) (.slice none 0 0) [] (caps ++ want) ((wideP paths caps.length).take 0)) := Lib.hid ⟨own_farB HOC.out (own_blk_ne HOC.out HM7.out (by decide)) _, World.ownsRow_nil _ _ _ _, fun i u l h => by simp at h, fun i u h => by simp at h, fun i j u u' h => by simp at h⟩
  rw [← hmm]
  obtain ⟨w8, hw8⟩ : ∃ x, x = w7.setCell ⟨w.heap.size + 1 + 1, 0, none⟩ (.slice A7 mm c7) := ⟨_, rfl⟩
  rw [← hw8] at HM8 HR8 HN8 HB8 HO8 ⊢
  have hmm12 : mm ≤ 12 := by omega
  clear hw8 m0 m1 mf0 mf1 mz HM7 HR7 HN7 HB7 HO7 HOC HM5 HR5 HN5 HB5 HO5 hcw hmm hz5 hBz
  go_wp2
  go_loopw [6] (fun iv wr => ∃ (k : Nat) (pv : Value) (vs : List Value), k ≤ paths.length ∧ iv = .int .i64 k ∧ Hid (NetOwn wr w.heap.size (.slice A7 mm c7) pv vs (caps ++ want) ((wideP paths caps.length).take k)) ∧ Hid (Blk wr (w.heap.size + 1 + 1) 43 #[.slice A7 mm c7, pv]) ∧ Hid (Blk wr (w.heap.size + 1) 43 #[.slice none 0 0, .slice none 0 0]) ∧ Hid (Blk wr w.heap.size 43 #[.slice (some ⟨bc, oc, none⟩) caps.length cc, .slice P paths.length cp]) ∧ Hid (Below w.heap.size w wr)) (fun iv _ => paths.length - (intOf iv).toNat)
  case atStart => exact ⟨0, _, [], Nat.zero_le _, rfl, HO8, HM8, HR8, HN8, HB8⟩
  case round =>
    clear HO8 HM8 HR8 HN8 HB8
    obtain ⟨k, pv, vs, hk, rfl, HO, HM, HR, HN, HB⟩ := hrel
    have hsz := HB.out.size
    obtain ⟨n0, n1, nf0, nf1, nz⟩ := HN.out.two
    by_cases hlt : k < paths.length
    · obtain ⟨b, off, A', c', l, rfl, hbb, hcell, hi, HX⟩ := (HP.out.below HB.out hB).elem hlt
      have hbw : b < wr.heap.size := by omega
      have k0 : (0 : Int) ≤ (k : Int) := by omega
      have k1 : (k : Int) < (paths.length : Int) := by omega
      have hlm := HLL.out l (List.mem_of_getElem? HX.out)
      obtain ⟨hl0, hl1⟩ := hlm
      obtain ⟨bl, ol, rfl, hbl, hlc⟩ := hi.rd.2 hl0
      have HLC := Lib.hid (show ∀ (j : Nat) (u : Value), (l.map (Value.int .i64))[j]? = some u → wr.cell? ((⟨bl, ol, none⟩ : Addr).add j) = some u from fun j u hu => by rw [addr_add']; exact hlc j u hu)
      have HLN : Hid ((l.map (Value.int .i64)).length = l.length * 1) := Lib.hid (by simp)
      have HLO : Hid (∀ u ∈ l.map (Value.int .i64), u.oneCell' = true) := Lib.hid fun u hu => by obtain ⟨x, _, rfl⟩ := List.mem_map.1 hu; rfl
      have hlcap := hi.cap; have hlcl := hi.le
      unfold maxLen at hlcap
      have HTK : Hid ((wideP paths caps.length).take (k + 1) = (wideP paths caps.length).take k ++ [l ++ [((caps.length + k : Nat) : Int)]]) := Lib.hid (by
        refine take_snoc' _ k _ ?_
        have := wideP_at (n := caps.length) hlt
        rw [List.getD_eq_getElem?_getD, List.getElem?_eq_getElem (by rw [wideP_len]; exact hlt)] at this
        rw [List.getElem?_eq_getElem (by rw [wideP_len]; exact hlt)]
        have hx : paths.getD k [] = l := by rw [List.getD_eq_getElem?_getD, HX.out]; rfl
        rw [hx] at this
        exact congrArg some this)
      have htl : ((wideP paths caps.length).take k).length = k := by rw [List.length_take, wideP_len]; omega
      have HTL := Lib.hid htl
      clear hi HX hlc htl
      go_upto_region 8 with (fail)
      go_upto_region 9 with (at_builtin; refine wpList_append_own _ rfl (.tmp 26) (.tmp 31) 40 rfl wr.heap.size 3 i0 (.int .i64 0) 1 8 Tryd.underlying40 hi0 hz0 hz1 hz2 rfl (by omega) (.slice none 0 0) 0 [] rfl (World.ownsRow_nil _ _ _ _) ⟨bl, ol, none⟩ l.length c' (l.map (Value.int .i64)) rfl HLN.out HLC.out HLO.out (by simp only [maxLen]; omega) (by omega) (Nat.le_refl _) ?_; intro v1 w1 hown1 hg1 _; rw [Nat.zero_add, List.nil_append] at hown1; obtain ⟨A1, c1, rfl, hl1', hm1, _⟩ := owns_reads hown1; have HP1 := Lib.hid hown1; have HB1 : Hid (Below wr.heap.size wr w1) := Lib.hid ((Below.refl _ _).grown hg1 (Nat.le_refl _) (fun k hk => by cases hk)); clear hown1 hg1 n0 n1 nf0 nf1 nz)
      have HN1 := Lib.hid (HN.out.go HB1.out)
      obtain ⟨n0, n1, nf0, nf1, nz⟩ := HN1.out.two
      have hz1' := HB1.out.size
      go_upto_region 10 with (at_builtin; refine wpList_push w1 _ rfl (.tmp 33) (.tmp 39) 40 rfl wr.heap.size 3 (.int .i64 0) 1 8 Tryd.underlying40 Tryd.info_int rfl (by omega) _ _ _ rfl HP1.out rfl rfl (by simp [Value.oneCell']) (by omega) (by omega) hz1' ?_; intro v2 w2 hown2 hg2; obtain ⟨g2, c2, rfl, _, _, _, _⟩ := own_form hown2 (Nat.succ_pos _); have HP2 := Lib.hid hown2; have HB2 : Hid (Below wr.heap.size wr w2) := Lib.hid (below_push HB1.out HP1.out hg2 (Nat.le_refl _) hz1'); clear hown2 hg2)
      have HO2 := Lib.hid (HO.out.below HB2.out)
      have HM2 := Lib.hid (HM.out.go HB2.out)
      have HR2 := Lib.hid (HR.out.go HB2.out)
      have HN2 := Lib.hid (HN.out.go HB2.out)
      have HBw2 := Lib.hid (HB.out.trans (HB2.out.mono hsz))
      have hz2' := HB2.out.size
      have hzw2 := HBw2.out.size
      have HLT := Lib.hid HO.out.lt
      have HPU : Hid (w2.ownsRow wr.heap.size 3 1 (.slice (some ⟨g2, 0, none⟩) (l.length + 1) c2) (l ++ [((caps.length + k : Nat) : Int)]).length ((l ++ [((caps.length + k : Nat) : Int)]).map (Value.int .i64))) := Lib.hid (by rw [List.length_append, List.map_append]; exact HP2.out)
      clear n0 n1 nf0 nf1 nz
      obtain ⟨m0, m1, mf0, mf1, mz⟩ := HM2.out.two
      have HOK : Hid (w2.ownsRow w.heap.size 40 1 pv k vs) := Lib.hid (by have := HO2.out.own; rwa [HTL.out] at this)
      go_wp2_with (at_builtin; refine wpList_push w2 _ rfl (.tmp 42) (.tmp 44) 41 rfl w.heap.size 40 (.slice none 0 0) 1 24 Tryd.underlying41 Tryd.info_row rfl (by omega) _ _ _ rfl HOK.out rfl rfl (by simp [Value.oneCell']) (by omega) (by decide) hzw2 ?_; intro v3 w3 hown3 hg3; have HO3 := Lib.hid (NetOwn.push HO2.out HLT.out HPU.out hsz (by rw [HTL.out]; exact hown3) hg3); have HM3 := Lib.hid (HM2.out.grown hg3 fun e => own_blk_ne HOK.out HM2.out (by decide) e.symm); have HR3 := Lib.hid (HR2.out.grown hg3 fun e => own_blk_ne HOK.out HR2.out (by decide) e.symm); have HN3 := Lib.hid (HN2.out.grown hg3 fun e => own_blk_ne HOK.out HN2.out (by decide) e.symm); have HB3 := Lib.hid (below_push HBw2.out HOK.out hg3 (Nat.le_refl _) hzw2); obtain ⟨g3, c3, rfl, _, _, _, _⟩ := own_form hown3 (Nat.succ_pos _); clear hown3 hg3 m0 m1 mf0 mf1 mz; obtain ⟨m0, m1, mf0, mf1, mz⟩ := HM3.out.two)
      go_roundw
      case rel => exact ⟨k + 1, _, _, by omega, by go_num, by rw [HTK.out]; exact Lib.hid (HO3.out.far HM3.out (by decide) (by decide) 1 _), Lib.hid (HM3.out.s2_1 _), Lib.hid (HR3.out.far (p := ⟨w.heap.size + 1 + 1, 1, none⟩) hne2.symm _), Lib.hid (HN3.out.far (p := ⟨w.heap.size + 1 + 1, 1, none⟩) hne1.symm _), Lib.hid (HB3.out.setCell (p := ⟨w.heap.size + 1 + 1, 1, none⟩) (show w.heap.size ≤ w.heap.size + 1 + 1 by omega) _)⟩
      case measure => simp [intOf]; omega
    · obtain rfl : k = paths.length := by omega
      have htk : (wideP paths caps.length).take paths.length = wideP paths caps.length := by rw [← wideP_len paths caps.length, List.take_length]
      rw [htk] at HO
      clear htk
      obtain ⟨Pv, cpv, rfl, _⟩ := HO.out.rows
      obtain ⟨m0, m1, mf0, mf1, mz⟩ := HM.out.two
      obtain ⟨r0, r1, rf0, rf1, rz⟩ := HR.out.two
      have HOF := Lib.hid ((HO.out.far HR.out (by decide) (by decide) 0 (.slice A7 mm c7)).far (HR.out.s2_0 _) (by decide) (by decide) 1 (.slice Pv (wideP paths caps.length).length cpv))
      have HBF := Lib.hid ((HB.out.setCell (p := ⟨w.heap.size + 1, 0, none⟩) (Nat.le_succ _) (.slice A7 mm c7)).setCell (p := ⟨w.heap.size + 1, 1, none⟩) (Nat.le_succ _) (.slice Pv (wideP paths caps.length).length cpv))
      obtain ⟨PL, hPL⟩ : ∃ l, (wideP paths caps.length).length = l := ⟨_, rfl⟩
      have HPL := Lib.hid hPL
      rw [hPL] at m1 HOF HBF
      clear hPL
      go_wp2
      refine bodyPost_ret (v := .agg #[.slice A7 mm c7, .slice Pv PL cpv]) (by simp [results, Tryd.results56, go_sem, r0, r1]) rfl ?_
      exact ⟨A7, mm, c7, Pv, PL, cpv, vs, rfl, HCW.out.symm, HPL.out.symm, HOF.out, HBF.out⟩
/-- what a net of one's own reads as -/
theorem NetOwn.both {w : World} {base n m cc cp : Nat} {C P : Option Addr} {vs : List Value} {caps : List Int} {L : List (List Int)} (h : NetOwn w base (.slice C n cc) (.slice P m cp) vs caps L) : Ints w w.heap.size C cc caps ∧ Rows2 w w.heap.size P cp L := by
  obtain ⟨A9, c9, hv9, _, hi9⟩ := owns_ints h.capO
  injection hv9 with e1 _ e3
  subst e1 e3
  obtain ⟨A8, c8, hv8, hr8⟩ := h.rows
  injection hv8 with e1 _ e3
  subst e1 e3
  exact ⟨hi9, hr8⟩
theorem NetOwn.at' {w w' : World} {base : Nat} {cv pv : Value} {vs : List Value} {caps : List Int} {L : List (List Int)} (h : NetOwn w base cv pv vs caps L) (hb : Below w.heap.size w w') : NetOwn w' base cv pv vs caps L := h.below hb
end Go.Proofs.YtblanfaghnflkaaDoor
