/- net.Add. -/
import Derived.Test.YthffjnfnfddpdaaNetOwn2
import Derived.Test.YthffjnfnfddpdaaPlNet2
namespace Go.Proofs.Ythffjnfnfddpdaa
open Go.RowKit
abbrev noNet : Value := .agg #[.slice none 0 0, .slice none 0 0]
set_option maxHeartbeats 4000000 in
set_option maxRecDepth 100000 in
theorem add_no (C : Option Addr) (cc : Nat) (caps : List Int) (P : Option Addr) (cp : Nat) (paths : List (List Int)) (A : Option Addr) (c : Nat) (path : List Int) (B : Nat) (w : World) (er : Int) (hB : B ≤ w.heap.size)
    (hc : Ints w B C cc caps) (hp : Rows2 w B P cp paths) (hi : Ints w B A c path) (he : addErr caps paths path = er) (h0 : er ≠ 0) :
    Calls Try.prog 35 #[.agg #[.slice C caps.length cc, .slice P paths.length cp], .slice A path.length c] w fun e w' => e = .returned (.tuple #[.agg #[.slice none 0 0, .slice none 0 0], .iface 103 (.int .i64 er)]) ∧ Below w.heap.size w w' := by
  have HN0 := Lib.hid ((Blk.new w 56 #[.slice C caps.length cc, .slice P paths.length cp]).alloc (.cells #[.slice none 0 0, .slice none 0 0] 56))
  have HR0 := Lib.hid (Blk.new' (w.alloc (.cells #[.slice C caps.length cc, .slice P paths.length cp] 56)) 56 #[.slice none 0 0, .slice none 0 0] (g := w.heap.size + 1) (by simp))
  have HB0 := Lib.hid (((Below.refl w.heap.size w).alloc (Nat.le_refl _) (.cells #[.slice C caps.length cc, .slice P paths.length cp] 56)).alloc (by simp) (.cells #[.slice none 0 0, .slice none 0 0] 56))
  have HCK := Lib.hid (ncheck_all C cc caps P cp paths B _ (by simp; omega) (hc.below HB0.out hB) (hp.below HB0.out hB))
  have HI := Lib.hid hi
  clear hc hp hi
  have hlast : ∀ W : World, Blk W (w.heap.size + 1) 56 #[.slice none 0 0, .slice none 0 0] → Below w.heap.size w W → Below w.heap.size w ((W.setCell ⟨w.heap.size + 1, 0, none⟩ (.slice none 0 0)).setCell ⟨w.heap.size + 1, 1, none⟩ (.slice none 0 0)) := fun W _ h => (h.setCell (p := ⟨w.heap.size + 1, 0, none⟩) (Nat.le_succ _) _).setCell (p := ⟨w.heap.size + 1, 1, none⟩) (Nat.le_succ _) _
  have HL := Lib.hid hlast
  clear hlast
  unfold addErr at he
  by_cases h1 : netErr caps paths = 0
  · rw [if_pos h1] at he
    rw [h1, errVal_zero] at HCK
    obtain ⟨k0, k1, k2, k3, _, _⟩ := netErr_ok h1
    clear h1
    by_cases h6 : paths.length = 6
    · rw [if_pos h6] at he
      subst he
      clear h0 HI
      rw [h6] at HCK HB0 HR0 HN0 ⊢
      clear h6 k2 k3
      go_enter Try.func35, Try.ntmps35
      go_wp2_with fail
      refine HCK.out.mono ?_; rintro e w1 ⟨rfl, hb1⟩
      have HN1 := Lib.hid (HN0.out.go hb1)
      have HR1 := Lib.hid (HR0.out.go hb1)
      have HB1 := Lib.hid (HB0.out.trans (hb1.mono HB0.out.size))
      obtain ⟨n0, n1, nf0, nf1, nz⟩ := HN1.out.two
      obtain ⟨r0, r1, rf0, rf1, rz⟩ := HR1.out.two
      clear hb1 HCK
      go_wp2
      exact bodyPost_ret (v := .tuple #[.agg #[.slice none 0 0, .slice none 0 0], .iface 103 (.int .i64 4)]) (by simp [results, Try.results35, go_sem, r0, r1]) rfl ⟨rfl, HL.out _ HR1.out HB1.out⟩
    · rw [if_neg h6] at he
      have e6 : ((paths.length : Int) == 6) = false := beq_eq_false_iff_ne.2 (by omega)
      have hp := fun (W : World) (h : Below w.heap.size w W) => path_all caps.length A c path B W (HI.out.below h hB)
      rw [he, errVal_pos h0] at hp
      have HP := Lib.hid hp
      clear hp h0 he h6 HI
      go_enter Try.func35, Try.ntmps35
      go_wp2_with fail
      refine HCK.out.mono ?_; rintro e w1 ⟨rfl, hb1⟩
      have HN1 := Lib.hid (HN0.out.go hb1)
      have HR1 := Lib.hid (HR0.out.go hb1)
      have HB1 := Lib.hid (HB0.out.trans (hb1.mono HB0.out.size))
      obtain ⟨n0, n1, nf0, nf1, nz⟩ := HN1.out.two
      obtain ⟨r0, r1, rf0, rf1, rz⟩ := HR1.out.two
      clear hb1 HCK
      go_wp2_with fail
      refine (HP.out _ HB1.out).mono ?_; rintro e w' ⟨rfl, rfl⟩
      go_wp2
      exact bodyPost_ret (v := .tuple #[.agg #[.slice none 0 0, .slice none 0 0], .iface 103 (.int .i64 er)]) (by simp [results, Try.results35, go_sem, r0, r1]) rfl ⟨rfl, HL.out _ HR1.out HB1.out⟩
  · rw [if_neg h1] at he
    rw [he, errVal_pos h0] at HCK
    clear h1 he h0 HI
    go_enter Try.func35, Try.ntmps35
    go_wp2_with fail
    refine HCK.out.mono ?_; rintro e w1 ⟨rfl, hb1⟩
    have HR1 := Lib.hid (HR0.out.go hb1)
    have HB1 := Lib.hid (HB0.out.trans (hb1.mono HB0.out.size))
    obtain ⟨r0, r1, rf0, rf1, rz⟩ := HR1.out.two
    clear hb1 HCK
    go_wp2
    exact bodyPost_ret (v := .tuple #[.agg #[.slice none 0 0, .slice none 0 0], .iface 103 (.int .i64 er)]) (by simp [results, Try.results35, go_sem, r0, r1]) rfl ⟨rfl, HL.out _ HR1.out HB1.out⟩
set_option maxHeartbeats 4000000 in
set_option maxRecDepth 100000 in
theorem add_yes (C : Option Addr) (cc : Nat) (caps : List Int) (P : Option Addr) (cp : Nat) (paths : List (List Int)) (A : Option Addr) (c : Nat) (path : List Int) (B : Nat) (w : World) (hB : B ≤ w.heap.size)
    (hc : Ints w B C cc caps) (hp : Rows2 w B P cp paths) (hi : Ints w B A c path) (he : addErr caps paths path = 0) :
    Calls Try.prog 35 #[.agg #[.slice C caps.length cc, .slice P paths.length cp], .slice A path.length c] w fun e w' => ∃ nv, e = .returned (.tuple #[nv, .nilIface]) ∧ NetAt w' w'.heap.size nv caps (paths ++ [path]) ∧ Below w.heap.size w w' := by
  have HN0 := Lib.hid ((Blk.new w 56 #[.slice C caps.length cc, .slice P paths.length cp]).alloc (.cells #[.slice none 0 0, .slice none 0 0] 56))
  have HR0 := Lib.hid (Blk.new' (w.alloc (.cells #[.slice C caps.length cc, .slice P paths.length cp] 56)) 56 #[.slice none 0 0, .slice none 0 0] (g := w.heap.size + 1) (by simp))
  have HB0 := Lib.hid (((Below.refl w.heap.size w).alloc (Nat.le_refl _) (.cells #[.slice C caps.length cc, .slice P paths.length cp] 56)).alloc (by simp) (.cells #[.slice none 0 0, .slice none 0 0] 56))
  have HCK := Lib.hid (ncheck_all C cc caps P cp paths B _ (by simp; omega) (hc.below HB0.out hB) (hp.below HB0.out hB))
  have HI := Lib.hid hi
  unfold addErr at he
  have h1 : netErr caps paths = 0 := by
    apply Decidable.byContradiction; intro h; rw [if_neg h] at he; exact h he
  rw [if_pos h1] at he
  rw [h1, errVal_zero] at HCK
  obtain ⟨k0, k1, k2, k3, _, _⟩ := netErr_ok h1
  have hsh := netErr_short h1
  clear h1
  have h6 : paths.length ≠ 6 := by
    intro h; rw [if_pos h] at he; exact absurd he (by decide)
  rw [if_neg h6] at he
  have hps := path_short he
  have e6 : ((paths.length : Int) == 6) = false := beq_eq_false_iff_ne.2 (by omega)
  have hpp := fun (W : World) (h : Below w.heap.size w W) => path_all caps.length A c path B W (HI.out.below h hB)
  rw [he, errVal_zero] at hpp
  have HP := Lib.hid hpp
  have HOW := Lib.hid fun (W : World) (h : Below w.heap.size w W) => own_any C cc caps P cp paths B W (Nat.le_trans hB h.size) (hc.below h hB) (hp.below h hB) (by omega) (by omega) (fun l hl => by have := hsh l hl; omega)
  clear hpp he h6 hsh hc hp hi
  go_enter Try.func35, Try.ntmps35
  go_wp2_with fail
  refine HCK.out.mono ?_; rintro e w1 ⟨rfl, hb1⟩
  have HN1 := Lib.hid (HN0.out.go hb1)
  have HR1 := Lib.hid (HR0.out.go hb1)
  have HB1 := Lib.hid (HB0.out.trans (hb1.mono HB0.out.size))
  obtain ⟨n0, n1, nf0, nf1, nz⟩ := HN1.out.two
  clear hb1 HCK HN0 HR0 HB0
  go_wp2_with fail
  refine (HP.out _ HB1.out).mono ?_; rintro e w' ⟨rfl, rfl⟩
  go_wp2_with fail
  refine (HOW.out _ HB1.out).mono ?_; rintro e w2 ⟨cv, pv, vs, rfl, ho, hb2⟩
  have HN2 := Lib.hid (HN1.out.go hb2)
  have HR2 := Lib.hid (HR1.out.go hb2)
  have HB2 := Lib.hid (HB1.out.trans (hb2.mono HB1.out.size))
  obtain ⟨Cv, ccv, rfl, _, _⟩ := owns_ints ho.capO
  obtain ⟨Pv, cpv, rfl, _⟩ := ho.rows
  have hsz1 := HB1.out.size
  have HO2 := Lib.hid ((ho.far HN2.out (by decide) (by decide) 0 (.slice Cv caps.length ccv)).far (HN2.out.s2_0 (.slice Cv caps.length ccv)) (by decide) (by decide) 1 (.slice Pv paths.length cpv))
  have HN3 := Lib.hid ((HN2.out.s2_0 (.slice Cv caps.length ccv)).s2_1 (.slice Pv paths.length cpv))
  have hne : w.heap.size + 1 ≠ w.heap.size := by omega
  have HR3 := Lib.hid ((HR2.out.far (p := ⟨w.heap.size, 0, none⟩) hne (.slice Cv caps.length ccv)).far (p := ⟨w.heap.size, 1, none⟩) hne (.slice Pv paths.length cpv))
  have HB3 := Lib.hid ((HB2.out.setCell (p := ⟨w.heap.size, 0, none⟩) (Nat.le_refl _) (.slice Cv caps.length ccv)).setCell (p := ⟨w.heap.size, 1, none⟩) (Nat.le_refl _) (.slice Pv paths.length cpv))
  have HLB0 : w1.heap.size ≤ ((w2.setCell ⟨w.heap.size, 0, none⟩ (.slice Cv caps.length ccv)).setCell ⟨w.heap.size, 1, none⟩ (.slice Pv paths.length cpv)).heap.size := by have := hb2.size; simpa [World.setCell] using this
  have HLB := Lib.hid HLB0
  clear n0 n1 nf0 nf1 nz ho hb2 HLB0
  obtain ⟨n0, n1, nf0, nf1, nz⟩ := HN2.out.two
  go_wp2_with fail
  obtain ⟨w3, hw3⟩ : ∃ x, x = (w2.setCell ⟨w.heap.size, 0, none⟩ (.slice Cv caps.length ccv)).setCell ⟨w.heap.size, 1, none⟩ (.slice Pv paths.length cpv) := ⟨_, rfl⟩
  rw [← hw3] at HO2 HN3 HR3 HB3 HLB ⊢
  clear n0 n1 nf0 nf1 nz HN2 HR2 HB2 HN1 HR1 hw3
  obtain ⟨n0, n1, nf0, nf1, nz⟩ := HN3.out.two
  have HI3 := Lib.hid (HI.out.below HB3.out hB)
  have hsz3 := HB3.out.size
  go_region_law (first
    | (refine step_push rfl (.tmp 32) (.tmp 35) 54 rfl w1.heap.size 38 (.slice none 0 0) 1 24 Try.underlying54 Try.info_row rfl (by omega) (.slice Pv paths.length cpv) paths.length vs rfl HOV.out _ #[.slice U path.length cu] rfl (heap_alloc_new _ _) rfl HU1.out (by omega) (by decide) hbz1 ?_; intro pv' w9 hown9 hg9 hblk9; have HO9 := Lib.hid (NetOwn.push (HOZ.out.below HAZ.out) HLT.out (own_below HU.out HAZ.out) hbb3 hown9 hg9); have HG9 := Lib.hid ((HGZ.out.alloc _).grown hg9 (fun e => own_blk_ne HOV.out (HGZ.out.alloc _) (by decide) e.symm)); have HR9 := Lib.hid ((HRZ.out.alloc _).grown hg9 (fun e => own_blk_ne HOV.out (HRZ.out.alloc _) (by decide) e.symm)); have HB9 := Lib.hid (below_push HBZ.out HOV.out hg9 hsz1 hbz2); clear hown9 hg9 hblk9; obtain ⟨P9, c9, hpv, _⟩ := HO9.out.rows; rw [show (paths ++ [path]).length = paths.length + 1 from (by simp)] at hpv; subst hpv; obtain ⟨x0, x1, y0, y1, yz⟩ := HG9.out.two)
    | (go_simp; go_at_call 68; refine (clone_any A c path B _ (by first | exact HI3.out | exact HI3.out.below (Below.refl _ _).drew (Nat.le_trans hB hsz3)) (by omega) (by first | omega | (simp; omega))).mono ?_; rintro e wz ⟨u, rfl, hu, hbz⟩; obtain ⟨U, cu, rfl, _, _⟩ := owns_ints hu; have HBW : Hid (Below w3.heap.size w3 wz) := Lib.hid ((Below.refl _ _).drew.trans hbz); have HU := Lib.hid hu; clear hu hbz; have HOZ := Lib.hid (HO2.out.below HBW.out); have HLT := Lib.hid HO2.out.lt; have HGZ := Lib.hid (HN3.out.go HBW.out); have HRZ := Lib.hid (HR3.out.go HBW.out); have HAZ : Hid (Below wz.heap.size wz (wz.alloc (.cells #[.slice U path.length cu] 38))) := Lib.hid ((Below.refl _ _).alloc (Nat.le_refl _) _); have HOV := Lib.hid (HOZ.out.own.alloc (.cells #[.slice U path.length cu] 38)); have hb3 := HB3.out.trans (HBW.out.mono hsz3); have hb4 := hb3.size; have HBZ := Lib.hid (hb3.alloc hb4 (.cells #[.slice U path.length cu] 38)); have hbb3 : w1.heap.size ≤ w3.heap.size := HLB.out; have hbz1 : w1.heap.size ≤ (wz.alloc (.cells #[.slice U path.length cu] 38)).heap.size := (by have := HBW.out.size; simp; omega); have hbz2 : w.heap.size ≤ (wz.alloc (.cells #[.slice U path.length cu] 38)).heap.size := HBZ.out.size; have HU1 : Hid (∀ x ∈ #[Value.slice U path.length cu].toList, x.oneCell' = true) := Lib.hid (by simp [Value.oneCell']); clear hb3 hb4; obtain ⟨h0, h1, e0, e1, ez⟩ := HGZ.out.two))
  all_goals
    have hne1 : w.heap.size + 1 ≠ w.heap.size := Nat.succ_ne_self _
    have HOA := Lib.hid (HO9.out.far HG9.out (by decide) (by decide) 1 (.slice P9 (paths.length + 1) c9))
    have HRA := Lib.hid (HR9.out.far (p := ⟨w.heap.size, 1, none⟩) hne1 (.slice P9 (paths.length + 1) c9))
    have HOB := Lib.hid ((HOA.out.far HRA.out (by decide) (by decide) 0 (.slice Cv caps.length ccv)).far (HRA.out.s2_0 (.slice Cv caps.length ccv)) (by decide) (by decide) 1 (.slice P9 (paths.length + 1) c9))
    have HBA := Lib.hid (((HB9.out.setCell (p := ⟨w.heap.size, 1, none⟩) (Nat.le_refl _) (.slice P9 (paths.length + 1) c9)).setCell (p := ⟨w.heap.size + 1, 0, none⟩) (Nat.le_succ _) (.slice Cv caps.length ccv)).setCell (p := ⟨w.heap.size + 1, 1, none⟩) (Nat.le_succ _) (.slice P9 (paths.length + 1) c9))
    obtain ⟨r0, r1, rf0, rf1, rz⟩ := HR9.out.two
    clear h0 h1 e0 e1 ez n0 n1 nf0 nf1 nz
    go_wp2
    refine bodyPost_ret (v := .tuple #[.agg #[.slice Cv caps.length ccv, .slice P9 (paths.length + 1) c9], .nilIface]) (by simp [results, Try.results35, go_sem, r0, r1]) rfl ⟨_, rfl, HOB.out.at_, HBA.out⟩
end Go.Proofs.Ythffjnfnfddpdaa
