/- Several texts in one: NetAdd, NetDel, NetDrop, NetSame, NetLaw. -/
import Derived.Test.YtblanfaghnflkaaDoorLibN
import Derived.Lib.SliceRun
import Derived.Test.YtblanfaghnflkaaDoorGap
/- net.Add. -/
namespace Go.Proofs.YtblanfaghnflkaaDoor
open Go.RowKit
abbrev noNet : Value := .agg #[.slice none 0 0, .slice none 0 0]
set_option maxHeartbeats 4000000 in
set_option maxRecDepth 100000 in
theorem add_no (C : Option Addr) (cc : Nat) (caps : List Int) (P : Option Addr) (cp : Nat) (paths : List (List Int)) (A : Option Addr) (c : Nat) (path : List Int) (B : Nat) (w : World) (er : Int) (hB : B ≤ w.heap.size)
    (hc : Ints w B C cc caps) (hp : Rows2 w B P cp paths) (hi : Ints w B A c path) (he : addErr caps paths path = er) (h0 : er ≠ 0) :
    Calls Tryd.prog 32 #[.agg #[.slice C caps.length cc, .slice P paths.length cp], .slice A path.length c] w fun e w' => e = .returned (.tuple #[.agg #[.slice none 0 0, .slice none 0 0], .iface 119 (.int .i64 er)]) ∧ Below w.heap.size w w' := by
  have HN0 := Lib.hid ((Blk.new w 43 #[.slice C caps.length cc, .slice P paths.length cp]).alloc (.cells #[.slice none 0 0, .slice none 0 0] 43))
  have HR0 := Lib.hid (Blk.new' (w.alloc (.cells #[.slice C caps.length cc, .slice P paths.length cp] 43)) 43 #[.slice none 0 0, .slice none 0 0] (g := w.heap.size + 1) (by simp))
  have HB0 := Lib.hid (((Below.refl w.heap.size w).alloc (Nat.le_refl _) (.cells #[.slice C caps.length cc, .slice P paths.length cp] 43)).alloc (by simp) (.cells #[.slice none 0 0, .slice none 0 0] 43))
  have HCK := Lib.hid (ncheck_all C cc caps P cp paths B _ (by simp; omega) (hc.below HB0.out hB) (hp.below HB0.out hB))
  have HI := Lib.hid hi
  clear hc hp hi
  have hlast : ∀ W : World, Blk W (w.heap.size + 1) 43 #[.slice none 0 0, .slice none 0 0] → Below w.heap.size w W → Below w.heap.size w ((W.setCell ⟨w.heap.size + 1, 0, none⟩ (.slice none 0 0)).setCell ⟨w.heap.size + 1, 1, none⟩ (.slice none 0 0)) := fun W _ h => (h.setCell (p := ⟨w.heap.size + 1, 0, none⟩) (Nat.le_succ _) _).setCell (p := ⟨w.heap.size + 1, 1, none⟩) (Nat.le_succ _) _
  have HL := Lib.hid hlast
  clear hlast
  unfold addErr at he
  by_cases h1 : netErr caps paths = 0
  · rw [if_pos h1] at he
    rw [h1, errVal_zero] at HCK
    obtain ⟨k0, k1, k2, k3, _, _⟩ := netErr_ok h1
    clear h1
    by_cases h6 : paths.length = 6
    · rw [if_pos h6] at he
      subst he
      clear h0 HI
      rw [h6] at HCK HB0 HR0 HN0 ⊢
      clear h6 k2 k3
      go_enter Tryd.func32, Tryd.ntmps32
      go_wp2_with fail
      refine HCK.out.mono ?_; rintro e w1 ⟨rfl, hb1⟩
      have HN1 := Lib.hid (HN0.out.go hb1)
      have HR1 := Lib.hid (HR0.out.go hb1)
      have HB1 := Lib.hid (HB0.out.trans (hb1.mono HB0.out.size))
      obtain ⟨n0, n1, nf0, nf1, nz⟩ := HN1.out.two
      obtain ⟨r0, r1, rf0, rf1, rz⟩ := HR1.out.two
      clear hb1 HCK
      go_wp2
      exact bodyPost_ret (v := .tuple #[.agg #[.slice none 0 0, .slice none 0 0], .iface 119 (.int .i64 4)]) (by simp [results, Tryd.results32, go_sem, r0, r1]) rfl ⟨rfl, HL.out _ HR1.out HB1.out⟩
    · rw [if_neg h6] at he
      have e6 : ((paths.length : Int) == 6) = false := beq_eq_false_iff_ne.2 (by omega)
      have hp := fun (W : World) (h : Below w.heap.size w W) => path_all caps.length A c path B W (HI.out.below h hB)
      rw [he, errVal_pos h0] at hp
      have HP := Lib.hid hp
      clear hp h0 he h6 HI
      go_enter Tryd.func32, Tryd.ntmps32
      go_wp2_with fail
      refine HCK.out.mono ?_; rintro e w1 ⟨rfl, hb1⟩
      have HN1 := Lib.hid (HN0.out.go hb1)
      have HR1 := Lib.hid (HR0.out.go hb1)
      have HB1 := Lib.hid (HB0.out.trans (hb1.mono HB0.out.size))
      obtain ⟨n0, n1, nf0, nf1, nz⟩ := HN1.out.two
      obtain ⟨r0, r1, rf0, rf1, rz⟩ := HR1.out.two
      clear hb1 HCK
      go_wp2_with fail
      refine (HP.out _ HB1.out).mono ?_; rintro e w' ⟨rfl, rfl⟩
      go_wp2
      exact bodyPost_ret (v := .tuple #[.agg #[.slice none 0 0, .slice none 0 0], .iface 119 (.int .i64 er)]) (by simp [results, Tryd.results32, go_sem, r0, r1]) rfl ⟨rfl, HL.out _ HR1.out HB1.out⟩
  · rw [if_neg h1] at he
    rw [he, errVal_pos h0] at HCK
    clear h1 he h0 HI
    go_enter Tryd.func32, Tryd.ntmps32
    go_wp2_with fail
    refine HCK.out.mono ?_; rintro e w1 ⟨rfl, hb1⟩
    have HR1 := Lib.hid (HR0.out.go hb1)
    have HB1 := Lib.hid (HB0.out.trans (hb1.mono HB0.out.size))
    obtain ⟨r0, r1, rf0, rf1, rz⟩ := HR1.out.two
    clear hb1 HCK
    go_wp2
    exact bodyPost_ret (v := .tuple #[.agg #[.slice none 0 0, .slice none 0 0], .iface 119 (.int .i64 er)]) (by simp [results, Tryd.results32, go_sem, r0, r1]) rfl ⟨rfl, HL.out _ HR1.out HB1.out⟩
set_option maxHeartbeats 4000000 in
set_option maxRecDepth 100000 in
theorem add_own (C : Option Addr) (cc : Nat) (caps : List Int) (P : Option Addr) (cp : Nat) (paths : List (List Int)) (A : Option Addr) (c : Nat) (path : List Int) (B : Nat) (w : World) (hB : B ≤ w.heap.size)
    (hc : Ints w B C cc caps) (hp : Rows2 w B P cp paths) (hi : Ints w B A c path) (he : addErr caps paths path = 0) :
    Calls Tryd.prog 32 #[.agg #[.slice C caps.length cc, .slice P paths.length cp], .slice A path.length c] w fun e w' => ∃ nv, e = .returned (.tuple #[nv, .nilIface]) ∧ NetFree w' nv caps (paths ++ [path]) ∧ Below w.heap.size w w' := by
  have HN0 := Lib.hid ((Blk.new w 43 #[.slice C caps.length cc, .slice P paths.length cp]).alloc (.cells #[.slice none 0 0, .slice none 0 0] 43))
  have HR0 := Lib.hid (Blk.new' (w.alloc (.cells #[.slice C caps.length cc, .slice P paths.length cp] 43)) 43 #[.slice none 0 0, .slice none 0 0] (g := w.heap.size + 1) (by simp))
  have HB0 := Lib.hid (((Below.refl w.heap.size w).alloc (Nat.le_refl _) (.cells #[.slice C caps.length cc, .slice P paths.length cp] 43)).alloc (by simp) (.cells #[.slice none 0 0, .slice none 0 0] 43))
  have HCK := Lib.hid (ncheck_all C cc caps P cp paths B _ (by simp; omega) (hc.below HB0.out hB) (hp.below HB0.out hB))
  have HI := Lib.hid hi
  unfold addErr at he
  have h1 : netErr caps paths = 0 := by
    apply Decidable.byContradiction; intro h; rw [if_neg h] at he; exact h he
  rw [if_pos h1] at he
  rw [h1, errVal_zero] at HCK
  obtain ⟨k0, k1, k2, k3, _, _⟩ := netErr_ok h1
  have hsh := netErr_short h1
  clear h1
  have h6 : paths.length ≠ 6 := by
    intro h; rw [if_pos h] at he; exact absurd he (by decide)
  rw [if_neg h6] at he
  have hps := path_short he
  have e6 : ((paths.length : Int) == 6) = false := beq_eq_false_iff_ne.2 (by omega)
  have hpp := fun (W : World) (h : Below w.heap.size w W) => path_all caps.length A c path B W (HI.out.below h hB)
  rw [he, errVal_zero] at hpp
  have HP := Lib.hid hpp
  have HOW := Lib.hid fun (W : World) (h : Below w.heap.size w W) => own_any C cc caps P cp paths B W (Nat.le_trans hB h.size) (hc.below h hB) (hp.below h hB) (by omega) (by omega) (fun l hl => by have := hsh l hl; omega)
  clear hpp he h6 hsh hc hp hi
  go_enter Tryd.func32, Tryd.ntmps32
  go_wp2_with fail
  refine HCK.out.mono ?_; rintro e w1 ⟨rfl, hb1⟩
  have HN1 := Lib.hid (HN0.out.go hb1)
  have HR1 := Lib.hid (HR0.out.go hb1)
  have HB1 := Lib.hid (HB0.out.trans (hb1.mono HB0.out.size))
  obtain ⟨n0, n1, nf0, nf1, nz⟩ := HN1.out.two
  clear hb1 HCK HN0 HR0 HB0
  go_wp2_with fail
  refine (HP.out _ HB1.out).mono ?_; rintro e w' ⟨rfl, rfl⟩
  go_wp2_with fail
  refine (HOW.out _ HB1.out).mono ?_; rintro e w2 ⟨cv, pv, vs, rfl, ho, hb2⟩
  have HN2 := Lib.hid (HN1.out.go hb2)
  have HR2 := Lib.hid (HR1.out.go hb2)
  have HB2 := Lib.hid (HB1.out.trans (hb2.mono HB1.out.size))
  obtain ⟨Cv, ccv, rfl, _, _⟩ := owns_ints ho.capO
  obtain ⟨Pv, cpv, rfl, _⟩ := ho.rows
  have hsz1 := HB1.out.size
  have HO2 := Lib.hid ((ho.far HN2.out (by decide) (by decide) 0 (.slice Cv caps.length ccv)).far (HN2.out.s2_0 (.slice Cv caps.length ccv)) (by decide) (by decide) 1 (.slice Pv paths.length cpv))
  have HN3 := Lib.hid ((HN2.out.s2_0 (.slice Cv caps.length ccv)).s2_1 (.slice Pv paths.length cpv))
  have hne : w.heap.size + 1 ≠ w.heap.size := by omega
  have HR3 := Lib.hid ((HR2.out.far (p := ⟨w.heap.size, 0, none⟩) hne (.slice Cv caps.length ccv)).far (p := ⟨w.heap.size, 1, none⟩) hne (.slice Pv paths.length cpv))
  have HB3 := Lib.hid ((HB2.out.setCell (p := ⟨w.heap.size, 0, none⟩) (Nat.le_refl _) (.slice Cv caps.length ccv)).setCell (p := ⟨w.heap.size, 1, none⟩) (Nat.le_refl _) (.slice Pv paths.length cpv))
  have HLB0 : w1.heap.size ≤ ((w2.setCell ⟨w.heap.size, 0, none⟩ (.slice Cv caps.length ccv)).setCell ⟨w.heap.size, 1, none⟩ (.slice Pv paths.length cpv)).heap.size := by have := hb2.size; simpa [World.setCell] using this
  have HLB := Lib.hid HLB0
  clear n0 n1 nf0 nf1 nz ho hb2 HLB0
  obtain ⟨n0, n1, nf0, nf1, nz⟩ := HN2.out.two
  go_wp2_with fail
  obtain ⟨w3, hw3⟩ : ∃ x, x = (w2.setCell ⟨w.heap.size, 0, none⟩ (.slice Cv caps.length ccv)).setCell ⟨w.heap.size, 1, none⟩ (.slice Pv paths.length cpv) := ⟨_, rfl⟩
  rw [← hw3] at HO2 HN3 HR3 HB3 HLB ⊢
  clear n0 n1 nf0 nf1 nz HN2 HR2 HB2 HN1 HR1 hw3
  obtain ⟨n0, n1, nf0, nf1, nz⟩ := HN3.out.two
  have HI3 := Lib.hid (HI.out.below HB3.out hB)
  have hsz3 := HB3.out.size
  go_region_law (first
    | (refine step_push rfl (.tmp 32) (.tmp 35) 41 rfl w1.heap.size 40 (.slice none 0 0) 1 24 Tryd.underlying41 Tryd.info_row rfl (by omega) (.slice Pv paths.length cpv) paths.length vs rfl HOV.out _ #[.slice U path.length cu] rfl (heap_alloc_new _ _) rfl HU1.out (by omega) (by decide) hbz1 ?_; intro pv' w9 hown9 hg9 hblk9; have HO9 := Lib.hid (NetOwn.push (HOZ.out.below HAZ.out) HLT.out (own_below HU.out HAZ.out) hbb3 hown9 hg9); have HG9 := Lib.hid ((HGZ.out.alloc _).grown hg9 (fun e => own_blk_ne HOV.out (HGZ.out.alloc _) (by decide) e.symm)); have HR9 := Lib.hid ((HRZ.out.alloc _).grown hg9 (fun e => own_blk_ne HOV.out (HRZ.out.alloc _) (by decide) e.symm)); have HB9 := Lib.hid (below_push HBZ.out HOV.out hg9 hsz1 hbz2); clear hown9 hg9 hblk9; obtain ⟨P9, c9, hpv, _⟩ := HO9.out.rows; rw [show (paths ++ [path]).length = paths.length + 1 from (by simp)] at hpv; subst hpv; obtain ⟨x0, x1, y0, y1, yz⟩ := HG9.out.two)
    | (go_simp; go_at_call 90; refine (clone_any A c path B _ (by first | exact HI3.out | exact HI3.out.below (Below.refl _ _).drew (Nat.le_trans hB hsz3)) (by omega) (by first | omega | (simp; omega))).mono ?_; rintro e wz ⟨u, rfl, hu, hbz⟩; obtain ⟨U, cu, rfl, _, _⟩ := owns_ints hu; have HBW : Hid (Below w3.heap.size w3 wz) := Lib.hid ((Below.refl _ _).drew.trans hbz); have HU := Lib.hid hu; clear hu hbz; have HOZ := Lib.hid (HO2.out.below HBW.out); have HLT := Lib.hid HO2.out.lt; have HGZ := Lib.hid (HN3.out.go HBW.out); have HRZ := Lib.hid (HR3.out.go HBW.out); have HAZ : Hid (Below wz.heap.size wz (wz.alloc (.cells #[.slice U path.length cu] 40))) := Lib.hid ((Below.refl _ _).alloc (Nat.le_refl _) _); have HOV := Lib.hid (HOZ.out.own.alloc (.cells #[.slice U path.length cu] 40)); have hb3 := HB3.out.trans (HBW.out.mono hsz3); have hb4 := hb3.size; have HBZ := Lib.hid (hb3.alloc hb4 (.cells #[.slice U path.length cu] 40)); have hbb3 : w1.heap.size ≤ w3.heap.size := HLB.out; have hbz1 : w1.heap.size ≤ (wz.alloc (.cells #[.slice U path.length cu] 40)).heap.size := (by have := HBW.out.size; simp; omega); have hbz2 : w.heap.size ≤ (wz.alloc (.cells #[.slice U path.length cu] 40)).heap.size := HBZ.out.size; have HU1 : Hid (∀ x ∈ #[Value.slice U path.length cu].toList, x.oneCell' = true) := Lib.hid (by simp [Value.oneCell']); clear hb3 hb4; obtain ⟨h0, h1, e0, e1, ez⟩ := HGZ.out.two))
  all_goals
    have hne1 : w.heap.size + 1 ≠ w.heap.size := Nat.succ_ne_self _
    have HOA := Lib.hid (HO9.out.far HG9.out (by decide) (by decide) 1 (.slice P9 (paths.length + 1) c9))
    have HRA := Lib.hid (HR9.out.far (p := ⟨w.heap.size, 1, none⟩) hne1 (.slice P9 (paths.length + 1) c9))
    have HOB := Lib.hid ((HOA.out.far HRA.out (by decide) (by decide) 0 (.slice Cv caps.length ccv)).far (HRA.out.s2_0 (.slice Cv caps.length ccv)) (by decide) (by decide) 1 (.slice P9 (paths.length + 1) c9))
    have HBA := Lib.hid (((HB9.out.setCell (p := ⟨w.heap.size, 1, none⟩) (Nat.le_refl _) (.slice P9 (paths.length + 1) c9)).setCell (p := ⟨w.heap.size + 1, 0, none⟩) (Nat.le_succ _) (.slice Cv caps.length ccv)).setCell (p := ⟨w.heap.size + 1, 1, none⟩) (Nat.le_succ _) (.slice P9 (paths.length + 1) c9))
    obtain ⟨r0, r1, rf0, rf1, rz⟩ := HR9.out.two
    clear h0 h1 e0 e1 ez n0 n1 nf0 nf1 nz
    go_wp2
    refine bodyPost_ret (v := .tuple #[.agg #[.slice Cv caps.length ccv, .slice P9 (paths.length + 1) c9], .nilIface]) (by simp [results, Tryd.results32, go_sem, r0, r1]) rfl ⟨_, rfl, ⟨_, _, _, _, rfl, HOB.out⟩, HBA.out⟩
theorem add_yes (C : Option Addr) (cc : Nat) (caps : List Int) (P : Option Addr) (cp : Nat) (paths : List (List Int)) (A : Option Addr) (c : Nat) (path : List Int) (B : Nat) (w : World) (hB : B ≤ w.heap.size)
    (hc : Ints w B C cc caps) (hp : Rows2 w B P cp paths) (hi : Ints w B A c path) (he : addErr caps paths path = 0) :
    Calls Tryd.prog 32 #[.agg #[.slice C caps.length cc, .slice P paths.length cp], .slice A path.length c] w fun e w' => ∃ nv, e = .returned (.tuple #[nv, .nilIface]) ∧ NetAt w' w'.heap.size nv caps (paths ++ [path]) ∧ Below w.heap.size w w' := by
  refine (add_own C cc caps P cp paths A c path B w hB hc hp hi he).mono ?_
  rintro e w' ⟨nv, he, hn, hb⟩
  exact ⟨nv, he, hn.at_, hb⟩
end Go.Proofs.YtblanfaghnflkaaDoor
/- slices.Delete of one row, from a row of rows that the call made. -/
namespace Go.Proofs.YtblanfaghnflkaaDoor
open Go.RowKit
def setL (xs : List Value) : Nat → List Value → List Value
  | _, [] => xs
  | o, v :: r => setL (xs.set o v) (o + 1) r
theorem setL_len (xs : List Value) (o : Nat) (r : List Value) : (setL xs o r).length = xs.length := by
  induction r generalizing xs o with
  | nil => rfl
  | cons v r ih => simp only [setL, ih, List.length_set]
theorem setL_get (xs : List Value) (o : Nat) (r : List Value) (h : o + r.length ≤ xs.length) (j : Nat) : (setL xs o r)[j]? = if j < o then xs[j]? else if j < o + r.length then r[j - o]? else xs[j]? := by
  induction r generalizing xs o with
  | nil => simp only [setL, List.length_nil, Nat.add_zero]; split <;> rfl
  | cons v r ih =>
    simp only [List.length_cons] at h
    simp only [setL]
    rw [ih _ _ (by rw [List.length_set]; omega)]
    simp only [List.length_cons]
    by_cases h1 : j < o
    · rw [if_pos (show j < o + 1 by omega), if_pos h1, List.getElem?_set_ne (by omega)]
    · rw [if_neg h1]
      by_cases h2 : j = o
      · subst h2
        rw [if_pos (by omega), if_pos (by omega), List.getElem?_set_self (by omega), Nat.sub_self]; rfl
      · rw [if_neg (by omega)]
        by_cases h3 : j < o + (r.length + 1)
        · rw [if_pos (by omega), if_pos h3]
          obtain ⟨d, hd⟩ : ∃ d, j - o = d + 1 := ⟨j - o - 1, by omega⟩
          rw [hd, show j - (o + 1) = d by omega]; rfl
        · rw [if_neg (by omega), if_neg h3, List.getElem?_set_ne (by omega)]
theorem own_setCells {base e g n cap : Nat} {size : Nat} : ∀ (r : List Value) (w : World) (xs : List Value) (o : Nat), w.ownsRow base e size (.slice (some ⟨g, 0, none⟩) n cap) n xs →
    (w.setCells g o r).ownsRow base e size (.slice (some ⟨g, 0, none⟩) n cap) n (setL xs o r) ∧ w.grownBy (w.setCells g o r) (some g) := by
  intro r
  induction r with
  | nil => intro w xs o h; exact ⟨h, ⟨rfl, rfl, rfl, Nat.le_refl _, fun _ _ _ => rfl⟩⟩
  | cons v r ih =>
    intro w xs o h
    obtain ⟨h1, h2⟩ := h.stored o v
    obtain ⟨h3, h4⟩ := ih _ _ (o + 1) h1
    refine ⟨h3, ⟨h4.os.trans h2.os, h4.tape.trans h2.tape, h4.output.trans h2.output, Nat.le_trans h2.size h4.size, fun i hi hne => ?_⟩⟩
    exact (h4.block i (Nat.lt_of_lt_of_le hi h2.size) hne).trans (h2.block i hi hne)
theorem own_shrink {w : World} {base e g n cap : Nat} {xs : List Value} (h : w.ownsRow base e 1 (.slice (some ⟨g, 0, none⟩) n cap) n xs) (m : Nat) (hm : m ≤ n) : w.ownsRow base e 1 (.slice (some ⟨g, 0, none⟩) m cap) m (xs.take m) := by
  have hl := h.1
  rcases h.2 with ⟨h', _⟩ | ⟨g', cap', cur, h', hb, hg, hnc, hcm, hcs, htake⟩
  · simp at h'
  · simp only [Value.slice.injEq, Option.some.injEq, Addr.mk.injEq, and_true, true_and] at h'
    obtain ⟨rfl, rfl⟩ := h'
    refine ⟨by rw [List.length_take]; omega, .inr ⟨g, cap, cur, rfl, hb, hg, by omega, hcm, hcs, ?_⟩⟩
    rw [← htake, List.take_take]; congr 1; omega
theorem moved_is (vs : List Value) (i : Nat) (hi : i < vs.length) : (setL vs i (vs.drop (i + 1))).take (vs.length - 1) = vs.eraseIdx i := by
  refine List.ext_getElem? fun j => ?_
  rw [List.getElem?_take, List.getElem?_eraseIdx, setL_get _ _ _ (by rw [List.length_drop]; omega)]
  rw [List.length_drop]
  by_cases h1 : j < vs.length - 1
  · rw [if_pos h1]
    by_cases h2 : j < i
    · rw [if_pos h2, if_pos h2]
    · rw [if_neg h2, if_neg h2, if_pos (by omega), List.getElem?_drop]
      congr 1; omega
  · rw [if_neg h1, if_neg (by omega)]
    rw [List.getElem?_eq_none (by omega)]
set_option maxHeartbeats 4000000 in
set_option maxRecDepth 1000000 in
theorem delete_any (base g cap n i : Nat) (vs : List Value) (w : World) (h : w.ownsRow base 40 1 (.slice (some ⟨g, 0, none⟩) n cap) n vs) (hi : i < n) (hn : n ≤ 1000) (h1 : ∀ u ∈ vs, u.oneCell' = true) :
    Calls Tryd.prog 91 #[.slice (some ⟨g, 0, none⟩) n cap, .int .i64 i, .int .i64 (i + 1 : Nat)] w fun e w' => e = .returned (.slice (some ⟨g, 0, none⟩) (n - 1) cap) ∧ w'.ownsRow base 40 1 (.slice (some ⟨g, 0, none⟩) (n - 1) cap) (n - 1) (vs.eraseIdx i) ∧ w.grownBy w' (some g) := by
  have hlen : vs.length = n := by have := h.1; simpa using this
  have hcapn : n ≤ cap ∧ cap ≤ maxLen := by
    obtain ⟨g', cap', e', _, _, h3, h4⟩ := own_form h (by omega)
    injection e' with _ _ e3
    subst e3; exact ⟨h3, h4⟩
  obtain ⟨hnc, hcm⟩ := hcapn
  unfold maxLen at hcm
  obtain ⟨i0, hi0, hz0, hz1, hz2⟩ := info_parts Tryd.info_row
  have hdl : (vs.drop (i + 1)).length = n - (i + 1) := by rw [List.length_drop, hlen]
  obtain ⟨A, hA, hnews⟩ : ∃ A : Addr, (if cap = i + 1 then some (⟨g, 0, none⟩ : Addr) else some ⟨g, i + 1, none⟩) = some A ∧ Hid (∀ j u, (vs.drop (i + 1))[j]? = some u → w.drew.cell? (A.add j) = some u) := by
    by_cases hc : cap = i + 1
    · refine ⟨⟨g, 0, none⟩, by simp [hc], fun j u hu => ?_⟩
      rw [List.length_eq_zero_iff.1 (by omega : (vs.drop (i + 1)).length = 0)] at hu
      simp at hu
    · refine ⟨⟨g, i + 1, none⟩, by simp [hc], fun j u hu => ?_⟩
      have hj : j < n - (i + 1) := by have := (List.getElem?_eq_some_iff.1 hu).1; omega
      rw [Addr.add_lit]
      rw [List.getElem?_drop] at hu
      exact (h.cellAt (i + 1 + j) (by omega)).trans hu
  have s1 : Hid ((vs.drop (i + 1)).length = (n - (i + 1)) * 1) := by rw [Nat.mul_one]; exact hdl
  have s2 : Hid (∀ u ∈ vs.drop (i + 1), u.oneCell' = true) := fun u hu => h1 u (List.mem_of_mem_drop hu)
  have s3 : Hid (∀ j, j < (vs.drop (i + 1)).length → (w.drew.cell? ⟨g, 0 + i * 1 + j, none⟩).isSome = true ∧ w.drew.frozen? ⟨g, 0 + i * 1 + j, none⟩ = false) := by
    intro j hj
    rw [hdl] at hj
    rw [Nat.mul_one, Nat.zero_add]
    refine ⟨?_, h.frozenAt _⟩
    show (w.cell? _).isSome = true
    rw [h.cellAt (i + j) (by omega), List.getElem?_eq_getElem (by omega)]; rfl
  obtain ⟨o1, g1⟩ := own_setCells (vs.drop (i + 1)) w.drew vs i (own_below h (Below.refl _ _).drew)
  obtain ⟨o2, g2⟩ := own_setCells [.slice none 0 0] _ _ (n - 1) o1
  have o3 := own_shrink o2 (n - 1) (by omega)
  have hfin : (setL (setL vs i (vs.drop (i + 1))) (n - 1) [.slice none 0 0]).take (n - 1) = vs.eraseIdx i := by
    rw [← moved_is vs i (by omega), hlen]
    simp only [setL]
    rw [List.take_set_of_le (Nat.le_refl _)]
  rw [hfin] at o3
  have O3 := Lib.hid o3
  have G3 : Hid (w.grownBy ((w.drew.setCells g i (vs.drop (i + 1))).setCells g (n - 1) [.slice none 0 0]) (some g)) := Lib.hid ⟨g2.os.trans g1.os, g2.tape.trans g1.tape, g2.output.trans g1.output, Nat.le_trans g1.size g2.size, fun k hk hne => (g2.block k (Nat.lt_of_lt_of_le hk g1.size) hne).trans (g1.block k hk hne)⟩
  have hz : (setL vs i (vs.drop (i + 1))).length = n := by rw [setL_len, hlen]
  have hclr : ∀ (ty : TypeId) (c : Nat), (Builtin.clear_ #[41] ty #[.slice (some ⟨g, n - 1, none⟩) 1 c]).run Tryd.prog (w.drew.setCells g i (vs.drop (i + 1))) = .ok (.tuple #[]) ((w.drew.setCells g i (vs.drop (i + 1))).setCells g (n - 1) [.slice none 0 0]) := fun ty c =>
    Lib.run_clear_slice _ 41 40 ty (.slice none 0 0) Tryd.underlying41 (fun _ => by kernel_rfl) rfl rfl g (n - 1) 1 c Nat.one_pos (fun j hj => by
      rw [o1.cellAt (n - 1 + j) (by omega), List.getElem?_eq_getElem (by omega)]; rfl) (fun j _ => o1.frozenAt _)
  have HC := Lib.hid hclr
  clear hclr o1 g1 o2 g2 o3 hfin hz h h1 hdl hlen
  have hic : i ≤ cap := by omega
  have hcast : ((i + 1 : Nat) : Int) = (i : Int) + 1 := by omega
  have hij : ((i : Int) == (i : Int) + 1) = false := beq_eq_false_iff_ne.2 (by omega)
  have hp0 : (0 : Int) ≤ (i : Int) + 1 := by omega
  have hp1 : (i : Int) + 1 ≤ (n : Int) := by omega
  have hp2 : ((i : Int) + 1).toNat = i + 1 := by omega
  have hp3 : (i : Int) ≤ (i : Int) + 1 := by omega
  have hnm : n - (i + 1) ≤ cap - (i + 1) := by omega
  rw [hcast]
  go_enter Tryd.func91, Tryd.ntmps91
  go_wp2_with fail
  have hsum : i + (n - (i + 1)) = n - 1 := by omega
  have hcn : ¬ cap = n - 1 := by omega
  have hn1 : n - (n - 1) = 1 := by omega
  have hn2 : ((n - 1 : Nat) : Int) ≤ (n : Int) := by omega
  have hn3 : (0 : Int) ≤ ((n - 1 : Nat) : Int) := by omega
  have hn4 : (n : Int) ≤ (cap : Int) := by omega
  go_region_law (refine step_append_room rfl (.tmp 22) (.tmp 25) 41 rfl 40 i0 1 Tryd.underlying41 hi0 hz1 g 0 i cap (by simp [Act.eval, Act.put]) A (n - (i + 1)) (cap - (i + 1)) (vs.drop (i + 1)) (by simp [Act.eval, Act.put]) s1.out hnews.out s2.out (by omega) s3.out ?_)
  have hc2 := HC.out
  clear hsum hnews s1 s2 s3 hA
  go_wp2
  go_ret
  exact ⟨rfl, O3.out, G3.out⟩
end Go.Proofs.YtblanfaghnflkaaDoor
/- net.Drop. -/
namespace Go.Proofs.YtblanfaghnflkaaDoor
open Go.RowKit
theorem erase_get {α : Type} {l : List α} {i j : Nat} {x : α} (h : (l.eraseIdx i)[j]? = some x) : l[if j < i then j else j + 1]? = some x := by
  rw [List.getElem?_eraseIdx] at h
  split at h
  · rename_i h1; rw [if_pos h1]; exact h
  · rename_i h1; rw [if_neg h1]; exact h
theorem NetOwn.erase {w w' : World} {base : Nat} {cv pv pv' : Value} {vs : List Value} {caps : List Int} {L : List (List Int)} (h : NetOwn w base cv pv vs caps L) {i : Nat} (hi : i < L.length)
    (hown : w'.ownsRow base 40 1 pv' (L.length - 1) (vs.eraseIdx i)) (hg : w.grownBy w' pv.ownBlock) : NetOwn w' base cv pv' (vs.eraseIdx i) caps (L.eraseIdx i) := by
  have hrow : ∀ x m (ys : List Value), w.ownsRow base 3 1 x m ys → w'.ownsRow base 3 1 x m ys := fun x m ys hx => own_grown hx hg (own_apart hx h.own (by decide))
  refine ⟨hrow _ _ _ h.capO, by rw [List.length_eraseIdx_of_lt hi]; exact hown, fun j u l h1 h2 => hrow _ _ _ (h.row _ _ _ (erase_get h1) (erase_get h2)), fun j u h1 => h.apC _ _ (erase_get h1), fun j k u u' h1 h2 hjk => h.apR _ _ _ _ (erase_get h1) (erase_get h2) ?_⟩
  split <;> split <;> omega
theorem NetOwn.oneC {w : World} {base : Nat} {cv pv : Value} {vs : List Value} {caps : List Int} {L : List (List Int)} (h : NetOwn w base cv pv vs caps L) : ∀ u ∈ vs, u.oneCell' = true := fun u hu => by
  obtain ⟨i, hi, e⟩ := List.getElem_of_mem hu
  have hl : i < L.length := by have := h.len; omega
  have := h.row i u L[i] (by rw [← e]; exact List.getElem?_eq_getElem hi) (List.getElem?_eq_getElem hl)
  obtain ⟨A, c, rfl, _⟩ := owns_reads this
  rfl
set_option maxHeartbeats 4000000 in
set_option maxRecDepth 100000 in
theorem drop_no (C : Option Addr) (cc : Nat) (caps : List Int) (P : Option Addr) (cp : Nat) (paths : List (List Int)) (flow : Int) (B : Nat) (w : World) (er : Int) (hB : B ≤ w.heap.size)
    (hc : Ints w B C cc caps) (hp : Rows2 w B P cp paths) (he : dropErr caps paths flow = er) (h0 : er ≠ 0) :
    Calls Tryd.prog 35 #[.agg #[.slice C caps.length cc, .slice P paths.length cp], .int .i64 flow] w fun e w' => e = .returned (.tuple #[.agg #[.slice none 0 0, .slice none 0 0], .iface 119 (.int .i64 er)]) ∧ Below w.heap.size w w' := by
  have HN0 := Lib.hid ((Blk.new w 43 #[.slice C caps.length cc, .slice P paths.length cp]).alloc (.cells #[.slice none 0 0, .slice none 0 0] 43))
  have HR0 := Lib.hid (Blk.new' (w.alloc (.cells #[.slice C caps.length cc, .slice P paths.length cp] 43)) 43 #[.slice none 0 0, .slice none 0 0] (g := w.heap.size + 1) (by simp))
  have HB0 := Lib.hid (((Below.refl w.heap.size w).alloc (Nat.le_refl _) (.cells #[.slice C caps.length cc, .slice P paths.length cp] 43)).alloc (by simp) (.cells #[.slice none 0 0, .slice none 0 0] 43))
  have HCK := Lib.hid (ncheck_all C cc caps P cp paths B _ (by simp; omega) (hc.below HB0.out hB) (hp.below HB0.out hB))
  clear hc hp
  have hlast : ∀ W : World, Below w.heap.size w W → Below w.heap.size w ((W.setCell ⟨w.heap.size + 1, 0, none⟩ (.slice none 0 0)).setCell ⟨w.heap.size + 1, 1, none⟩ (.slice none 0 0)) := fun W h => (h.setCell (p := ⟨w.heap.size + 1, 0, none⟩) (Nat.le_succ _) _).setCell (p := ⟨w.heap.size + 1, 1, none⟩) (Nat.le_succ _) _
  have HL := Lib.hid hlast
  clear hlast
  unfold dropErr at he
  by_cases h1 : netErr caps paths = 0
  · rw [if_pos h1] at he
    rw [h1, errVal_zero] at HCK
    obtain ⟨k0, k1, k2, k3, _, _⟩ := netErr_ok h1
    clear h1
    by_cases hf : flow < 0 ∨ (paths.length : Int) ≤ flow
    · rw [if_pos hf] at he
      subst he
      clear h0
      rcases hf with hf | hf
      · go_enter Tryd.func35, Tryd.ntmps35
        go_wp2_with fail
        refine HCK.out.mono ?_; rintro e w1 ⟨rfl, hb1⟩
        have HN1 := Lib.hid (HN0.out.go hb1)
        have HR1 := Lib.hid (HR0.out.go hb1)
        have HB1 := Lib.hid (HB0.out.trans (hb1.mono HB0.out.size))
        obtain ⟨n0, n1, nf0, nf1, nz⟩ := HN1.out.two
        obtain ⟨r0, r1, rf0, rf1, rz⟩ := HR1.out.two
        clear hb1 HCK
        go_wp2
        exact bodyPost_ret (v := .tuple #[.agg #[.slice none 0 0, .slice none 0 0], .iface 119 (.int .i64 1)]) (by simp [results, Tryd.results35, go_sem, r0, r1]) rfl ⟨rfl, HL.out _ HB1.out⟩
      · have hf0 : ¬ flow < 0 := by omega
        go_enter Tryd.func35, Tryd.ntmps35
        go_wp2_with fail
        refine HCK.out.mono ?_; rintro e w1 ⟨rfl, hb1⟩
        have HN1 := Lib.hid (HN0.out.go hb1)
        have HR1 := Lib.hid (HR0.out.go hb1)
        have HB1 := Lib.hid (HB0.out.trans (hb1.mono HB0.out.size))
        obtain ⟨n0, n1, nf0, nf1, nz⟩ := HN1.out.two
        obtain ⟨r0, r1, rf0, rf1, rz⟩ := HR1.out.two
        clear hb1 HCK
        go_wp2
        exact bodyPost_ret (v := .tuple #[.agg #[.slice none 0 0, .slice none 0 0], .iface 119 (.int .i64 1)]) (by simp [results, Tryd.results35, go_sem, r0, r1]) rfl ⟨rfl, HL.out _ HB1.out⟩
    · rw [if_neg hf] at he
      by_cases hl1 : paths.length = 1
      · rw [if_pos hl1] at he
        subst he
        clear h0
        have hf0 : ¬ flow < 0 := by omega
        have hf1 : decide ((1 : Int) ≤ flow) = false := decide_eq_false (by omega)
        rw [hl1] at HCK HB0 HR0 HN0 ⊢
        clear hl1 k2 k3 hf
        go_enter Tryd.func35, Tryd.ntmps35
        go_wp2_with fail
        refine HCK.out.mono ?_; rintro e w1 ⟨rfl, hb1⟩
        have HN1 := Lib.hid (HN0.out.go hb1)
        have HR1 := Lib.hid (HR0.out.go hb1)
        have HB1 := Lib.hid (HB0.out.trans (hb1.mono HB0.out.size))
        obtain ⟨n0, n1, nf0, nf1, nz⟩ := HN1.out.two
        obtain ⟨r0, r1, rf0, rf1, rz⟩ := HR1.out.two
        clear hb1 HCK
        go_wp2
        exact bodyPost_ret (v := .tuple #[.agg #[.slice none 0 0, .slice none 0 0], .iface 119 (.int .i64 5)]) (by simp [results, Tryd.results35, go_sem, r0, r1]) rfl ⟨rfl, HL.out _ HB1.out⟩
      · rw [if_neg hl1] at he; exact absurd he.symm h0
  · rw [if_neg h1] at he
    rw [he, errVal_pos h0] at HCK
    clear h1 he h0
    go_enter Tryd.func35, Tryd.ntmps35
    go_wp2_with fail
    refine HCK.out.mono ?_; rintro e w1 ⟨rfl, hb1⟩
    have HR1 := Lib.hid (HR0.out.go hb1)
    have HB1 := Lib.hid (HB0.out.trans (hb1.mono HB0.out.size))
    obtain ⟨r0, r1, rf0, rf1, rz⟩ := HR1.out.two
    clear hb1 HCK
    go_wp2
    exact bodyPost_ret (v := .tuple #[.agg #[.slice none 0 0, .slice none 0 0], .iface 119 (.int .i64 er)]) (by simp [results, Tryd.results35, go_sem, r0, r1]) rfl ⟨rfl, HL.out _ HB1.out⟩
set_option maxHeartbeats 4000000 in
set_option maxRecDepth 100000 in
theorem drop_own (C : Option Addr) (cc : Nat) (caps : List Int) (P : Option Addr) (cp : Nat) (paths : List (List Int)) (f : Nat) (B : Nat) (w : World) (hB : B ≤ w.heap.size)
    (hc : Ints w B C cc caps) (hp : Rows2 w B P cp paths) (hn : netErr caps paths = 0) (hf : f < paths.length) (h2 : paths.length ≠ 1) :
    Calls Tryd.prog 35 #[.agg #[.slice C caps.length cc, .slice P paths.length cp], .int .i64 f] w fun e w' => ∃ nv, e = .returned (.tuple #[nv, .nilIface]) ∧ NetFree w' nv caps (paths.eraseIdx f) ∧ Below w.heap.size w w' := by
  have HN0 := Lib.hid ((Blk.new w 43 #[.slice C caps.length cc, .slice P paths.length cp]).alloc (.cells #[.slice none 0 0, .slice none 0 0] 43))
  have HR0 := Lib.hid (Blk.new' (w.alloc (.cells #[.slice C caps.length cc, .slice P paths.length cp] 43)) 43 #[.slice none 0 0, .slice none 0 0] (g := w.heap.size + 1) (by simp))
  have HB0 := Lib.hid (((Below.refl w.heap.size w).alloc (Nat.le_refl _) (.cells #[.slice C caps.length cc, .slice P paths.length cp] 43)).alloc (by simp) (.cells #[.slice none 0 0, .slice none 0 0] 43))
  have HCK := Lib.hid (ncheck_all C cc caps P cp paths B _ (by simp; omega) (hc.below HB0.out hB) (hp.below HB0.out hB))
  rw [hn, errVal_zero] at HCK
  obtain ⟨k0, k1, k2, k3, _, _⟩ := netErr_ok hn
  have hsh := netErr_short hn
  have HOW := Lib.hid fun (W : World) (h : Below w.heap.size w W) => own_any C cc caps P cp paths B W (Nat.le_trans hB h.size) (hc.below h hB) (hp.below h hB) (by omega) (by omega) (fun l hl => by have := hsh l hl; omega)
  have e1 : ((paths.length : Int) == 1) = false := beq_eq_false_iff_ne.2 (by omega)
  have f0 : ¬ (f : Int) < 0 := by omega
  have f1 : decide ((paths.length : Int) ≤ (f : Int)) = false := decide_eq_false (by omega)
  have f2 : decide (paths.length ≤ f) = false := decide_eq_false (by omega)
  clear hsh hc hp hn
  go_enter Tryd.func35, Tryd.ntmps35
  go_wp2_with fail
  refine HCK.out.mono ?_; rintro e w1 ⟨rfl, hb1⟩
  have HN1 := Lib.hid (HN0.out.go hb1)
  have HR1 := Lib.hid (HR0.out.go hb1)
  have HB1 := Lib.hid (HB0.out.trans (hb1.mono HB0.out.size))
  obtain ⟨n0, n1, nf0, nf1, nz⟩ := HN1.out.two
  clear hb1 HCK HN0 HR0 HB0
  go_wp2_with fail
  refine (HOW.out _ HB1.out).mono ?_; rintro e w2 ⟨cv, pv, vs, rfl, ho, hb2⟩
  have HN2 := Lib.hid (HN1.out.go hb2)
  have HR2 := Lib.hid (HR1.out.go hb2)
  have HB2 := Lib.hid (HB1.out.trans (hb2.mono HB1.out.size))
  obtain ⟨Cv, ccv, rfl, _, _⟩ := owns_ints ho.capO
  obtain ⟨gp, cpv, rfl, _, _, _, _⟩ := own_form ho.own k2
  have hsz1 := HB1.out.size
  have HO2 := Lib.hid ((ho.far HN2.out (by decide) (by decide) 0 (.slice Cv caps.length ccv)).far (HN2.out.s2_0 (.slice Cv caps.length ccv)) (by decide) (by decide) 1 (.slice (some ⟨gp, 0, none⟩) paths.length cpv))
  have HN3 := Lib.hid ((HN2.out.s2_0 (.slice Cv caps.length ccv)).s2_1 (.slice (some ⟨gp, 0, none⟩) paths.length cpv))
  have hne : w.heap.size + 1 ≠ w.heap.size := by omega
  have HR3 := Lib.hid ((HR2.out.far (p := ⟨w.heap.size, 0, none⟩) hne (.slice Cv caps.length ccv)).far (p := ⟨w.heap.size, 1, none⟩) hne (.slice (some ⟨gp, 0, none⟩) paths.length cpv))
  have HB3 := Lib.hid ((HB2.out.setCell (p := ⟨w.heap.size, 0, none⟩) (Nat.le_refl _) (.slice Cv caps.length ccv)).setCell (p := ⟨w.heap.size, 1, none⟩) (Nat.le_refl _) (.slice (some ⟨gp, 0, none⟩) paths.length cpv))
  clear n0 n1 nf0 nf1 nz ho hb2
  obtain ⟨n0, n1, nf0, nf1, nz⟩ := HN2.out.two
  go_wp2_with fail
  obtain ⟨w3, hw3⟩ : ∃ x, x = (w2.setCell ⟨w.heap.size, 0, none⟩ (.slice Cv caps.length ccv)).setCell ⟨w.heap.size, 1, none⟩ (.slice (some ⟨gp, 0, none⟩) paths.length cpv) := ⟨_, rfl⟩
  rw [← hw3] at HO2 HN3 HR3 HB3 ⊢
  clear n0 n1 nf0 nf1 nz HN2 HR2 HB2 HN1 HR1 hw3
  have HD := delete_any w1.heap.size gp cpv paths.length f vs w3 HO2.out.own hf (by omega) HO2.out.oneC
  rw [show ((f + 1 : Nat) : Int) = (f : Int) + 1 by omega] at HD
  refine HD.mono ?_; rintro e w4 ⟨rfl, ho4, hg4⟩
  clear HD
  have HO4 := Lib.hid (HO2.out.erase hf ho4 hg4)
  have HN4 := Lib.hid (HN3.out.grown hg4 (fun e => own_blk_ne HO2.out.own HN3.out (by decide) e.symm))
  have HR4 := Lib.hid (HR3.out.grown hg4 (fun e => own_blk_ne HO2.out.own HR3.out (by decide) e.symm))
  have HB4 := Lib.hid (HB3.out.grown hg4 HB3.out.size (fun k hk => by
    have hk' : gp = k := by simpa using hk
    subst hk'
    exact Nat.le_trans hsz1 (HO2.out.own.lt gp rfl).1))
  clear ho4 hg4 HO2 HN3 HR3 HB3
  obtain ⟨n0, n1, nf0, nf1, nz⟩ := HN4.out.two
  have hne1 : w.heap.size + 1 ≠ w.heap.size := Nat.succ_ne_self _
  have HOA := Lib.hid (HO4.out.far HN4.out (by decide) (by decide) 1 (.slice (some ⟨gp, 0, none⟩) (paths.length - 1) cpv))
  have HRA := Lib.hid (HR4.out.far (p := ⟨w.heap.size, 1, none⟩) hne1 (.slice (some ⟨gp, 0, none⟩) (paths.length - 1) cpv))
  have HOB := Lib.hid ((HOA.out.far HRA.out (by decide) (by decide) 0 (.slice Cv caps.length ccv)).far (HRA.out.s2_0 (.slice Cv caps.length ccv)) (by decide) (by decide) 1 (.slice (some ⟨gp, 0, none⟩) (paths.length - 1) cpv))
  have HBA := Lib.hid (((HB4.out.setCell (p := ⟨w.heap.size, 1, none⟩) (Nat.le_refl _) (.slice (some ⟨gp, 0, none⟩) (paths.length - 1) cpv)).setCell (p := ⟨w.heap.size + 1, 0, none⟩) (Nat.le_succ _) (.slice Cv caps.length ccv)).setCell (p := ⟨w.heap.size + 1, 1, none⟩) (Nat.le_succ _) (.slice (some ⟨gp, 0, none⟩) (paths.length - 1) cpv))
  obtain ⟨r0, r1, rf0, rf1, rz⟩ := HR4.out.two
  go_wp2
  refine bodyPost_ret (v := .tuple #[.agg #[.slice Cv caps.length ccv, .slice (some ⟨gp, 0, none⟩) (paths.length - 1) cpv], .nilIface]) (by simp [results, Tryd.results35, go_sem, r0, r1]) rfl ⟨_, rfl, ⟨_, _, _, _, rfl, HOB.out⟩, HBA.out⟩
theorem drop_yes (C : Option Addr) (cc : Nat) (caps : List Int) (P : Option Addr) (cp : Nat) (paths : List (List Int)) (f : Nat) (B : Nat) (w : World) (hB : B ≤ w.heap.size)
    (hc : Ints w B C cc caps) (hp : Rows2 w B P cp paths) (hn : netErr caps paths = 0) (hf : f < paths.length) (h2 : paths.length ≠ 1) :
    Calls Tryd.prog 35 #[.agg #[.slice C caps.length cc, .slice P paths.length cp], .int .i64 f] w fun e w' => ∃ nv, e = .returned (.tuple #[nv, .nilIface]) ∧ NetAt w' w'.heap.size nv caps (paths.eraseIdx f) ∧ Below w.heap.size w w' := by
  refine (drop_own C cc caps P cp paths f B w hB hc hp hn hf h2).mono ?_
  rintro e w' ⟨nv, he, hn, hb⟩
  exact ⟨nv, he, hn.at_, hb⟩
end Go.Proofs.YtblanfaghnflkaaDoor
/- net.Users; two nets, or lists of lists, that are the same. -/
namespace Go.Proofs.YtblanfaghnflkaaDoor
open Go.RowKit
theorem own_base2 {w : World} {base base' e size n : Nat} {v : Value} {xs : List Value} (h : w.ownsRow base e size v n xs) (hb : base' ≤ base) : w.ownsRow base' e size v n xs := by
  refine ⟨h.1, ?_⟩
  rcases h.2 with h | ⟨g, cap, cur, rfl, h1, h2⟩
  · exact .inl h
  · exact .inr ⟨g, cap, cur, rfl, Nat.le_trans hb h1, h2⟩
theorem Ints.nil' (w : World) (B : Nat) : Ints w B none 0 [] := ⟨Reads.none_, Nat.le_refl _, by simp [maxLen]⟩
theorem Rows2.nil' (w : World) (B : Nat) : Rows2 w B none 0 [] := ⟨fun h => absurd h (by simp), Nat.le_refl _, by simp [maxLen]⟩
theorem sameInts_n (A A' : Option Addr) (c c' n n' : Nat) (l : List Int) (B B' : Nat) (w : World) (h : Ints w B A c l) (h' : Ints w B' A' c' l) (hn : n = l.length) (hn' : n' = l.length) :
    Calls Tryd.prog 29 #[.slice A n c, .slice A' n' c'] w fun e w' => e = .returned (.bool true) ∧ Below w.heap.size w w' := by
  subst hn hn'
  refine (sameInts_eq A A' c c' l B B' w h h').mono ?_
  rintro e w' ⟨rfl, n, rfl⟩
  exact ⟨rfl, below_drewN (Below.refl _ _) n⟩
theorem Rows2.drewN {w : World} {B : Nat} {A : Option Addr} {c : Nat} {L : List (List Int)} (h : Rows2 w B A c L) (n : Nat) : Rows2 (w.drewN n) B A c L := h.below (below_drewN (Below.refl B _) n) (Nat.le_refl _)
set_option maxHeartbeats 2000000 in
theorem sameLists_eq (A A' : Option Addr) (c c' : Nat) (L : List (List Int)) (B B' : Nat) (w : World) (h : Rows2 w B A c L) (h' : Rows2 w B' A' c' L) :
    Calls Tryd.prog 47 #[.slice A L.length c, .slice A' L.length c'] w fun e w' => e = .returned (.bool true) ∧ ∃ n, w' = w.drewN n := by
  have hm := Nat.le_trans h.le h.cap
  unfold maxLen at hm
  have H := Lib.hid h; clear h
  have H' := Lib.hid h'; clear h'
  go_enter Tryd.func47, Tryd.ntmps47
  go_wp2
  go_loopw [5] (fun i wr => ∃ k n : Nat, k ≤ L.length ∧ i = .int .i64 k ∧ wr = w.drewN n) (fun i _ => L.length - (intOf i).toNat)
  case atStart => exact ⟨0, 0, Nat.zero_le _, rfl, rfl⟩
  case round =>
    obtain ⟨k, n, hk, rfl, hwr⟩ := hrel
    have HR := Lib.hid (h := (show Rows2 wr B A c L by rw [hwr]; exact H.out.drewN n))
    have HR' := Lib.hid (h := (show Rows2 wr B' A' c' L by rw [hwr]; exact H'.out.drewN n))
    have HW := Lib.hid hwr
    clear hwr
    by_cases hlt : k < L.length
    · obtain ⟨b, off, A1, c1, l, rfl, _, hc, hi, HX⟩ := HR.out.elem hlt
      obtain ⟨b', off', A2, c2, l', rfl, _, hc', hi', HX'⟩ := HR'.out.elem hlt
      obtain rfl : l = l' := Option.some.inj (HX.out.symm.trans HX'.out)
      have k0 : (0 : Int) ≤ (k : Int) := by omega
      have k1 : (k : Int) < L.length := by omega
      have HI := Lib.hid hi
      have HI' := Lib.hid hi'
      clear HX HX' hi hi'
      go_wp2
      go_quiet ((go_at_call 29; exact sameInts_quiet (sameInts_eq A1 A2 c1 c2 l _ _ _ (HI.out.drewN _) (HI'.out.drewN _))))
      go_wp2
      go_roundw
      case rel => exact ⟨k + 1, n + nq, by omega, by go_num, by rw [HW.out, World.drewN_drewN]⟩
      case measure => simp [intOf]; omega
    · go_wp2
      go_ret
      exact ⟨rfl, n, HW.out⟩
theorem sameLists_n (A A' : Option Addr) (c c' n n' : Nat) (L : List (List Int)) (B B' : Nat) (w : World) (h : Rows2 w B A c L) (h' : Rows2 w B' A' c' L) (hn : n = L.length) (hn' : n' = L.length) :
    Calls Tryd.prog 47 #[.slice A n c, .slice A' n' c'] w fun e w' => e = .returned (.bool true) ∧ Below w.heap.size w w' := by
  subst hn hn'
  refine (sameLists_eq A A' c c' L B B' w h h').mono ?_
  rintro e w' ⟨rfl, n, rfl⟩
  exact ⟨rfl, below_drewN (Below.refl _ _) n⟩
set_option maxHeartbeats 2000000 in
theorem sameNet_n (C C' P P' : Option Addr) (cc cc' cp cp' m m' n n' : Nat) (caps : List Int) (L : List (List Int)) (B B' : Nat) (w : World) (hc : Ints w B C cc caps) (hc' : Ints w B' C' cc' caps) (hp : Rows2 w B P cp L) (hp' : Rows2 w B' P' cp' L)
    (hB : B ≤ w.heap.size) (hB' : B' ≤ w.heap.size) (h1 : m = caps.length) (h2 : m' = caps.length) (h3 : n = L.length) (h4 : n' = L.length) :
    Calls Tryd.prog 33 #[.agg #[.slice C m cc, .slice P n cp], .agg #[.slice C' m' cc', .slice P' n' cp']] w fun e w' => e = .returned (.bool true) ∧ Below w.heap.size w w' := by
  have HB0 := Lib.hid (((Below.refl w.heap.size w).alloc (Nat.le_refl _) (.cells #[.slice C m cc, .slice P n cp] 43)).alloc (by simp) (.cells #[.slice C' m' cc', .slice P' n' cp'] 43))
  have HX := Lib.hid ((Blk.new w 43 #[.slice C m cc, .slice P n cp]).alloc (.cells #[.slice C' m' cc', .slice P' n' cp'] 43))
  have HY := Lib.hid (Blk.new' (w.alloc (.cells #[.slice C m cc, .slice P n cp] 43)) 43 #[.slice C' m' cc', .slice P' n' cp'] (g := w.heap.size + 1) (by simp))
  have H1 := Lib.hid (sameInts_n C C' cc cc' m m' caps B B' _ (hc.below HB0.out hB) (hc'.below HB0.out hB') h1 h2)
  have HP := Lib.hid hp
  have HP' := Lib.hid hp'
  have H3 := Lib.hid h3
  have H4 := Lib.hid h4
  clear hc hc' hp hp' h1 h2 h3 h4
  go_enter Tryd.func33, Tryd.ntmps33
  go_wp2_with fail
  refine H1.out.mono ?_; rintro e w1 ⟨rfl, hb1⟩
  have HX1 := Lib.hid (HX.out.go hb1)
  have HY1 := Lib.hid (HY.out.go hb1)
  have HB1 := Lib.hid (HB0.out.trans (hb1.mono HB0.out.size))
  obtain ⟨x0, x1, _, _, xz⟩ := HX1.out.two
  obtain ⟨y0, y1, _, _, yz⟩ := HY1.out.two
  clear hb1 H1
  go_wp2_with fail
  refine (sameLists_n P P' cp cp' n n' L B B' _ (HP.out.below HB1.out hB) (HP'.out.below HB1.out hB') H3.out H4.out).mono ?_; rintro e w2 ⟨rfl, hb2⟩
  have HB2 := Lib.hid (HB1.out.trans (hb2.mono HB1.out.size))
  clear hb2
  go_wp2
  go_ret
  exact ⟨rfl, HB2.out⟩
def usersErr (caps : List Int) (paths : List (List Int)) (link : Int) : Int := if netErr caps paths = 0 then (if link < 0 ∨ (caps.length : Int) ≤ link then 1 else 0) else netErr caps paths
set_option maxHeartbeats 2000000 in
theorem users_no (C : Option Addr) (cc : Nat) (caps : List Int) (P : Option Addr) (cp : Nat) (paths : List (List Int)) (link : Int) (B : Nat) (w : World) (er : Int) (hB : B ≤ w.heap.size)
    (hc : Ints w B C cc caps) (hp : Rows2 w B P cp paths) (he : usersErr caps paths link = er) (h0 : er ≠ 0) :
    Calls Tryd.prog 28 #[.agg #[.slice C caps.length cc, .slice P paths.length cp], .int .i64 link] w fun e w' => e = .returned (.tuple #[.slice none 0 0, .iface 119 (.int .i64 er)]) ∧ Below w.heap.size w w' := by
  have HB0 := Lib.hid ((Below.refl w.heap.size w).alloc (Nat.le_refl _) (.cells #[.slice C caps.length cc, .slice P paths.length cp] 43))
  have HX := Lib.hid (Blk.new w 43 #[.slice C caps.length cc, .slice P paths.length cp])
  have HCK := Lib.hid (ncheck_all C cc caps P cp paths B _ (by simp; omega) (hc.below HB0.out hB) (hp.below HB0.out hB))
  clear hc hp
  unfold usersErr at he
  by_cases h1 : netErr caps paths = 0
  · rw [if_pos h1] at he
    rw [h1, errVal_zero] at HCK
    clear h1
    by_cases hf : link < 0 ∨ (caps.length : Int) ≤ link
    · rw [if_pos hf] at he
      subst he
      clear h0
      have hf' : link < 0 ∨ (¬ link < 0 ∧ (caps.length : Int) ≤ link) := by omega
      clear hf
      rcases hf' with hf | ⟨hf0, hf⟩
      all_goals
        go_enter Tryd.func28, Tryd.ntmps28
        go_wp2_with fail
        refine HCK.out.mono ?_; rintro e w1 ⟨rfl, hb1⟩
        have HX1 := Lib.hid (HX.out.go hb1)
        have HB1 := Lib.hid (HB0.out.trans (hb1.mono HB0.out.size))
        obtain ⟨x0, x1, _, _, xz⟩ := HX1.out.two
        clear hb1 HCK
        go_wp2
        go_ret2
        exact ⟨rfl, HB1.out⟩
    · rw [if_neg hf] at he; exact absurd he.symm h0
  · rw [if_neg h1] at he
    rw [he, errVal_pos h0] at HCK
    clear h1 he h0
    go_enter Tryd.func28, Tryd.ntmps28
    go_wp2_with fail
    refine HCK.out.mono ?_; rintro e w1 ⟨rfl, hb1⟩
    have HB1 := Lib.hid (HB0.out.trans (hb1.mono HB0.out.size))
    clear hb1 HCK
    go_wp2
    go_ret2
    exact ⟨rfl, HB1.out⟩
set_option maxHeartbeats 2000000 in
theorem users_yes (C : Option Addr) (cc : Nat) (caps : List Int) (P : Option Addr) (cp : Nat) (paths : List (List Int)) (link : Int) (B : Nat) (w : World) (hB : B ≤ w.heap.size)
    (hc : Ints w B C cc caps) (hp : Rows2 w B P cp paths) (he : usersErr caps paths link = 0) :
    Calls Tryd.prog 28 #[.agg #[.slice C caps.length cc, .slice P paths.length cp], .int .i64 link] w fun e w' => ∃ v, e = .returned (.tuple #[v, .nilIface]) ∧ w'.ownsRow w.heap.size 3 1 v (users paths link).length (idxs (users paths link)) ∧ Below w.heap.size w w' := by
  have HB0 := Lib.hid ((Below.refl w.heap.size w).alloc (Nat.le_refl _) (.cells #[.slice C caps.length cc, .slice P paths.length cp] 43))
  have HX := Lib.hid (Blk.new w 43 #[.slice C caps.length cc, .slice P paths.length cp])
  have HCK := Lib.hid (ncheck_all C cc caps P cp paths B _ (by simp; omega) (hc.below HB0.out hB) (hp.below HB0.out hB))
  have HP := Lib.hid hp
  unfold usersErr at he
  have h1 : netErr caps paths = 0 := by
    apply Decidable.byContradiction; intro h; rw [if_neg h] at he; exact h he
  rw [if_pos h1] at he
  rw [h1, errVal_zero] at HCK
  obtain ⟨k0, k1, k2, k3, _, _⟩ := netErr_ok h1
  have hl : ¬ (link < 0 ∨ (caps.length : Int) ≤ link) := by
    intro h; rw [if_pos h] at he; exact absurd he (by decide)
  have l0 : ¬ link < 0 := by omega
  have l1 : decide ((caps.length : Int) ≤ link) = false := decide_eq_false (by omega)
  clear hc hp he h1 hl
  go_enter Tryd.func28, Tryd.ntmps28
  go_wp2_with fail
  refine HCK.out.mono ?_; rintro e w1 ⟨rfl, hb1⟩
  have HX1 := Lib.hid (HX.out.go hb1)
  have HB1 := Lib.hid (HB0.out.trans (hb1.mono HB0.out.size))
  obtain ⟨x0, x1, _, _, xz⟩ := HX1.out.two
  clear hb1 HCK
  have hsz := HB1.out.size
  go_wp2_with fail
  refine (over_any link _ P cp paths B w1 (Nat.le_trans hB hsz) (HP.out.below HB1.out hB) (by omega)).mono ?_; rintro e w2 ⟨v, rfl, hv, hb2⟩
  have HV := Lib.hid (show w2.ownsRow w.heap.size 3 1 v (users paths link).length (idxs (users paths link)) from own_base2 hv hsz)
  have HB2 := Lib.hid (HB1.out.trans (hb2.mono hsz))
  clear hv hb2
  go_wp2
  go_ret2
  exact ⟨v, rfl, HV.out, HB2.out⟩
end Go.Proofs.YtblanfaghnflkaaDoor
/- Nets for the laws: lengths as letters, nets written out. -/
namespace Go.Proofs.YtblanfaghnflkaaDoor
open Go.RowKit
theorem Ints.blk {w : World} {g : Nat} {t : TypeId} {l : List Int} {B : Nat} (h : Blk w g t (l.map (Value.int .i64)).toArray) (hB : g < B) (hl : l.length ≤ 1000000) : Ints w B (some ⟨g, 0, none⟩) l.length l :=
  ⟨⟨by simp, fun _ => ⟨g, 0, rfl, hB, fun j u hu => by rw [Nat.zero_add, h.cell j]; simpa using hu⟩⟩, Nat.le_refl _, by simp only [maxLen]; omega⟩
theorem Rows2.blk1 {w : World} {g c1 : Nat} {t : TypeId} {A1 : Option Addr} {l1 : List Int} {B : Nat} (h : Blk w g t #[.slice A1 l1.length c1]) (h1 : Ints w B A1 c1 l1) (hB : g < B) : Rows2 w B (some ⟨g, 0, none⟩) 1 [l1] :=
  ⟨fun _ => ⟨g, 0, rfl, hB, fun j l hl => by
    cases j with
    | zero => simp at hl; subst hl; exact ⟨A1, c1, h.cell 0, h1⟩
    | succ j => simp at hl⟩, Nat.le_refl _, by simp [maxLen]⟩
theorem Rows2.blk2 {w : World} {g c1 c2 : Nat} {t : TypeId} {A1 A2 : Option Addr} {l1 l2 : List Int} {B : Nat} (h : Blk w g t #[.slice A1 l1.length c1, .slice A2 l2.length c2]) (h1 : Ints w B A1 c1 l1) (h2 : Ints w B A2 c2 l2) (hB : g < B) : Rows2 w B (some ⟨g, 0, none⟩) 2 [l1, l2] :=
  ⟨fun _ => ⟨g, 0, rfl, hB, fun j l hl => by
    match j, hl with
    | 0, hl => simp at hl; subst hl; exact ⟨A1, c1, h.cell 0, h1⟩
    | 1, hl => simp at hl; subst hl; exact ⟨A2, c2, h.cell 1, h2⟩
    | j + 2, hl => simp at hl⟩, Nat.le_refl _, by simp [maxLen]⟩
theorem Rows2.blk3 {w : World} {g c1 c2 c3 : Nat} {t : TypeId} {A1 A2 A3 : Option Addr} {l1 l2 l3 : List Int} {B : Nat} (h : Blk w g t #[.slice A1 l1.length c1, .slice A2 l2.length c2, .slice A3 l3.length c3]) (h1 : Ints w B A1 c1 l1) (h2 : Ints w B A2 c2 l2) (h3 : Ints w B A3 c3 l3) (hB : g < B) : Rows2 w B (some ⟨g, 0, none⟩) 3 [l1, l2, l3] :=
  ⟨fun _ => ⟨g, 0, rfl, hB, fun j l hl => by
    match j, hl with
    | 0, hl => simp at hl; subst hl; exact ⟨A1, c1, h.cell 0, h1⟩
    | 1, hl => simp at hl; subst hl; exact ⟨A2, c2, h.cell 1, h2⟩
    | 2, hl => simp at hl; subst hl; exact ⟨A3, c3, h.cell 2, h3⟩
    | j + 3, hl => simp at hl⟩, Nat.le_refl _, by simp [maxLen]⟩
theorem firstFrom_snoc {f : Nat → Int} {n : Nat} : firstFrom f (n + 1) 0 = if firstFrom f n 0 = 0 then f n else firstFrom f n 0 := by
  have key : ∀ (n i : Nat), firstFrom f (n + 1) i = if firstFrom f n i = 0 then f (i + n) else firstFrom f n i := by
    intro n
    induction n with
    | zero => intro i; simp only [firstFrom]; split <;> rename_i h <;> simp [h]
    | succ n ih =>
      intro i
      rw [firstFrom, ih (i + 1)]
      rw [show i + 1 + n = i + (n + 1) by omega]
      conv => rhs; rw [firstFrom]
      by_cases h : f i = 0
      · simp only [if_pos h]
      · simp only [if_neg h]
  have := key n 0
  rwa [Nat.zero_add] at this
theorem netErr_snoc {caps : List Int} {paths : List (List Int)} {p : List Int} (h : netErr caps paths = 0) (h6 : paths.length ≠ 6) (hp : pathErr caps.length p = 0) : netErr caps (paths ++ [p]) = 0 := by
  obtain ⟨k0, k1, k2, k3, _, _⟩ := netErr_ok h
  unfold netErr at h ⊢
  rw [if_neg (by omega), if_neg (by omega)] at h
  have hla : (paths ++ [p]).length = paths.length + 1 := by simp
  rw [if_neg (by omega), if_neg (by omega)]
  split at h
  · rename_i hl
    rw [if_pos hl, Nat.sub_zero, hla]
    rw [firstFrom_snoc]
    have hc : firstFrom (fun i => pathErr caps.length ((paths ++ [p]).getD i [])) paths.length 0 = 0 := by
      rw [Nat.sub_zero] at h
      rw [← h]
      refine firstFrom_congr fun j _ hj => ?_
      rw [List.getD_eq_getElem?_getD, List.getD_eq_getElem?_getD, List.getElem?_append_left (by omega)]
    rw [if_pos hc]
    simpa using hp
  · rename_i hl; exact absurd h hl
theorem addErr_ok {caps : List Int} {paths : List (List Int)} {p : List Int} (h : addErr caps paths p = 0) : netErr caps paths = 0 ∧ paths.length ≠ 6 ∧ pathErr caps.length p = 0 ∧ netErr caps (paths ++ [p]) = 0 := by
  unfold addErr at h
  split at h
  · rename_i h1
    split at h
    · omega
    · rename_i h2; exact ⟨h1, h2, h, netErr_snoc h1 h2 h⟩
  · rename_i h1; exact absurd h h1
theorem add_yes' (C : Option Addr) (cc : Nat) (caps : List Int) (P : Option Addr) (cp : Nat) (paths : List (List Int)) (A : Option Addr) (c : Nat) (path : List Int) (B : Nat) (w : World) (hB : B ≤ w.heap.size)
    (hc : Ints w B C cc caps) (hp : Rows2 w B P cp paths) (hi : Ints w B A c path) (he : addErr caps paths path = 0) :
    Calls Tryd.prog 32 #[.agg #[.slice C caps.length cc, .slice P paths.length cp], .slice A path.length c] w fun e w' => ∃ C1 cc1 P1 cp1, e = .returned (.tuple #[.agg #[.slice C1 caps.length cc1, .slice P1 (paths.length + 1) cp1], .nilIface]) ∧ Ints w' w'.heap.size C1 cc1 caps ∧ Rows2 w' w'.heap.size P1 cp1 (paths ++ [path]) ∧ Below w.heap.size w w' := by
  refine (add_yes C cc caps P cp paths A c path B w hB hc hp hi he).mono ?_
  rintro e w' ⟨nv, he, hn, hb⟩
  obtain ⟨C1, cc1, P1, cp1, rfl, h1, h2⟩ := hn.ex
  exact ⟨C1, cc1, P1, cp1, by rw [he, List.length_append]; rfl, h1, h2, hb⟩
theorem drop_yes' (C : Option Addr) (cc : Nat) (caps : List Int) (P : Option Addr) (cp : Nat) (paths L' : List (List Int)) (f m : Nat) (B : Nat) (w : World) (hB : B ≤ w.heap.size)
    (hc : Ints w B C cc caps) (hp : Rows2 w B P cp paths) (hn : netErr caps paths = 0) (hf : f < paths.length) (h2 : paths.length ≠ 1) (hm : m = paths.length) (hL : paths.eraseIdx f = L') :
    Calls Tryd.prog 35 #[.agg #[.slice C caps.length cc, .slice P m cp], .int .i64 f] w fun e w' => ∃ C1 cc1 P1 cp1, e = .returned (.tuple #[.agg #[.slice C1 caps.length cc1, .slice P1 L'.length cp1], .nilIface]) ∧ Ints w' w'.heap.size C1 cc1 caps ∧ Rows2 w' w'.heap.size P1 cp1 L' ∧ Below w.heap.size w w' := by
  subst hm hL
  refine (drop_yes C cc caps P cp paths f B w hB hc hp hn hf h2).mono ?_
  rintro e w' ⟨nv, he, hn, hb⟩
  obtain ⟨C1, cc1, P1, cp1, rfl, h1, h2⟩ := hn.ex
  exact ⟨C1, cc1, P1, cp1, he, h1, h2, hb⟩
theorem users_yes' (C : Option Addr) (cc : Nat) (caps : List Int) (P : Option Addr) (cp m : Nat) (paths : List (List Int)) (link : Int) (u : List Nat) (n : Nat) (B : Nat) (w : World) (hB : B ≤ w.heap.size)
    (hc : Ints w B C cc caps) (hp : Rows2 w B P cp paths) (hm : m = paths.length) (he : usersErr caps paths link = 0) (hu : users paths link = u) (hn : u.length = n) :
    Calls Tryd.prog 28 #[.agg #[.slice C caps.length cc, .slice P m cp], .int .i64 link] w fun e w' => ∃ A c, e = .returned (.tuple #[.slice A n c, .nilIface]) ∧ Ints w' w'.heap.size A c (u.map fun (i : Nat) => (i : Int)) ∧ Below w.heap.size w w' := by
  subst hm hu hn
  refine (users_yes C cc caps P cp paths link B w hB hc hp he).mono ?_
  rintro e w' ⟨v, he, hv, hb⟩
  have hid : idxs (users paths link) = ((users paths link).map fun (i : Nat) => (i : Int)).map (Value.int .i64) := by simp [idxs]
  rw [hid] at hv
  obtain ⟨A, c, rfl, hn, hi⟩ := owns_ints hv
  exact ⟨A, c, by rw [he, ← hn], hi, hb⟩
theorem users_no' (C : Option Addr) (cc : Nat) (caps : List Int) (P : Option Addr) (cp m : Nat) (paths : List (List Int)) (link : Int) (B : Nat) (w : World) (er : Int) (hB : B ≤ w.heap.size)
    (hc : Ints w B C cc caps) (hp : Rows2 w B P cp paths) (hm : m = paths.length) (he : usersErr caps paths link = er) (h0 : er ≠ 0) :
    Calls Tryd.prog 28 #[.agg #[.slice C caps.length cc, .slice P m cp], .int .i64 link] w fun e w' => e = .returned (.tuple #[.slice none 0 0, .iface 119 (.int .i64 er)]) ∧ Below w.heap.size w w' := by
  subst hm; exact users_no C cc caps P cp paths link B w er hB hc hp he h0
theorem users_snoc_yes {paths : List (List Int)} {p : List Int} {x : Int} (h : inL p x = true) : users (paths ++ [p]) x = users paths x ++ [paths.length] := by
  unfold users
  rw [List.length_append]
  show usersTo _ x (paths.length + 1) = _
  rw [usersTo_yes (l := p) (by simp) h]
  congr 1
  unfold usersTo
  refine List.filter_congr fun f hf => ?_
  have := List.mem_range.1 hf
  rw [List.getD_eq_getElem?_getD, List.getD_eq_getElem?_getD, List.getElem?_append_left this]
theorem users_snoc_no {paths : List (List Int)} {p : List Int} {x : Int} (h : inL p x = false) : users (paths ++ [p]) x = users paths x := by
  unfold users
  rw [List.length_append]
  show usersTo _ x (paths.length + 1) = _
  rw [usersTo_no (l := p) (by simp) h]
  unfold usersTo
  refine List.filter_congr fun f hf => ?_
  have := List.mem_range.1 hf
  rw [List.getD_eq_getElem?_getD, List.getD_eq_getElem?_getD, List.getElem?_append_left this]
theorem erase_last {α : Type} (l : List α) (x : α) : (l ++ [x]).eraseIdx l.length = l := by
  rw [List.eraseIdx_append_of_length_le (Nat.le_refl _)]; simp
end Go.Proofs.YtblanfaghnflkaaDoor
