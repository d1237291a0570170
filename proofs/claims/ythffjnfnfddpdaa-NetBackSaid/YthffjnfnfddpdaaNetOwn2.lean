/- net.Own: its walk. -/
import Derived.Test.YthffjnfnfddpdaaNetOwn
namespace Go.Proofs.Ythffjnfnfddpdaa
open Go.RowKit
set_option maxHeartbeats 4000000 in
set_option maxRecDepth 100000 in
theorem own_any (C : Option Addr) (cc : Nat) (caps : List Int) (P : Option Addr) (cp : Nat) (paths : List (List Int)) (B : Nat) (w : World) (hB : B ≤ w.heap.size) (hc : Ints w B C cc caps) (hp : Rows2 w B P cp paths)
    (hcl : caps.length ≤ 1000) (hpl : paths.length ≤ 1000) (hll : ∀ l ∈ paths, l.length ≤ 1000) :
    Calls Try.prog 81 #[.agg #[.slice C caps.length cc, .slice P paths.length cp]] w fun e w' => ∃ cv pv vs, e = .returned (.agg #[cv, pv]) ∧ NetOwn w' w.heap.size cv pv vs caps paths ∧ Below w.heap.size w w' := by
  have HPP := Lib.hid hp
  have HLL := Lib.hid hll
  have HCC := Lib.hid hc
  clear hc hp hll
  have HN0 := Lib.hid ((Blk.new w 56 #[.slice C caps.length cc, .slice P paths.length cp]).alloc (.cells #[.slice none 0 0, .slice none 0 0] 56))
  have HR0 := Lib.hid (Blk.new' (w.alloc (.cells #[.slice C caps.length cc, .slice P paths.length cp] 56)) 56 #[.slice none 0 0, .slice none 0 0] (g := w.heap.size + 1) (by simp))
  have HB0 := Lib.hid (((Below.refl w.heap.size w).alloc (Nat.le_refl _) (.cells #[.slice C caps.length cc, .slice P paths.length cp] 56)).alloc (by simp) (.cells #[.slice none 0 0, .slice none 0 0] 56))
  go_enter Try.func81, Try.ntmps81
  go_wp2_with fail
  refine (clone_any C cc caps B _ (HCC.out.below HB0.out hB) (by omega) (by simp; omega)).mono ?_; rintro e w1 ⟨cv, rfl, hov, hb1⟩
  obtain ⟨Cv, ccv, rfl, _, _⟩ := owns_ints hov
  have HN1 := Lib.hid ((HN0.out.go hb1).alloc (.cells #[.slice Cv caps.length ccv, .slice none 0 0] 56))
  have HR1 := Lib.hid ((HR0.out.go hb1).alloc (.cells #[.slice Cv caps.length ccv, .slice none 0 0] 56))
  have HG1 := Lib.hid (Blk.new w1 56 #[.slice Cv caps.length ccv, .slice none 0 0])
  have hb2 := HB0.out.trans (hb1.mono HB0.out.size)
  have HB1 := Lib.hid (hb2.alloc hb2.size (.cells #[.slice Cv caps.length ccv, .slice none 0 0] 56))
  have hw1 := hb2.size
  have HO1 : Hid (NetOwn (w1.alloc (.cells #[.slice Cv caps.length ccv, .slice none 0 0] 56)) w.heap.size (.slice Cv caps.length ccv) (.slice none 0 0) [] caps []) := Lib.hid ⟨own_baseB (hov.alloc _) (by simp; omega), World.ownsRow_nil _ _ _ _, fun i u l h => by simp at h, fun i u h => by simp at h, fun i j u u' h => by simp at h⟩
  have hg1 : w.heap.size + 1 < w1.heap.size := by have := hb1.size; simp at this; omega
  clear hov hb1 hb2 HN0 HR0 HB0
  obtain ⟨go, hgo⟩ : ∃ x, x = w1.heap.size := ⟨_, rfl⟩
  rw [← hgo] at HG1 hg1 hw1
  obtain ⟨n0, n1, _, _, nz⟩ := HN1.out.two
  go_wp2
  rw [← hgo]
  clear n0 n1 nz hgo
  go_loopw [13] (fun i wr => ∃ (k : Nat) (pv : Value) (vs : List Value), k ≤ paths.length ∧ i = .int .i64 k ∧ Hid (NetOwn wr w.heap.size (.slice Cv caps.length ccv) pv vs caps (paths.take k)) ∧ Hid (Blk wr go 56 #[.slice Cv caps.length ccv, pv]) ∧ Hid (Blk wr (w.heap.size + 1) 56 #[.slice none 0 0, .slice none 0 0]) ∧ Hid (Below w.heap.size w wr)) (fun i _ => paths.length - (intOf i).toNat)
  case atStart => exact ⟨0, _, [], Nat.zero_le _, rfl, HO1, HG1, HR1, HB1⟩
  case round =>
    clear HN1 HR1 HG1 HB1 HO1
    obtain ⟨k, pv, vs, hk, rfl, HO, HG, HR, HB⟩ := hrel
    have hsz := HB.out.size
    by_cases hlt : k < paths.length
    · obtain ⟨b, off, A', c', l, rfl, hbb, hcell, hi, HX⟩ := (HPP.out.below HB.out hB).elem hlt
      have hbw : b < wr.heap.size := by omega
      have k0 : (0 : Int) ≤ (k : Int) := by omega
      have HI := Lib.hid hi
      have hl1 := HLL.out l (List.mem_of_getElem? HX.out)
      have HT := Lib.hid (take_snoc' paths k l HX.out)
      have htl : (paths.take k).length = k := by rw [List.length_take]; omega
      have HTL := Lib.hid htl
      have hkM : k ≤ 1000000 := by omega
      have HLT := Lib.hid HO.out.lt
      obtain ⟨g0, g1, f0, f1, gz⟩ := HG.out.two
      clear hi HX htl
      go_wp2_with fail
      go_region_law (first
        | (refine step_push rfl (.tmp 18) (.tmp 21) 54 rfl w.heap.size 38 (.slice none 0 0) 1 24 Try.underlying54 Try.info_row rfl (by omega) pv (paths.take k).length vs rfl HOV.out _ #[.slice U l.length cu] rfl (heap_alloc_new _ _) rfl HU1.out (by rw [HTL.out]; exact hkM) (by decide) hbz1 ?_; intro pv' w9 hown9 hg9 hblk9; have HO9 := Lib.hid (NetOwn.push (HOZ.out.below HAZ.out) HLT.out (own_below HU.out HAZ.out) hsz hown9 hg9); have HG9 := Lib.hid ((HGZ.out.alloc _).grown hg9 (fun e => own_blk_ne HOV.out (HGZ.out.alloc _) (by decide) e.symm)); have HR9 := Lib.hid ((HRZ.out.alloc _).grown hg9 (fun e => own_blk_ne HOV.out (HRZ.out.alloc _) (by decide) e.symm)); have HB9 := Lib.hid (below_push HBZ.out HOV.out hg9 (Nat.le_refl _) hbz1); clear hown9 hg9 hblk9; obtain ⟨P9, c9, hpv, _⟩ := HO9.out.rows; rw [show (paths.take k ++ [l]).length = k + 1 from (by rw [List.length_append, HTL.out]; rfl)] at hpv; subst hpv; obtain ⟨x0, x1, y0, y1, yz⟩ := HG9.out.two)
        | (go_simp; go_at_call 68; refine (clone_any A' c' l B _ (by first | exact HI.out | exact HI.out.below (Below.refl _ _).drew hB) (by omega) (by first | omega | (simp; omega))).mono ?_; rintro e wz ⟨u, rfl, hu, hbz⟩; obtain ⟨U, cu, rfl, _, _⟩ := owns_ints hu; have HBW : Hid (Below wr.heap.size wr wz) := Lib.hid ((Below.refl _ _).drew.trans hbz); have HU := Lib.hid hu; clear hu hbz; have HOZ := Lib.hid (HO.out.below HBW.out); have HGZ := Lib.hid (HG.out.go HBW.out); have HRZ := Lib.hid (HR.out.go HBW.out); have HAZ : Hid (Below wz.heap.size wz (wz.alloc (.cells #[.slice U l.length cu] 38))) := Lib.hid ((Below.refl _ _).alloc (Nat.le_refl _) _); have HOV := Lib.hid (HOZ.out.own.alloc (.cells #[.slice U l.length cu] 38)); have hb3 := HB.out.trans (HBW.out.mono hsz); have hb4 := hb3.size; have HBZ := Lib.hid (hb3.alloc hb4 (.cells #[.slice U l.length cu] 38)); have hbz1 : w.heap.size ≤ (wz.alloc (.cells #[.slice U l.length cu] 38)).heap.size := HBZ.out.size; have HU1 : Hid (∀ x ∈ #[Value.slice U l.length cu].toList, x.oneCell' = true) := Lib.hid (by simp [Value.oneCell']); clear hb3 hb4; obtain ⟨h0, h1, e0, e1, ez⟩ := HGZ.out.two))
      all_goals
        go_wp2
        go_roundw
        case rel => exact ⟨k + 1, _, vs ++ [.slice U l.length cu], by omega, by go_num, by rw [HT.out]; exact Lib.hid (HO9.out.far HG9.out (by decide) (by decide) _ _), Lib.hid (HG9.out.s2_1 _), Lib.hid (HR9.out.far (p := ⟨go, 1, none⟩) (Nat.ne_of_lt hg1) _), Lib.hid (HB9.out.setCell (p := ⟨go, 1, none⟩) hw1 _)⟩
        case measure => simp [intOf]; omega
    · obtain rfl : k = paths.length := by omega
      rw [List.take_length] at HO
      obtain ⟨P', cp', rfl, _⟩ := HO.out.rows
      obtain ⟨g0, g1, f0, f1, gz⟩ := HG.out.two
      obtain ⟨r0, r1, _, _, rz⟩ := HR.out.two
      have HFIN := Lib.hid (((HB.out.setCell (p := ⟨w.heap.size + 1, 0, none⟩) (Nat.le_succ _) (.slice Cv caps.length ccv)).setCell (p := ⟨w.heap.size + 1, 1, none⟩) (Nat.le_succ _) (.slice P' paths.length cp')))
      have HOF := Lib.hid (((HO.out.far HR.out (by decide) (by decide) 0 (.slice Cv caps.length ccv)).far (HR.out.s2_0 _) (by decide) (by decide) 1 (.slice P' paths.length cp')))
      go_wp2
      refine bodyPost_ret (v := .agg #[.slice Cv caps.length ccv, .slice P' paths.length cp']) (by simp [results, Try.results81, go_sem, r0, r1]) rfl ⟨_, _, vs, rfl, HOF.out, HFIN.out⟩
end Go.Proofs.Ythffjnfnfddpdaa
