/- (*Road).Tick; blocks of others stay. Printed by gen_rf.py out of RoadTick. -/
import Derived.Test.YtblanfaghnflkaaDoorRoadTick
import Derived.Test.YtblanfaghnflkaaDoorRfSend
namespace Go.Proofs.YtblanfaghnflkaaDoor.RF
open Go.RowKit
attribute [local go_sem ↓] run_min_mn run_max_mx
set_option maxHeartbeats 8000000 in
set_option maxRecDepth 100000 in
theorem tick_any (F : Nat → Prop) (w : World) (base g gs cs n : Nat) (vr : Value) (S : List Src) (r p k : Int) (row : List Nat) (h : RoadAt 136 F w base g gs cs n vr S r p k row) (hb : base ≤ w.heap.size) (ti : TickIn n S r p k row) :
    Calls Tryd.prog 39 #[.pointer (some ⟨g, 0, none⟩)] w fun e w' => ∃ vr', e = .returned (.agg #[.int .i64 (PP.went p k (cameOf S)), .int .i64 (PP.lost r p k (cameOf S)), .int .i64 (PP.left r p k (cameOf S))]) ∧
      RoadAt 136 F w' base g gs cs n vr' (acts (decide (k ≤ r / 2)) (PP.went p k (cameOf S)).toNat (PP.went p k (cameOf S) + PP.left r p k (cameOf S)).toNat (row ++ sends 0 S) (S.map Src.sent) (row ++ sends 0 S).length) r p (PP.left r p k (cameOf S))
        (((row ++ sends 0 S).drop (PP.went p k (cameOf S)).toNat).take (PP.left r p k (cameOf S)).toNat) ∧ Below base w w' ∧ Others 136 F w w' := by
  obtain ⟨h6, hl, hok, hn, r0, r1, p0, p1, k0, kr, hrow, hrun⟩ := ti
  have hcb := cameOf_bd S hn
  have hsl := sends_len S (fun s hs => (hn s hs).1) 0
  have HSEND := Lib.hid fun W vr' (hW : RoadAt 136 F W base g gs cs n vr' S r p k row) hbW => send_any F W base g gs cs n vr' S r p k row hW hbW h6 hok hn (by omega)
  obtain ⟨row1, hrow1⟩ : ∃ x, row ++ sends 0 S = x := ⟨_, rfl⟩
  have hr1l : (row1.length : Int) = k + cameOf S := by rw [← hrow1, List.length_append]; omega
  have c0 := hcb.1
  have c1 : cameOf S ≤ 6000 := by have := hcb.2; rw [hl] at this; omega
  rw [hrow1] at hrun HSEND ⊢
  generalize cameOf S = came at *
  obtain ⟨b, hbb⟩ : ∃ b, decide (k ≤ r / 2) = b := ⟨_, rfl⟩
  rw [hbb] at hrun ⊢
  have hw : 0 ≤ PP.went p k came ∧ 0 ≤ PP.left r p k came ∧ PP.went p k came + PP.left r p k came ≤ k + came ∧ 0 ≤ PP.lost r p k came ∧ PP.lost r p k came ≤ 20000 := by unfold PP.lost PP.left PP.went; omega
  have HFL := Lib.hid fun W => flow_any r p k came W (by omega) (by omega) (by omega) (by omega) (by omega) (by omega) (by omega) (by omega)
  generalize PP.went p k came = wt at *
  generalize PP.left r p k came = lf at *
  generalize PP.lost r p k came = lo at *
  obtain ⟨w0, w1, w2, w3, w4⟩ := hw
  obtain ⟨st, hst⟩ : ∃ st : Nat, (wt + lf).toNat = st := ⟨_, rfl⟩
  obtain ⟨wn, hwn⟩ : ∃ wn : Nat, wt.toNat = wn := ⟨_, rfl⟩
  rw [hst, hwn] at hrun ⊢
  have H := Lib.hid h
  have HRUN := Lib.hid hrun
  have HBB := Lib.hid hbb
  have HB0 := Lib.hid h.blk
  have HNG := Lib.hid h.ng
  obtain ⟨d0, d1, d2, d3, d4, e0, e1, e2, e3, e4, z⟩ := h.cells
  clear h hrun hbb hcb hsl hrow1 hok hn hrow
  have z1 : g < w.heap.size + 1 := by omega
  have HA := Lib.hid (H.out.alloc (.cells #[.int .i64 0, .int .i64 0, .int .i64 0] 69))
  have HBA := Lib.hid ((Below.refl base w).alloc hb (.cells #[.int .i64 0, .int .i64 0, .int .i64 0] 69))
  have HP2 := Lib.hid (Blk.new w 69 #[.int .i64 0, .int .i64 0, .int .i64 0])
  have hdr : r.tdiv 2 = r / 2 := Int.tdiv_eq_ediv_of_nonneg r0
  go_enter Tryd.func39, Tryd.ntmps39
  go_wp2
  go_quiet (fail)
  go_wp2_with fail
  rw [HBB.out]
  have HAa := Lib.hid (HA.out.below (below_drewN (Below.refl _ _) nq))
  have HBa := Lib.hid (below_drewN HBA.out nq)
  have HPa := Lib.hid (HP2.out.drewN nq)
  have HOa := Lib.hid (((Others.refl (T := 136) (F := F) w).alloc (.cells #[.int .i64 0, .int .i64 0, .int .i64 0] 69)).drewN nq)
  obtain ⟨wa, hwa⟩ : ∃ x, x = (w.alloc (.cells #[.int .i64 0, .int .i64 0, .int .i64 0] 69)).drewN nq := ⟨_, rfl⟩
  rw [← hwa] at HAa HBa HPa HOa ⊢
  clear hwa d0 d1 d2 d3 d4 e0 e1 e2 e3 e4 z z1 H HA HBA HP2
  obtain ⟨g2, hg2⟩ : ∃ x, x = w.heap.size := ⟨_, rfl⟩
  rw [← hg2] at HPa ⊢
  have hg2b : base ≤ g2 := by omega
  have hg2e : w.heap.size ≤ g2 := by omega
  clear hg2
  obtain ⟨d0, d1, d2, d3, d4, e0, e1, e2, e3, e4, z⟩ := HAa.out.cells
  have hba := HBa.out.size
  have hoa := HOa.out.1
  have hg2lt := HPa.out.lt
  have hba2 : base ≤ wa.heap.size := by omega
  go_cut [4, 5] (fun s4 s5 wx => ∃ (gp gg : Nat) (vr1 : Value), s4 = .pointer (some ⟨gp, 0, none⟩) ∧ s5 = .pointer (some ⟨gg, 0, none⟩) ∧ base ≤ gp ∧ base ≤ gg ∧ Hid (RoadAt 136 F wx base g gs cs n vr1 (S.map Src.sent) r p k row1) ∧ Hid (Blk wx gp 60 #[.int .i64 r, .int .i64 p, .int .i64 lf]) ∧ Hid (Blk wx gg 69 #[.int .i64 wt, .int .i64 lo, .int .i64 lf]) ∧ Hid (Blk wx g2 69 #[.int .i64 0, .int .i64 0, .int .i64 0]) ∧ gg ≠ g2 ∧ Hid (Below base w wx) ∧ Hid (Others 136 F w wx))
  case first =>
    go_region_law (first
      | (go_simp; go_at_call 101; refine (HFL.out _).mono ?_; rintro e wy ⟨rfl, rfl⟩)
      | (go_simp; go_at_call 102; refine (HSEND.out _ vr HAa.out.drew (by first | exact hba2 | (simp; omega))).mono ?_; rintro e wz ⟨vr1, rfl, hrz, hbz, hoz⟩; have HRZ := Lib.hid hrz; have HBZ := Lib.hid (HBa.out.drew.trans hbz); have HOZ := Lib.hid hoz; have OZ := Lib.hid (HOa.out.drew.trans hoz); have K0 := Lib.hid (hoz.2 _ _ _ HPa.out.drew (by decide) (by decide) (by decide)); clear hrz hbz hoz; obtain ⟨c0', c1', c2', c3', c4', f0', f1', f2', f3', f4', zz⟩ := HRZ.out.cells; have hsz := HOZ.out.1; simp at hsz; have K1 := Lib.hid True.intro; have K2 := Lib.hid True.intro)
      | (go_simp; go_at_call 102; refine (HSEND.out _ vr (HAa.out.alloc _).drew (by first | exact hba2 | (simp; omega))).mono ?_; rintro e wz ⟨vr1, rfl, hrz, hbz, hoz⟩; have HRZ := Lib.hid hrz; have HBZ := Lib.hid ((HBa.out.alloc hba2 _).drew.trans hbz); have HOZ := Lib.hid hoz; have OZ := Lib.hid ((HOa.out.alloc _).drew.trans hoz); have K0 := Lib.hid (hoz.2 _ _ _ (HPa.out.alloc _).drew (by decide) (by decide) (by decide)); clear hrz hbz hoz; obtain ⟨c0', c1', c2', c3', c4', f0', f1', f2', f3', f4', zz⟩ := HRZ.out.cells; have hsz := HOZ.out.1; simp at hsz; have K1 := Lib.hid (HOZ.out.2 _ _ _ (Blk.new wa _ _).drew (by decide) (by decide) (by decide)); obtain ⟨k0', k1', k2', l0', l1', l2', kz⟩ := K1.out.three; have K2 := Lib.hid True.intro; have kz1 : wa.heap.size < wz.heap.size + 1 := (by omega); have kz2 : wa.heap.size < wz.heap.size + 1 + 1 := (by omega); have kz3 : wa.heap.size < wz.heap.size + 1 + 1 + 1 := (by omega); have kz4 : wa.heap.size < wz.heap.size + 1 + 1 + 1 + 1 := (by omega))
      | (go_simp; go_at_call 102; refine (HSEND.out _ vr ((HAa.out.alloc _).alloc _).drew (by first | exact hba2 | (simp; omega))).mono ?_; rintro e wz ⟨vr1, rfl, hrz, hbz, hoz⟩; have HRZ := Lib.hid hrz; have HBZ := Lib.hid (((HBa.out.alloc hba2 _).alloc (by simp; omega) _).drew.trans hbz); have HOZ := Lib.hid hoz; have OZ := Lib.hid (((HOa.out.alloc _).alloc _).drew.trans hoz); have K0 := Lib.hid (hoz.2 _ _ _ ((HPa.out.alloc _).alloc _).drew (by decide) (by decide) (by decide)); clear hrz hbz hoz; obtain ⟨c0', c1', c2', c3', c4', f0', f1', f2', f3', f4', zz⟩ := HRZ.out.cells; have hsz := HOZ.out.1; simp at hsz; have K1 := Lib.hid (HOZ.out.2 _ _ _ ((Blk.new wa _ _).alloc _).drew (by decide) (by decide) (by decide)); have K2 := Lib.hid (HOZ.out.2 _ _ _ (Blk.new' (wa.alloc _) _ _ (g := wa.heap.size + 1) (by simp)).drew (by decide) (by decide) (by decide)); obtain ⟨k0', k1', k2', l0', l1', l2', kz⟩ := K1.out.three; obtain ⟨m0', m1', m2', n0', n1', n2', mz⟩ := K2.out.three; have kz1 : wa.heap.size < wz.heap.size + 1 := (by omega); have kz2 : wa.heap.size < wz.heap.size + 1 + 1 := (by omega); have kz3 : wa.heap.size < wz.heap.size + 1 + 1 + 1 := (by omega); have kz4 : wa.heap.size < wz.heap.size + 1 + 1 + 1 + 1 := (by omega); have mz1 : wa.heap.size + 1 < wz.heap.size + 1 := (by omega); have mz2 : wa.heap.size + 1 < wz.heap.size + 1 + 1 := (by omega); have mz3 : wa.heap.size + 1 < wz.heap.size + 1 + 1 + 1 := (by omega); have mz4 : wa.heap.size + 1 < wz.heap.size + 1 + 1 + 1 + 1 := (by omega)))
    all_goals
      go_wp2_with fail
      go_meet
      refine ⟨_, _, vr1, rfl, rfl, ?_, ?_, Lib.hid ?_, Lib.hid ?_, Lib.hid ?_, Lib.hid ?_, ?_, Lib.hid ?_, Lib.hid ?_⟩
      · first | omega | (focus (simp; done)) | (simp; omega)
      · first | omega | (focus (simp; done)) | (simp; omega)
      · repeat' (first | with_reducible exact HRZ.out | with_reducible exact K1.out | with_reducible exact K2.out | with_reducible apply RoadAt.drew | with_reducible apply RoadAt.alloc | with_reducible apply RoadAt.far | with_reducible apply Blk.s3_0 | with_reducible apply Blk.s3_1 | with_reducible apply Blk.s3_2 | with_reducible apply Blk.drew | with_reducible apply Blk.alloc | with_reducible apply Blk.far | (with_reducible apply Blk.new'; first | with_reducible rfl | (focus (simp; done)) | (focus (simp; omega))) | (simp; omega))
        all_goals (first | decide | omega | (focus (simp; done)) | (simp; omega))
      · repeat' (first | with_reducible exact K1.out | with_reducible exact K2.out | with_reducible apply Blk.s3_0 | with_reducible apply Blk.s3_1 | with_reducible apply Blk.s3_2 | with_reducible apply Blk.drew | (with_reducible apply Blk.new'; first | with_reducible rfl | (focus (simp; done)) | (focus (simp; omega))) | with_reducible apply Blk.alloc | with_reducible apply Blk.far | omega | (focus (simp; done)) | (simp; omega))
      · repeat' (first | with_reducible exact K1.out | with_reducible exact K2.out | with_reducible apply Blk.s3_0 | with_reducible apply Blk.s3_1 | with_reducible apply Blk.s3_2 | with_reducible apply Blk.drew | (with_reducible apply Blk.new'; first | with_reducible rfl | (focus (simp; done)) | (focus (simp; omega))) | with_reducible apply Blk.alloc | with_reducible apply Blk.far | omega | (focus (simp; done)) | (simp; omega))
      · repeat' (first | with_reducible exact K0.out | with_reducible apply Blk.s3_0 | with_reducible apply Blk.s3_1 | with_reducible apply Blk.s3_2 | with_reducible apply Blk.drew | with_reducible apply Blk.alloc | with_reducible apply Blk.far | omega | (focus (simp; done)) | (simp; omega))
      · first | omega | (focus (simp; done)) | (simp; omega)
      · repeat' (first | with_reducible exact HBZ.out | with_reducible apply Below.drew | with_reducible apply Below.alloc | with_reducible apply Below.setCell | omega | (focus (simp; done)) | (simp; omega))
      · repeat' (first | with_reducible exact OZ.out | with_reducible apply Others.drew | with_reducible apply Others.alloc | with_reducible apply Others.setNew | omega | (focus (simp; done)) | (simp; omega))
  case rest =>
    obtain ⟨gp, gg, vr1, rfl, rfl, hgp, hgg, HR, HP, HG, H2, hgg2, HB, HO⟩ := hcut
    clear d0 d1 d2 d3 d4 e0 e1 e2 e3 e4 z HAa HBa HPa HOa HSEND HFL hba hoa hg2lt hba2
    obtain ⟨A, c, rfl, _⟩ := idxs_ints HR.out.row
    obtain ⟨c0, c1', c2, c3, c4, f0, f1, f2, f3, f4, z⟩ := HR.out.cells
    obtain ⟨q0, q1, q2, qf0, qf1, qf2, qz⟩ := HG.out.three
    go_wp2
    go_loopw [35] (fun vi wr => ∃ m : Nat, m ≤ row1.length ∧ vi = .int .i64 m ∧ Hid (RoadAt 136 F wr base g gs cs n (.slice A row1.length c) (acts b wn st row1 (S.map Src.sent) m) r p k row1) ∧ Hid (Blk wr gp 60 #[.int .i64 r, .int .i64 p, .int .i64 lf]) ∧ Hid (Blk wr gg 69 #[.int .i64 wt, .int .i64 lo, .int .i64 lf]) ∧ Hid (Blk wr g2 69 #[.int .i64 0, .int .i64 0, .int .i64 0]) ∧ Hid (Below base w wr) ∧ Hid (Others 136 F w wr)) (fun vi _ => row1.length - (intOf vi).toNat)
    case atStart => exact ⟨0, Nat.zero_le _, rfl, HR, HP, HG, H2, HB, HO⟩
    case round =>
      clear HR HP HG H2 HB HO c0 c1' c2 c3 c4 f0 f1 f2 f3 f4 z q0 q1 q2 qf0 qf1 qf2 qz
      obtain ⟨m, hm, rfl, HR, HP, HG, H2, HB, HO⟩ := hrel
      obtain ⟨c0, c1', c2, c3, c4, f0, f1, f2, f3, f4, z⟩ := HR.out.cells
      obtain ⟨q0, q1, q2, qf0, qf1, qf2, qz⟩ := HG.out.three
      by_cases hlt : m < row1.length
      · obtain ⟨i, s, hri, hsi, hok⟩ := HRUN.out m hlt
        obtain ⟨gr, cap, hv, hr0, hr1⟩ := own_form HR.out.row (by omega)
        injection hv with e1 _ e3
        subst e1; subst e3
        have hrc := (HR.out.row.cellAt m (by omega)).trans (idxs_at hri)
        obtain ⟨s0, s1, s2, s3, sf⟩ := HR.out.src hsi
        obtain ⟨gl, gz⟩ := HR.out.gs_lo
        have hil : i < (acts b wn st row1 (S.map Src.sent) m).length := (List.getElem?_eq_some_iff.1 hsi).1
        have hin : i < n := by have := HR.out.len; omega
        have hstep := act1_some (b := b) (went := wn) (stay := st) hri hsi
        have HST := Lib.hid hstep
        have HIL := Lib.hid hil
        have HSI := Lib.hid hsi
        have i0 : (0 : Int) ≤ (i : Int) := by omega
        have i1 : (i : Int) < n := by omega
        have hmm : (m : Int) < row1.length := by omega
        have t0 := sf (i * 4)
        have t1 := sf (i * 4 + 1)
        have t2 := sf (i * 4 + 2)
        have t3 := sf (i * 4 + 3)
        clear sf hri hsi hstep hil
        have HAK := Lib.hid fun W => acked_any s.W s.a s.l s.c b W hok
        have HFE := Lib.hid fun W => fell_b s.W s.a s.l s.c W hok
        clear hok
        obtain ⟨sW, sa, sl, sc⟩ := s
        simp only at s0 s1 s2 s3 HAK HFE
        by_cases h1 : (m : Int) < wt
        · have hx : m < wn := by omega
          rw [if_pos hx] at HST
          clear HFE
          go_wp2_with fail
          go_region_law (go_simp; go_at_call 103; refine (HAK.out _).mono ?_; rintro e wz ⟨rfl, hbz⟩; have HRZ := Lib.hid (HR.out.drew.below hbz); have HPZ := Lib.hid (HP.out.drew.below hbz HP.out.drew.lt); have HGZ := Lib.hid (HG.out.drew.below hbz HG.out.drew.lt); have H2Z := Lib.hid (H2.out.drew.below hbz H2.out.drew.lt); have HBZ := Lib.hid (HB.out.drew.trans (hbz.mono (Nat.le_trans hb HB.out.drew.size))); have HOZ := Lib.hid (HO.out.drew.below hbz); obtain ⟨t0, t1, t2, t3, tf⟩ := HRZ.out.src HSI.out; have tf0 := tf (i * 4); have tf1 := tf (i * 4 + 1); have tf2 := tf (i * 4 + 2); have tf3 := tf (i * 4 + 3); clear tf hbz; obtain ⟨d0, _, _, _, _, e0, _, _, _, _, dz⟩ := HRZ.out.cells)
          all_goals
            go_wp2
            go_roundw
            case rel => exact ⟨m + 1, by omega, by go_num, Lib.hid (by show RoadAt 136 F _ _ _ _ _ _ _ (act1 _ _ _ _ _ _) _ _ _ _; rw [HST.out]; exact HRZ.out.store ⟨ackW sW b, sa - 1, sl, sc + 1⟩ HIL.out), Lib.hid (HPZ.out.far4' HRZ.out.gsBlk (by decide) _ _ _ _ _ _ _ _), Lib.hid (HGZ.out.far4' HRZ.out.gsBlk (by decide) _ _ _ _ _ _ _ _), Lib.hid (H2Z.out.far4' HRZ.out.gsBlk (by decide) _ _ _ _ _ _ _ _), Lib.hid ((((HBZ.out.setCell gl _).setCell gl _).setCell gl _).setCell gl _), Lib.hid (HOZ.out.store HRZ.out _ _ _ _ _ _ _ _)⟩
            case measure => simp [intOf]; omega
        · by_cases h2 : wt + lf ≤ (m : Int)
          · have hx : ¬ m < wn := by omega
            have hy : st ≤ m := by omega
            rw [if_neg hx, if_pos hy] at HST
            clear HAK
            go_wp2_with fail
            go_region_law (go_simp; go_at_call 104; refine (HFE.out _).mono ?_; rintro e wz ⟨rfl, hbz⟩; have HRZ := Lib.hid (HR.out.drew.below hbz); have HPZ := Lib.hid (HP.out.drew.below hbz HP.out.drew.lt); have HGZ := Lib.hid (HG.out.drew.below hbz HG.out.drew.lt); have H2Z := Lib.hid (H2.out.drew.below hbz H2.out.drew.lt); have HBZ := Lib.hid (HB.out.drew.trans (hbz.mono (Nat.le_trans hb HB.out.drew.size))); have HOZ := Lib.hid (HO.out.drew.below hbz); obtain ⟨t0, t1, t2, t3, tf⟩ := HRZ.out.src HSI.out; have tf0 := tf (i * 4); have tf1 := tf (i * 4 + 1); have tf2 := tf (i * 4 + 2); have tf3 := tf (i * 4 + 3); clear tf hbz; obtain ⟨d0, _, _, _, _, e0, _, _, _, _, dz⟩ := HRZ.out.cells)
            all_goals
              go_wp2
              go_roundw
              case rel => exact ⟨m + 1, by omega, by go_num, Lib.hid (by show RoadAt 136 F _ _ _ _ _ _ _ (act1 _ _ _ _ _ _) _ _ _ _; rw [HST.out]; exact HRZ.out.store ⟨max 1 (sW / 2), sa - 1, sl + 1, sc⟩ HIL.out), Lib.hid (HPZ.out.far4' HRZ.out.gsBlk (by decide) _ _ _ _ _ _ _ _), Lib.hid (HGZ.out.far4' HRZ.out.gsBlk (by decide) _ _ _ _ _ _ _ _), Lib.hid (H2Z.out.far4' HRZ.out.gsBlk (by decide) _ _ _ _ _ _ _ _), Lib.hid ((((HBZ.out.setCell gl _).setCell gl _).setCell gl _).setCell gl _), Lib.hid (HOZ.out.store HRZ.out _ _ _ _ _ _ _ _)⟩
              case measure => simp [intOf]; omega
          · have hx : ¬ m < wn := by omega
            have hy : ¬ st ≤ m := by omega
            rw [if_neg hx, if_neg hy] at HST
            clear HAK HFE
            go_wp2
            go_roundw
            case rel => exact ⟨m + 1, by omega, by go_num, Lib.hid (by show RoadAt 136 F _ _ _ _ _ _ _ (act1 _ _ _ _ _ _) _ _ _ _; rw [HST.out]; exact HR.out), HP, HG, H2, HB, HO⟩
            case measure => simp [intOf]; omega
      · obtain rfl : m = row1.length := by omega
        clear HRUN
        obtain ⟨p0, p1, p2, pf0, pf1, pf2, pz⟩ := HP.out.three
        obtain ⟨x0, x1, x2, xf0, xf1, xf2, xz⟩ := H2.out.three
        obtain ⟨A', c', hv, hI⟩ := idxs_ints HR.out.row
        injection hv with e1 _ e3
        subst e1; subst e3
        have HI := Lib.hid hI
        have hcc := hI.le
        clear hI
        simp only [List.length_map] at hcc
        have v0 : (0 : Int) ≤ wt + lf := by omega
        have v1 : wt ≤ wt + lf := by omega
        have v2 : wt + lf ≤ (c : Int) := by omega
        have v3 : IntKind.i64.wrap (wt + lf) = wt + lf := IntWalk.i64_in _ (by omega)
        have n1 : ¬ gg = g := Blk.ne_ HG.out HR.out.blk (by decide)
        have n2 : ¬ g2 = g := Blk.ne_ H2.out HR.out.blk (by decide)
        have n3 : ¬ gp = g := Blk.ne_ HP.out HR.out.blk (by decide)
        have n4 : ¬ g = gg := fun e => n1 e.symm
        have n5 : ¬ g = g2 := fun e => n2 e.symm
        have n6 : ¬ g = gp := fun e => n3 e.symm
        have n7 : ¬ g2 = gg := fun e => hgg2 e.symm
        have hsw : st - wn ≤ 1000000 := by omega
        have hle : wn ≤ st := by omega
        have hst2 : st ≤ row1.length := by omega
        have HLEN := Lib.hid (show st - wn = (((row1.map fun (i : Nat) => (i : Int)).drop wn).take (st - wn)).length from by simp; omega)
        have HL := Lib.hid (show ((row1.drop wn).take lf.toNat).length = st - wn from by simp; omega)
        have HE := Lib.hid (show (((row1.map fun (i : Nat) => (i : Int)).drop wn).take (st - wn)).map (Value.int .i64) = idxs ((row1.drop wn).take lf.toNat) from by
          rw [idxs_map, ← List.map_drop, ← List.map_take, show lf.toNat = st - wn by omega])
        go_wp2_with fail
        refine wp_region_held_drew (S := (fun w' => w'.cell? ⟨gp, 0, none⟩ = some (.int .i64 r) ∧ w'.cell? ⟨gp, 1, none⟩ = some (.int .i64 p) ∧ w'.cell? ⟨gp, 2, none⟩ = some (.int .i64 lf) ∧ w'.cell? ⟨gg, 0, none⟩ = some (.int .i64 wt) ∧ w'.cell? ⟨gg, 2, none⟩ = some (.int .i64 lf))) (by kernel_rfl) ⟨p0, p1, p2, q0, q2⟩ (fun hHeld => ?_)
        refine takeK (i := 0) (k := 83) (oi := _) (v := ?_) rfl rfl (by kernel_rfl) (by kernel_rfl) (by kernel_rfl) (fun _ _ _ h => h) (Or.inl ⟨by rfl, ?_⟩) (by assumption) ?_
        rotate_left
        · intro W hSw; (try dsimp only at hSw); go_simp; (try with_reducible rfl)
        simp only [Act.put, List.setIfInBounds_toArray, List.set_cons_zero, List.set_cons_succ]
        refine takeK (i := 1) (k := 84) (oi := _) (v := ?_) rfl rfl (by kernel_rfl) (by kernel_rfl) (by kernel_rfl) (fun _ _ _ h => h) (Or.inl ⟨by rfl, ?_⟩) (by assumption) ?_
        rotate_left
        · intro W hSw; (try dsimp only at hSw); go_simp; (try with_reducible rfl)
        simp only [Act.put, List.setIfInBounds_toArray, List.set_cons_zero, List.set_cons_succ]
        refine takeK (i := 2) (k := 85) (oi := _) (v := ?_) rfl rfl (by kernel_rfl) (by kernel_rfl) (by kernel_rfl) (fun _ _ _ h => h) (Or.inl ⟨by rfl, ?_⟩) (by assumption) ?_
        rotate_left
        · intro W hSw; (try dsimp only at hSw); go_simp; (try with_reducible rfl)
        simp only [Act.put, List.setIfInBounds_toArray, List.set_cons_zero, List.set_cons_succ]
        refine takeK (i := 3) (k := 86) (oi := _) (v := ?_) rfl rfl (by kernel_rfl) (by kernel_rfl) (by kernel_rfl) (fun _ _ _ h => h) (Or.inl ⟨by rfl, ?_⟩) (by assumption) ?_
        rotate_left
        · intro W hSw; (try dsimp only at hSw); go_simp; (try with_reducible rfl)
        simp only [Act.put, List.setIfInBounds_toArray, List.set_cons_zero, List.set_cons_succ]
        refine takeK (i := 4) (k := 87) (oi := _) (v := ?_) rfl rfl (by kernel_rfl) (by kernel_rfl) (by kernel_rfl) (fun _ _ _ h => h) (Or.inl ⟨by rfl, ?_⟩) (by assumption) ?_
        rotate_left
        · intro W hSw; (try dsimp only at hSw); go_simp; (try with_reducible rfl)
        simp only [Act.put, List.setIfInBounds_toArray, List.set_cons_zero, List.set_cons_succ]
        refine takeK (i := 5) (k := 88) (oi := _) (v := ?_) rfl rfl (by kernel_rfl) (by kernel_rfl) (by kernel_rfl) (fun _ _ _ h => h) (Or.inl ⟨by rfl, ?_⟩) (by assumption) ?_
        rotate_left
        · intro W hSw; (try dsimp only at hSw); go_simp; (try with_reducible rfl)
        simp only [Act.put, List.setIfInBounds_toArray, List.set_cons_zero, List.set_cons_succ]
        refine takeK (i := 7) (k := 90) (oi := _) (v := ?_) rfl rfl (by kernel_rfl) (by kernel_rfl) (by kernel_rfl) (fun _ _ _ h => h) (Or.inl ⟨by rfl, ?_⟩) (by assumption) ?_
        rotate_left
        · intro W hSw; (try dsimp only at hSw); go_simp; (try with_reducible rfl)
        simp only [Act.put, List.setIfInBounds_toArray, List.set_cons_zero, List.set_cons_succ]
        refine takeK (i := 8) (k := 91) (oi := _) (v := ?_) rfl rfl (by kernel_rfl) (by kernel_rfl) (by kernel_rfl) (fun _ _ _ h => h) (Or.inl ⟨by rfl, ?_⟩) (by assumption) ?_
        rotate_left
        · intro W hSw; (try dsimp only at hSw); go_simp; (try with_reducible rfl)
        simp only [Act.put, List.setIfInBounds_toArray, List.set_cons_zero, List.set_cons_succ]
        refine takeK (i := 9) (k := 92) (oi := _) (v := ?_) rfl rfl (by kernel_rfl) (by kernel_rfl) (by kernel_rfl) (fun _ _ _ h => h) (Or.inl ⟨by rfl, ?_⟩) (by assumption) ?_
        rotate_left
        · intro W hSw; (try dsimp only at hSw); go_simp; (try with_reducible rfl)
        simp only [Act.put, List.setIfInBounds_toArray, List.set_cons_zero, List.set_cons_succ]
        refine takeK (i := 10) (k := 93) (oi := _) (v := ?_) rfl rfl (by kernel_rfl) (by kernel_rfl) (by kernel_rfl) (fun _ _ _ h => h) (Or.inl ⟨by rfl, ?_⟩) (by assumption) ?_
        rotate_left
        · intro W hSw; (try dsimp only at hSw); go_simp; (try with_reducible rfl)
        simp only [Act.put, List.setIfInBounds_toArray, List.set_cons_zero, List.set_cons_succ]
        refine takeK (i := 11) (k := 94) (oi := _) (v := ?_) rfl rfl (by kernel_rfl) (by kernel_rfl) (by kernel_rfl) (fun _ _ _ h => h) (Or.inl ⟨by rfl, ?_⟩) (by assumption) ?_
        rotate_left
        · intro W hSw; (try dsimp only at hSw); go_simp; (try with_reducible rfl)
        simp only [Act.put, List.setIfInBounds_toArray, List.set_cons_zero, List.set_cons_succ]
        refine takeK (i := 12) (k := 95) (oi := _) (v := ?_) rfl rfl (by kernel_rfl) (by kernel_rfl) (by kernel_rfl) (fun _ _ _ h => h) (Or.inl ⟨by rfl, ?_⟩) (by assumption) ?_
        rotate_left
        · intro W hSw; (try dsimp only at hSw); go_simp; (try with_reducible rfl)
        simp only [Act.put, List.setIfInBounds_toArray, List.set_cons_zero, List.set_cons_succ]
        refine takeK (i := 13) (k := 96) (oi := _) (v := ?_) rfl rfl (by kernel_rfl) (by kernel_rfl) (by kernel_rfl) (fun _ _ _ h => h) (Or.inl ⟨by rfl, ?_⟩) (by assumption) ?_
        rotate_left
        · intro W hSw; (try dsimp only at hSw); go_simp; (try with_reducible rfl)
        simp only [Act.put, List.setIfInBounds_toArray, List.set_cons_zero, List.set_cons_succ]
        refine wpAnyH_ready (rs := [6]) (by kernel_rfl) (by simp) ?_
        refine AllReadyH.cons (o := _) rfl (fun K hK => ?_) AllReadyH.nil
        go_simp
        refine hK.out _ _ ⟨p0, p1, p2, q0, q2⟩ (fun hHeld => ?_)
        clear hK K
        refine takeK (i := 14) (k := 97) (oi := _) (v := ?_) rfl rfl (by kernel_rfl) (by kernel_rfl) (by kernel_rfl) (fun _ _ _ h => h) (Or.inl ⟨by rfl, ?_⟩) (by assumption) ?_
        rotate_left
        · intro W hSw; (try dsimp only at hSw); go_simp; (try with_reducible rfl)
        simp only [Act.put, List.setIfInBounds_toArray, List.set_cons_zero, List.set_cons_succ]
        refine wpAnyH_ready (rs := [15]) (by kernel_rfl) (by simp) ?_
        refine AllReadyH.cons (o := _) rfl (fun K hK => ?_) AllReadyH.nil
        go_simp; go_at_call 90; refine (cloneN _ _ _ _ _ _ ((HI.out.below (Below.refl _ _).drew (Nat.le_refl _)).cut hle (by simpa using hst2)) HLEN.out hsw (Nat.le_refl _)).mono ?_; rintro e wz ⟨vz, rfl, hoz, hbz⟩; obtain ⟨A9, cp9, rfl, _, _, _⟩ := owns_reads hoz; have NR9 := Lib.hid (fun i hi hF => absurd ((hoz.lt i hi).1) (by have := HR.out.drew.fr i hF; omega) : ∀ i, (Value.slice A9 (st - wn) cp9).ownBlock = some i → ¬ F i); have HOW := Lib.hid (own_base' hoz (Nat.le_trans hb HB.out.drew.size)); have HRZ := Lib.hid (HR.out.drew.below hbz); have HPZ := Lib.hid (HP.out.drew.below hbz HP.out.drew.lt); have HGZ := Lib.hid (HG.out.drew.below hbz HG.out.drew.lt); have H2Z := Lib.hid (H2.out.drew.below hbz H2.out.drew.lt); have HBZ := Lib.hid (HB.out.drew.trans (hbz.mono (Nat.le_trans hb HB.out.drew.size))); have HOZ := Lib.hid (HO.out.drew.below hbz); clear hoz hbz; obtain ⟨d0, d1, d2, d3, d4, e0, e1, e2, e3, e4, dz⟩ := HRZ.out.cells; obtain ⟨r0', r1', r2', rf0, rf1, rf2, rz⟩ := HGZ.out.three; obtain ⟨x0', x1', x2', xf0', xf1', xf2', xz'⟩ := H2Z.out.three; obtain ⟨y0', y1', y2', yf0', yf1', yf2', yz'⟩ := HPZ.out.three; dsimp only
        refine hK.out _ _ ⟨y0', y1', y2', r0', r2'⟩ (fun hHeld => ?_)
        clear hK K
        refine takeK (i := 16) (k := 99) (oi := _) (v := ?_) rfl rfl (by kernel_rfl) (by kernel_rfl) (by kernel_rfl) (fun _ _ _ h => h) (Or.inl ⟨by rfl, ?_⟩) (by assumption) ?_
        rotate_left
        · intro W hSw; (try dsimp only at hSw); go_simp; (try with_reducible rfl)
        simp only [Act.put, List.setIfInBounds_toArray, List.set_cons_zero, List.set_cons_succ]
        refine takeK (i := 17) (k := 100) (oi := _) (v := ?_) rfl rfl (by kernel_rfl) (by kernel_rfl) (by kernel_rfl) (fun _ _ _ h => h) (Or.inl ⟨by rfl, ?_⟩) (by assumption) ?_
        rotate_left
        · intro W hSw; (try dsimp only at hSw); go_simp; (try with_reducible rfl)
        simp only [Act.put, List.setIfInBounds_toArray, List.set_cons_zero, List.set_cons_succ]
        refine wpAnyH_ready (rs := [18]) (by kernel_rfl) (by simp) ?_
        refine AllReadyH.cons (o := _) rfl (fun K hK => ?_) AllReadyH.nil
        go_simp
        refine hK.out _ _ (by go_keep) (fun hHeld => ?_)
        clear hK K
        refine takeK (i := 19) (k := 101) (oi := _) (v := ?_) rfl rfl (by kernel_rfl) (by kernel_rfl) (by kernel_rfl) (fun _ _ _ h => h) (Or.inl ⟨by rfl, ?_⟩) (by assumption) ?_
        rotate_left
        · intro W hSw; (try dsimp only at hSw); go_simp; (try with_reducible rfl)
        simp only [Act.put, List.setIfInBounds_toArray, List.set_cons_zero, List.set_cons_succ]
        refine takeK (i := 20) (k := 102) (oi := _) (v := ?_) rfl rfl (by kernel_rfl) (by kernel_rfl) (by kernel_rfl) (fun _ _ _ h => h) (Or.inl ⟨by rfl, ?_⟩) (by assumption) ?_
        rotate_left
        · intro W hSw; (try dsimp only at hSw); go_simp; (try with_reducible rfl)
        simp only [Act.put, List.setIfInBounds_toArray, List.set_cons_zero, List.set_cons_succ]
        refine wpAnyH_ready (rs := [21]) (by kernel_rfl) (by simp) ?_
        refine AllReadyH.cons (o := _) rfl (fun K hK => ?_) AllReadyH.nil
        go_simp
        refine hK.out _ _ (by go_keep) (fun hHeld => ?_)
        clear hK K
        refine wpAnyH_done (by kernel_rfl) ?_ _
        go_wp2
        all_goals
          clear c0 c1' c2 c3 c4 f0 f1 f2 f3 f4 z q0 q1 q2 qf0 qf1 qf2 qz p0 p1 p2 pf0 pf1 pf2 pz x0 x1 x2 xf0 xf1 xf2 xz HI HR HP HG H2 HB HO
          refine bodyPost_ret (v := .agg #[.int .i64 wt, .int .i64 lo, .int .i64 lf]) ?_ rfl ⟨rfl, ⟨.slice A9 (st - wn) cp9, ⟨?_, ?_, ?_, HRZ.out.lo, HRZ.out.len, HRZ.out.ng, HRZ.out.ngs, NR9.out, (fun i hi => by have := HRZ.out.fr i hi; first | simpa [World.setCell] using this | (simp; omega)), HRZ.out.tS, HRZ.out.tI⟩⟩, ?_, ?_⟩
          · simp [results, Tryd.results39, go_sem, x0', x1', x2']
          · clear x0' x1' x2' y0' y1' y2' r0' r1' r2'
            repeat' (first | with_reducible exact HRZ.out.blk | with_reducible apply Blk.drew | with_reducible apply Blk.s5_1 | with_reducible apply Blk.s5_2 | with_reducible apply Blk.s5_3 | with_reducible apply Blk.s5_4 | with_reducible apply Blk.alloc | with_reducible apply Blk.far | exact n5)
          · repeat' (first | with_reducible exact HRZ.out.srcs | with_reducible apply own_drew | with_reducible apply own_alloc | with_reducible apply own_far' | exact own_blk_ne HRZ.out.srcs HRZ.out.blk (by decide) | exact own_blk_ne HRZ.out.srcs H2Z.out (by decide))
          · rw [HL.out, ← HE.out]
            repeat' (first | with_reducible exact HOW.out | with_reducible apply own_drew | with_reducible apply own_alloc | with_reducible apply own_far' | exact own_blk_ne HOW.out HRZ.out.blk (by decide) | exact own_blk_ne HOW.out H2Z.out (by decide))
          · repeat' (first | with_reducible exact HBZ.out | with_reducible apply Below.drew | with_reducible apply Below.alloc | with_reducible apply Below.setCell | exact HRZ.out.lo | exact hg2b)
          · have o4 := (((HOZ.out.setOwn HB0.out (.inl rfl) HNG.out 1 (.int .i64 r)).setOwn HB0.out (.inl rfl) HNG.out 2 (.int .i64 p)).setOwn HB0.out (.inl rfl) HNG.out 3 (.int .i64 lf)).setOwn HB0.out (.inl rfl) HNG.out 4 (.slice A9 (st - wn) cp9)
            have o7 := ((o4.setNew hg2e 0 (.int .i64 wt)).setNew hg2e 1 (.int .i64 lo)).setNew hg2e 2 (.int .i64 lf)
            first | with_reducible exact o7 | with_reducible exact o7.drew | with_reducible exact o7.drew.drew
end Go.Proofs.YtblanfaghnflkaaDoor.RF
