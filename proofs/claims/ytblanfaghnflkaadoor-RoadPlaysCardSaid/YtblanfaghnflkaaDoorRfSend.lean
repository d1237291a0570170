/- (*Road).send: all send; blocks of others stay. Printed by gen_rf.py out of RoadSend. -/
import Derived.Test.YtblanfaghnflkaaDoorRoadSend
import Derived.Test.YtblanfaghnflkaaDoorRfAt
namespace Go.Proofs.YtblanfaghnflkaaDoor.RF
open Go.RowKit
set_option maxHeartbeats 8000000 in
set_option maxRecDepth 100000 in
theorem send_any (F : Nat → Prop) (w : World) (base g gs cs n : Nat) (vr : Value) (S : List Src) (r p k : Int) (row : List Nat) (h : RoadAt 136 F w base g gs cs n vr S r p k row) (hb : base ≤ w.heap.size) (h6 : n ≤ 6)
    (hok : ∀ s ∈ S, SourceOk s.W s.a s.l s.c) (hn : ∀ s ∈ S, 0 ≤ s.n ∧ s.n ≤ 1000) (hr : row.length ≤ 60000) :
    Calls Tryd.prog 102 #[.pointer (some ⟨g, 0, none⟩)] w fun e w' => ∃ vr', e = .returned (.int .i64 (cameOf S)) ∧ RoadAt 136 F w' base g gs cs n vr' (S.map Src.sent) r p k (row ++ sends 0 S) ∧ Below base w w' ∧ Others 136 F w w' := by
  have HOK := Lib.hid hok
  have HN := Lib.hid hn
  have HLEN := Lib.hid h.len
  have H := Lib.hid h
  obtain ⟨c0, _, _, _, _, _, _, _, _, _, z⟩ := h.cells
  clear h hok hn
  go_enter Tryd.func102, Tryd.ntmps102
  go_wp2
  go_loopw [3, 13] (fun vc vi wr => ∃ (i : Nat) (vr' : Value), i ≤ n ∧ vi = .int .i64 i ∧ vc = .int .i64 (cameOf (S.take i)) ∧ Hid (RoadAt 136 F wr base g gs cs n vr' (midS S i) r p k (row ++ sends 0 (S.take i))) ∧ Hid (Below base w wr) ∧ Hid (Others 136 F w wr)) (fun _ vi _ => n - (intOf vi).toNat)
  case atStart => exact ⟨0, vr, Nat.zero_le _, rfl, rfl, Lib.hid (by rw [midS_zero]; simpa [sends] using H.out), Lib.hid (Below.refl _ _), Lib.hid (Others.refl _)⟩
  case round =>
    obtain ⟨i, vr', hin, rfl, rfl, HR, HB, HOT⟩ := hrel
    clear c0 z
    by_cases hlt : i < n
    · have hiS : i < S.length := by rw [HLEN.out]; exact hlt
      obtain ⟨s, hs⟩ : ∃ s, S[i]? = some s := ⟨S[i], List.getElem?_eq_getElem hiS⟩
      have hsm : s ∈ S := List.mem_of_getElem? hs
      have hsok := HOK.out s hsm
      obtain ⟨n0, n1⟩ := HN.out s hsm
      have hcb := cameOf_bd (S.take i) (fun t ht => HN.out t (List.mem_of_mem_take ht))
      have htl : (S.take i).length ≤ i := List.length_take_le _ _
      obtain ⟨c0, c1, c2, c3, c4, f0, f1, f2, f3, f4, z⟩ := HR.out.cells
      obtain ⟨s0, s1, s2, s3, _⟩ := HR.out.src (midS_at hs)
      obtain ⟨gl, gz⟩ := HR.out.gs_lo
      have hsa := fun W => sent_any s.W s.a s.l s.c W hsok
      obtain ⟨nn, hnn⟩ : ∃ x, sentN s.W s.a s.l = x := ⟨_, rfl⟩
      have hsn : s.n = nn := hnn
      rw [hsn] at n0 n1
      rw [hnn] at hsa
      have HNN := Lib.hid hsn
      have HSA := Lib.hid hsa
      have hsnoc := cameOf_snoc S i s hs
      rw [hsn] at hsnoc
      have HSN := Lib.hid hsnoc
      have HS := Lib.hid hs
      have i0 : (0 : Int) ≤ (i : Int) := by omega
      have i1 : (i : Int) < n := by omega
      clear hs hsm hsok hsa hnn hsn hsnoc
      obtain ⟨sW, sa, sl, sc⟩ := s
      simp only at s0 s1 s2 s3 HSA
      go_upto_region 6 with (go_at_call 122; refine (HSA.out _).mono ?_; rintro e w' ⟨rfl, rfl⟩)
      have HRa := HR.out.alloc (.cells #[.int .i64 sW, .int .i64 sa, .int .i64 sl, .int .i64 sc] 74)
      have HRb := (HRa.alloc (.cells #[.int .i64 sW, .int .i64 (sa + nn), .int .i64 (sl - nn), .int .i64 sc] 74)).alloc (.cells #[.int .i64 sW, .int .i64 (sa + nn), .int .i64 (sl - nn), .int .i64 sc] 74)
      have HRc := HRb.alloc (.cells #[.int .i64 sW, .int .i64 (sa + nn), .int .i64 (sl - nn), .int .i64 sc] 74)
      have HBc := (((HB.out.alloc (by have := HB.out.size; omega) (.cells #[.int .i64 sW, .int .i64 sa, .int .i64 sl, .int .i64 sc] 74)).alloc (by have := HB.out.size; simp; omega) (.cells #[.int .i64 sW, .int .i64 (sa + nn), .int .i64 (sl - nn), .int .i64 sc] 74)).alloc (by have := HB.out.size; simp; omega) (.cells #[.int .i64 sW, .int .i64 (sa + nn), .int .i64 (sl - nn), .int .i64 sc] 74)).alloc (by have := HB.out.size; simp; omega) (.cells #[.int .i64 sW, .int .i64 (sa + nn), .int .i64 (sl - nn), .int .i64 sc] 74)
      have HOc := (((HOT.out.alloc (.cells #[.int .i64 sW, .int .i64 sa, .int .i64 sl, .int .i64 sc] 74)).alloc (.cells #[.int .i64 sW, .int .i64 (sa + nn), .int .i64 (sl - nn), .int .i64 sc] 74)).alloc (.cells #[.int .i64 sW, .int .i64 (sa + nn), .int .i64 (sl - nn), .int .i64 sc] 74)).alloc (.cells #[.int .i64 sW, .int .i64 (sa + nn), .int .i64 (sl - nn), .int .i64 sc] 74)
      have HPN := Blk.new' ((((wr.alloc (.cells #[.int .i64 sW, .int .i64 sa, .int .i64 sl, .int .i64 sc] 74))).alloc (.cells #[.int .i64 sW, .int .i64 (sa + nn), .int .i64 (sl - nn), .int .i64 sc] 74)).alloc (.cells #[.int .i64 sW, .int .i64 (sa + nn), .int .i64 (sl - nn), .int .i64 sc] 74)) 74 #[.int .i64 sW, .int .i64 (sa + nn), .int .i64 (sl - nn), .int .i64 sc] (g := wr.heap.size + 1 + 1 + 1) (by simp)
      obtain ⟨wq, hwq⟩ : ∃ x, x = ((((wr.alloc (.cells #[.int .i64 sW, .int .i64 sa, .int .i64 sl, .int .i64 sc] 74))).alloc (.cells #[.int .i64 sW, .int .i64 (sa + nn), .int .i64 (sl - nn), .int .i64 sc] 74)).alloc (.cells #[.int .i64 sW, .int .i64 (sa + nn), .int .i64 (sl - nn), .int .i64 sc] 74)).alloc (.cells #[.int .i64 sW, .int .i64 (sa + nn), .int .i64 (sl - nn), .int .i64 sc] 74) := ⟨_, rfl⟩
      rw [← hwq] at HRc HBc HOc HPN ⊢
      have HOq := Lib.hid HOc
      have HRq := Lib.hid HRc
      have HBq := Lib.hid HBc
      obtain ⟨gp, hgp⟩ : ∃ x, x = wr.heap.size + 1 + 1 + 1 := ⟨_, rfl⟩
      rw [← hgp] at HPN ⊢
      have hgp1 : base ≤ gp := by have := HB.out.size; omega
      obtain ⟨p0, p1, p2, p3, _, _, _, _, zp⟩ := HPN.four
      clear HRa HRb HRc HBc HOc HOT HPN hwq hgp c0 c1 c2 c3 c4 f0 f1 f2 f3 f4 z s0 s1 s2 s3 HR HB gz HSA
      obtain ⟨c0, c1, c2, c3, c4, f0, f1, f2, f3, f4, z⟩ := HRq.out.cells
      obtain ⟨s0, s1, s2, s3, sf⟩ := HRq.out.src (midS_at HS.out)
      have q0 := sf (i * 4)
      have q1 := sf (i * 4 + 1)
      have q2 := sf (i * 4 + 2)
      have q3 := sf (i * 4 + 3)
      clear sf
      go_cut [13] from 13 to 45 (fun vi wx => vi = .int .i64 i ∧ Hid (RoadAt 136 F wx base g gs cs n vr' (midS S (i + 1)) r p k (row ++ sends 0 (S.take i))) ∧ Hid (Below base w wx) ∧ Hid (Others 136 F w wx))
      case first =>
        go_region
        go_wp2_with fail
        go_meet
        refine ⟨rfl, Lib.hid ?_, Lib.hid ?_, Lib.hid (HOq.out.store HRq.out _ _ _ _ _ _ _ _).drew⟩
        · rw [← midS_set HS.out]
          have es : Src.sent ⟨sW, sa, sl, sc⟩ = ⟨sW, sa + nn, sl - nn, sc⟩ := by unfold Src.sent; rw [HNN.out]
          rw [es]
          exact RoadAt.drew (HRq.out.store ⟨sW, sa + nn, sl - nn, sc⟩ (by rw [midS_len]; exact hiS))
        · exact ((((HBq.out.setCell gl _).setCell gl _).setCell gl _).setCell gl _).drew
      case rest =>
        obtain ⟨rfl, HR2, HB2, HO2⟩ := hcut
        clear c0 c1 c2 c3 c4 f0 f1 f2 f3 f4 z s0 s1 s2 s3 q0 q1 q2 q3 p0 p1 p2 p3 zp HRq HBq HOq
        obtain ⟨m, hm⟩ : ∃ m : Nat, (m : Int) = nn := ⟨nn.toNat, by omega⟩
        rw [← hm] at HNN HSN n0 n1 ⊢
        have hsl : (row ++ sends 0 (S.take i)).length ≤ 70000 := by
          have h1 := sends_len (S.take i) (fun t ht => (HN.out t (List.mem_of_mem_take ht)).1) 0
          rw [List.length_append]; omega
        have HSS0 : row ++ sends 0 (S.take (i + 1)) = (row ++ sends 0 (S.take i)) ++ List.replicate m i := by
          rw [sends_snoc S i 0 _ HS.out, HNN.out, Int.toNat_natCast, Nat.zero_add, List.append_assoc]
        obtain ⟨vrow, hvrow⟩ : ∃ x, row ++ sends 0 (S.take i) = x := ⟨_, rfl⟩
        have HVR := Lib.hid hvrow
        rw [hvrow] at HR2 hsl HSS0
        have HSS := Lib.hid HSS0; clear HSS0
        obtain ⟨c0, c1, c2, c3, c4, f0, f1, f2, f3, f4, z⟩ := HR2.out.cells
        have hbw := HB2.out.size
        clear hm hvrow
        have z1 : g < wc.heap.size + 1 := by omega
        have hb2 : base ≤ wc.heap.size := by omega
        have hm6 : m ≤ 1000000 := by omega
        go_wp2_with fail
        have one1 : Hid (∀ u ∈ List.replicate m (Value.int .i64 (i : Int)), u.oneCell' = true) := Lib.hid (fun u hu => by rw [List.eq_of_mem_replicate hu]; rfl)
        have hvm : vrow.length + m ≤ 1000000 := by omega
        go_region_law (first
          | (refine step_pushN rfl (.tmp 34) (.tmp 38) 40 rfl base 3 (.int .i64 0) 8 Tryd.underlying40 Tryd.info_int rfl _ vrow.length (idxs vrow) rfl HZ.out.row gz m m (List.replicate m (.int .i64 i)) rfl HBZ.out List.length_replicate one1.out hvm (by decide) hbase ?_; intro v9 w9 hown9 hgr9 hlies9; have H9 := Lib.hid (HZ.out.push hown9 hgr9 hlies9); obtain ⟨A9, cp9, rfl, _, _, _⟩ := owns_reads hown9; have O9 := Lib.hid (HOZ.out.grown HZ.out.row HZ.out.nrow hgr9); have B9 := Lib.hid (HLZ.out.grown hgr9 hbase fun k hk => (HZ.out.row.lt k hk).1); have M9 := Lib.hid H9.out.1; obtain ⟨_, c49, f49, z49⟩ := H9.out; clear H9; clear hown9 hgr9 hlies9)
          | (go_simp; go_at_call 123; refine (repeat_any i m ⟨wc.heap.size, 0, none⟩ _ hm6 (by simp) (by simp)).mono ?_; rintro e wz ⟨gz, rfl, hgz, hbz, hbelz⟩; have HZ := Lib.hid (((HR2.out.alloc (.cells #[.int .i64 (i : Int)] 3)).drew).below hbelz); have hzs := hbelz.size; simp at hzs; obtain ⟨d0, d1, d2, d3, d4, e0, e1, e2, e3, e4, zz⟩ := HZ.out.cells; have HBZ := Lib.hid hbz; have HLZ := Lib.hid (((HB2.out.alloc hb2 (.cells #[.int .i64 (i : Int)] 3)).drew).trans (hbelz.mono (Nat.le_trans hb2 (by simp)))); have HOZ := Lib.hid (((HO2.out.alloc (.cells #[.int .i64 (i : Int)] 3)).drew).below hbelz); have hbase : base ≤ wz.heap.size := (by omega); clear hbz hbelz))
        all_goals
          have HF := Lib.hid (show RoadAt 136 F _ base g gs cs n (.slice A9 (vrow.length + m) cp9) (midS S (i + 1)) r p k (row ++ sends 0 (S.take (i + 1))) from by
            rw [HSS.out]; exact M9.out.store)
          have HFB := Lib.hid (B9.out.setCell (p := ⟨g, 4, none⟩) M9.out.lo (.slice A9 (vrow.length + m) cp9))
          have HFO := Lib.hid (O9.out.set (k := 4) (u := .slice A9 (vrow.length + m) cp9) M9.out.blk (.inl rfl) M9.out.ng)
          clear M9 B9 O9 HOZ HO2 HZ HBZ HLZ HR2 HB2 c49 f49 z49 d0 d1 d2 d3 d4 e0 e1 e2 e3 e4 zz c0 c1 c2 c3 c4 f0 f1 f2 f3 f4 z
          go_wp2
          go_roundw
          case rel => exact ⟨i + 1, _, by omega, by go_num, by rw [HSN.out], HF, HFB, HFO⟩
          case measure => simp [intOf]; omega
    · obtain rfl : i = n := by omega
      have HL := HLEN.out
      have e1 : S.take i = S := by rw [← HL]; exact List.take_length
      have e2 : midS S i = S.map Src.sent := by rw [← HL]; exact midS_all S
      rw [e1] at HR ⊢
      rw [e2] at HR
      clear e1 e2 HL
      go_wp2
      go_ret
      exact ⟨vr', rfl, HR.out, HB.out, HOT.out⟩
end Go.Proofs.YtblanfaghnflkaaDoor.RF
