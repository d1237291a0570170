/- The reference's (*Road).Tick; blocks of others stay. -/
import Derived.Test.YtblanfaghnflkaaDoorRoadTick
import Derived.Test.YtblanfaghnflkaaDoorRfSend
import Derived.Test.YtblanfaghnflkaaDoorSourceRef
import Derived.Test.YtblanfaghnflkaaDoorPoolRef
namespace Go.Proofs.YtblanfaghnflkaaDoor.RF
open Go.RowKit
attribute [local go_sem ↓] run_min_mn run_max_mx
theorem RoadAt.push1 {T : TypeId} {F : Nat → Prop} {w w' : World} {base g gs cs n : Nat} {vr : Value} {S : List Src} {r p k : Int} {row : List Nat} {v' : Value} {i : Nat} (h : RoadAt T F w base g gs cs n vr S r p k row)
    (ho : w'.ownsRow base 3 1 v' (row.length + 1) (idxs row ++ [.int .i64 (i : Int)])) (hg : w.grownBy w' vr.ownBlock) (hv : v'.ownBlock = vr.ownBlock ∨ v'.ownBlock = some (w.heap.size + 1)) :
    RoadMid T F w' base g gs cs n vr v' S r p k (row ++ [i]) ∧ w'.cell? ⟨g, 4, none⟩ = some vr ∧ w'.frozen? ⟨g, 4, none⟩ = false ∧ g < w'.heap.size := by
  have hb := h.blk.grown hg (fun e => h.ne_row e.symm)
  refine ⟨⟨hb, h.srcs.kept hg (.inr fun e => h.apart e.symm), ?_, h.lo, h.len, h.ng, h.ngs, fun i hi hF => ?_, fun i hi => Nat.lt_of_lt_of_le (h.fr i hi) hg.size, h.tS, h.tI⟩, hb.cell 4, hb.frozen 4, hb.lt⟩
  · have e : idxs (row ++ [i]) = idxs row ++ [.int .i64 (i : Int)] := by simp [idxs]
    rw [e, List.length_append]
    exact ho
  · rcases hv with hv | hv
    · exact h.nrow i (by rw [← hv, hi]) hF
    · have e : w.heap.size + 1 = i := by rw [hv] at hi; exact Option.some.inj hi
      have := h.fr i hF
      omega
theorem RoadAt.pool3 {T : TypeId} {F : Nat → Prop} {w : World} {base g gs cs n : Nat} {vr : Value} {S : List Src} {r p k : Int} {row : List Nat} (h : RoadAt T F w base g gs cs n vr S r p k row) (r' p' k' : Int) :
    RoadAt T F (((w.setCell ⟨g, 1, none⟩ (.int .i64 r')).setCell ⟨g, 2, none⟩ (.int .i64 p')).setCell ⟨g, 3, none⟩ (.int .i64 k')) base g gs cs n vr S r' p' k' row :=
  ⟨((h.blk.s5_1 _).s5_2 _).s5_3 _, own_far' (own_far' (own_far' h.srcs (fun e => own_blk_ne h.srcs h.blk h.tS e) _) (fun e => own_blk_ne h.srcs h.blk h.tS e) _) (fun e => own_blk_ne h.srcs h.blk h.tS e) _, own_far' (own_far' (own_far' h.row h.ne_row _) h.ne_row _) h.ne_row _, h.lo, h.len, h.ng, h.ngs, h.nrow, fun i hi => by simpa [World.setCell] using h.fr i hi, h.tS, h.tI⟩
theorem RoadAt.grown {T : TypeId} {F : Nat → Prop} {w w' : World} {base g gs cs n : Nat} {vr : Value} {S : List Src} {r p k : Int} {row : List Nat} (h : RoadAt T F w base g gs cs n vr S r p k row) {o : Option Nat} (hg : w.grownBy w' o) (h1 : o ≠ some g) (h2 : o ≠ some gs) (h3 : vr.ownBlock = none ∨ vr.ownBlock ≠ o) :
    RoadAt T F w' base g gs cs n vr S r p k row :=
  ⟨h.blk.grown hg (fun e => h1 e.symm), h.srcs.kept hg (.inr fun e => h2 e.symm), h.row.kept hg h3, h.lo, h.len, h.ng, h.ngs, h.nrow, fun i hi => Nat.lt_of_lt_of_le (h.fr i hi) hg.size, h.tS, h.tI⟩
/-- those that wait, of the first m -/
def stayed (row : List Nat) (wn st m : Nat) : List Nat := (row.drop wn).take (min m st - wn)
theorem stayed_zero (row : List Nat) (wn st : Nat) : stayed row wn st 0 = [] := by simp [stayed]
theorem stayed_same {row : List Nat} {wn st m : Nat} (h : m < wn ∨ st ≤ m) : stayed row wn st (m + 1) = stayed row wn st m := by
  unfold stayed; congr 1; omega
theorem stayed_more {row : List Nat} {wn st m i : Nat} (h1 : wn ≤ m) (h2 : m < st) (hi : row[m]? = some i) : stayed row wn st (m + 1) = stayed row wn st m ++ [i] := by
  unfold stayed
  rw [show min (m + 1) st - wn = (min m st - wn) + 1 by omega, List.take_add_one, List.getElem?_drop, show wn + (min m st - wn) = m by omega, hi]
  rfl
theorem stayed_len (row : List Nat) (wn st m : Nat) : (stayed row wn st m).length ≤ m := by
  unfold stayed; rw [List.length_take]; omega
set_option maxHeartbeats 8000000 in
set_option maxRecDepth 100000 in
theorem mtick_any (F : Nat → Prop) (w : World) (base g gs cs n : Nat) (vr : Value) (S : List Src) (r p k : Int) (row : List Nat) (h : RoadAt 67 F w base g gs cs n vr S r p k row) (hb : base ≤ w.heap.size) (ti : TickIn n S r p k row) (hpk : PoolOk r p k) :
    Calls Tryd.prog 38 #[.pointer (some ⟨g, 0, none⟩)] w fun e w' => ∃ vr', e = .returned (.agg #[.int .i64 (PP.went p k (cameOf S)), .int .i64 (PP.lost r p k (cameOf S)), .int .i64 (PP.left r p k (cameOf S))]) ∧
      RoadAt 67 F w' base g gs cs n vr' (acts (decide (k ≤ r / 2)) (PP.went p k (cameOf S)).toNat (PP.went p k (cameOf S) + PP.left r p k (cameOf S)).toNat (row ++ sends 0 S) (S.map Src.sent) (row ++ sends 0 S).length) r p (PP.left r p k (cameOf S))
        (((row ++ sends 0 S).drop (PP.went p k (cameOf S)).toNat).take (PP.left r p k (cameOf S)).toNat) ∧ Below base w w' ∧ Others 67 F w w' := by
  obtain ⟨h6, hl, hok, hn, r0, r1, p0, p1, k0, kr, hrow, hrun⟩ := ti
  have hcb := cameOf_bd S hn
  have hsl := sends_len S (fun s hs => (hn s hs).1) 0
  have HOK := Lib.hid hok
  have HN := Lib.hid hn
  have HLEN := Lib.hid hl
  obtain ⟨row1, hrow1⟩ : ∃ x, row ++ sends 0 S = x := ⟨_, rfl⟩
  have HROW1 := Lib.hid hrow1
  have hrl : row.length ≤ 10000 := by omega
  have hr1l : (row1.length : Int) = k + cameOf S := by rw [← hrow1, List.length_append]; omega
  have c0 := hcb.1
  have c1 : cameOf S ≤ 6000 := by have := hcb.2; rw [hl] at this; omega
  rw [hrow1] at hrun ⊢
  obtain ⟨came, hcame⟩ : ∃ x, cameOf S = x := ⟨_, rfl⟩
  have HCAME := Lib.hid hcame
  rw [hcame] at hrun hr1l c0 c1 ⊢
  obtain ⟨b, hbb⟩ : ∃ b, decide (k ≤ r / 2) = b := ⟨_, rfl⟩
  rw [hbb] at hrun ⊢
  have hw : 0 ≤ PP.went p k came ∧ 0 ≤ PP.left r p k came ∧ PP.went p k came + PP.left r p k came ≤ k + came ∧ 0 ≤ PP.lost r p k came ∧ PP.lost r p k came ≤ 20000 := by unfold PP.lost PP.left PP.went; omega
  have HFL := Lib.hid fun W => refFlow_is r p k came _ _ _ W hpk c0 (by omega) rfl rfl rfl
  generalize PP.went p k came = wt at *
  generalize PP.left r p k came = lf at *
  generalize PP.lost r p k came = lo at *
  obtain ⟨w0, w1, w2, w3, w4⟩ := hw
  obtain ⟨st, hst⟩ : ∃ st : Nat, (wt + lf).toNat = st := ⟨_, rfl⟩
  obtain ⟨wn, hwn⟩ : ∃ wn : Nat, wt.toNat = wn := ⟨_, rfl⟩
  rw [hst, hwn] at hrun ⊢
  have H := Lib.hid h
  have HRUN := Lib.hid hrun
  have HBB := Lib.hid hbb
  have HB0 := Lib.hid h.blk
  have HNG := Lib.hid h.ng
  obtain ⟨d0, d1, d2, d3, d4, e0, e1, e2, e3, e4, z⟩ := h.cells
  clear h hrun hbb hcb hsl hrow1 hok hn hrow hcame
  have z1 : g < w.heap.size + 1 := by omega
  have HA := Lib.hid (H.out.alloc (.cells #[.int .i64 0, .int .i64 0, .int .i64 0] 69))
  have HBA := Lib.hid ((Below.refl base w).alloc hb (.cells #[.int .i64 0, .int .i64 0, .int .i64 0] 69))
  have HP2 := Lib.hid (Blk.new w 69 #[.int .i64 0, .int .i64 0, .int .i64 0])
  have hdr : r.tdiv 2 = r / 2 := Int.tdiv_eq_ediv_of_nonneg r0
  go_enter Tryd.func38, Tryd.ntmps38
  go_wp2
  go_quiet (fail)
  go_wp2_with fail
  rw [HBB.out]
  have HAa := Lib.hid (HA.out.below (below_drewN (Below.refl _ _) nq))
  have HBa := Lib.hid (below_drewN HBA.out nq)
  have HPa := Lib.hid (HP2.out.drewN nq)
  have HOa := Lib.hid (((Others.refl (T := 67) (F := F) w).alloc (.cells #[.int .i64 0, .int .i64 0, .int .i64 0] 69)).drewN nq)
  obtain ⟨wa, hwa⟩ : ∃ x, x = (w.alloc (.cells #[.int .i64 0, .int .i64 0, .int .i64 0] 69)).drewN nq := ⟨_, rfl⟩
  rw [← hwa] at HAa HBa HPa HOa ⊢
  clear hwa d0 d1 d2 d3 d4 e0 e1 e2 e3 e4 z z1 H HA HBA HP2
  obtain ⟨g2, hg2⟩ : ∃ x, x = w.heap.size := ⟨_, rfl⟩
  rw [← hg2] at HPa ⊢
  have hg2b : base ≤ g2 := by omega
  have hg2e : w.heap.size ≤ g2 := by omega
  clear hg2
  have hba := HBa.out.size
  have hba2 : base ≤ wa.heap.size := by omega
  go_loopw [4, 5] (fun vc vi wr => ∃ (i : Nat) (vr' : Value), i ≤ n ∧ vi = .int .i64 i ∧ vc = .int .i64 (cameOf (S.take i)) ∧ Hid (RoadAt 67 F wr base g gs cs n vr' (midS S i) r p k (row ++ sends 0 (S.take i))) ∧ Hid (Below base wa wr) ∧ Hid (Others 67 F wa wr)) (fun _ vi _ => n - (intOf vi).toNat)
  case atStart => exact ⟨0, vr, Nat.zero_le _, rfl, rfl, Lib.hid (by rw [midS_zero]; simpa [sends] using HAa.out), Lib.hid (Below.refl _ _), Lib.hid (Others.refl _)⟩
  case round =>
    obtain ⟨i, vr', hin, rfl, rfl, HR, HB, HOT⟩ := hrel
    by_cases hlt : i < n
    · have hiS : i < S.length := by rw [HLEN.out]; exact hlt
      obtain ⟨s, hs⟩ : ∃ s, S[i]? = some s := ⟨S[i], List.getElem?_eq_getElem hiS⟩
      have hsm : s ∈ S := List.mem_of_getElem? hs
      have hsok := HOK.out s hsm
      obtain ⟨n0, n1⟩ := HN.out s hsm
      have hcb := cameOf_bd (S.take i) (fun t ht => HN.out t (List.mem_of_mem_take ht))
      have htl : (S.take i).length ≤ i := List.length_take_le _ _
      obtain ⟨c0', c1', c2, c3, c4, f0, f1, f2, f3, f4, z⟩ := HR.out.cells
      obtain ⟨s0, s1, s2, s3, _⟩ := HR.out.src (midS_at hs)
      obtain ⟨gl, gz⟩ := HR.out.gs_lo
      have hsa := fun W => refSend s.W s.a s.l s.c W hsok
      obtain ⟨nn, hnn⟩ : ∃ x, sentN s.W s.a s.l = x := ⟨_, rfl⟩
      have hsn : s.n = nn := hnn
      rw [hsn] at n0 n1
      rw [hnn] at hsa
      have HNN := Lib.hid hsn
      have HSA := Lib.hid hsa
      have hsnoc := cameOf_snoc S i s hs
      rw [hsn] at hsnoc
      have HSN := Lib.hid hsnoc
      have HS := Lib.hid hs
      have i0 : (0 : Int) ≤ (i : Int) := by omega
      have i1 : (i : Int) < n := by omega
      clear hs hsm hsok hsa hnn hsn hsnoc
      obtain ⟨sW, sa, sl, sc⟩ := s
      simp only at s0 s1 s2 s3 HSA
      go_upto_region 7 with (go_at_call 97; refine (HSA.out _).mono ?_; rintro e wz ⟨rfl, hbz⟩; have HRZ := Lib.hid (HR.out.below hbz); have HBZ := Lib.hid (HB.out.trans (hbz.mono (by have := HB.out.size; omega))); have HOZ := Lib.hid (HOT.out.below hbz); clear hbz)
      have HRq0 := HRZ.out.alloc (.cells #[.int .i64 sW, .int .i64 (sa + nn), .int .i64 (sl - nn), .int .i64 sc] 74)
      have HBq0 := HBZ.out.alloc (by have := HBZ.out.size; omega) (.cells #[.int .i64 sW, .int .i64 (sa + nn), .int .i64 (sl - nn), .int .i64 sc] 74)
      have HOq0 := HOZ.out.alloc (.cells #[.int .i64 sW, .int .i64 (sa + nn), .int .i64 (sl - nn), .int .i64 sc] 74)
      have HPN := Blk.new wz 74 #[.int .i64 sW, .int .i64 (sa + nn), .int .i64 (sl - nn), .int .i64 sc]
      obtain ⟨wq, hwq⟩ : ∃ x, x = wz.alloc (.cells #[.int .i64 sW, .int .i64 (sa + nn), .int .i64 (sl - nn), .int .i64 sc] 74) := ⟨_, rfl⟩
      rw [← hwq] at HRq0 HBq0 HOq0 HPN ⊢
      obtain ⟨gp, hgp⟩ : ∃ x, x = wz.heap.size := ⟨_, rfl⟩
      rw [← hgp] at HPN ⊢
      have HRq := Lib.hid HRq0
      have HBq := Lib.hid HBq0
      have HOq := Lib.hid HOq0
      obtain ⟨p0', p1', p2', p3', _, _, _, _, zp⟩ := HPN.four
      clear HRq0 HBq0 HOq0 HPN hwq hgp c0' c1' c2 c3 c4 f0 f1 f2 f3 f4 z s0 s1 s2 s3 HR HB HOT HRZ HBZ HOZ gz HSA
      obtain ⟨c0', c1', c2, c3, c4, f0, f1, f2, f3, f4, z⟩ := HRq.out.cells
      obtain ⟨s0, s1, s2, s3, sf⟩ := HRq.out.src (midS_at HS.out)
      have q0 := sf (i * 4)
      have q1 := sf (i * 4 + 1)
      have q2 := sf (i * 4 + 2)
      have q3 := sf (i * 4 + 3)
      clear sf
      go_cut [5] from 26 to 70 (fun vi wx => vi = .int .i64 i ∧ Hid (RoadAt 67 F wx base g gs cs n vr' (midS S (i + 1)) r p k (row ++ sends 0 (S.take i))) ∧ Hid (Below base wa wx) ∧ Hid (Others 67 F wa wx))
      case first =>
        go_region
        go_wp2_with fail
        go_meet
        refine ⟨rfl, Lib.hid ?_, Lib.hid ?_, Lib.hid (HOq.out.store HRq.out _ _ _ _ _ _ _ _).drew⟩
        · rw [← midS_set HS.out]
          have es : Src.sent ⟨sW, sa, sl, sc⟩ = ⟨sW, sa + nn, sl - nn, sc⟩ := by unfold Src.sent; rw [HNN.out]
          rw [es]
          exact RoadAt.drew (HRq.out.store ⟨sW, sa + nn, sl - nn, sc⟩ (by rw [midS_len]; exact hiS))
        · exact ((((HBq.out.setCell gl _).setCell gl _).setCell gl _).setCell gl _).drew
      case rest =>
        obtain ⟨rfl, HR2, HB2, HO2⟩ := hcut
        clear c0' c1' c2 c3 c4 f0 f1 f2 f3 f4 z s0 s1 s2 s3 q0 q1 q2 q3 p0' p1' p2' p3' zp HRq HBq HOq
        obtain ⟨m, hm⟩ : ∃ m : Nat, (m : Int) = nn := ⟨nn.toNat, by omega⟩
        rw [← hm] at HNN HSN n0 n1 ⊢
        have hsl : (row ++ sends 0 (S.take i)).length ≤ 70000 := by
          have h1 := sends_len (S.take i) (fun t ht => (HN.out t (List.mem_of_mem_take ht)).1) 0
          rw [List.length_append]; omega
        have HSS0 : row ++ sends 0 (S.take (i + 1)) = (row ++ sends 0 (S.take i)) ++ List.replicate m i := by
          rw [sends_snoc S i 0 _ HS.out, HNN.out, Int.toNat_natCast, Nat.zero_add, List.append_assoc]
        obtain ⟨vrow, hvrow⟩ : ∃ x, row ++ sends 0 (S.take i) = x := ⟨_, rfl⟩
        rw [hvrow] at HR2 hsl HSS0
        have HSS := Lib.hid HSS0; clear HSS0 hvrow hm
        go_wp2
        go_loopw [8] (fun vk wx => ∃ (j : Nat) (vr2 : Value), j ≤ m ∧ vk = .int .i64 j ∧ Hid (RoadAt 67 F wx base g gs cs n vr2 (midS S (i + 1)) r p k (vrow ++ List.replicate j i)) ∧ Hid (Below base wa wx) ∧ Hid (Others 67 F wa wx)) (fun vk _ => m - (intOf vk).toNat)
        case atStart => exact ⟨0, vr', Nat.zero_le _, rfl, Lib.hid (by simpa using HR2.out), HB2, HO2⟩
        case round =>
          clear HR2 HB2 HO2
          obtain ⟨j, vr2, hj, rfl, HR3, HB3, HO3⟩ := hrel
          obtain ⟨c0', c1', c2, c3, c4, f0, f1, f2, f3, f4, z⟩ := HR3.out.cells
          by_cases hjm : j < m
          · have hb3 := HB3.out.size
            have hbx : base ≤ wr.heap.size := by omega
            have hlen : (vrow ++ List.replicate j i).length ≤ 1000000 := by simp; omega
            have z1 : g < wr.heap.size + 1 := by omega
            go_wp2_with (at_builtin; refine wpList_push2 wr _ rfl (.tmp 62) (.tmp 64) 40 rfl base 3 (.int .i64 0) 1 8 Tryd.underlying40 Tryd.info_int rfl (by omega) _ _ _ rfl HR3.out.row rfl rfl (by simp [Value.oneCell']) hlen (by omega) hbx ?_; intro v9 w9 hown9 hgrow9 hblk9; have H9 := HR3.out.push1 hown9 hgrow9 hblk9; obtain ⟨A9, cp9, rfl, _, _, _⟩ := owns_reads hown9; have B9 := Lib.hid (HB3.out.grown hgrow9 hbx fun k hk => (HR3.out.row.lt k hk).1); have O9 := Lib.hid (HO3.out.grown HR3.out.row HR3.out.nrow hgrow9); have HM9 := Lib.hid H9.1; obtain ⟨_, c49, f49, z49⟩ := H9; clear hown9 hgrow9 hblk9 c0' c1' c2 c3 c4 f0 f1 f2 f3 f4 z z1)
            go_roundw
            case rel => exact ⟨j + 1, _, by omega, by go_num, Lib.hid (by have h := HM9.out.store; rw [List.append_assoc, ← List.replicate_succ'] at h; simp only [List.length_append, List.length_replicate] at h; exact h), Lib.hid (B9.out.setCell (p := ⟨g, 4, none⟩) HM9.out.lo _), Lib.hid (O9.out.set (k := 4) (u := _) HM9.out.blk (.inl rfl) HM9.out.ng)⟩
            case measure => simp [intOf]; omega
          · obtain rfl : j = m := by omega
            go_wp2
            go_roundw
            case rel => exact ⟨i + 1, vr2, by omega, by go_num, by rw [HSN.out], Lib.hid (by rw [HSS.out]; exact HR3.out), HB3, HO3⟩
            case measure => simp [intOf]; omega
    · obtain rfl : i = n := by omega
      have HL := HLEN.out
      have e1 : S.take i = S := by rw [← HL]; exact List.take_length
      have e2 : midS S i = S.map Src.sent := by rw [← HL]; exact midS_all S
      rw [e1, HROW1.out] at HR
      rw [e2] at HR
      rw [e1, HCAME.out]
      clear e1 e2 HL
      obtain ⟨c0', c1', c2, c3, c4, f0, f1, f2, f3, f4, z⟩ := HR.out.cells
      go_upto_region 13 with (fail)
      go_cut [9, 10] (fun s9 s10 wx => ∃ (gp gg : Nat), s9 = .pointer (some ⟨gp, 0, none⟩) ∧ s10 = .pointer (some ⟨gg, 0, none⟩) ∧ wa.heap.size ≤ gg ∧ Hid (RoadAt 67 F wx base g gs cs i vr' (S.map Src.sent) r p k row1) ∧ Hid (Blk wx gp 60 #[.int .i64 r, .int .i64 p, .int .i64 lf]) ∧ Hid (Blk wx gg 69 #[.int .i64 wt, .int .i64 lo, .int .i64 lf]) ∧ Hid (Below base wa wx) ∧ Hid (Others 67 F wa wx))
      case first =>
        go_wp2_with fail
        refine (HFL.out _).mono ?_; rintro e wz ⟨rfl, hbz⟩
        have HRZ := Lib.hid (HR.out.below hbz)
        have HBZ := Lib.hid (HB.out.trans (hbz.mono (by have := HB.out.size; omega)))
        have HOZ := Lib.hid (HOT.out.below hbz)
        have hsz := HOZ.out.1
        clear hbz c0' c1' c2 c3 c4 f0 f1 f2 f3 f4 z HR HB HOT
        go_wp2_with fail
        go_meet
        refine ⟨_, _, rfl, rfl, by omega, Lib.hid ((HRZ.out.alloc _).alloc _), Lib.hid ((Blk.new _ _ _).alloc _), Lib.hid (Blk.new' _ _ _ (by simp)), Lib.hid ((HBZ.out.alloc (by have := HBZ.out.size; omega) _).alloc (by have := HBZ.out.size; simp; omega) _), Lib.hid ((HOZ.out.alloc _).alloc _)⟩
      case rest =>
        obtain ⟨gp, gg, rfl, rfl, hgg, HR5, HP, HG, HB5, HO5⟩ := hcut
        clear c0' c1' c2 c3 c4 f0 f1 f2 f3 f4 z HR HB HOT HFL
        obtain ⟨A, c, rfl, _⟩ := idxs_ints HR5.out.row
        obtain ⟨c0', c1', c2, c3, c4, f0, f1, f2, f3, f4, z⟩ := HR5.out.cells
        obtain ⟨x0, x1, x2, xf0, xf1, xf2, xz⟩ := HP.out.three
        have hg2lt := HPa.out.lt
        have hgg2 : gg ≠ g2 := by omega
        have HR6 := Lib.hid (HR5.out.pool3 r p lf)
        have HB6 := Lib.hid (((HB5.out.setCell (p := ⟨g, 1, none⟩) HR5.out.lo (.int .i64 r)).setCell (p := ⟨g, 2, none⟩) HR5.out.lo (.int .i64 p)).setCell (p := ⟨g, 3, none⟩) HR5.out.lo (.int .i64 lf))
        have HO6 := Lib.hid (((HO5.out.set HR5.out.blk (.inl rfl) HR5.out.ng 1 (.int .i64 r)).set (HR5.out.blk.s5_1 _) (.inl rfl) HR5.out.ng 2 (.int .i64 p)).set ((HR5.out.blk.s5_1 _).s5_2 _) (.inl rfl) HR5.out.ng 3 (.int .i64 lf))
        have hgn : gg ≠ g := Blk.ne_ HG.out HR5.out.blk (by decide)
        have HG6 := Lib.hid (((HG.out.far (p := ⟨g, 1, none⟩) hgn (.int .i64 r)).far (p := ⟨g, 2, none⟩) hgn (.int .i64 p)).far (p := ⟨g, 3, none⟩) hgn (.int .i64 lf))
        obtain ⟨B3, hB3⟩ : ∃ x, x = wc.heap.size := ⟨_, rfl⟩
        have hgB : g < B3 := by omega
        have hgsB : gs < B3 := by have := HR5.out.gs_lo.2; omega
        have hggB : gg < B3 := by have := HG.out.lt; omega
        have hbB : base ≤ B3 := by have := HB5.out.size; omega
        have HFB := Lib.hid (fun j (hj : F j) => by have := HR5.out.fr j hj; omega : ∀ j, F j → j < B3)
        have HVB := Lib.hid (fun j hj => by have := (HR5.out.row.lt j hj).2; omega : ∀ j, (Value.slice A row1.length c).ownBlock = some j → j < B3)
        have hB6 : B3 ≤ (((wc.setCell ⟨g, 1, none⟩ (.int .i64 r)).setCell ⟨g, 2, none⟩ (.int .i64 p)).setCell ⟨g, 3, none⟩ (.int .i64 lf)).heap.size := by simp [World.setCell]; omega
        go_wp2
        obtain ⟨w6, hw6⟩ : ∃ x, x = ((wc.setCell ⟨g, 1, none⟩ (.int .i64 r)).setCell ⟨g, 2, none⟩ (.int .i64 p)).setCell ⟨g, 3, none⟩ (.int .i64 lf) := ⟨_, rfl⟩
        rw [← hw6] at HR6 HB6 HO6 HG6 hB6 ⊢
        clear hw6 c0' c1' c2 c3 c4 f0 f1 f2 f3 f4 z x0 x1 x2 xf0 xf1 xf2 xz HR5 HB5 HO5 HP HG hB3
        go_loopw [11, 12] (fun v11 vi wr => ∃ (m : Nat) (vw : Value), m ≤ row1.length ∧ vi = .int .i64 m ∧ vw = v11 ∧ Hid (RoadAt 67 F wr base g gs cs i (.slice A row1.length c) (acts b wn st row1 (S.map Src.sent) m) r p lf row1) ∧ Hid (wr.ownsRow B3 3 1 vw (stayed row1 wn st m).length (idxs (stayed row1 wn st m))) ∧ Hid (Blk wr gg 69 #[.int .i64 wt, .int .i64 lo, .int .i64 lf]) ∧ Hid (Below base wa wr) ∧ Hid (Others 67 F wa wr) ∧ B3 ≤ wr.heap.size) (fun _ vi _ => row1.length - (intOf vi).toNat)
        case atStart => exact ⟨0, _, Nat.zero_le _, rfl, rfl, HR6, Lib.hid (by rw [stayed_zero]; exact World.ownsRow_nil _ _ _ _), HG6, HB6, HO6, hB6⟩
        case round =>
          clear HR6 HG6 HB6 HO6 hB6
          obtain ⟨m, vw, hm, rfl, rfl, HR, HW, HG, HB, HO, hBw⟩ := hrel
          obtain ⟨c0', c1', c2, c3, c4, f0, f1, f2, f3, f4, z⟩ := HR.out.cells
          obtain ⟨q0, q1, q2, qf0, qf1, qf2, qz⟩ := HG.out.three
          by_cases hlt : m < row1.length
          · obtain ⟨x, s, hri, hsi, hok⟩ := HRUN.out m hlt
            obtain ⟨gr, cap, hv, hr0, hr1⟩ := own_form HR.out.row (by omega)
            injection hv with e1 _ e3
            subst e1; subst e3
            have hrc := (HR.out.row.cellAt m (by omega)).trans (idxs_at hri)
            obtain ⟨s0, s1, s2, s3, sf⟩ := HR.out.src hsi
            obtain ⟨gl, gz⟩ := HR.out.gs_lo
            have hil : x < (acts b wn st row1 (S.map Src.sent) m).length := (List.getElem?_eq_some_iff.1 hsi).1
            have hin : x < i := by have := HR.out.len; omega
            have hstep := act1_some (b := b) (went := wn) (stay := st) hri hsi
            have HRI := Lib.hid hri
            have HST := Lib.hid hstep
            have HIL := Lib.hid hil
            have HSI := Lib.hid hsi
            have i0 : (0 : Int) ≤ (x : Int) := by omega
            have i1 : (x : Int) < i := by omega
            have hmm : (m : Int) < row1.length := by omega
            have t0 := sf (x * 4)
            have t1 := sf (x * 4 + 1)
            have t2 := sf (x * 4 + 2)
            have t3 := sf (x * 4 + 3)
            clear sf hri hsi hstep hil
            have HAK := Lib.hid fun W => refAck s.W s.a s.l s.c b W hok
            have HFE := Lib.hid fun W => refLost s.W s.a s.l s.c W hok
            clear hok
            obtain ⟨sW, sa, sl, sc⟩ := s
            simp only at s0 s1 s2 s3 HAK HFE
            have hwl := stayed_len row1 wn st m
            have hb0 : base ≤ wr.heap.size := by omega
            have hwgs : vw.ownBlock ≠ some gs := fun e => by have := (HW.out.lt _ e).1; omega
            by_cases h1 : (m : Int) < wt
            · have hx : m < wn := by omega
              rw [if_pos hx] at HST
              have HSM := Lib.hid (stayed_same (row := row1) (wn := wn) (st := st) (m := m) (.inl hx))
              clear HFE
              go_wp2_with fail
              go_region_law (go_simp; go_at_call 99; refine (HAK.out _).mono ?_; rintro e wz ⟨rfl, hbz⟩; have HRZ := Lib.hid (HR.out.drew.below hbz); have HWZ := Lib.hid (own_below (own_drew HW.out) hbz); have HGZ := Lib.hid (HG.out.drew.below hbz HG.out.drew.lt); have HBZ := Lib.hid (HB.out.drew.trans (hbz.mono hb0)); have HOZ := Lib.hid (HO.out.drew.below hbz); have hBz : B3 ≤ wz.heap.size := Nat.le_trans hBw hbz.size; obtain ⟨t0, t1, t2, t3, tf⟩ := HRZ.out.src HSI.out; have tf0 := tf (x * 4); have tf1 := tf (x * 4 + 1); have tf2 := tf (x * 4 + 2); have tf3 := tf (x * 4 + 3); clear tf hbz; obtain ⟨d0, _, _, _, _, e0, _, _, _, _, dz⟩ := HRZ.out.cells)
              all_goals
                go_wp2
                go_roundw
                case rel => exact ⟨m + 1, _, by omega, by go_num, rfl, Lib.hid (by show RoadAt _ _ _ _ _ _ _ _ _ (act1 _ _ _ _ _ _) _ _ _ _; rw [HST.out]; exact HRZ.out.store ⟨ackW sW b, sa - 1, sl, sc + 1⟩ HIL.out), Lib.hid (by rw [HSM.out]; exact own_far' (own_far' (own_far' (own_far' HWZ.out hwgs _) hwgs _) hwgs _) hwgs _), Lib.hid (HGZ.out.far4' HRZ.out.gsBlk (by decide) _ _ _ _ _ _ _ _), Lib.hid ((((HBZ.out.setCell gl _).setCell gl _).setCell gl _).setCell gl _), Lib.hid (HOZ.out.store HRZ.out _ _ _ _ _ _ _ _), by simpa [World.setCell] using hBz⟩
                case measure => simp [intOf]; omega
            · by_cases h2 : wt + lf ≤ (m : Int)
              · have hx : ¬ m < wn := by omega
                have hy : st ≤ m := by omega
                rw [if_neg hx, if_pos hy] at HST
                have HSM := Lib.hid (stayed_same (row := row1) (wn := wn) (st := st) (m := m) (.inr hy))
                clear HAK
                go_wp2_with fail
                go_region_law (go_simp; go_at_call 100; refine (HFE.out _).mono ?_; rintro e wz ⟨rfl, hbz⟩; have HRZ := Lib.hid (HR.out.drew.below hbz); have HWZ := Lib.hid (own_below (own_drew HW.out) hbz); have HGZ := Lib.hid (HG.out.drew.below hbz HG.out.drew.lt); have HBZ := Lib.hid (HB.out.drew.trans (hbz.mono hb0)); have HOZ := Lib.hid (HO.out.drew.below hbz); have hBz : B3 ≤ wz.heap.size := Nat.le_trans hBw hbz.size; obtain ⟨t0, t1, t2, t3, tf⟩ := HRZ.out.src HSI.out; have tf0 := tf (x * 4); have tf1 := tf (x * 4 + 1); have tf2 := tf (x * 4 + 2); have tf3 := tf (x * 4 + 3); clear tf hbz; obtain ⟨d0, _, _, _, _, e0, _, _, _, _, dz⟩ := HRZ.out.cells)
                all_goals
                  go_wp2
                  go_roundw
                  case rel => exact ⟨m + 1, _, by omega, by go_num, rfl, Lib.hid (by show RoadAt _ _ _ _ _ _ _ _ _ (act1 _ _ _ _ _ _) _ _ _ _; rw [HST.out]; exact HRZ.out.store ⟨max 1 (sW / 2), sa - 1, sl + 1, sc⟩ HIL.out), Lib.hid (by rw [HSM.out]; exact own_far' (own_far' (own_far' (own_far' HWZ.out hwgs _) hwgs _) hwgs _) hwgs _), Lib.hid (HGZ.out.far4' HRZ.out.gsBlk (by decide) _ _ _ _ _ _ _ _), Lib.hid ((((HBZ.out.setCell gl _).setCell gl _).setCell gl _).setCell gl _), Lib.hid (HOZ.out.store HRZ.out _ _ _ _ _ _ _ _), by simpa [World.setCell] using hBz⟩
                  case measure => simp [intOf]; omega
              · have hx : ¬ m < wn := by omega
                have hy : ¬ st ≤ m := by omega
                rw [if_neg hx, if_neg hy] at HST
                have HSM := Lib.hid (stayed_more (row := row1) (wn := wn) (st := st) (m := m) (by omega) (by omega) HRI.out)
                clear HAK HFE
                have hsl2 : (stayed row1 wn st m).length ≤ 1000000 := by omega
                go_wp2_with (at_builtin; refine wpList_push2 wr _ rfl (.tmp 126) (.tmp 128) 40 rfl B3 3 (.int .i64 0) 1 8 Tryd.underlying40 Tryd.info_int rfl (by omega) _ _ _ rfl HW.out rfl rfl (by simp [Value.oneCell']) hsl2 (by omega) hBw ?_; intro v9 w9 hown9 hgrow9 hblk9; obtain ⟨A9, cp9, rfl, _, _, _⟩ := owns_reads hown9)
                have K1 := Lib.hid (HR.out.grown hgrow9 (fun e => by have := (HW.out.lt _ e).1; omega) hwgs (.inr fun e => by have h1 := HVB.out gr rfl; have := (HW.out.lt gr e.symm).1; omega))
                have K2 := Lib.hid (HG.out.grown hgrow9 (fun e => by have := (HW.out.lt _ e.symm).1; omega))
                have K3 := Lib.hid (below_push HB.out HW.out hgrow9 hbB hb0)
                have K4 := Lib.hid (HO.out.grown HW.out (fun j hj hF => by have h1 := HFB.out j hF; have := (HW.out.lt _ hj).1; omega) hgrow9)
                have hBz : B3 ≤ w9.heap.size := Nat.le_trans hBw hgrow9.size
                have K5 := Lib.hid hown9
                clear hgrow9 hblk9 hown9
                go_roundw
                case rel => exact ⟨m + 1, _, by omega, by go_num, rfl, Lib.hid (by show RoadAt _ _ _ _ _ _ _ _ _ (act1 _ _ _ _ _ _) _ _ _ _; rw [HST.out]; exact K1.out), Lib.hid (by rw [HSM.out, List.length_append, show idxs (stayed row1 wn st m ++ [x]) = idxs (stayed row1 wn st m) ++ [.int .i64 (x : Int)] by simp [idxs]]; exact K5.out), K2, K3, K4, hBz⟩
                case measure => simp [intOf]; omega
          · obtain rfl : m = row1.length := by omega
            have H2 := Lib.hid (HO.out.2 _ _ _ HPa.out (by decide) (by decide) (by decide))
            obtain ⟨y0, y1, y2, yf0, yf1, yf2, yz⟩ := H2.out.three
            have n1 : ¬ gg = g := Blk.ne_ HG.out HR.out.blk (by decide)
            have n2 : ¬ g2 = g := Blk.ne_ H2.out HR.out.blk (by decide)
            have n4 : ¬ g = gg := fun e => n1 e.symm
            have n5 : ¬ g = g2 := fun e => n2 e.symm
            have n7 : ¬ g2 = gg := fun e => hgg2 e.symm
            obtain ⟨Aw, cw, rfl, _, _, _⟩ := owns_reads HW.out
            have hE := Lib.hid (show stayed row1 wn st row1.length = (row1.drop wn).take lf.toNat by unfold stayed; congr 1; omega)
            have hwg : (Value.slice Aw (stayed row1 wn st row1.length).length cw).ownBlock ≠ some g := fun e => by have := (HW.out.lt _ e).1; omega
            have KR : RoadAt 67 F (wr.setCell ⟨g, 4, none⟩ (.slice Aw (stayed row1 wn st row1.length).length cw)) base g gs cs i (.slice Aw (stayed row1 wn st row1.length).length cw) (acts b wn st row1 (S.map Src.sent) row1.length) r p lf (stayed row1 wn st row1.length) :=
              ⟨HR.out.blk.s5_4 _, own_far' HR.out.srcs (fun e => own_blk_ne HR.out.srcs HR.out.blk (by decide) e) _, own_base' (own_far' HW.out hwg _) hbB, HR.out.lo, HR.out.len, HR.out.ng, HR.out.ngs, fun j hj hF => by have h1 := HFB.out j hF; have := (HW.out.lt _ hj).1; omega, fun j hj => by simpa [World.setCell] using HR.out.fr j hj, HR.out.tS, HR.out.tI⟩
            have HKR := Lib.hid KR
            have hne2 : g2 ≠ g := n2
            have H2a := Lib.hid (H2.out.far (p := ⟨g, 4, none⟩) hne2 (.slice Aw (stayed row1 wn st row1.length).length cw))
            have HFIN := Lib.hid (((HKR.out.far H2a.out (by decide) (by decide) (by decide) 0 (.int .i64 wt)).far (H2a.out.s3_0 _) (by decide) (by decide) (by decide) 1 (.int .i64 lo)).far ((H2a.out.s3_0 _).s3_1 _) (by decide) (by decide) (by decide) 2 (.int .i64 lf))
            have HBF := Lib.hid (((((HBa.out.trans HB.out).setCell (p := ⟨g, 4, none⟩) HR.out.lo (.slice Aw (stayed row1 wn st row1.length).length cw)).setCell (p := ⟨g2, 0, none⟩) hg2b (.int .i64 wt)).setCell (p := ⟨g2, 1, none⟩) hg2b (.int .i64 lo)).setCell (p := ⟨g2, 2, none⟩) hg2b (.int .i64 lf))
            have HOF := Lib.hid ((((HOa.out.trans (HO.out.set HR.out.blk (.inl rfl) HR.out.ng 4 (.slice Aw (stayed row1 wn st row1.length).length cw))).setNew hg2e 0 (.int .i64 wt)).setNew hg2e 1 (.int .i64 lo)).setNew hg2e 2 (.int .i64 lf))
            clear KR H2 H2a HKR HR HW HB HO HRUN
            go_wp2
            refine bodyPost_ret (v := .agg #[.int .i64 wt, .int .i64 lo, .int .i64 lf]) ?_ rfl ⟨.slice Aw (stayed row1 wn st row1.length).length cw, rfl, ?_, ?_, ?_⟩
            · simp [results, Tryd.results38, go_sem, y0, y1, y2]
            · rw [← hE.out]; first | exact HFIN.out | exact HFIN.out.drew
            · first | exact HBF.out | exact HBF.out.drew
            · first | exact HOF.out | exact HOF.out.drew
end Go.Proofs.YtblanfaghnflkaaDoor.RF
