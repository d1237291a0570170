/- RoadPlays where the road is right: the walk. -/
import Derived.Test.YtblanfaghnflkaaDoorRoadPlays2
namespace Go.Proofs.YtblanfaghnflkaaDoor
open Go.RowKit
attribute [local go_sem ↓] run_min_mn run_max_mx
set_option maxHeartbeats 16000000 in
set_option maxRecDepth 100000 in
theorem roadPlays_yes (A : Option Addr) (c : Nat) (S : List Src) (w : World) (hg : Laid w) (hs : Srcs w w.heap.size A c S) (r p m : Int) (he : roadErr S = 0) (hp : PoolOk r p 0) :
    Calls Tryd.prog 5 #[.slice A S.length c, .agg #[.int .i64 r, .int .i64 p, .int .i64 0], .int .i64 m] w fun e w' => e = .returned (.bool true) ∧ Below w.heap.size w w' := by
  have hne : newErr S r p 0 = 0 := by unfold newErr; rw [if_pos he, if_pos hp, if_pos rfl]
  have HS := Lib.hid hs
  have HM := Lib.hid fun (W' : World) (h : Srcs W' W'.heap.size A c S) => refNewRoad A c S r p 0 W' h 0 hne
  have HN := Lib.hid fun (W' : World) (h : Srcs W' W'.heap.size A c S) => rnew_yes A c S r p W' h he hp
  have HG := Lib.hid hg
  obtain ⟨n0, n6⟩ := roadErr_len he
  have HI0 := Lib.hid (RInv.start he hp)
  obtain ⟨b, off, hA, hbw, _⟩ := hs.rd.2 n0
  subst hA
  clear hs he hp hg hne
  have HP0 := Lib.hid (Blk.new w 60 #[.int .i64 r, .int .i64 p, .int .i64 0])
  have HB0 := Lib.hid ((Below.refl w.heap.size w).alloc (Nat.le_refl _) (.cells #[.int .i64 r, .int .i64 p, .int .i64 0] 60))
  go_enter Tryd.func5, Tryd.ntmps5
  go_wp2_with fail
  refine (HM.out _ (HS.out.at' HB0.out)).mono ?_; rintro e w1 ⟨rfl, hb1⟩
  have HP1 := Lib.hid (HP0.out.go hb1)
  have HB1 := Lib.hid (HB0.out.trans (hb1.mono HB0.out.size))
  clear hb1
  obtain ⟨x0, x1, x2, xf0, xf1, xf2, xz⟩ := HP1.out.three
  go_wp2_with fail
  refine (HN.out _ (HS.out.at' HB1.out)).mono ?_; rintro e w2 ⟨g, gs, cs, rfl, hr2, hb2⟩
  have HP2 := Lib.hid (HP1.out.go hb2)
  have HB2 := Lib.hid (HB1.out.trans (hb2.mono HB1.out.size))
  have HR2 := Lib.hid (show RF.RdT 136 w2 w.heap.size g gs cs S.length (.slice none 0 0) S r p 0 [] from ⟨hr2.blk, own_base' hr2.srcs HB1.out.size, own_base' hr2.row HB1.out.size, Nat.le_trans HB1.out.size hr2.lo, hr2.len⟩)
  clear hb2 hr2 x0 x1 x2 xf0 xf1 xf2 xz HN HM HP0 HB0 HP1 HB1
  go_wp2_with fail
  refine (same_ok _).mono ?_; rintro e w3 ⟨rfl, hb3⟩
  have HP3 := Lib.hid (HP2.out.go hb3)
  have HB3 := Lib.hid (HB2.out.trans (hb3.mono HB2.out.size))
  have HR3 := Lib.hid (HR2.out.below hb3)
  clear hb3 HP2 HB2 HR2
  obtain ⟨x0, x1, x2, xf0, xf1, xf2, xz⟩ := HP3.out.three
  go_upto_region 7 with (fail)
  have HM4 := Lib.hid (Blk.new w3 67 #[.slice none 0 0, .int .i64 r, .int .i64 p, .int .i64 0, .slice none 0 0])
  have HB4 := Lib.hid (HB3.out.alloc HB3.out.size (.cells #[.slice none 0 0, .int .i64 r, .int .i64 p, .int .i64 0, .slice none 0 0] 67))
  have HX4 := Lib.hid ((Below.refl w3.heap.size w3).alloc (Nat.le_refl _) (.cells #[.slice none 0 0, .int .i64 r, .int .i64 p, .int .i64 0, .slice none 0 0] 67))
  obtain ⟨w4, hw4⟩ : ∃ x, x = w3.alloc (.cells #[.slice none 0 0, .int .i64 r, .int .i64 p, .int .i64 0, .slice none 0 0] 67) := ⟨_, rfl⟩
  rw [← hw4] at HM4 HB4 HX4 ⊢
  clear hw4 x0 x1 x2 xf0 xf1 xf2 xz
  obtain ⟨i0, hi0, hz0, hz1, hz2⟩ := info_parts Tryd.info_src
  have HCE := Lib.hid (show ∀ j u, (srcCells S)[j]? = some u → w4.cell? ((⟨b, off, none⟩ : Addr).add j) = some u from fun j u hu => by
    have hr := (HS.out.rd).below' HB4.out (Nat.le_refl _)
    obtain ⟨b', off', e, _, hc⟩ := hr.2 n0
    injection e with e
    injection e with e1 e2
    subst e1 e2
    have hadd : (⟨b, off, none⟩ : Addr).add j = ⟨b, off + j, none⟩ := by unfold Addr.add; split <;> simp_all
    rw [hadd]; exact hc j u hu)
  have HON := Lib.hid (srcCells_one S)
  have hcap := HS.out.cap
  have m0 := HM4.out.cell 0
  have mz := HM4.out.lt
  have mf := HM4.out.frozen 0
  simp only [List.getElem?_toArray, List.getElem?_cons_zero] at m0
  go_upto_region 8 with (at_builtin; refine wpList_append_own _ rfl (.tmp 43) (.tmp 44) 58 rfl w4.heap.size 74 i0 (.agg #[.int .i64 0, .int .i64 0, .int .i64 0, .int .i64 0]) 4 32 Tryd.underlying58 hi0 hz0 hz1 hz2 rfl (by omega) _ 0 [] rfl (World.ownsRow_nil _ _ _ _) ⟨b, off, none⟩ S.length c (srcCells S) rfl (by rw [srcCells_len]) HCE.out HON.out (by simp only [maxLen]; omega) (by omega) (Nat.le_refl _) ?_; intro v' w5 hown hgrow _; rw [Nat.zero_add, List.nil_append] at hown; obtain ⟨gs', cs', hv', hgb, hgz, _, _⟩ := own_form hown n0; subst hv'; have HO5 := Lib.hid hown; have HX5 : Hid (Below w4.heap.size w4 w5) := Lib.hid ((Below.refl _ _).grown hgrow (Nat.le_refl _) (fun k hk => by cases hk)); have HM5 := Lib.hid (HM4.out.grown hgrow (fun e => by cases e)); clear hown hgrow m0 mz mf; have mz := HM5.out.lt; have mf := HM5.out.frozen 0; have m0 := HM5.out.cell 0; simp only [List.getElem?_toArray, List.getElem?_cons_zero] at m0)
  have HM6 := Lib.hid (show Blk (w5.setCell ⟨w3.heap.size, 0, none⟩ (.slice (some ⟨gs', 0, none⟩) S.length cs')) w3.heap.size 67 #[.slice (some ⟨gs', 0, none⟩) S.length cs', .int .i64 r, .int .i64 p, .int .i64 0, .slice none 0 0] from HM5.out.set_ 0 _)
  have HX6 := Lib.hid ((HX4.out.trans (HX5.out.mono HX4.out.size)).setCell (p := ⟨w3.heap.size, 0, none⟩) (Nat.le_refl _) (.slice (some ⟨gs', 0, none⟩) S.length cs'))
  have hg5 : gs' ≠ w3.heap.size := by have := HM4.out.lt; omega
  have HO6 := Lib.hid (own_far' HO5.out (own_blk_ne HO5.out HM5.out (by decide)) (k := 0) (.slice (some ⟨gs', 0, none⟩) S.length cs'))
  have hz4 : w3.heap.size ≤ w4.heap.size := HX4.out.size
  have HT := Lib.hid (show RF.Two (w5.setCell ⟨w3.heap.size, 0, none⟩ (.slice (some ⟨gs', 0, none⟩) S.length cs')) w.heap.size g gs cs w3.heap.size gs' cs' S.length (.slice none 0 0) (.slice none 0 0) r p S 0 [] S 0 [] from
    ⟨HR3.out.below HX6.out, ⟨HM6.out, own_base' HO6.out (Nat.le_trans HB3.out.size hz4), ⟨by simp [idxs], .inl ⟨rfl, rfl⟩⟩, HB3.out.size, rfl⟩, ⟨by have := (HR3.out.srcs.lt gs rfl).2; omega, fun i hi => by simp [Value.ownBlock] at hi⟩⟩)
  have HB6 := Lib.hid (HB3.out.trans (HX6.out.mono HB3.out.size))
  obtain ⟨g', hg'⟩ : ∃ x, x = w3.heap.size := ⟨_, rfl⟩
  obtain ⟨w6, hw6⟩ : ∃ x, x = w5.setCell ⟨w3.heap.size, 0, none⟩ (.slice (some ⟨gs', 0, none⟩) S.length cs') := ⟨_, rfl⟩
  rw [← hw6] at HT HB6 ⊢
  rw [← hg'] at HT ⊢
  clear hw6 hg' m0 mf mz hg5 hz4 HO6 HX6 HM6 HO5 HX5 HM5 HX4 HB4 HM4 HCE HON hgb hgz hcap
  go_wp2
  go_loopw [12] (fun iv wr => ∃ (j : Nat) (vr vr' : Value) (S' : List Src) (k : Int) (row : List Nat), j ≤ 40 ∧ iv = .int .i64 j ∧ Hid (RF.Two wr w.heap.size g gs cs g' gs' cs' S.length vr vr' r p S' k row S' k row) ∧ Hid (RInv (S.map Src.l) S' r p k row) ∧ Hid (Below w.heap.size w wr)) (fun iv _ => 40 - (intOf iv).toNat)
  case atStart => exact ⟨0, _, _, S, 0, [], by omega, rfl, HT, HI0, HB6⟩
  case round =>
    clear HT HI0 HB6
    obtain ⟨j, vr, vr', S', k, row, hj, rfl, HT, HI, HB⟩ := hrel
    by_cases hin : (j : Int) < m ∧ (j : Int) < 40
    · obtain ⟨h1, h2⟩ := hin
      obtain ⟨wt, hwt⟩ : ∃ x, PP.went p k (cameOf S') = x := ⟨_, rfl⟩
      obtain ⟨lo, hlo⟩ : ∃ x, PP.lost r p k (cameOf S') = x := ⟨_, rfl⟩
      obtain ⟨lf, hlf⟩ : ∃ x, PP.left r p k (cameOf S') = x := ⟨_, rfl⟩
      obtain ⟨S2, hS2⟩ : ∃ x, tickS S' r p k row = x := ⟨_, rfl⟩
      obtain ⟨row2, hR2⟩ : ∃ x, tickRow S' r p k row = x := ⟨_, rfl⟩
      have HI2 := Lib.hid (show RInv (S.map Src.l) S2 r p lf row2 from by rw [← hS2, ← hR2, ← hlf]; exact HI.out.next)
      have HW := Lib.hid hwt; have HLO := Lib.hid hlo; have HLF := Lib.hid hlf; have HS2 := Lib.hid hS2; have HR2 := Lib.hid hR2
      clear hwt hlo hlf hS2 hR2
      have hlen2 : row2.length ≤ 10000 := by have := HI2.out.pool; have := HI2.out.rowl; unfold PoolOk at *; omega
      have hlf2 := HI2.out.rowl
      have hbs := HB.out.size
      go_wp2_with fail
      refine (RF.two_m HT.out hbs HI.out wt lo lf S2 row2 HW.out HLO.out HLF.out HS2.out HR2.out).mono ?_; rintro e wz ⟨v2, rfl, ht, hbz, _⟩
      obtain ⟨A3, c3, rfl, hi3⟩ := idxs_ints ht.b.row
      have HT2 := Lib.hid (ht.alloc (.cells #[.int .i64 wt, .int .i64 lo, .int .i64 lf] 69))
      have hb0 := HB.out.trans hbz
      have HB2 := Lib.hid (hb0.alloc hb0.size (.cells #[.int .i64 wt, .int .i64 lo, .int .i64 lf] 69))
      have HG2 := Lib.hid (Blk.new wz 69 #[.int .i64 wt, .int .i64 lo, .int .i64 lf])
      clear ht hbz hb0 hbs hi3 HT HB
      go_upto_region 12 with (fail)
      obtain ⟨wy, hwy⟩ : ∃ x, x = wz.alloc (.cells #[.int .i64 wt, .int .i64 lo, .int .i64 lf] 69) := ⟨_, rfl⟩
      rw [← hwy] at HT2 HG2 HB2 ⊢
      obtain ⟨gw, hgw⟩ : ∃ x, x = wz.heap.size := ⟨_, rfl⟩
      rw [← hgw] at HG2 ⊢
      clear hwy hgw
      have hbs := HB2.out.size
      obtain ⟨q0, q1, q2, _, _, _, zq⟩ := HG2.out.three
      obtain ⟨b0, b1, b2, b3, b4, zb⟩ := HT2.out.b.cells
      go_cut [81] (fun sx wx => sx = .bool false ∧ ∃ v3, Hid (RF.Two wx w.heap.size g gs cs g' gs' cs' S.length v3 (.slice A3 row2.length c3) r p S2 lf row2 S2 lf row2) ∧ Hid (Below w.heap.size w wx))
      case first =>
        go_region_held3 (fun w' => w'.cell? ⟨gw, 0, none⟩ = some (.int .i64 wt) ∧ w'.cell? ⟨gw, 1, none⟩ = some (.int .i64 lo) ∧ w'.cell? ⟨gw, 2, none⟩ = some (.int .i64 lf) ∧ w'.cell? ⟨g', 1, none⟩ = some (.int .i64 r) ∧ w'.cell? ⟨g', 2, none⟩ = some (.int .i64 p) ∧ w'.cell? ⟨g', 3, none⟩ = some (.int .i64 lf) ∧ w'.cell? ⟨g', 4, none⟩ = some (.slice A3 row2.length c3)) (go_keep)
          (first
            | (go_simp; go_at_call 40; refine (rpool_any _ w.heap.size g gs cs _ v3 S2 r p lf row2 HTu.out.a.plain).mono ?_; rintro e wp ⟨rfl, hbp⟩; have HBp : Hid (Below wu.heap.size wu wp) := Lib.hid (by first | exact hbp | exact (Below.refl _ _).drew.trans hbp); have HTp := Lib.hid (HTu.out.below HBp.out); have HGp := Lib.hid (HGu.out.go HBp.out); have HBpw := Lib.hid (HBu.out.trans (HBp.out.mono HBu.out.size)); obtain ⟨y0, y1, y2, _, _, _, zy⟩ := HGp.out.three; obtain ⟨x0, x1, x2, x3, x4, zx⟩ := HTp.out.b.cells; clear hbp; dsimp only)
            | (go_simp; go_at_call 41; refine (rwaits_any _ w.heap.size g gs cs _ v3 S2 r p lf row2 HTp.out.a.plain (by omega)).mono ?_; rintro e wv ⟨va, rfl, hov, hbv⟩; obtain ⟨A2, cc2, rfl, hi2⟩ := idxs_ints hov; have HBv : Hid (Below wp.heap.size wp wv) := Lib.hid (by first | exact hbv | exact (Below.refl _ _).drew.trans hbv); have HTv := Lib.hid (HTp.out.below HBv.out); have HGv := Lib.hid (HGp.out.go HBv.out); have HBvw := Lib.hid (HBpw.out.trans (HBv.out.mono HBpw.out.size)); have HI4 := Lib.hid hi2; obtain ⟨y0, y1, y2, _, _, _, zy⟩ := HGv.out.three; obtain ⟨x0, x1, x2, x3, x4, zx⟩ := HTv.out.b.cells; clear hbv hov hi2; dsimp only)
            | (go_simp; go_at_call 29; refine (RF.two_ints HTv.out HI4.out _ (Below.refl _ _)).mono ?_; rintro e wq ⟨rfl, hbq⟩; have HBq : Hid (Below wv.heap.size wv wq) := Lib.hid (by first | exact hbq | exact (Below.refl _ _).drew.trans hbq); have HTq := Lib.hid (HTv.out.below HBq.out); have HGq := Lib.hid (HGv.out.go HBq.out); have HBqw := Lib.hid (HBvw.out.trans (HBq.out.mono HBvw.out.size)); obtain ⟨y0, y1, y2, _, _, _, zy⟩ := HGq.out.three; obtain ⟨x0, x1, x2, x3, x4, zx⟩ := HTq.out.b.cells; clear hbq; dsimp only)
            | (go_simp; go_at_call 39; refine (RF.two_r HT2.out.drew hbs HI.out wt lo lf S2 row2 HW.out HLO.out HLF.out HS2.out HR2.out).mono ?_; rintro e wu ⟨v3, rfl, ht, hbu, hk⟩; have HTu := Lib.hid ht; have HGu := Lib.hid (show Blk wu gw 69 #[.int .i64 wt, .int .i64 lo, .int .i64 lf] from hk _ _ _ HG2.out (by decide) (by decide) (by decide) (by decide)); have HBu : Hid (Below w.heap.size w wu) := Lib.hid (by first | exact HB2.out.trans hbu | exact HB2.out.drew.trans hbu); obtain ⟨y0, y1, y2, _, _, _, zy⟩ := HGu.out.three; obtain ⟨x0, x1, x2, x3, x4, zx⟩ := HTu.out.b.cells; clear ht hbu hk; dsimp only))
        all_goals
          go_wp2
          go_meet
          exact ⟨rfl, v3, Lib.hid (by first | exact HTq.out | exact HTq.out.drew), Lib.hid (by first | exact HBqw.out | exact HBqw.out.drew)⟩
      case rest =>
        obtain ⟨rfl, v3, HT3, HB3⟩ := hcut
        clear q0 q1 q2 zq b0 b1 b2 b3 b4 zb HT2 HG2 HB2 hbs
        obtain ⟨wo, hwo⟩ : ∃ x, x = wc := ⟨_, rfl⟩
        rw [← hwo] at HT3 HB3 ⊢
        clear hwo
        have hlS : S2.length = S.length := HT3.out.a.len
        go_wp2
        go_loopw [14] (fun kv wr => ∃ i : Nat, i ≤ S.length + 2 ∧ kv = .int .i64 ((i : Int) - 1) ∧ Hid (RF.Two wr w.heap.size g gs cs g' gs' cs' S.length v3 (.slice A3 row2.length c3) r p S2 lf row2 S2 lf row2) ∧ Hid (Below w.heap.size w wr)) (fun kv _ => (S.length + 1 - intOf kv).toNat)
        case atStart => exact ⟨0, Nat.zero_le _, rfl, HT3, HB3⟩
        case round =>
          clear HT3 HB3
          obtain ⟨i, hi, rfl, HT, HB⟩ := hrel
          by_cases hout : i = S.length + 2
          · subst hout
            have e1 : (((S.length + 2 : Nat) : Int) - 1) = (S.length : Int) + 1 := by omega
            rw [e1]
            clear e1
            have h3 : ¬ ((S.length : Int) + 1 ≤ (S.length : Int)) := by omega
            go_wp2
            go_roundw
            case rel => exact ⟨j + 1, v3, _, S2, lf, row2, by omega, by go_num, HT, HI2, HB⟩
            case measure => (simp [intOf] <;> omega)
          · have hcase : i = 0 ∨ i = S.length + 1 ∨ (1 ≤ i ∧ i ≤ S.length) := by omega
            rcases hcase with rfl | rfl | ⟨hi1, hi2⟩
            · have e1 : (((0 : Nat) : Int) - 1) = -1 := rfl
              rw [e1]
              have l1 : (-1 : Int) ≤ (S.length : Int) := by omega
              go_wp2_with fail
              refine (rsource_out _ w.heap.size g gs cs _ v3 S2 r p lf row2 HT.out.a.plain (-1) (by omega) n6).mono ?_; rintro e wx ⟨rfl, hbx⟩
              have HTx := Lib.hid ((HT.out.below hbx).alloc (.cells #[.int .i64 0, .int .i64 0, .int .i64 0, .int .i64 0] 74))
              have hb0 := HB.out.trans (hbx.mono HB.out.size)
              have HBx := Lib.hid (hb0.alloc hb0.size (.cells #[.int .i64 0, .int .i64 0, .int .i64 0, .int .i64 0] 74))
              clear hbx hb0 HT HB
              go_wp2_with fail
              refine (same_hit 1 _ (HG.out.below HBx.out)).mono ?_; rintro e wv ⟨rfl, hb⟩
              have HTv := Lib.hid (HTx.out.below hb)
              have HBv := Lib.hid (HBx.out.trans (hb.mono HBx.out.size))
              clear hb HTx HBx
              go_wp2
              go_roundw
              case rel => exact ⟨1, by omega, by go_num, HTv, HBv⟩
              case measure => (simp [intOf] <;> omega)
            · have e1 : (((S.length + 1 : Nat) : Int) - 1) = (S.length : Int) := by omega
              rw [e1]
              clear e1
              have l0 : decide ((S.length : Int) < 0) = false := decide_eq_false (by omega)
              go_wp2_with fail
              refine (rsource_out _ w.heap.size g gs cs _ v3 S2 r p lf row2 HT.out.a.plain (S.length : Int) (by omega) n6).mono ?_; rintro e wx ⟨rfl, hbx⟩
              have HTx := Lib.hid ((HT.out.below hbx).alloc (.cells #[.int .i64 0, .int .i64 0, .int .i64 0, .int .i64 0] 74))
              have hb0 := HB.out.trans (hbx.mono HB.out.size)
              have HBx := Lib.hid (hb0.alloc hb0.size (.cells #[.int .i64 0, .int .i64 0, .int .i64 0, .int .i64 0] 74))
              clear hbx hb0 HT HB
              go_wp2_with fail
              refine (same_hit 1 _ (HG.out.below HBx.out)).mono ?_; rintro e wv ⟨rfl, hb⟩
              have HTv := Lib.hid (HTx.out.below hb)
              have HBv := Lib.hid (HBx.out.trans (hb.mono HBx.out.size))
              clear hb HTx HBx
              go_wp2
              go_roundw
              case rel => exact ⟨S.length + 2, by omega, by go_num, HTv, HBv⟩
              case measure => (simp [intOf] <;> omega)
            · obtain ⟨q, rfl⟩ : ∃ q, i = q + 1 := ⟨i - 1, by omega⟩
              have e1 : (((q + 1 : Nat) : Int) - 1) = (q : Int) := by omega
              rw [e1]
              clear e1 hout hi1
              have l0 : decide ((q : Int) < 0) = false := decide_eq_false (by omega)
              have l1 : (q : Int) ≤ (S.length : Int) := by omega
              have l2 : decide ((S.length : Int) ≤ (q : Int)) = false := decide_eq_false (by omega)
              have l2' : decide (S.length ≤ q) = false := decide_eq_false (by omega)
              have l3 : (0 : Int) ≤ (q : Int) := by omega
              have l4 : (q : Int) < (S.length : Int) := by omega
              obtain ⟨s, hs⟩ : ∃ s, S2[q]? = some s := ⟨_, List.getElem?_eq_getElem (by omega)⟩
              have HSQ := Lib.hid hs
              go_wp2_with fail
              refine (rsource_in _ w.heap.size g gs cs _ v3 S2 r p lf row2 HT.out.a.plain q s hs n6).mono ?_; rintro e wx ⟨rfl, hbx⟩
              clear hs
              obtain ⟨sW, sa, sl, sc⟩ := s
              have HTx := Lib.hid ((HT.out.below hbx).alloc (.cells #[.int .i64 sW, .int .i64 sa, .int .i64 sl, .int .i64 sc] 74))
              have hb0 := HB.out.trans (hbx.mono HB.out.size)
              have HBx := Lib.hid (hb0.alloc hb0.size (.cells #[.int .i64 sW, .int .i64 sa, .int .i64 sl, .int .i64 sc] 74))
              have HXx := Lib.hid (Blk.new wx 74 #[.int .i64 sW, .int .i64 sa, .int .i64 sl, .int .i64 sc])
              clear hbx hb0 HT HB
              dsimp only [Src.val]
              go_upto_region 21 with (fail)
              obtain ⟨wv, hwv⟩ : ∃ x, x = wx.alloc (.cells #[.int .i64 sW, .int .i64 sa, .int .i64 sl, .int .i64 sc] 74) := ⟨_, rfl⟩
              rw [← hwv] at HTx HBx HXx ⊢
              obtain ⟨gx, hgx⟩ : ∃ x, x = wx.heap.size := ⟨_, rfl⟩
              rw [← hgx] at HXx ⊢
              clear hwv hgx
              obtain ⟨x0, x1, x2, x3, _, _, _, _, zx⟩ := HXx.out.four
              obtain ⟨b0, _, _, _, _, zb⟩ := HTx.out.b.cells
              obtain ⟨s0, s1, s2, s3, zs⟩ := HTx.out.b.src HSQ.out
              simp only at s0 s1 s2 s3
              go_quiet (fail)
              go_wp2
              go_roundw
              case rel => exact ⟨q + 2, by omega, by go_num, Lib.hid (HTx.out.below (below_drewN (Below.refl _ _) _)), Lib.hid (below_drewN HBx.out _)⟩
              case measure => (simp [intOf] <;> omega)
    · have hd : (j : Int) < m ∧ ¬ (j : Int) < 40 ∨ ¬ (j : Int) < m := by omega
      clear hin
      rcases hd with ⟨h1, h2⟩ | h1
      all_goals
        go_wp2
        go_ret
        exact ⟨rfl, HB.out⟩
end Go.Proofs.YtblanfaghnflkaaDoor
