/- The reference's loads of a net's links. -/
import Derived.Test.YtblanfaghnflkaaDoorRefUsers
import Derived.Test.YtblanfaghnflkaaDoorRefFrac
import Derived.Test.YtblanfaghnflkaaDoorLibK
namespace Go.Proofs.YtblanfaghnflkaaDoor
open Go.RowKit
theorem refFrac_q (q : Rat) (w : World) (hq : QIn q) : Calls Tryd.prog 16 #[.agg #[.int .i64 q.num, .int .i64 q.den]] w fun e w' => e = .returned (.int .i64 0) ∧ Below w.heap.size w w' := by
  have := refFrac_any q.num q.den w
  rwa [rat_frac hq] at this
theorem refBig_q (q : Rat) (bb : Bool) (w : World) (hb : decide (QIn q) = !bb) : Calls Tryd.prog 18 #[.agg #[.int .i64 q.num, .int .i64 q.den]] w fun e w' => e = .returned (.bool bb) ∧ Below w.heap.size w w' := by
  cases bb
  · exact refBig_no _ _ w (of_decide_eq_true hb)
  · exact refBig_yes _ _ w (by have := q.den_pos; omega) (of_decide_eq_false hb)
set_option maxHeartbeats 8000000 in
set_option maxRecDepth 100000 in
theorem refLoad_in (C : Option Addr) (cc : Nat) (caps : List Int) (P : Option Addr) (cp : Nat) (paths : List (List Int)) (A : Option Addr) (c : Nat) (Q : List Rat) (B : Nat) (w : World) (hB : B ≤ w.heap.size) (hc : Ints w B C cc caps) (hp : Rows2 w B P cp paths) (hr : Frs w B A c (Q.map frQ))
    (hn : netErr caps paths = 0) (hl : Q.length = paths.length) (hq : ∀ q ∈ Q, QIn q) :
    Calls Tryd.prog 48 #[.agg #[.slice C caps.length cc, .slice P paths.length cp], .slice A Q.length c] w fun e w' =>
      ((∃ L v, loadsTo paths Q caps.length = some L ∧ e = .returned (.tuple #[v, .int .i64 0]) ∧ w'.ownsRow w.heap.size 23 2 v caps.length (qcells L)) ∨ (loadsTo paths Q caps.length = none ∧ e = .returned (.tuple #[.slice none 0 0, .int .i64 4]))) ∧ Below w.heap.size w w' := by
  obtain ⟨k1, k2, k3, k4, _, _⟩ := netErr_ok hn
  have HB0 : Hid (Below w.heap.size w (w.alloc (.cells #[.slice C caps.length cc, .slice P paths.length cp] 43))) := Lib.hid ((Below.refl _ _).alloc (Nat.le_refl _) _)
  have HN0 := Lib.hid (Blk.new w 43 #[.slice C caps.length cc, .slice P paths.length cp])
  have HNE := Lib.hid (show Calls Tryd.prog 25 #[.agg #[.slice C caps.length cc, .slice P paths.length cp]] (w.alloc (.cells #[.slice C caps.length cc, .slice P paths.length cp] 43)) fun e w' => e = .returned (.int .i64 0) ∧ Below (w.alloc (.cells #[.slice C caps.length cc, .slice P paths.length cp] 43)).heap.size (w.alloc (.cells #[.slice C caps.length cc, .slice P paths.length cp] 43)) w' from by
    have := refNet_all C cc caps P cp paths B (w.alloc (.cells #[.slice C caps.length cc, .slice P paths.length cp] 43)) (by simp; omega) (hc.below HB0.out hB) (hp.below HB0.out hB)
    rwa [hn] at this)
  have HC := Lib.hid hc; have HP := Lib.hid hp; have HR := Lib.hid hr; have HQ := Lib.hid hq
  have hm := hc.cap; have hml := hc.le; have hm2 := hp.cap; have hml2 := hp.le; have hm3 := hr.cap; have hml3 := hr.le
  rw [List.length_map] at hml3
  unfold maxLen at hm hm2 hm3
  have HLEN := Lib.hid hl
  have hlq : Q.length ≤ 6 := by omega
  have hle : ((Q.length : Int) != (paths.length : Int)) = false := by rw [hl]; simp
  clear hc hp hr hn hq hl
  go_enter Tryd.func48, Tryd.ntmps48
  go_wp2_with fail
  refine HNE.out.mono ?_; rintro e w1 ⟨rfl, hb1⟩
  have HB1 := Lib.hid (HB0.out.trans (hb1.mono HB0.out.size))
  have HN1 := Lib.hid (HN0.out.go hb1)
  clear HB0 HN0 hb1 HNE
  obtain ⟨n0, n1, _, _, nz⟩ := HN1.out.two
  go_wp2
  go_loopw [6, 7] (fun x i wr => ∃ k : Nat, k ≤ Q.length ∧ x = .int .i64 0 ∧ i = .int .i64 k ∧ Hid (Below w.heap.size w wr) ∧ Hid (Blk wr w.heap.size 43 #[.slice C caps.length cc, .slice P paths.length cp])) (fun _ i _ => Q.length - (intOf i).toNat)
  case atStart => exact ⟨0, Nat.zero_le _, rfl, rfl, HB1, HN1⟩
  case round =>
    clear HB1 n0 n1 nz HN1
    obtain ⟨k, hk, rfl, rfl, HB, HN⟩ := hrel
    have hB1 := HB.out.size
    by_cases hlt : k < Q.length
    · have k0 : (0 : Int) ≤ (k : Int) := by omega
      obtain ⟨br, or, rfl, hbr, r0, r1⟩ := frs_q (HR.out.below HB.out hB) hlt
      have hqu : QIn (Q.getD k 0) := HQ.out _ (by rw [List.getD_eq_getElem?_getD, List.getElem?_eq_getElem hlt]; exact List.getElem_mem hlt)
      obtain ⟨q, hqq⟩ : ∃ q, Q.getD k 0 = q := ⟨_, rfl⟩
      rw [hqq] at r0 r1 hqu
      have HFQ := Lib.hid fun W => refFrac_q q W hqu
      clear hqq hqu
      go_wp2_with fail
      refine (HFQ.out _).mono ?_; rintro e w2 ⟨rfl, hb2⟩
      have HB2 := Lib.hid (HB.out.trans (hb2.mono hB1)); have HN2 := Lib.hid (HN.out.go hb2)
      clear hb2
      go_wp2
      go_roundw
      case rel => exact ⟨k + 1, by omega, rfl, by go_num, HB2, HN2⟩
      case measure => simp [intOf]; omega
    · obtain rfl : k = Q.length := by omega
      clear hlt hk
      obtain ⟨wo, hwo⟩ : ∃ x, x = wr := ⟨_, rfl⟩
      rw [← hwo] at HB HN ⊢
      clear hwo hB1
      obtain ⟨n0, n1, _, _, nz⟩ := HN.out.two
      go_wp2
      go_loopw [8, 9] (fun v i wr => ∃ (k : Nat) (L : List Rat), k ≤ caps.length ∧ i = .int .i64 k ∧ Hid (loadsTo paths Q k = some L) ∧ Hid (wr.ownsRow w.heap.size 23 2 v k (qcells L)) ∧ Hid (Below w.heap.size w wr) ∧ Hid (Blk wr w.heap.size 43 #[.slice C caps.length cc, .slice P paths.length cp])) (fun _ i _ => caps.length - (intOf i).toNat)
      case atStart => exact ⟨0, [], Nat.zero_le _, rfl, Lib.hid rfl, Lib.hid (World.ownsRow_nil _ _ _ _), HB, HN⟩
      case round =>
        clear HB n0 n1 nz HN
        obtain ⟨k, L, hk, rfl, HL, HO, HB, HN⟩ := hrel
        have hB1 := HB.out.size
        by_cases hlt : k < caps.length
        · have k0 : (0 : Int) ≤ (k : Int) := by omega
          obtain ⟨us, hus⟩ : ∃ us, users paths k = us := ⟨_, rfl⟩
          have hul : us.length ≤ 6 := by have := users_len paths k; rw [← hus]; omega
          have HUS := Lib.hid hus
          clear hus
          obtain ⟨n0, n1, _, _, nz⟩ := HN.out.two
          go_wp2_with fail
          refine (refWhole_any 0 _).mono ?_; rintro e w2 ⟨rfl, hb2⟩
          have HB2 := Lib.hid ((HB.out.trans (hb2.mono hB1)).alloc (Nat.le_trans hB1 hb2.size) (.cells #[.int .i64 0, .int .i64 1] 23))
          have HN2 := Lib.hid ((HN.out.go hb2).alloc (.cells #[.int .i64 0, .int .i64 1] 23))
          have HS2 := Lib.hid (Blk.new w2 23 #[.int .i64 0, .int .i64 1])
          have HO2 := Lib.hid ((own_below HO.out hb2).alloc (.cells #[.int .i64 0, .int .i64 1] 23))
          have hz2 : w.heap.size < w2.heap.size := (HN.out.go hb2).lt
          obtain ⟨g9, hg9⟩ : ∃ x, x = w2.heap.size := ⟨_, rfl⟩
          rw [← hg9] at HS2 hz2
          clear n0 n1 nz HB HN
          obtain ⟨n0, n1, _, _, nz⟩ := HN2.out.two
          go_wp2_with fail
          refine (refUsers_any k (.slice C caps.length cc) P cp _ paths us B _ (by have := HB2.out.size; omega) (HP.out.below HB2.out hB) (by omega) HUS.out rfl).mono ?_; rintro e w3 ⟨A3, c3, rfl, hi3, hl3, hc3, hb3⟩
          have hz3 := (HS2.out).lt
          obtain ⟨B3, hB3⟩ : ∃ x, x = (w2.alloc (.cells #[.int .i64 0, .int .i64 1] 23)).heap.size := ⟨_, rfl⟩
          rw [← hB3] at hi3 hz3
          have HI3 := Lib.hid hi3
          unfold maxLen at hc3
          have HB3 := Lib.hid (HB2.out.trans (hb3.mono HB2.out.size))
          have HN3 := Lib.hid (HN2.out.go hb3)
          have HS3 := Lib.hid (HS2.out.go hb3)
          have HO3 := Lib.hid (own_below HO2.out hb3)
          have HNE := Lib.hid (show _ ≠ some g9 from fun e => Nat.lt_irrefl g9 (by have := (HO.out.lt g9 e).2; have := hb2.size; omega))
          rw [← hg9]
          clear hB3 hb2 HO hi3 hb3 HB2 HN2 HS2 HO2 n0 n1 nz hg9
          go_wp2
          go_loopw [12] (fun i wr => ∃ (j : Nat) (s : Rat), j ≤ us.length ∧ i = .int .i64 j ∧ Hid (addUp Q (us.take j) = some s) ∧ Hid (Blk wr g9 23 #[.int .i64 s.num, .int .i64 s.den]) ∧ Hid (Blk wr w.heap.size 43 #[.slice C caps.length cc, .slice P paths.length cp]) ∧ Hid (Below w.heap.size w wr) ∧ Hid (wr.ownsRow w.heap.size 23 2 u8 k (qcells L)) ∧ Hid (wr.ownsRow B3 3 1 (.slice A3 us.length c3) us.length ((us.map fun (i : Nat) => (i : Int)).map (Value.int .i64))) ∧ Hid (u8.ownBlock ≠ some g9)) (fun i _ => us.length - (intOf i).toNat)
          case atStart => exact ⟨0, 0, Nat.zero_le _, rfl, Lib.hid rfl, HS3, HN3, HB3, HO3, HI3, HNE⟩
          case round =>
            clear HS3 HN3 HB3 HO3 HI3 HNE
            obtain ⟨j, s, hj, rfl, HA, HS, HN, HB, HO, HI, HNE⟩ := hrel
            have hB1 := HB.out.size
            have hk1 : (k : Int) ≤ 6 := by omega
            by_cases hjl : j < us.length
            · have j0 : (0 : Int) ≤ (j : Int) := by omega
              obtain ⟨b3, o3, x3, rfl, hb3, hc3c, _, HT, HX⟩ := (own_ints' HI.out).elem (k := j) (by simpa using hjl)
              obtain ⟨hu, hj1, hj2⟩ := users_get HUS.out hjl
              have hx3 : x3 = ((us.getD j 0 : Nat) : Int) := by have := HX.out; rw [List.getD_eq_getElem?_getD, List.getElem?_map, hj1] at this; exact this.symm
              subst hx3
              rw [← HLEN.out] at hu
              obtain ⟨u, hu'⟩ : ∃ u, us.getD j 0 = u := ⟨_, rfl⟩
              rw [hu'] at hu hj1 hj2 hc3c
              obtain ⟨br, or, rfl, hbr, r0, r1⟩ := frs_q (HR.out.below HB.out hB) hu
              have hqu : QIn (Q.getD u 0) := HQ.out _ (by rw [List.getD_eq_getElem?_getD, List.getElem?_eq_getElem hu]; exact List.getElem_mem hu)
              obtain ⟨q, hqq⟩ : ∃ q, Q.getD u 0 = q := ⟨_, rfl⟩
              have hs := addUp_snoc Q (us.take j) u
              rw [← hj2, HA.out] at hs
              have hs2 : addQ Q (some s) u = if QIn (s + q) then some (s + q) else none := by rw [← hqq]; rfl
              rw [hs2] at hs
              rw [hqq] at r0 r1 hqu
              have hsin := addUp_in HA.out
              have u0 : (0 : Int) ≤ (u : Int) := by omega
              have u1 : (u : Int) < (Q.length : Int) := by omega
              have hne : br ≠ g9 := by omega
              have hbz : br < wr.heap.size := by have := HB.out.size; omega
              have hb3z : b3 < wr.heap.size := by omega
              have HSU := Lib.hid fun W => refSum_q s q (s + q) W hsin hqu rfl
              have HSN := Lib.hid hs
              obtain ⟨t, ht⟩ : ∃ t, s + q = t := ⟨_, rfl⟩
              rw [ht] at HSU HSN
              obtain ⟨s0, s1, sf0, sf1, sz⟩ := HS.out.two
              clear hu' hj1 hj2 HT HX hs2 hqq hqu hsin hs ht
              go_upto_region 17 with (fail)
              go_cut [12] (fun s12 wx => s12 = .int .i64 j ∧ Hid (Blk wx g9 23 #[.int .i64 t.num, .int .i64 t.den]) ∧ Hid (Blk wx w.heap.size 43 #[.slice C caps.length cc, .slice P paths.length cp]) ∧ Hid (Below w.heap.size w wx) ∧ Hid (wx.ownsRow w.heap.size 23 2 u8 k (qcells L)) ∧ Hid (wx.ownsRow B3 3 1 (.slice (some ⟨b3, o3, none⟩) us.length c3) us.length ((us.map fun (i : Nat) => (i : Int)).map (Value.int .i64))))
              case first =>
                have hgN : w.heap.size ≠ g9 := by omega
                go_region_law (go_simp; go_at_call 23; refine (HSU.out _).mono ?_; rintro e w5 ⟨rfl, hb5⟩; have HB5 : Hid (Below wr.heap.size wr w5) := Lib.hid (by first | exact hb5 | exact (Below.refl _ _).drew.trans hb5 | exact (Below.refl _ _).drew.drew.trans hb5); have HS5 := Lib.hid (HS.out.go HB5.out); obtain ⟨y0, y1, yf0, yf1, yz⟩ := HS5.out.two; clear hb5)
                all_goals
                  go_wp2
                  go_meet
                  exact ⟨rfl, Lib.hid ((HS5.out.s2_0 _).s2_1 _), Lib.hid (((HN.out.go HB5.out).far (p := ⟨g9, 0, none⟩) hgN _).far (p := ⟨g9, 1, none⟩) hgN _), Lib.hid (((HB.out.trans (HB5.out.mono hB1)).setCell (p := ⟨g9, 0, none⟩) (by show w.heap.size ≤ g9; omega) _).setCell (p := ⟨g9, 1, none⟩) (by show w.heap.size ≤ g9; omega) _), Lib.hid (own_farB (own_farB (own_below HO.out HB5.out) HNE.out _) HNE.out _), Lib.hid (own_set (own_set (own_below HI.out HB5.out) hz3 _) hz3 _)⟩
              case rest =>
                clear HSU s0 s1 sf0 sf1 sz r0 r1 hc3c HS HN HB HO HI
                obtain ⟨rfl, HS, HN, HB, HO, HI⟩ := hcut
                obtain ⟨s0, s1, sf0, sf1, sz⟩ := HS.out.two
                have hB2 := HB.out.size
                by_cases hin : QIn t
                · have hs := HSN.out
                  rw [if_pos hin] at hs
                  have HSN' := Lib.hid hs
                  have HBG := Lib.hid fun W => refBig_q t false W (decide_eq_true hin)
                  clear hs hin HSN
                  go_wp2_with fail
                  refine (HBG.out _).mono ?_; rintro e w6 ⟨rfl, hb6⟩
                  have HS6 := Lib.hid (HS.out.go hb6); have HN6 := Lib.hid (HN.out.go hb6); have HB6 := Lib.hid (HB.out.trans (hb6.mono hB2)); have HO6 := Lib.hid (own_below HO.out hb6); have HI6 := Lib.hid (own_below HI.out hb6)
                  clear hb6
                  go_wp2
                  go_roundw
                  case rel => exact ⟨j + 1, t, by omega, by go_num, HSN', HS6, HN6, HB6, HO6, HI6, HNE⟩
                  case measure => simp [intOf]; omega
                · have hs := HSN.out
                  rw [if_neg hin] at hs
                  have HSN' := Lib.hid hs
                  have HBG := Lib.hid fun W => refBig_q t true W (decide_eq_false hin)
                  clear hs hin HSN
                  go_wp2_with fail
                  refine (HBG.out _).mono ?_; rintro e w6 ⟨rfl, hb6⟩
                  have HB6 := Lib.hid (HB.out.trans (hb6.mono hB2))
                  clear hb6
                  go_wp2
                  go_ret2
                  exact ⟨.inr ⟨loadsTo_none hlt (by rw [HUS.out]; exact addUp_none HSN'.out), rfl⟩, HB6.out⟩
            · obtain rfl : j = us.length := by omega
              have hs := HA.out
              rw [List.take_length, ← HUS.out] at hs
              have HLN := Lib.hid (loadsTo_yes HL.out hs)
              clear hs
              obtain ⟨s0, s1, sf0, sf1, sz⟩ := HS.out.two
              go_wp2_with (at_builtin; refine wpList_push wr _ rfl (.tmp 74) (.tmp 76) 78 rfl w.heap.size 23 (.agg #[.int .i64 0, .int .i64 0]) 2 16 Tryd.underlying78 Tryd.info_fr rfl (by omega) _ _ _ rfl HO.out rfl rfl (by simp [Value.oneCell']) (by omega) (by omega) hB1 ?_; intro v' w7 hown7 hg7)
              have HO7 := Lib.hid hown7
              have HB7 := Lib.hid (below_push HB.out HO.out hg7 (Nat.le_refl _) hB1)
              have HN7 := Lib.hid (HN.out.grown hg7 fun e => own_blk_ne HO.out HN.out (by decide) e.symm)
              clear hown7 hg7 s0 s1 sf0 sf1 sz
              go_wp2
              go_roundw
              case rel => exact ⟨k + 1, L ++ [s], by omega, by go_num, HLN, Lib.hid (by rw [qcells_snoc]; exact HO7.out), HB7, HN7⟩
              case measure => simp [intOf]; omega
        · obtain rfl : k = caps.length := by omega
          obtain ⟨n0, n1, _, _, nz⟩ := HN.out.two
          go_wp2
          go_ret2
          exact ⟨.inl ⟨L, _, HL.out, rfl, HO.out⟩, HB.out⟩
end Go.Proofs.YtblanfaghnflkaaDoor
