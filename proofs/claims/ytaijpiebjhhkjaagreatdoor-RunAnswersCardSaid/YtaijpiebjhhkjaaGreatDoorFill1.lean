/- The filler of a net: how it lies; the share of a link. -/
import Derived.Test.YtaijpiebjhhkjaaGreatDoorLibL
import Derived.Test.YtaijpiebjhhkjaaGreatDoorLibP
import Derived.Deep.CutBlock
namespace Go.Proofs.YtaijpiebjhhkjaaGreatDoor
open Go.RowKit
def optFr : Option Rat → Fr
  | none => ⟨0, 0⟩
  | some q => frQ q
def optV (o : Option Rat) : Value := .agg #[.int .i64 (optFr o).t, .int .i64 (optFr o).b]
def rateCells (st : St) : List Value := frCells (st.map optFr)
def doneCells (st : St) : List Value := st.map fun o => .bool o.isSome
structure FillAt (w : World) (B g gr gd : Nat) (C : Option Addr) (cc : Nat) (P : Option Addr) (cp : Nat) (caps : List Int) (paths : List (List Int)) (st : St) : Prop where
  blk : Blk w g 127 #[.slice C caps.length cc, .slice P paths.length cp, .slice (some ⟨gr, 0, none⟩) paths.length paths.length, .slice (some ⟨gd, 0, none⟩) paths.length paths.length]
  rate : Blk w gr 37 (rateCells st).toArray
  done : Blk w gd 4 (doneCells st).toArray
  ic : Ints w B C cc caps
  ip : Rows2 w B P cp paths
  lo : B ≤ g
  lor : B ≤ gr
  lod : B ≤ gd
  len : st.length = paths.length
section
variable {w w' : World} {B g gr gd : Nat} {C : Option Addr} {cc : Nat} {P : Option Addr} {cp : Nat} {caps : List Int} {paths : List (List Int)} {st : St}
theorem FillAt.size (h : FillAt w B g gr gd C cc P cp caps paths st) : B ≤ w.heap.size := Nat.le_trans h.lo (Nat.le_of_lt h.blk.lt)
theorem FillAt.below (h : FillAt w B g gr gd C cc P cp caps paths st) (hb : Below w.heap.size w w') : FillAt w' B g gr gd C cc P cp caps paths st :=
  ⟨h.blk.go hb, h.rate.go hb, h.done.go hb, h.ic.below hb h.size, h.ip.below hb h.size, h.lo, h.lor, h.lod, h.len⟩
/-- a store into a block of no part of it -/
theorem FillAt.far (h : FillAt w B g gr gd C cc P cp caps paths st) {x k : Nat} (hx : B ≤ x) (h1 : g ≠ x) (h2 : gr ≠ x) (h3 : gd ≠ x) (u : Value) : FillAt (w.setCell ⟨x, k, none⟩ u) B g gr gd C cc P cp caps paths st :=
  have hb : Below B w (w.setCell ⟨x, k, none⟩ u) := (Below.refl _ _).setCell hx u
  ⟨h.blk.far h1 u, h.rate.far h2 u, h.done.far h3 u, h.ic.below hb (Nat.le_refl _), h.ip.below hb (Nat.le_refl _), h.lo, h.lor, h.lod, h.len⟩
theorem at_get {st : St} {u : Nat} (hu : u < st.length) : st[u]? = some (st.at_ u) := by
  unfold St.at_; rw [List.getD_eq_getElem?_getD, List.getElem?_eq_getElem hu]; rfl
theorem FillAt.rcell (h : FillAt w B g gr gd C cc P cp caps paths st) {u : Nat} (hu : u < paths.length) : w.cell? ⟨gr, u * 2, none⟩ = some (.int .i64 (optFr (st.at_ u)).t) ∧ w.cell? ⟨gr, u * 2 + 1, none⟩ = some (.int .i64 (optFr (st.at_ u)).b) := by
  have hs : (st.map optFr)[u]? = some (optFr (st.at_ u)) := by rw [List.getElem?_map, at_get (by rw [h.len]; exact hu)]; rfl
  obtain ⟨h0, h1⟩ := frCells_at _ _ _ hs
  exact ⟨by rw [h.rate.cell, List.getElem?_toArray]; exact h0, by rw [h.rate.cell, List.getElem?_toArray]; exact h1⟩
theorem FillAt.dcell (h : FillAt w B g gr gd C cc P cp caps paths st) {u : Nat} (hu : u < paths.length) : w.cell? ⟨gd, u, none⟩ = some (.bool (st.at_ u).isSome) := by
  rw [h.done.cell, List.getElem?_toArray]
  unfold doneCells
  rw [List.getElem?_map, at_get (by rw [h.len]; exact hu)]; rfl
end
theorem caps_get {w : World} {B : Nat} {C : Option Addr} {cc : Nat} {caps : List Int} (h : Ints w B C cc caps) {l : Nat} (hl : l < caps.length) : ∃ b off, C = some ⟨b, off, none⟩ ∧ b < B ∧ w.cell? ⟨b, off + l, none⟩ = some (.int .i64 (caps.getD l 0)) := by
  obtain ⟨b, off, a, e, hb, hc, _, _, HX⟩ := h.elem hl
  exact ⟨b, off, e, hb, by rw [HX.out]; exact hc⟩
set_option maxHeartbeats 8000000 in
set_option maxRecDepth 100000 in
theorem fshare_any (w : World) (B g gr gd : Nat) (C : Option Addr) (cc : Nat) (P : Option Addr) (cp : Nat) (caps : List Int) (paths : List (List Int)) (st : St) (l : Nat) (o : Option Rat) (h : FillAt w B g gr gd C cc P cp caps paths st) (ok : NetOk caps paths) (hi : FInv caps paths st) (hl : l < caps.length) (ho : share caps paths st l = o) :
    Calls Tryz.prog 123 #[.pointer (some ⟨g, 0, none⟩), .int .i64 l] w fun e w' => e = .returned (.tuple #[optV o, .bool o.isSome]) ∧ Below w.heap.size w w' := by
  obtain ⟨us, hus⟩ : ∃ us, users paths l = us := ⟨_, rfl⟩
  have hul : us.length ≤ 6 := by have := users_len paths l; have := ok.F1; rw [← hus]; omega
  have HUS := Lib.hid hus
  have hcc := h.ic.cap; have hcl := h.ic.le
  unfold maxLen at hcc
  have hF1 := ok.F1
  have HLI := Lib.hid fun (us : List Nat) (hu : us.length ≤ 6) => hi.left_in ok hl us hu
  have HRI := Lib.hid fun (u : Nat) (q : Rat) (hq : st.at_ u = some q) => hi.rate_in ok hq
  have HO := Lib.hid ho
  have hl6 : l < 1000 := by have := ok.L1; omega
  obtain ⟨b, off, rfl, hb, hcell⟩ := caps_get h.ic hl
  obtain ⟨cv, hcv⟩ : ∃ x, caps.getD l 0 = x := ⟨_, rfl⟩
  rw [hcv] at hcell
  have HCQ : Hid (capQ caps l = (cv : Rat)) := Lib.hid (by unfold capQ; rw [hcv])
  have hfr : freeL paths st l = freeOf st us := by unfold freeL; rw [hus]
  have HFR := Lib.hid hfr
  have HLO : Hid (leftOf caps paths st l = leftTo st (cv : Rat) us) := Lib.hid (by unfold leftOf; rw [hus, HCQ.out])
  have h0 : FillAt (w.alloc (.cells #[.int .i64 0, .int .i64 0] 37)) B g gr gd _ cc P cp caps paths st := h.below ((Below.refl _ _).alloc (Nat.le_refl _) _)
  have HR0 := Lib.hid (Blk.new w 37 #[.int .i64 0, .int .i64 0])
  have HB0 := Lib.hid ((Below.refl w.heap.size w).alloc (Nat.le_refl _) (.cells #[.int .i64 0, .int .i64 0] 37))
  have hbw : b < w.heap.size := by have := h.size; omega
  have hgw : g < w.heap.size := h.blk.lt
  have hgrw : gr < w.heap.size := h.rate.lt
  have hgdw : gd < w.heap.size := h.done.lt
  have hBw := h.size
  have H0 := Lib.hid h0
  obtain ⟨g0, g1, g2, g3, _, _, _, _, gz⟩ := h.blk.four
  clear h h0 hus hcv hi ho hfr
  go_enter Tryz.func123, Tryz.ntmps123
  go_wp2_with fail
  refine (whole_any cv _).mono ?_; rintro e w2 ⟨rfl, hb2⟩
  have H2 := Lib.hid ((H0.out.below hb2).below ((Below.refl _ _).alloc (Nat.le_refl _) (.cells #[.int .i64 cv, .int .i64 1] 37)))
  have HB2 := Lib.hid ((HB0.out.trans (hb2.mono HB0.out.size)).alloc (Nat.le_trans HB0.out.size hb2.size) (.cells #[.int .i64 cv, .int .i64 1] 37))
  have HR2 := Lib.hid ((HR0.out.go hb2).alloc (.cells #[.int .i64 cv, .int .i64 1] 37))
  have HS2 := Lib.hid (Blk.new w2 37 #[.int .i64 cv, .int .i64 1])
  have hz2 : w.heap.size < w2.heap.size := (HR0.out.go hb2).lt
  obtain ⟨g6, hg6⟩ : ∃ x, x = w2.heap.size := ⟨_, rfl⟩
  rw [← hg6] at HS2 hz2
  clear hb2 g0 g1 g2 g3 gz H0 HR0 HB0 hcell
  obtain ⟨g0, g1, g2, g3, _, _, _, _, gz⟩ := H2.out.blk.four
  go_wp2_with fail
  refine (over_u l _ P cp _ paths us B _ H2.out.size H2.out.ip (by omega) HUS.out rfl).mono ?_; rintro e w3 ⟨A3, c3, rfl, hi3, hl3, hc3, hb3⟩
  have HI3 := Lib.hid (own_ints' hi3)
  have HI3' := Lib.hid hi3
  have H3 := Lib.hid (H2.out.below hb3)
  have HB3 := Lib.hid (HB2.out.trans (hb3.mono HB2.out.size))
  have HR3 := Lib.hid (HR2.out.go hb3)
  have HS3 := Lib.hid (HS2.out.go hb3)
  have hz3 := HS2.out.lt
  obtain ⟨B3, hB3⟩ : ∃ x, x = (w2.alloc (.cells #[.int .i64 cv, .int .i64 1] 37)).heap.size := ⟨_, rfl⟩
  rw [← hB3] at HI3' hz3
  have hBB : B ≤ B3 := by rw [hB3]; exact H2.out.size
  unfold maxLen at hc3
  rw [← hg6]
  clear hB3 hi3 hb3 HI3 H2 HB2 HR2 HS2 g0 g1 g2 g3 gz hg6
  go_wp2
  go_loopw [7, 26] (fun f i wr => ∃ j : Nat, j ≤ us.length ∧ i = .int .i64 j ∧ f = .int .i64 (freeOf st (us.take j)) ∧ Hid (Blk wr g6 37 #[.int .i64 (leftTo st (cv : Rat) (us.take j)).num, .int .i64 (leftTo st (cv : Rat) (us.take j)).den]) ∧ Hid (Blk wr w.heap.size 37 #[.int .i64 0, .int .i64 0]) ∧ Hid (Below w.heap.size w wr) ∧ Hid (FillAt wr B g gr gd (some ⟨b, off, none⟩) cc P cp caps paths st) ∧ Hid (wr.ownsRow B3 3 1 (.slice A3 us.length c3) us.length ((us.map fun (i : Nat) => (i : Int)).map (Value.int .i64)))) (fun _ i _ => us.length - (intOf i).toNat)
  case atStart => exact ⟨0, Nat.zero_le _, rfl, rfl, HS3, HR3, HB3, H3, HI3'⟩
  case round =>
    clear HS3 HR3 HB3 H3 HI3'
    obtain ⟨j, hj, rfl, rfl, HS, HR, HB, H, HI⟩ := hrel
    have hB1 := HB.out.size
    have hfj : freeOf st (us.take j) ≤ j := Nat.le_trans List.countP_le_length (by rw [List.length_take]; omega)
    obtain ⟨s, hs⟩ : ∃ s, leftTo st (cv : Rat) (us.take j) = s := ⟨_, rfl⟩
    have hsin : QIn s := by rw [← hs, ← HCQ.out]; exact HLI.out _ (by rw [List.length_take]; omega)
    rw [hs] at HS
    by_cases hjl : j < us.length
    · have j0 : (0 : Int) ≤ (j : Int) := by omega
      obtain ⟨b3, o3, x3, rfl, hb3, hc3c, _, HT, HX⟩ := (own_ints' HI.out).elem (k := j) (by simpa using hjl)
      obtain ⟨hu, hj1, hj2⟩ := users_get HUS.out hjl
      have hx3 : x3 = ((us.getD j 0 : Nat) : Int) := by have := HX.out; rw [List.getD_eq_getElem?_getD, List.getElem?_map, hj1] at this; exact this.symm
      subst hx3
      obtain ⟨u, hu'⟩ : ∃ u, us.getD j 0 = u := ⟨_, rfl⟩
      rw [hu'] at hu hj1 hj2 hc3c
      have hfs : freeOf st (us.take (j + 1)) = freeOf st (us.take j) + (if (st.at_ u).isNone then 1 else 0) := by rw [hj2]; exact freeOf_snoc st (us.take j) u
      have hls : leftTo st (cv : Rat) (us.take (j + 1)) = leftStep st (leftTo st (cv : Rat) (us.take j)) u := by rw [hj2]; exact leftTo_snoc st _ (us.take j) u
      rw [hs] at hls
      have u0 : (0 : Int) ≤ (u : Int) := by omega
      have u1 : (u : Int) < (paths.length : Int) := by omega
      have hd := H.out.dcell hu
      have hr := H.out.rcell hu
      have hlod := H.out.lod; have hlor := H.out.lor
      go_upto_block 1 with (fail)
      go_cut [7] (fun s7 wx => s7 = .int .i64 (freeOf st (us.take (j + 1))) ∧ Hid (Blk wx g6 37 #[.int .i64 (leftTo st (cv : Rat) (us.take (j + 1))).num, .int .i64 (leftTo st (cv : Rat) (us.take (j + 1))).den]) ∧ Hid (Blk wx w.heap.size 37 #[.int .i64 0, .int .i64 0]) ∧ Hid (Below w.heap.size w wx) ∧ Hid (FillAt wx B g gr gd (some ⟨b, off, none⟩) cc P cp caps paths st) ∧ Hid (wx.ownsRow B3 3 1 (.slice (some ⟨b3, o3, none⟩) us.length c3) us.length ((us.map fun (i : Nat) => (i : Int)).map (Value.int .i64))))
      case rest =>
        clear HS HR HB H HI hc3c hd hr hfs hls hs
        obtain ⟨rfl, HS, HR, HB, H, HI⟩ := hcut
        go_wp2
        go_roundw
        case rel => exact ⟨j + 1, by omega, by go_num, rfl, HS, HR, HB, H, HI⟩
        case measure => simp [intOf]; omega
      case first =>
        cases hat : st.at_ u with
        | none =>
          rw [hat] at hfs hd
          have hls2 : leftTo st (cv : Rat) (us.take (j + 1)) = s := by rw [hls]; unfold leftStep; rw [hat]
          simp only [Option.isNone_none, if_true] at hfs
          have HFS := Lib.hid hfs; have HLS := Lib.hid hls2
          obtain ⟨g0, g1, g2, g3, _, _, _, _, gz⟩ := H.out.blk.four
          have hd' : wr.cell? ⟨gd, u, none⟩ = some (.bool false) := hd
          clear hls hls2 hfs hr hd hat hs HT HX hj1 hj2 hu'
          go_wp2
          go_meet
          exact ⟨by rw [HFS.out]; go_num, by rw [HLS.out]; exact HS, HR, HB, H, HI⟩
        | some q =>
          rw [hat] at hfs hd hr
          have hls2 : leftTo st (cv : Rat) (us.take (j + 1)) = s + -q := by rw [hls]; unfold leftStep; rw [hat]
          have hsin2 : QIn (s + -q) := by rw [← hls2, ← HCQ.out]; exact HLI.out _ (by rw [List.length_take]; omega)
          obtain ⟨hq, hqm⟩ := HRI.out u q hat
          have HMI := Lib.hid fun W => minus_q q (-q) W hq rfl
          have HSU := Lib.hid fun W => sum_q s (-q) (s + -q) W hsin hqm rfl
          simp only [Option.isNone_some, Bool.false_eq_true, if_false, Nat.add_zero] at hfs
          have HFS := Lib.hid hfs; have HAT := Lib.hid hat
          obtain ⟨g0, g1, g2, g3, _, _, _, _, gz⟩ := H.out.blk.four
          have hd' : wr.cell? ⟨gd, u, none⟩ = some (.bool true) := hd
          obtain ⟨r0, r1⟩ := hr
          simp only [optFr, frQ] at r0 r1
          obtain ⟨s0, s1, sf0, sf1, sz⟩ := HS.out.two
          have hg1 := H.out.blk.lt; have hg2 := H.out.rate.lt; have hg3 := H.out.done.lt
          have HLS := Lib.hid hls2
          clear hls hls2 hfs hd hat hs HT HX hj1 hj2 hu' hsin hsin2 hq hqm
          obtain ⟨q', hq'⟩ : ∃ x, -q = x := ⟨_, rfl⟩
          rw [hq'] at HMI HSU HLS
          obtain ⟨s', hs'⟩ : ∃ x, s + q' = x := ⟨_, rfl⟩
          rw [hs'] at HSU HLS
          clear hq' hs'
          go_wp2_with fail
          go_region_law (first
            | (go_simp; go_at_call 153; refine (HMI.out _).mono ?_; rintro e w5 ⟨rfl, hb5⟩; have HB5 : Hid (Below wr.heap.size wr w5) := Lib.hid (by first | exact hb5 | exact (Below.refl _ _).drew.trans hb5 | exact (Below.refl _ _).drew.drew.trans hb5); have HS5 := Lib.hid (HS.out.go HB5.out); have H5 := Lib.hid (H.out.below HB5.out); obtain ⟨y0, y1, yf0, yf1, yz⟩ := HS5.out.two; have hz5 := HB5.out.size; clear hb5; obtain ⟨u0', u1', u2', u3', _, _, _, _, uz'⟩ := H5.out.blk.four; obtain ⟨r0', r1'⟩ := H5.out.rcell hu; simp only [HAT.out, optFr, frQ] at r0' r1')
            | (go_simp; go_at_call 127; refine (HSU.out _).mono ?_; rintro e w6 ⟨rfl, hb6⟩; have HB6 : Hid (Below wr.heap.size wr w6) := Lib.hid (HB5.out.trans ((show Below w5.heap.size w5 w6 by first | exact hb6 | exact (Below.refl _ _).drew.trans hb6 | exact (Below.refl _ _).drew.drew.trans hb6).mono HB5.out.size)); have HS6 := Lib.hid (HS.out.go HB6.out); obtain ⟨z0, z1, zf0, zf1, zz⟩ := HS6.out.two; clear hb6))
          all_goals
            go_wp2
            go_meet
            have hn1 : w.heap.size ≠ g6 := by omega
            have hn2 : g ≠ g6 := by omega
            have hn3 : gr ≠ g6 := by omega
            have hn4 : gd ≠ g6 := by omega
            exact ⟨by rw [HFS.out], by rw [HLS.out]; exact Lib.hid ((HS6.out.s2_0 _).s2_1 _), Lib.hid (((HR.out.go HB6.out).far (p := ⟨g6, 0, none⟩) hn1 _).far (p := ⟨g6, 1, none⟩) hn1 _), Lib.hid (((HB.out.trans (HB6.out.mono hB1)).setCell (p := ⟨g6, 0, none⟩) (by show w.heap.size ≤ g6; omega) _).setCell (p := ⟨g6, 1, none⟩) (by show w.heap.size ≤ g6; omega) _), Lib.hid (((H.out.below HB6.out).far (by omega) hn2 hn3 hn4 _).far (by omega) hn2 hn3 hn4 _), Lib.hid (own_set (own_set (own_below HI.out HB6.out) hz3 _) hz3 _)⟩
    · obtain rfl : j = us.length := by omega
      rw [List.take_length] at hfj hs
      have hsl := HLO.out
      rw [hs] at hsl
      obtain ⟨s0, s1, sf0, sf1, sz⟩ := HS.out.two
      obtain ⟨q0, q1, qf0, qf1, qz⟩ := HR.out.two
      have hsh := HO.out
      unfold share at hsh
      rw [HFR.out, hsl] at hsh
      simp only [List.take_length]
      obtain ⟨n, hn⟩ : ∃ n, freeOf st us = n := ⟨_, rfl⟩
      rw [hn] at hsh hfj ⊢
      by_cases h0 : n = 0
      · subst h0
        rw [if_pos rfl] at hsh
        subst hsh
        clear hsl hs hn
        go_wp2
        refine bodyPost_ret (v := .tuple #[.agg #[.int .i64 0, .int .i64 0], .bool false]) (by simp [results, Tryz.results123, go_sem, *]) rfl ⟨rfl, ?_⟩
        first
          | exact HB.out
          | exact (HB.out.setCell (p := ⟨w.heap.size, 0, none⟩) (Nat.le_refl _) _).setCell (p := ⟨w.heap.size, 1, none⟩) (Nat.le_refl _) _
      · rw [if_neg h0] at hsh
        have hP := Lib.hid fun W => parts_q s (s / (n : Rat)) (n : Int) W hsin (by omega) (by omega) (by rw [Rat.intCast_natCast])
        obtain ⟨t, ht⟩ : ∃ t, s / (n : Rat) = t := ⟨_, rfl⟩
        rw [ht] at hsh hP
        subst hsh
        have hn1 : ((n : Int) == 0) = false := beq_eq_false_iff_ne.2 (by omega)
        clear hsl hs hn ht h0
        go_wp2_with fail
        refine (hP.out _).mono ?_; rintro e w7 ⟨rfl, hb7⟩
        have HR7 := Lib.hid (HR.out.go hb7)
        have HB7 := Lib.hid (HB.out.trans (hb7.mono hB1))
        obtain ⟨y0, y1, yf0, yf1, yz⟩ := HR7.out.two
        clear hb7
        go_wp2
        refine bodyPost_ret (v := .tuple #[.agg #[.int .i64 t.num, .int .i64 t.den], .bool true]) (by simp [results, Tryz.results123, go_sem, *]) rfl ⟨rfl, ?_⟩
        exact (HB7.out.setCell (p := ⟨w.heap.size, 0, none⟩) (Nat.le_refl _) _).setCell (p := ⟨w.heap.size, 1, none⟩) (Nat.le_refl _) _
end Go.Proofs.YtaijpiebjhhkjaaGreatDoor
