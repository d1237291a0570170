/- The walk of RoadKeeps: it returns true for every input. -/
import Derived.Test.YthffjnfnfddpdaaRoadLaw
import Derived.Test.YthffjnfnfddpdaaHeld
namespace Go.Proofs.Ythffjnfnfddpdaa
open Go.RowKit
attribute [local go_sem ↓] run_min_mn run_max_mx
theorem keeps_new (A : Nat) (w : World) (h : Blk w A 25 #[.int .i64 2, .int .i64 0, .int .i64 3, .int .i64 0]) :
    Calls Try.prog 22 #[.slice (some ⟨A, 0, none⟩) 1 1, .agg #[.int .i64 0, .int .i64 1, .int .i64 0]] w fun e w' => ∃ g gs cs, e = .returned (.tuple #[.pointer (some ⟨g, 0, none⟩), .nilIface]) ∧ RoadAt w' w.heap.size g gs cs 1 (.slice none 0 0) [⟨2, 0, 3, 0⟩] 0 1 0 [] ∧ Below w.heap.size w w' :=
  rnew_yes _ 1 [⟨2, 0, 3, 0⟩] 0 1 w (Srcs.one' (s := ⟨2, 0, 3, 0⟩) h h.lt) (by decide) (by decide)
theorem keeps_tick (w : World) (base g gs cs : Nat) (vr : Value) (h : RoadAt w base g gs cs 1 vr [⟨2, 0, 3, 0⟩] 0 1 0 []) (hb : base ≤ w.heap.size) :
    Calls Try.prog 23 #[.pointer (some ⟨g, 0, none⟩)] w fun e w' => e = .returned (.agg #[.int .i64 1, .int .i64 1, .int .i64 0]) ∧ Below base w w' := by
  have hi : RInv [3] [⟨2, 0, 3, 0⟩] 0 1 0 [] := RInv.start (S := [⟨2, 0, 3, 0⟩]) (by decide) (by decide)
  refine (tick_any w base g gs cs 1 vr _ 0 1 0 [] h hb hi.tick).mono ?_
  rintro e w' ⟨vr', he, hr, hbw, _⟩
  exact ⟨he.trans rfl, hbw⟩
set_option maxHeartbeats 8000000 in
set_option maxRecDepth 100000 in
theorem roadKeeps_no (A : Option Addr) (c : Nat) (S : List Src) (w : World) (hs : Srcs w w.heap.size A c S) (r p k m er : Int) (he : newErr S r p k = er) (hp : er ≠ 0) :
    Calls Try.prog 4 #[.slice A S.length c, .agg #[.int .i64 r, .int .i64 p, .int .i64 k], .int .i64 m] w fun e w' => e = .returned (.bool true) ∧ Below w.heap.size w w' := by
  have HS := Lib.hid hs
  have HN := Lib.hid fun (W' : World) (h : Srcs W' W'.heap.size A c S) => rnew_no A c S r p k er W' h he hp
  clear hs he hp
  have HP0 := Lib.hid ((Blk.new w 23 #[.int .i64 r, .int .i64 p, .int .i64 k]).alloc (.cells #[.int .i64 2, .int .i64 0, .int .i64 3, .int .i64 0] 25))
  have HB0 := Lib.hid (((Below.refl w.heap.size w).alloc (Nat.le_refl _) (.cells #[.int .i64 r, .int .i64 p, .int .i64 k] 23)).alloc (by simp) (.cells #[.int .i64 2, .int .i64 0, .int .i64 3, .int .i64 0] 25))
  go_enter Try.func4, Try.ntmps4
  go_wp2_with fail
  refine (keeps_new _ _ (Blk.new' _ _ _ (by simp))).mono ?_; rintro e w1 ⟨g, gs, cs, rfl, hr1, hb1⟩
  have HP1 := Lib.hid (HP0.out.go hb1)
  have HB1 := Lib.hid (HB0.out.trans (hb1.mono HB0.out.size))
  have HR1 := Lib.hid hr1
  have hsz := hb1.size
  clear hb1 hr1 HP0 HB0
  go_wp2_with fail
  refine (keeps_tick _ _ g gs cs _ HR1.out hsz).mono ?_; rintro e w2 ⟨rfl, hb2⟩
  have HP2 := Lib.hid (HP1.out.below hb2 (by simp; omega))
  have HB2 := Lib.hid (HB1.out.trans (hb2.mono (by simp; omega)))
  obtain ⟨p0, p1, p2, _, _, _, z0, z1, z2, z3⟩ := HP2.out.three'
  clear hb2 HB1 HP1 HR1 hsz
  go_wp2_with fail
  refine (HN.out _ (HS.out.at' (HB2.out.alloc HB2.out.size _))).mono ?_; rintro e w3 ⟨rfl, hb3⟩
  have HB3 := Lib.hid ((HB2.out.alloc HB2.out.size (.cells #[.int .i64 1, .int .i64 1, .int .i64 0] 33)).trans (hb3.mono (by simp; omega)))
  clear hb3
  go_wp2
  go_ret
  exact ⟨rfl, HB3.out⟩
set_option maxHeartbeats 16000000 in
set_option maxRecDepth 100000 in
theorem roadKeeps_yes (A : Option Addr) (c : Nat) (S : List Src) (w : World) (hs : Srcs w w.heap.size A c S) (r p m : Int) (he : roadErr S = 0) (hp : PoolOk r p 0) :
    Calls Try.prog 4 #[.slice A S.length c, .agg #[.int .i64 r, .int .i64 p, .int .i64 0], .int .i64 m] w fun e w' => e = .returned (.bool true) ∧ Below w.heap.size w w' := by
  have HS := Lib.hid hs
  have HN := Lib.hid fun (W' : World) (h : Srcs W' W'.heap.size A c S) => rnew_yes A c S r p W' h he hp
  obtain ⟨n0, n6⟩ := roadErr_len he
  have HI0 := Lib.hid (RInv.start he hp)
  have HL := Lib.hid (roadErr_l he)
  have HC0 := Lib.hid (roadErr_c he)
  have pq := hp
  obtain ⟨pq0, pq1, pq2, pq3, _, _⟩ := pq
  clear hs he hp
  have e6 : decide ((6 : Int) < (S.length : Int)) = false := decide_eq_false (by omega)
  have HP0 := Lib.hid ((Blk.new w 23 #[.int .i64 r, .int .i64 p, .int .i64 0]).alloc (.cells #[.int .i64 2, .int .i64 0, .int .i64 3, .int .i64 0] 25))
  have HB0 := Lib.hid (((Below.refl w.heap.size w).alloc (Nat.le_refl _) (.cells #[.int .i64 r, .int .i64 p, .int .i64 0] 23)).alloc (by simp) (.cells #[.int .i64 2, .int .i64 0, .int .i64 3, .int .i64 0] 25))
  go_enter Try.func4, Try.ntmps4
  go_wp2_with fail
  refine (keeps_new _ _ (Blk.new' _ _ _ (by simp))).mono ?_; rintro e w1 ⟨g0, gs0, cs0, rfl, hr1, hb1⟩
  have HP1 := Lib.hid (HP0.out.go hb1)
  have HB1 := Lib.hid (HB0.out.trans (hb1.mono HB0.out.size))
  have HR1 := Lib.hid hr1
  have hsz := hb1.size
  clear hb1 hr1 HP0 HB0
  go_wp2_with fail
  refine (keeps_tick _ _ g0 gs0 cs0 _ HR1.out hsz).mono ?_; rintro e w2 ⟨rfl, hb2⟩
  have HP2 := Lib.hid (HP1.out.below hb2 (by simp; omega))
  have HB2 := Lib.hid (HB1.out.trans (hb2.mono (by simp; omega)))
  obtain ⟨p0, p1, p2, _, _, _, z0, z1, z2, z3⟩ := HP2.out.three'
  clear hb2 HB1 HP1 HR1 hsz
  go_wp2_with fail
  refine (HN.out _ (HS.out.at' (HB2.out.alloc HB2.out.size _))).mono ?_; rintro e w3 ⟨g, gs, cs, rfl, hr3, hb3⟩
  have HB3 := Lib.hid ((HB2.out.alloc HB2.out.size (.cells #[.int .i64 1, .int .i64 1, .int .i64 0] 33)).trans (hb3.mono (by simp; omega)))
  have HP3 := Lib.hid ((HP2.out.alloc (.cells #[.int .i64 1, .int .i64 1, .int .i64 0] 33)).go hb3)
  obtain ⟨base, hbase⟩ : ∃ x, x = (w2.alloc (.cells #[.int .i64 1, .int .i64 1, .int .i64 0] 33)).heap.size := ⟨_, rfl⟩
  rw [← hbase] at hr3
  have hbs : base ≤ w3.heap.size := by rw [hbase]; exact hb3.size
  have hb4 : w.heap.size < base := by rw [hbase]; simp; omega
  have HR3 := Lib.hid hr3
  clear hb3 hr3 HP2 HB2 HN hbase p0 p1 p2 z0 z1 z2 z3
  have HLB := Lib.hid (sumL_bd S HL.out)
  have HS3 := Lib.hid (HS.out.below HB3.out (Nat.le_refl _))
  go_wp2
  go_loop [12, 13] (fun a i => ∃ j : Nat, j ≤ S.length ∧ i = .int .i64 j ∧ a = .int .i64 (sumL ((S.map Src.l).take j)) ∧ 0 ≤ sumL ((S.map Src.l).take j) ∧ sumL ((S.map Src.l).take j) ≤ j * 10000) (fun _ i => S.length - (intOf i).toNat)
  case atStart => exact ⟨0, Nat.zero_le _, rfl, rfl, by simp [sumL], by simp [sumL]⟩
  case round =>
    obtain ⟨j, hj, rfl, rfl, l0, l1⟩ := hrel
    by_cases hlt : j < S.length
    · obtain ⟨b, off, s, rfl, hbw, _, _, s2, _, hs⟩ := HS3.out.elem hlt
      have hsl := HL.out s (List.mem_of_getElem? hs.out)
      have hst := sumL_take hs.out
      have HST := Lib.hid hst
      clear hst hs
      obtain ⟨s0, s1⟩ := hsl
      have j0 : (0 : Int) ≤ (j : Int) := by omega
      go_wp2
      go_round
      case rel => exact ⟨j + 1, by omega, by go_num, by rw [HST.out], by rw [HST.out]; omega, by rw [HST.out]; omega⟩
      case measure => simp [intOf]; omega
    · obtain rfl : j = S.length := by omega
      have hfull : (S.map Src.l).take S.length = S.map Src.l := List.take_of_length_le (by simp)
      rw [hfull] at l0 l1 ⊢
      clear hfull
      obtain ⟨al, hal⟩ : ∃ x, x = sumL (S.map Src.l) := ⟨_, rfl⟩
      rw [← hal] at l0 l1 ⊢
      have HAL := Lib.hid hal
      clear hal
      go_wp2
      go_loopw [14, 15] (fun cv tv wr => ∃ (j : Nat) (vr : Value) (S' : List Src) (k : Int) (row : List Nat), 1 ≤ j ∧ j ≤ 61 ∧ tv = .int .i64 j ∧ cv = .int .i64 (sumC S') ∧ (al ≤ sumC S' ∨ (j : Int) - 1 ≤ sumC S') ∧ Hid (RoadAt wr base g gs cs S.length vr S' r p k row) ∧ Hid (RInv (S.map Src.l) S' r p k row) ∧ Hid (Blk wr w.heap.size 23 #[.int .i64 r, .int .i64 p, .int .i64 0]) ∧ Hid (Below w.heap.size w wr) ∧ base ≤ wr.heap.size) (fun _ tv _ => 61 - (intOf tv).toNat)
      case atStart => exact ⟨1, _, S, 0, [], by omega, by omega, rfl, by rw [HC0.out], .inr (by rw [HC0.out]; simp), HR3, HI0, HP3, HB3, hbs⟩
      case round =>
        clear HR3 HI0 HP3 HB3 hbs HS3
        obtain ⟨j, vr, S', k, row, hj1, hj2, rfl, rfl, hcj, HR, HI, HP, HB, hbs⟩ := hrel
        have hsum := HI.out.sum_le
        rw [← HAL.out] at hsum
        obtain ⟨c0, c1⟩ := hsum
        have al6 : al ≤ 60000 := by have := HLB.out.2; rw [← HAL.out] at this; omega
        by_cases hin : (j : Int) ≤ m ∧ (j : Int) ≤ 60
        · obtain ⟨h1, h2⟩ := hin
          go_wp2_with fail
          refine (tick_inv _ base g gs cs _ vr _ S' r p k row HR.out hbs HI.out).mono ?_; rintro e wz ⟨vr2, S2, row2, wt, lo, lf, rfl, hr, hi, t0, t1, t2, t3, t4, t5, hbz⟩
          rw [← HAL.out] at t5
          have hsum := hi.sum_le
          rw [← HAL.out] at hsum
          obtain ⟨d0, d1⟩ := hsum
          have hcase : decide (sumC S' + wt < al) = false ∨ (sumC S' + wt < al ∧ decide (sumC S' + wt < (j : Int)) = false) := by
            by_cases h : sumC S' + wt < al
            · exact .inr ⟨h, decide_eq_false (by omega)⟩
            · exact .inl (decide_eq_false h)
          have hnew : al ≤ sumC S' + wt ∨ (j : Int) + 1 - 1 ≤ sumC S' + wt := by omega
          rw [t4] at d0 d1
          have HT4 := Lib.hid t4
          have HRZ := Lib.hid (hr.alloc (.cells #[.int .i64 wt, .int .i64 lo, .int .i64 lf] 33))
          have HIZ := Lib.hid hi
          have HPZ := Lib.hid ((HP.out.below hbz hb4).alloc (.cells #[.int .i64 wt, .int .i64 lo, .int .i64 lf] 33))
          have HGZ := Lib.hid (Blk.new wz 33 #[.int .i64 wt, .int .i64 lo, .int .i64 lf])
          have hb0 := HB.out.trans (hbz.mono (Nat.le_of_lt hb4))
          have HBZ := Lib.hid (hb0.alloc hb0.size (.cells #[.int .i64 wt, .int .i64 lo, .int .i64 lf] 33))
          have hbs2 : base ≤ (wz.alloc (.cells #[.int .i64 wt, .int .i64 lo, .int .i64 lf] 33)).heap.size := by have := hbz.size; simp; omega
          clear hr hi hbz hb0 t4 t5 HR HI HP HB hbs
          go_wp2_with fail
          obtain rfl : lf = row2.length := HIZ.out.rowl.symm
          have hlen2 : row2.length ≤ 10000 := by have := HIZ.out.pool; unfold PoolOk at this; omega
          obtain ⟨wy, hwy⟩ : ∃ x, x = wz.alloc (.cells #[.int .i64 wt, .int .i64 lo, .int .i64 row2.length] 33) := ⟨_, rfl⟩
          rw [← hwy] at HRZ HPZ HGZ HBZ hbs2 ⊢
          obtain ⟨gn, hgn⟩ : ∃ x, x = wz.heap.size := ⟨_, rfl⟩
          rw [← hgn] at HGZ ⊢
          clear hwy hgn
          refine (rwaits_any _ base g gs cs _ vr2 S2 r p _ row2 HRZ.out (by omega)).mono ?_; rintro e wq ⟨v, rfl, hov, hbq⟩
          obtain ⟨A2, cc2, rfl, hi2⟩ := idxs_ints hov
          have HIQ := Lib.hid hi2
          have HRQ := Lib.hid (HRZ.out.below hbq)
          have HPQ := Lib.hid (HPZ.out.go hbq)
          have HGQ := Lib.hid (HGZ.out.go hbq)
          have HBQ := Lib.hid (HBZ.out.trans (hbq.mono HBZ.out.size))
          have hbs3 : base ≤ wq.heap.size := Nat.le_trans hbs2 hbq.size
          clear hov hbq hi2 HRZ HPZ HGZ HBZ hbs2
          obtain ⟨p0, p1, p2, _, _, _, zp⟩ := HPQ.out.three
          obtain ⟨q0, q1, q2, _, _, _, zq⟩ := HGQ.out.three
          have u1 : decide (wt < 0) = false := decide_eq_false (by omega)
          have u2 : decide (p < wt) = false := decide_eq_false (by omega)
          have u3 : decide (lo < 0) = false := decide_eq_false (by omega)
          have hfd := field_pool r p row2.length
          go_wp2_with fail
          go_cut [132] (fun sx wx => sx = .bool false ∧ Hid (Below wq.heap.size wq wx))
          case first =>
            rcases hcase with hc1 | ⟨hc1, hc2⟩
            · skip
              refine wp_region_held_drew (S := (fun w' => w'.cell? ⟨gn, 0, none⟩ = some (.int .i64 wt) ∧ w'.cell? ⟨gn, 1, none⟩ = some (.int .i64 lo) ∧ w'.cell? ⟨gn, 2, none⟩ = some (.int .i64 row2.length) ∧ w'.cell? ⟨w.heap.size, 1, none⟩ = some (.int .i64 p))) (by kernel_rfl) ⟨q0, q1, q2, p1⟩ (fun hHeld => ?_)
              refine takeH (i := 0) (k := 93) (oi := _) (v := ?_) rfl rfl (by kernel_rfl) (by kernel_rfl) (by kernel_rfl) (fun _ _ _ h => h) (by rfl) ?_ (by assumption) ?_
              rotate_left
              · intro W hSw; (try dsimp only at hSw); go_simp; (try with_reducible rfl)
              simp only [Act.put, List.setIfInBounds_toArray, List.set_cons_zero, List.set_cons_succ]
              refine takeH (i := 1) (k := 94) (oi := _) (v := ?_) rfl rfl (by kernel_rfl) (by kernel_rfl) (by kernel_rfl) (fun _ _ _ h => h) (by rfl) ?_ (by assumption) ?_
              rotate_left
              · intro W hSw; (try dsimp only at hSw); go_simp; (try with_reducible rfl)
              simp only [Act.put, List.setIfInBounds_toArray, List.set_cons_zero, List.set_cons_succ]
              refine takeH (i := 2) (k := 95) (oi := _) (v := ?_) rfl rfl (by kernel_rfl) (by kernel_rfl) (by kernel_rfl) (fun _ _ _ h => h) (by rfl) ?_ (by assumption) ?_
              rotate_left
              · intro W hSw; (try dsimp only at hSw); go_simp; (try with_reducible rfl)
              simp only [Act.put, List.setIfInBounds_toArray, List.set_cons_zero, List.set_cons_succ]
              refine takeH (i := 3) (k := 96) (oi := _) (v := ?_) rfl rfl (by kernel_rfl) (by kernel_rfl) (by kernel_rfl) (fun _ _ _ h => h) (by rfl) ?_ (by assumption) ?_
              rotate_left
              · intro W hSw; (try dsimp only at hSw); go_simp; (try with_reducible rfl)
              simp only [Act.put, List.setIfInBounds_toArray, List.set_cons_zero, List.set_cons_succ]
              refine takeH (i := 4) (k := 97) (oi := _) (v := ?_) rfl rfl (by kernel_rfl) (by kernel_rfl) (by kernel_rfl) (fun _ _ _ h => h) (by rfl) ?_ (by assumption) ?_
              rotate_left
              · intro W hSw; (try dsimp only at hSw); go_simp; (try with_reducible rfl)
              simp only [Act.put, List.setIfInBounds_toArray, List.set_cons_zero, List.set_cons_succ]
              refine takeH (i := 5) (k := 98) (oi := _) (v := ?_) rfl rfl (by kernel_rfl) (by kernel_rfl) (by kernel_rfl) (fun _ _ _ h => h) (by rfl) ?_ (by assumption) ?_
              rotate_left
              · intro W hSw; (try dsimp only at hSw); go_simp; (try with_reducible rfl)
              simp only [Act.put, List.setIfInBounds_toArray, List.set_cons_zero, List.set_cons_succ]
              refine takeH (i := 6) (k := 99) (oi := _) (v := ?_) rfl rfl (by kernel_rfl) (by kernel_rfl) (by kernel_rfl) (fun _ _ _ h => h) (by rfl) ?_ (by assumption) ?_
              rotate_left
              · intro W hSw; (try dsimp only at hSw); go_simp; (try with_reducible rfl)
              simp only [Act.put, List.setIfInBounds_toArray, List.set_cons_zero, List.set_cons_succ]
              refine takeH (i := 7) (k := 100) (oi := _) (v := ?_) rfl rfl (by kernel_rfl) (by kernel_rfl) (by kernel_rfl) (fun _ _ _ h => h) (by rfl) ?_ (by assumption) ?_
              rotate_left
              · intro W hSw; (try dsimp only at hSw); go_simp; (try with_reducible rfl)
              simp only [Act.put, List.setIfInBounds_toArray, List.set_cons_zero, List.set_cons_succ]
              refine takeH (i := 8) (k := 101) (oi := _) (v := ?_) rfl rfl (by kernel_rfl) (by kernel_rfl) (by kernel_rfl) (fun _ _ _ h => h) (by rfl) ?_ (by assumption) ?_
              rotate_left
              · intro W hSw; (try dsimp only at hSw); go_simp; (try with_reducible rfl)
              simp only [Act.put, List.setIfInBounds_toArray, List.set_cons_zero, List.set_cons_succ]
              refine takeH (i := 9) (k := 102) (oi := _) (v := ?_) rfl rfl (by kernel_rfl) (by kernel_rfl) (by kernel_rfl) (fun _ _ _ h => h) (by rfl) ?_ (by assumption) ?_
              rotate_left
              · intro W hSw; (try dsimp only at hSw); go_simp; (try with_reducible rfl)
              simp only [Act.put, List.setIfInBounds_toArray, List.set_cons_zero, List.set_cons_succ]
              refine takeH (i := 10) (k := 103) (oi := _) (v := ?_) rfl rfl (by kernel_rfl) (by kernel_rfl) (by kernel_rfl) (fun _ _ _ h => h) (by rfl) ?_ (by assumption) ?_
              rotate_left
              · intro W hSw; (try dsimp only at hSw); go_simp; (try with_reducible rfl)
              simp only [Act.put, List.setIfInBounds_toArray, List.set_cons_zero, List.set_cons_succ]
              refine takeH (i := 11) (k := 104) (oi := _) (v := ?_) rfl rfl (by kernel_rfl) (by kernel_rfl) (by kernel_rfl) (fun _ _ _ h => h) (by rfl) ?_ (by assumption) ?_
              rotate_left
              · intro W hSw; (try dsimp only at hSw); go_simp; (try with_reducible rfl)
              simp only [Act.put, List.setIfInBounds_toArray, List.set_cons_zero, List.set_cons_succ]
              refine takeH (i := 12) (k := 105) (oi := _) (v := ?_) rfl rfl (by kernel_rfl) (by kernel_rfl) (by kernel_rfl) (fun _ _ _ h => h) (by rfl) ?_ (by assumption) ?_
              rotate_left
              · intro W hSw; (try dsimp only at hSw); go_simp; (try with_reducible rfl)
              simp only [Act.put, List.setIfInBounds_toArray, List.set_cons_zero, List.set_cons_succ]
              refine takeH (i := 13) (k := 106) (oi := _) (v := ?_) rfl rfl (by kernel_rfl) (by kernel_rfl) (by kernel_rfl) (fun _ _ _ h => h) (by rfl) ?_ (by assumption) ?_
              rotate_left
              · intro W hSw; (try dsimp only at hSw); go_simp; (try with_reducible rfl)
              simp only [Act.put, List.setIfInBounds_toArray, List.set_cons_zero, List.set_cons_succ]
              refine takeH (i := 14) (k := 107) (oi := _) (v := ?_) rfl rfl (by kernel_rfl) (by kernel_rfl) (by kernel_rfl) (fun _ _ _ h => h) (by rfl) ?_ (by assumption) ?_
              rotate_left
              · intro W hSw; (try dsimp only at hSw); go_simp; (try with_reducible rfl)
              simp only [Act.put, List.setIfInBounds_toArray, List.set_cons_zero, List.set_cons_succ]
              refine takeH (i := 15) (k := 108) (oi := _) (v := ?_) rfl rfl (by kernel_rfl) (by kernel_rfl) (by kernel_rfl) (fun _ _ _ h => h) (by rfl) ?_ (by assumption) ?_
              rotate_left
              · intro W hSw; (try dsimp only at hSw); go_simp; (try with_reducible rfl)
              simp only [Act.put, List.setIfInBounds_toArray, List.set_cons_zero, List.set_cons_succ]
              refine takeH (i := 16) (k := 109) (oi := _) (v := ?_) rfl rfl (by kernel_rfl) (by kernel_rfl) (by kernel_rfl) (fun _ _ _ h => h) (by rfl) ?_ (by assumption) ?_
              rotate_left
              · intro W hSw; (try dsimp only at hSw); go_simp; (try with_reducible rfl)
              simp only [Act.put, List.setIfInBounds_toArray, List.set_cons_zero, List.set_cons_succ]
              refine takeH (i := 17) (k := 110) (oi := _) (v := ?_) rfl rfl (by kernel_rfl) (by kernel_rfl) (by kernel_rfl) (fun _ _ _ h => h) (by rfl) ?_ (by assumption) ?_
              rotate_left
              · intro W hSw; (try dsimp only at hSw); go_simp; (try with_reducible rfl)
              simp only [Act.put, List.setIfInBounds_toArray, List.set_cons_zero, List.set_cons_succ]
              refine takeH (i := 18) (k := 111) (oi := _) (v := ?_) rfl rfl (by kernel_rfl) (by kernel_rfl) (by kernel_rfl) (fun _ _ _ h => h) (by rfl) ?_ (by assumption) ?_
              rotate_left
              · intro W hSw; (try dsimp only at hSw); go_simp; (try with_reducible rfl)
              simp only [Act.put, List.setIfInBounds_toArray, List.set_cons_zero, List.set_cons_succ]
              refine takeH (i := 19) (k := 112) (oi := _) (v := ?_) rfl rfl (by kernel_rfl) (by kernel_rfl) (by kernel_rfl) (fun _ _ _ h => h) (by rfl) ?_ (by assumption) ?_
              rotate_left
              · intro W hSw; (try dsimp only at hSw); go_simp; (try with_reducible rfl)
              simp only [Act.put, List.setIfInBounds_toArray, List.set_cons_zero, List.set_cons_succ]
              refine takeH (i := 20) (k := 113) (oi := _) (v := ?_) rfl rfl (by kernel_rfl) (by kernel_rfl) (by kernel_rfl) (fun _ _ _ h => h) (by rfl) ?_ (by assumption) ?_
              rotate_left
              · intro W hSw; (try dsimp only at hSw); go_simp; (try with_reducible rfl)
              simp only [Act.put, List.setIfInBounds_toArray, List.set_cons_zero, List.set_cons_succ]
              refine takeH (i := 21) (k := 114) (oi := _) (v := ?_) rfl rfl (by kernel_rfl) (by kernel_rfl) (by kernel_rfl) (fun _ _ _ h => h) (by rfl) ?_ (by assumption) ?_
              rotate_left
              · intro W hSw; (try dsimp only at hSw); go_simp; (try with_reducible rfl)
              simp only [Act.put, List.setIfInBounds_toArray, List.set_cons_zero, List.set_cons_succ]
              refine takeH (i := 22) (k := 115) (oi := _) (v := ?_) rfl rfl (by kernel_rfl) (by kernel_rfl) (by kernel_rfl) (fun _ _ _ h => h) (by rfl) ?_ (by assumption) ?_
              rotate_left
              · intro W hSw; (try dsimp only at hSw); go_simp; (try with_reducible rfl)
              simp only [Act.put, List.setIfInBounds_toArray, List.set_cons_zero, List.set_cons_succ]
              refine takeH (i := 23) (k := 116) (oi := _) (v := ?_) rfl rfl (by kernel_rfl) (by kernel_rfl) (by kernel_rfl) (fun _ _ _ h => h) (by rfl) ?_ (by assumption) ?_
              rotate_left
              · intro W hSw; (try dsimp only at hSw); go_simp; (try with_reducible rfl)
              simp only [Act.put, List.setIfInBounds_toArray, List.set_cons_zero, List.set_cons_succ]
              refine takeH (i := 26) (k := 119) (oi := _) (v := ?_) rfl rfl (by kernel_rfl) (by kernel_rfl) (by kernel_rfl) (fun _ _ _ h => h) (by rfl) ?_ (by assumption) ?_
              rotate_left
              · intro W hSw; (try dsimp only at hSw); go_simp; (try with_reducible rfl)
              simp only [Act.put, List.setIfInBounds_toArray, List.set_cons_zero, List.set_cons_succ]
              refine takeH (i := 27) (k := 120) (oi := _) (v := ?_) rfl rfl (by kernel_rfl) (by kernel_rfl) (by kernel_rfl) (fun _ _ _ h => h) (by rfl) ?_ (by assumption) ?_
              rotate_left
              · intro W hSw; (try dsimp only at hSw); go_simp; (try with_reducible rfl)
              simp only [Act.put, List.setIfInBounds_toArray, List.set_cons_zero, List.set_cons_succ]
              refine wpAnyH_ready (rs := [24]) (by kernel_rfl) (by simp) ?_
              refine AllReadyH.cons (o := _) rfl (fun K hK => ?_) AllReadyH.nil
              go_simp; go_at_call 25; refine (rpool_any _ base g gs cs _ vr2 S2 r p _ row2 (by first | exact HRQ.out | exact HRQ.out.drew)).mono ?_; rintro e wp ⟨rfl, hbp⟩; have HBP : Hid (Below wq.heap.size wq wp) := Lib.hid (by first | exact hbp | exact (Below.refl _ _).drew.trans hbp); have HRP := Lib.hid (HRQ.out.below HBP.out); have HGP := Lib.hid (HGQ.out.go HBP.out); have HPP := Lib.hid (HPQ.out.go HBP.out); have HBW := Lib.hid (HBQ.out.trans (HBP.out.mono HBQ.out.size)); have HIP := Lib.hid (HIQ.out.below HBP.out (Nat.le_refl _)); have hbs4 : base ≤ wp.heap.size := Nat.le_trans hbs3 HBP.out.size; clear hbp; obtain ⟨y0, y1, y2, _, _, _, zy⟩ := HGP.out.three; obtain ⟨x0, x1, x2, _, _, _, zx⟩ := HPP.out.three; dsimp only
              refine hK.out _ _ ⟨y0, y1, y2, x1⟩ (fun hHeld => ?_)
              clear hK K
              refine takeH (i := 25) (k := 118) (oi := _) (v := ?_) rfl rfl (by kernel_rfl) (by kernel_rfl) (by kernel_rfl) (fun _ _ _ h => h) (by rfl) ?_ (by assumption) ?_
              rotate_left
              · intro W hSw; (try dsimp only at hSw); go_simp; (try with_reducible rfl)
              simp only [Act.put, List.setIfInBounds_toArray, List.set_cons_zero, List.set_cons_succ]
              refine takeH (i := 28) (k := 121) (oi := _) (v := ?_) rfl rfl (by kernel_rfl) (by kernel_rfl) (by kernel_rfl) (fun _ _ _ h => h) (by rfl) ?_ (by assumption) ?_
              rotate_left
              · intro W hSw; (try dsimp only at hSw); go_simp; (try with_reducible rfl)
              simp only [Act.put, List.setIfInBounds_toArray, List.set_cons_zero, List.set_cons_succ]
              refine takeH (i := 29) (k := 122) (oi := _) (v := ?_) rfl rfl (by kernel_rfl) (by kernel_rfl) (by kernel_rfl) (fun _ _ _ h => h) (by rfl) ?_ (by assumption) ?_
              rotate_left
              · intro W hSw; (try dsimp only at hSw); go_simp; (try with_reducible rfl)
              simp only [Act.put, List.setIfInBounds_toArray, List.set_cons_zero, List.set_cons_succ]
              refine takeH (i := 30) (k := 123) (oi := _) (v := ?_) rfl rfl (by kernel_rfl) (by kernel_rfl) (by kernel_rfl) (fun _ _ _ h => h) (by rfl) ?_ (by assumption) ?_
              rotate_left
              · intro W hSw; (try dsimp only at hSw); go_simp; (try with_reducible rfl)
              simp only [Act.put, List.setIfInBounds_toArray, List.set_cons_zero, List.set_cons_succ]
              refine takeH (i := 31) (k := 124) (oi := _) (v := ?_) rfl rfl (by kernel_rfl) (by kernel_rfl) (by kernel_rfl) (fun _ _ _ h => h) (by rfl) ?_ (by assumption) ?_
              rotate_left
              · intro W hSw; (try dsimp only at hSw); go_simp; (try with_reducible rfl)
              simp only [Act.put, List.setIfInBounds_toArray, List.set_cons_zero, List.set_cons_succ]
              refine takeH (i := 32) (k := 125) (oi := _) (v := ?_) rfl rfl (by kernel_rfl) (by kernel_rfl) (by kernel_rfl) (fun _ _ _ h => h) (by rfl) ?_ (by assumption) ?_
              rotate_left
              · intro W hSw; (try dsimp only at hSw); go_simp; (try with_reducible rfl)
              simp only [Act.put, List.setIfInBounds_toArray, List.set_cons_zero, List.set_cons_succ]
              refine takeH (i := 33) (k := 126) (oi := _) (v := ?_) rfl rfl (by kernel_rfl) (by kernel_rfl) (by kernel_rfl) (fun _ _ _ h => h) (by rfl) ?_ (by assumption) ?_
              rotate_left
              · intro W hSw; (try dsimp only at hSw); go_simp; (try with_reducible rfl)
              simp only [Act.put, List.setIfInBounds_toArray, List.set_cons_zero, List.set_cons_succ]
              refine takeH (i := 34) (k := 127) (oi := _) (v := ?_) rfl rfl (by kernel_rfl) (by kernel_rfl) (by kernel_rfl) (fun _ _ _ h => h) (by rfl) ?_ (by assumption) ?_
              rotate_left
              · intro W hSw; (try dsimp only at hSw); go_simp; (try with_reducible rfl)
              simp only [Act.put, List.setIfInBounds_toArray, List.set_cons_zero, List.set_cons_succ]
              refine takeU (i := 35) (k := 128) (oi := _) rfl rfl (by kernel_rfl) (by kernel_rfl) (by kernel_rfl) (fun _ _ _ h => h) (by rfl) (by assumption) ?_
              simp only [Act.put, List.setIfInBounds_toArray, List.set_cons_zero, List.set_cons_succ]
              refine takeU (i := 36) (k := 129) (oi := _) rfl rfl (by kernel_rfl) (by kernel_rfl) (by kernel_rfl) (fun _ _ _ h => h) (by rfl) (by assumption) ?_
              simp only [Act.put, List.setIfInBounds_toArray, List.set_cons_zero, List.set_cons_succ]
              refine takeU (i := 37) (k := 130) (oi := _) rfl rfl (by kernel_rfl) (by kernel_rfl) (by kernel_rfl) (fun _ _ _ h => h) (by rfl) (by assumption) ?_
              simp only [Act.put, List.setIfInBounds_toArray, List.set_cons_zero, List.set_cons_succ]
              refine takeH (i := 38) (k := 131) (oi := _) (v := ?_) rfl rfl (by kernel_rfl) (by kernel_rfl) (by kernel_rfl) (fun _ _ _ h => h) (by rfl) ?_ (by assumption) ?_
              rotate_left
              · intro W hSw; (try dsimp only at hSw); go_simp; (try with_reducible rfl)
              simp only [Act.put, List.setIfInBounds_toArray, List.set_cons_zero, List.set_cons_succ]
              refine takeH (i := 39) (k := 132) (oi := _) (v := ?_) rfl rfl (by kernel_rfl) (by kernel_rfl) (by kernel_rfl) (fun _ _ _ h => h) (by rfl) ?_ (by assumption) ?_
              rotate_left
              · intro W hSw; (try dsimp only at hSw); go_simp; (try with_reducible rfl)
              simp only [Act.put, List.setIfInBounds_toArray, List.set_cons_zero, List.set_cons_succ]
              refine wpAnyH_done (by kernel_rfl) ?_ _
              go_wp2
              go_meet
              exact ⟨rfl, Lib.hid (by first | exact HBP.out | exact HBP.out.drew)⟩
            · skip
              refine wp_region_held_drew (S := (fun w' => w'.cell? ⟨gn, 0, none⟩ = some (.int .i64 wt) ∧ w'.cell? ⟨gn, 1, none⟩ = some (.int .i64 lo) ∧ w'.cell? ⟨gn, 2, none⟩ = some (.int .i64 row2.length) ∧ w'.cell? ⟨w.heap.size, 1, none⟩ = some (.int .i64 p))) (by kernel_rfl) ⟨q0, q1, q2, p1⟩ (fun hHeld => ?_)
              refine takeH (i := 0) (k := 93) (oi := _) (v := ?_) rfl rfl (by kernel_rfl) (by kernel_rfl) (by kernel_rfl) (fun _ _ _ h => h) (by rfl) ?_ (by assumption) ?_
              rotate_left
              · intro W hSw; (try dsimp only at hSw); go_simp; (try with_reducible rfl)
              simp only [Act.put, List.setIfInBounds_toArray, List.set_cons_zero, List.set_cons_succ]
              refine takeH (i := 1) (k := 94) (oi := _) (v := ?_) rfl rfl (by kernel_rfl) (by kernel_rfl) (by kernel_rfl) (fun _ _ _ h => h) (by rfl) ?_ (by assumption) ?_
              rotate_left
              · intro W hSw; (try dsimp only at hSw); go_simp; (try with_reducible rfl)
              simp only [Act.put, List.setIfInBounds_toArray, List.set_cons_zero, List.set_cons_succ]
              refine takeH (i := 2) (k := 95) (oi := _) (v := ?_) rfl rfl (by kernel_rfl) (by kernel_rfl) (by kernel_rfl) (fun _ _ _ h => h) (by rfl) ?_ (by assumption) ?_
              rotate_left
              · intro W hSw; (try dsimp only at hSw); go_simp; (try with_reducible rfl)
              simp only [Act.put, List.setIfInBounds_toArray, List.set_cons_zero, List.set_cons_succ]
              refine takeH (i := 3) (k := 96) (oi := _) (v := ?_) rfl rfl (by kernel_rfl) (by kernel_rfl) (by kernel_rfl) (fun _ _ _ h => h) (by rfl) ?_ (by assumption) ?_
              rotate_left
              · intro W hSw; (try dsimp only at hSw); go_simp; (try with_reducible rfl)
              simp only [Act.put, List.setIfInBounds_toArray, List.set_cons_zero, List.set_cons_succ]
              refine takeH (i := 4) (k := 97) (oi := _) (v := ?_) rfl rfl (by kernel_rfl) (by kernel_rfl) (by kernel_rfl) (fun _ _ _ h => h) (by rfl) ?_ (by assumption) ?_
              rotate_left
              · intro W hSw; (try dsimp only at hSw); go_simp; (try with_reducible rfl)
              simp only [Act.put, List.setIfInBounds_toArray, List.set_cons_zero, List.set_cons_succ]
              refine takeH (i := 5) (k := 98) (oi := _) (v := ?_) rfl rfl (by kernel_rfl) (by kernel_rfl) (by kernel_rfl) (fun _ _ _ h => h) (by rfl) ?_ (by assumption) ?_
              rotate_left
              · intro W hSw; (try dsimp only at hSw); go_simp; (try with_reducible rfl)
              simp only [Act.put, List.setIfInBounds_toArray, List.set_cons_zero, List.set_cons_succ]
              refine takeH (i := 6) (k := 99) (oi := _) (v := ?_) rfl rfl (by kernel_rfl) (by kernel_rfl) (by kernel_rfl) (fun _ _ _ h => h) (by rfl) ?_ (by assumption) ?_
              rotate_left
              · intro W hSw; (try dsimp only at hSw); go_simp; (try with_reducible rfl)
              simp only [Act.put, List.setIfInBounds_toArray, List.set_cons_zero, List.set_cons_succ]
              refine takeH (i := 7) (k := 100) (oi := _) (v := ?_) rfl rfl (by kernel_rfl) (by kernel_rfl) (by kernel_rfl) (fun _ _ _ h => h) (by rfl) ?_ (by assumption) ?_
              rotate_left
              · intro W hSw; (try dsimp only at hSw); go_simp; (try with_reducible rfl)
              simp only [Act.put, List.setIfInBounds_toArray, List.set_cons_zero, List.set_cons_succ]
              refine takeH (i := 8) (k := 101) (oi := _) (v := ?_) rfl rfl (by kernel_rfl) (by kernel_rfl) (by kernel_rfl) (fun _ _ _ h => h) (by rfl) ?_ (by assumption) ?_
              rotate_left
              · intro W hSw; (try dsimp only at hSw); go_simp; (try with_reducible rfl)
              simp only [Act.put, List.setIfInBounds_toArray, List.set_cons_zero, List.set_cons_succ]
              refine takeH (i := 9) (k := 102) (oi := _) (v := ?_) rfl rfl (by kernel_rfl) (by kernel_rfl) (by kernel_rfl) (fun _ _ _ h => h) (by rfl) ?_ (by assumption) ?_
              rotate_left
              · intro W hSw; (try dsimp only at hSw); go_simp; (try with_reducible rfl)
              simp only [Act.put, List.setIfInBounds_toArray, List.set_cons_zero, List.set_cons_succ]
              refine takeH (i := 10) (k := 103) (oi := _) (v := ?_) rfl rfl (by kernel_rfl) (by kernel_rfl) (by kernel_rfl) (fun _ _ _ h => h) (by rfl) ?_ (by assumption) ?_
              rotate_left
              · intro W hSw; (try dsimp only at hSw); go_simp; (try with_reducible rfl)
              simp only [Act.put, List.setIfInBounds_toArray, List.set_cons_zero, List.set_cons_succ]
              refine takeH (i := 11) (k := 104) (oi := _) (v := ?_) rfl rfl (by kernel_rfl) (by kernel_rfl) (by kernel_rfl) (fun _ _ _ h => h) (by rfl) ?_ (by assumption) ?_
              rotate_left
              · intro W hSw; (try dsimp only at hSw); go_simp; (try with_reducible rfl)
              simp only [Act.put, List.setIfInBounds_toArray, List.set_cons_zero, List.set_cons_succ]
              refine takeH (i := 12) (k := 105) (oi := _) (v := ?_) rfl rfl (by kernel_rfl) (by kernel_rfl) (by kernel_rfl) (fun _ _ _ h => h) (by rfl) ?_ (by assumption) ?_
              rotate_left
              · intro W hSw; (try dsimp only at hSw); go_simp; (try with_reducible rfl)
              simp only [Act.put, List.setIfInBounds_toArray, List.set_cons_zero, List.set_cons_succ]
              refine takeH (i := 13) (k := 106) (oi := _) (v := ?_) rfl rfl (by kernel_rfl) (by kernel_rfl) (by kernel_rfl) (fun _ _ _ h => h) (by rfl) ?_ (by assumption) ?_
              rotate_left
              · intro W hSw; (try dsimp only at hSw); go_simp; (try with_reducible rfl)
              simp only [Act.put, List.setIfInBounds_toArray, List.set_cons_zero, List.set_cons_succ]
              refine takeH (i := 14) (k := 107) (oi := _) (v := ?_) rfl rfl (by kernel_rfl) (by kernel_rfl) (by kernel_rfl) (fun _ _ _ h => h) (by rfl) ?_ (by assumption) ?_
              rotate_left
              · intro W hSw; (try dsimp only at hSw); go_simp; (try with_reducible rfl)
              simp only [Act.put, List.setIfInBounds_toArray, List.set_cons_zero, List.set_cons_succ]
              refine takeH (i := 15) (k := 108) (oi := _) (v := ?_) rfl rfl (by kernel_rfl) (by kernel_rfl) (by kernel_rfl) (fun _ _ _ h => h) (by rfl) ?_ (by assumption) ?_
              rotate_left
              · intro W hSw; (try dsimp only at hSw); go_simp; (try with_reducible rfl)
              simp only [Act.put, List.setIfInBounds_toArray, List.set_cons_zero, List.set_cons_succ]
              refine takeH (i := 16) (k := 109) (oi := _) (v := ?_) rfl rfl (by kernel_rfl) (by kernel_rfl) (by kernel_rfl) (fun _ _ _ h => h) (by rfl) ?_ (by assumption) ?_
              rotate_left
              · intro W hSw; (try dsimp only at hSw); go_simp; (try with_reducible rfl)
              simp only [Act.put, List.setIfInBounds_toArray, List.set_cons_zero, List.set_cons_succ]
              refine takeH (i := 17) (k := 110) (oi := _) (v := ?_) rfl rfl (by kernel_rfl) (by kernel_rfl) (by kernel_rfl) (fun _ _ _ h => h) (by rfl) ?_ (by assumption) ?_
              rotate_left
              · intro W hSw; (try dsimp only at hSw); go_simp; (try with_reducible rfl)
              simp only [Act.put, List.setIfInBounds_toArray, List.set_cons_zero, List.set_cons_succ]
              refine takeH (i := 18) (k := 111) (oi := _) (v := ?_) rfl rfl (by kernel_rfl) (by kernel_rfl) (by kernel_rfl) (fun _ _ _ h => h) (by rfl) ?_ (by assumption) ?_
              rotate_left
              · intro W hSw; (try dsimp only at hSw); go_simp; (try with_reducible rfl)
              simp only [Act.put, List.setIfInBounds_toArray, List.set_cons_zero, List.set_cons_succ]
              refine takeH (i := 19) (k := 112) (oi := _) (v := ?_) rfl rfl (by kernel_rfl) (by kernel_rfl) (by kernel_rfl) (fun _ _ _ h => h) (by rfl) ?_ (by assumption) ?_
              rotate_left
              · intro W hSw; (try dsimp only at hSw); go_simp; (try with_reducible rfl)
              simp only [Act.put, List.setIfInBounds_toArray, List.set_cons_zero, List.set_cons_succ]
              refine takeH (i := 20) (k := 113) (oi := _) (v := ?_) rfl rfl (by kernel_rfl) (by kernel_rfl) (by kernel_rfl) (fun _ _ _ h => h) (by rfl) ?_ (by assumption) ?_
              rotate_left
              · intro W hSw; (try dsimp only at hSw); go_simp; (try with_reducible rfl)
              simp only [Act.put, List.setIfInBounds_toArray, List.set_cons_zero, List.set_cons_succ]
              refine takeH (i := 21) (k := 114) (oi := _) (v := ?_) rfl rfl (by kernel_rfl) (by kernel_rfl) (by kernel_rfl) (fun _ _ _ h => h) (by rfl) ?_ (by assumption) ?_
              rotate_left
              · intro W hSw; (try dsimp only at hSw); go_simp; (try with_reducible rfl)
              simp only [Act.put, List.setIfInBounds_toArray, List.set_cons_zero, List.set_cons_succ]
              refine takeH (i := 22) (k := 115) (oi := _) (v := ?_) rfl rfl (by kernel_rfl) (by kernel_rfl) (by kernel_rfl) (fun _ _ _ h => h) (by rfl) ?_ (by assumption) ?_
              rotate_left
              · intro W hSw; (try dsimp only at hSw); go_simp; (try with_reducible rfl)
              simp only [Act.put, List.setIfInBounds_toArray, List.set_cons_zero, List.set_cons_succ]
              refine takeH (i := 23) (k := 116) (oi := _) (v := ?_) rfl rfl (by kernel_rfl) (by kernel_rfl) (by kernel_rfl) (fun _ _ _ h => h) (by rfl) ?_ (by assumption) ?_
              rotate_left
              · intro W hSw; (try dsimp only at hSw); go_simp; (try with_reducible rfl)
              simp only [Act.put, List.setIfInBounds_toArray, List.set_cons_zero, List.set_cons_succ]
              refine takeH (i := 26) (k := 119) (oi := _) (v := ?_) rfl rfl (by kernel_rfl) (by kernel_rfl) (by kernel_rfl) (fun _ _ _ h => h) (by rfl) ?_ (by assumption) ?_
              rotate_left
              · intro W hSw; (try dsimp only at hSw); go_simp; (try with_reducible rfl)
              simp only [Act.put, List.setIfInBounds_toArray, List.set_cons_zero, List.set_cons_succ]
              refine takeH (i := 27) (k := 120) (oi := _) (v := ?_) rfl rfl (by kernel_rfl) (by kernel_rfl) (by kernel_rfl) (fun _ _ _ h => h) (by rfl) ?_ (by assumption) ?_
              rotate_left
              · intro W hSw; (try dsimp only at hSw); go_simp; (try with_reducible rfl)
              simp only [Act.put, List.setIfInBounds_toArray, List.set_cons_zero, List.set_cons_succ]
              refine wpAnyH_ready (rs := [24]) (by kernel_rfl) (by simp) ?_
              refine AllReadyH.cons (o := _) rfl (fun K hK => ?_) AllReadyH.nil
              go_simp; go_at_call 25; refine (rpool_any _ base g gs cs _ vr2 S2 r p _ row2 (by first | exact HRQ.out | exact HRQ.out.drew)).mono ?_; rintro e wp ⟨rfl, hbp⟩; have HBP : Hid (Below wq.heap.size wq wp) := Lib.hid (by first | exact hbp | exact (Below.refl _ _).drew.trans hbp); have HRP := Lib.hid (HRQ.out.below HBP.out); have HGP := Lib.hid (HGQ.out.go HBP.out); have HPP := Lib.hid (HPQ.out.go HBP.out); have HBW := Lib.hid (HBQ.out.trans (HBP.out.mono HBQ.out.size)); have HIP := Lib.hid (HIQ.out.below HBP.out (Nat.le_refl _)); have hbs4 : base ≤ wp.heap.size := Nat.le_trans hbs3 HBP.out.size; clear hbp; obtain ⟨y0, y1, y2, _, _, _, zy⟩ := HGP.out.three; obtain ⟨x0, x1, x2, _, _, _, zx⟩ := HPP.out.three; dsimp only
              refine hK.out _ _ ⟨y0, y1, y2, x1⟩ (fun hHeld => ?_)
              clear hK K
              refine takeH (i := 25) (k := 118) (oi := _) (v := ?_) rfl rfl (by kernel_rfl) (by kernel_rfl) (by kernel_rfl) (fun _ _ _ h => h) (by rfl) ?_ (by assumption) ?_
              rotate_left
              · intro W hSw; (try dsimp only at hSw); go_simp; (try with_reducible rfl)
              simp only [Act.put, List.setIfInBounds_toArray, List.set_cons_zero, List.set_cons_succ]
              refine takeH (i := 28) (k := 121) (oi := _) (v := ?_) rfl rfl (by kernel_rfl) (by kernel_rfl) (by kernel_rfl) (fun _ _ _ h => h) (by rfl) ?_ (by assumption) ?_
              rotate_left
              · intro W hSw; (try dsimp only at hSw); go_simp; (try with_reducible rfl)
              simp only [Act.put, List.setIfInBounds_toArray, List.set_cons_zero, List.set_cons_succ]
              refine takeH (i := 29) (k := 122) (oi := _) (v := ?_) rfl rfl (by kernel_rfl) (by kernel_rfl) (by kernel_rfl) (fun _ _ _ h => h) (by rfl) ?_ (by assumption) ?_
              rotate_left
              · intro W hSw; (try dsimp only at hSw); go_simp; (try with_reducible rfl)
              simp only [Act.put, List.setIfInBounds_toArray, List.set_cons_zero, List.set_cons_succ]
              refine takeH (i := 30) (k := 123) (oi := _) (v := ?_) rfl rfl (by kernel_rfl) (by kernel_rfl) (by kernel_rfl) (fun _ _ _ h => h) (by rfl) ?_ (by assumption) ?_
              rotate_left
              · intro W hSw; (try dsimp only at hSw); go_simp; (try with_reducible rfl)
              simp only [Act.put, List.setIfInBounds_toArray, List.set_cons_zero, List.set_cons_succ]
              refine takeH (i := 31) (k := 124) (oi := _) (v := ?_) rfl rfl (by kernel_rfl) (by kernel_rfl) (by kernel_rfl) (fun _ _ _ h => h) (by rfl) ?_ (by assumption) ?_
              rotate_left
              · intro W hSw; (try dsimp only at hSw); go_simp; (try with_reducible rfl)
              simp only [Act.put, List.setIfInBounds_toArray, List.set_cons_zero, List.set_cons_succ]
              refine takeH (i := 32) (k := 125) (oi := _) (v := ?_) rfl rfl (by kernel_rfl) (by kernel_rfl) (by kernel_rfl) (fun _ _ _ h => h) (by rfl) ?_ (by assumption) ?_
              rotate_left
              · intro W hSw; (try dsimp only at hSw); go_simp; (try with_reducible rfl)
              simp only [Act.put, List.setIfInBounds_toArray, List.set_cons_zero, List.set_cons_succ]
              refine takeH (i := 33) (k := 126) (oi := _) (v := ?_) rfl rfl (by kernel_rfl) (by kernel_rfl) (by kernel_rfl) (fun _ _ _ h => h) (by rfl) ?_ (by assumption) ?_
              rotate_left
              · intro W hSw; (try dsimp only at hSw); go_simp; (try with_reducible rfl)
              simp only [Act.put, List.setIfInBounds_toArray, List.set_cons_zero, List.set_cons_succ]
              refine takeH (i := 34) (k := 127) (oi := _) (v := ?_) rfl rfl (by kernel_rfl) (by kernel_rfl) (by kernel_rfl) (fun _ _ _ h => h) (by rfl) ?_ (by assumption) ?_
              rotate_left
              · intro W hSw; (try dsimp only at hSw); go_simp; (try with_reducible rfl)
              simp only [Act.put, List.setIfInBounds_toArray, List.set_cons_zero, List.set_cons_succ]
              refine takeH (i := 35) (k := 128) (oi := _) (v := ?_) rfl rfl (by kernel_rfl) (by kernel_rfl) (by kernel_rfl) (fun _ _ _ h => h) (by rfl) ?_ (by assumption) ?_
              rotate_left
              · intro W hSw; (try dsimp only at hSw); go_simp; (try with_reducible rfl)
              simp only [Act.put, List.setIfInBounds_toArray, List.set_cons_zero, List.set_cons_succ]
              refine takeH (i := 36) (k := 129) (oi := _) (v := ?_) rfl rfl (by kernel_rfl) (by kernel_rfl) (by kernel_rfl) (fun _ _ _ h => h) (by rfl) ?_ (by assumption) ?_
              rotate_left
              · intro W hSw; (try dsimp only at hSw); go_simp; (try with_reducible rfl)
              simp only [Act.put, List.setIfInBounds_toArray, List.set_cons_zero, List.set_cons_succ]
              refine takeH (i := 37) (k := 130) (oi := _) (v := ?_) rfl rfl (by kernel_rfl) (by kernel_rfl) (by kernel_rfl) (fun _ _ _ h => h) (by rfl) ?_ (by assumption) ?_
              rotate_left
              · intro W hSw; (try dsimp only at hSw); go_simp; (try with_reducible rfl)
              simp only [Act.put, List.setIfInBounds_toArray, List.set_cons_zero, List.set_cons_succ]
              refine takeH (i := 38) (k := 131) (oi := _) (v := ?_) rfl rfl (by kernel_rfl) (by kernel_rfl) (by kernel_rfl) (fun _ _ _ h => h) (by rfl) ?_ (by assumption) ?_
              rotate_left
              · intro W hSw; (try dsimp only at hSw); go_simp; (try with_reducible rfl)
              simp only [Act.put, List.setIfInBounds_toArray, List.set_cons_zero, List.set_cons_succ]
              refine takeH (i := 39) (k := 132) (oi := _) (v := ?_) rfl rfl (by kernel_rfl) (by kernel_rfl) (by kernel_rfl) (fun _ _ _ h => h) (by rfl) ?_ (by assumption) ?_
              rotate_left
              · intro W hSw; (try dsimp only at hSw); go_simp; (try with_reducible rfl)
              simp only [Act.put, List.setIfInBounds_toArray, List.set_cons_zero, List.set_cons_succ]
              refine wpAnyH_done (by kernel_rfl) ?_ _
              go_wp2
              go_meet
              exact ⟨rfl, Lib.hid (by first | exact HBP.out | exact HBP.out.drew)⟩
          case rest =>
            obtain ⟨rfl, HBP⟩ := hcut
            have HRP := Lib.hid (HRQ.out.below HBP.out)
            have HPP := Lib.hid (HPQ.out.go HBP.out)
            have HBW := Lib.hid (HBQ.out.trans (HBP.out.mono HBQ.out.size))
            have HIP := Lib.hid (HIQ.out.below HBP.out (Nat.le_refl _))
            have hbs4 : base ≤ wc.heap.size := Nat.le_trans hbs3 HBP.out.size
            clear hcase p0 p1 p2 zp q0 q1 q2 zq u1 u2 u3 hfd HRQ HPQ HGQ HBQ hbs3
            have HIW := Lib.hid (HIP.out.more HBP.out.size)
            clear HIP HIQ HBP
            go_wp2
            obtain ⟨wo, hwo⟩ : ∃ wo : World, wo = wc := ⟨_, rfl⟩
            rw [← hwo] at HRP HPP HBW HIW hbs4 ⊢
            go_loopw [18, 19] (fun sv iv wr => ∃ i : Nat, i ≤ S.length ∧ iv = .int .i64 i ∧ sv = .int .i64 (sumC (S2.take i)) ∧ Hid (RoadAt wr base g gs cs S.length vr2 S2 r p row2.length row2) ∧ Hid (Blk wr w.heap.size 23 #[.int .i64 r, .int .i64 p, .int .i64 0]) ∧ Hid (Below w.heap.size w wr) ∧ Hid (Below wo.heap.size wo wr)) (fun _ iv _ => S.length - (intOf iv).toNat)
            case atStart => exact ⟨0, Nat.zero_le _, rfl, rfl, HRP, HPP, HBW, Lib.hid (Below.refl _ _)⟩
            case round =>
              clear HRP HPP HBW
              obtain ⟨i, hi, rfl, rfl, HR, HP, HB, HBo⟩ := hrel
              have hsb := HIZ.out.all.sumC_bd i
              obtain ⟨sb0, sb1⟩ := hsb
              by_cases hlt : i < S.length
              · have hlS : S2.length = S.length := HR.out.len
                obtain ⟨s, hs⟩ : ∃ s, S2[i]? = some s := ⟨_, List.getElem?_eq_getElem (by omega)⟩
                have his := HIZ.out.all.2 i s hs
                have HST := Lib.hid (sumC_take hs)
                have HSI := Lib.hid hs
                go_wp2_with fail
                refine (rsource_in _ base g gs cs _ vr2 S2 r p _ row2 HR.out i s hs n6).mono ?_; rintro e wx ⟨rfl, hbx⟩
                have HRX := Lib.hid ((HR.out.below hbx).alloc (.cells #[.int .i64 s.W, .int .i64 s.a, .int .i64 s.l, .int .i64 s.c] 25))
                have HPX := Lib.hid ((HP.out.go hbx).alloc (.cells #[.int .i64 s.W, .int .i64 s.a, .int .i64 s.l, .int .i64 s.c] 25))
                have HBX := Lib.hid ((HB.out.trans (hbx.mono HB.out.size)).alloc (by have := HB.out.size; have := hbx.size; omega) (.cells #[.int .i64 s.W, .int .i64 s.a, .int .i64 s.l, .int .i64 s.c] 25))
                have HBo2 := Lib.hid ((HBo.out.trans (hbx.mono HBo.out.size)).alloc (by have := HBo.out.size; have := hbx.size; omega) (.cells #[.int .i64 s.W, .int .i64 s.a, .int .i64 s.l, .int .i64 s.c] 25))
                have HXX := Lib.hid (Blk.new wx 25 #[.int .i64 s.W, .int .i64 s.a, .int .i64 s.l, .int .i64 s.c])
                clear hs hbx HR HP HB HBo
                dsimp only [Src.val]
                go_wp2_with fail
                obtain ⟨wv, hwv⟩ : ∃ x, x = wx.alloc (.cells #[.int .i64 s.W, .int .i64 s.a, .int .i64 s.l, .int .i64 s.c] 25) := ⟨_, rfl⟩
                rw [← hwv] at HRX HPX HBX HBo2 HXX ⊢
                obtain ⟨gx, hgx⟩ : ∃ x, x = wx.heap.size := ⟨_, rfl⟩
                rw [← hgx] at HXX ⊢
                clear hwv hgx
                have HIV := Lib.hid (HIW.out.below HBo2.out (Nat.le_refl _))
                have HIS := Lib.hid his
                clear his
                go_loop [22, 23] (fun mv kv => ∃ k : Nat, k ≤ row2.length ∧ kv = .int .i64 k ∧ mv = .int .i64 ((row2.take k).count i : Nat)) (fun _ kv => row2.length - (intOf kv).toNat)
                case atStart => exact ⟨0, Nat.zero_le _, rfl, rfl⟩
                case round =>
                  obtain ⟨k, hk, rfl, rfl⟩ := hrel
                  have hct : (row2.take k).count i ≤ k := Nat.le_trans List.count_le_length (List.length_take_le _ _)
                  by_cases hkl : k < row2.length
                  · obtain ⟨bq, oq, xq, rfl, hbq, hcq, _, _, hxq⟩ := HIV.out.elem (k := k) (by simpa using hkl)
                    have hy : row2[k]? = some row2[k] := List.getElem?_eq_getElem hkl
                    have hxv : xq = ((row2[k] : Nat) : Int) := by have := hxq.out; rw [← this]; simp [hkl]
                    subst hxv
                    have HCT := Lib.hid (count_take hy i)
                    generalize row2[k] = y at *
                    clear hy hxq
                    by_cases hyi : y = i
                    · subst hyi
                      rw [if_pos rfl] at HCT
                      go_wp2
                      go_round
                      case rel => exact ⟨k + 1, by omega, by go_num, by rw [HCT.out]; go_num⟩
                      case measure => simp [intOf]; omega
                    · have hyb : ((y : Int) == (i : Int)) = false := beq_eq_false_iff_ne.2 (by omega)
                      rw [if_neg hyi] at HCT
                      clear hyi
                      go_wp2
                      go_round
                      case rel => exact ⟨k + 1, by omega, by go_num, by rw [HCT.out]; rfl⟩
                      case measure => simp [intOf]; omega
                  · obtain rfl : k = row2.length := by omega
                    rw [List.take_length] at hct ⊢
                    have hway := HIS.out.way
                    have hway' : ((row2.count i : Nat) : Int) = s.a := hway.symm
                    rw [hway']
                    have hrowl : row2.length = row2.length := rfl
                    obtain ⟨b, off, t, rfl, hbw, _, _, t2, _, ht⟩ := (HS.out.below HBX.out (Nat.le_refl _)).elem hlt
                    have hall := HIS.out.all
                    have hgd : (S.map Src.l).getD i 0 = t.l := by simp [ht.out]
                    rw [hgd] at hall
                    have HOK := Lib.hid HIS.out.ok
                    have i0 : (0 : Int) ≤ (i : Int) := by omega
                    have i1 : (i : Int) < S.length := by omega
                    have a0 : 0 ≤ s.a := by omega
                    have l0' := HIS.out.l0
                    have c0' := HIS.out.c0
                    have htop := HIS.out.top
                    rw [hgd] at htop
                    obtain ⟨tW, ta, tl, tc⟩ := t
                    obtain ⟨sW, sa, sl, sc⟩ := s
                    simp only at hall HOK a0 l0' c0' htop t2 HXX HST ⊢
                    have hw1 : IntKind.i64.wrap (sa + sl) = sa + sl := IntWalk.i64_in _ (by omega)
                    have hw2 : IntKind.i64.wrap (sa + sl + sc) = sa + sl + sc := IntWalk.i64_in _ (by omega)
                    have hbn : (sa + sl + sc != tl) = false := by rw [hall]; simp
                    obtain ⟨x0, x1, x2, x3, _, _, _, _, zx⟩ := HXX.out.four
                    have HT := Lib.hid ht
                    have HAL2 := Lib.hid hall
                    have sc1 : sc ≤ 10000 := by omega
                    clear ht hall hway hway' hgd hrowl hct
                    go_wp2_with fail
                    refine wp_region_held_drew (S := (fun w' => w'.cell? ⟨gx, 0, none⟩ = some (.int .i64 sW) ∧ w'.cell? ⟨gx, 1, none⟩ = some (.int .i64 sa) ∧ w'.cell? ⟨gx, 2, none⟩ = some (.int .i64 sl) ∧ w'.cell? ⟨gx, 3, none⟩ = some (.int .i64 sc) ∧ w'.cell? ⟨b, off + i * 4 + 2, none⟩ = some (.int .i64 tl))) (by kernel_rfl) ⟨x0, x1, x2, x3, t2⟩ (fun hHeld => ?_)
                    refine takeH (i := 0) (k := 159) (oi := _) (v := ?_) rfl rfl (by kernel_rfl) (by kernel_rfl) (by kernel_rfl) (fun _ _ _ h => h) (by rfl) ?_ (by assumption) ?_
                    rotate_left
                    · intro W hSw; (try dsimp only at hSw); go_simp; (try with_reducible rfl)
                    simp only [Act.put, List.setIfInBounds_toArray, List.set_cons_zero, List.set_cons_succ]
                    refine takeH (i := 1) (k := 160) (oi := _) (v := ?_) rfl rfl (by kernel_rfl) (by kernel_rfl) (by kernel_rfl) (fun _ _ _ h => h) (by rfl) ?_ (by assumption) ?_
                    rotate_left
                    · intro W hSw; (try dsimp only at hSw); go_simp; (try with_reducible rfl)
                    simp only [Act.put, List.setIfInBounds_toArray, List.set_cons_zero, List.set_cons_succ]
                    refine takeH (i := 2) (k := 161) (oi := _) (v := ?_) rfl rfl (by kernel_rfl) (by kernel_rfl) (by kernel_rfl) (fun _ _ _ h => h) (by rfl) ?_ (by assumption) ?_
                    rotate_left
                    · intro W hSw; (try dsimp only at hSw); go_simp; (try with_reducible rfl)
                    simp only [Act.put, List.setIfInBounds_toArray, List.set_cons_zero, List.set_cons_succ]
                    refine takeH (i := 3) (k := 162) (oi := _) (v := ?_) rfl rfl (by kernel_rfl) (by kernel_rfl) (by kernel_rfl) (fun _ _ _ h => h) (by rfl) ?_ (by assumption) ?_
                    rotate_left
                    · intro W hSw; (try dsimp only at hSw); go_simp; (try with_reducible rfl)
                    simp only [Act.put, List.setIfInBounds_toArray, List.set_cons_zero, List.set_cons_succ]
                    refine takeH (i := 4) (k := 163) (oi := _) (v := ?_) rfl rfl (by kernel_rfl) (by kernel_rfl) (by kernel_rfl) (fun _ _ _ h => h) (by rfl) ?_ (by assumption) ?_
                    rotate_left
                    · intro W hSw; (try dsimp only at hSw); go_simp; (try with_reducible rfl)
                    simp only [Act.put, List.setIfInBounds_toArray, List.set_cons_zero, List.set_cons_succ]
                    refine takeH (i := 5) (k := 164) (oi := _) (v := ?_) rfl rfl (by kernel_rfl) (by kernel_rfl) (by kernel_rfl) (fun _ _ _ h => h) (by rfl) ?_ (by assumption) ?_
                    rotate_left
                    · intro W hSw; (try dsimp only at hSw); go_simp; (try with_reducible rfl)
                    simp only [Act.put, List.setIfInBounds_toArray, List.set_cons_zero, List.set_cons_succ]
                    refine takeH (i := 6) (k := 165) (oi := _) (v := ?_) rfl rfl (by kernel_rfl) (by kernel_rfl) (by kernel_rfl) (fun _ _ _ h => h) (by rfl) ?_ (by assumption) ?_
                    rotate_left
                    · intro W hSw; (try dsimp only at hSw); go_simp; (try with_reducible rfl)
                    simp only [Act.put, List.setIfInBounds_toArray, List.set_cons_zero, List.set_cons_succ]
                    refine takeH (i := 7) (k := 166) (oi := _) (v := ?_) rfl rfl (by kernel_rfl) (by kernel_rfl) (by kernel_rfl) (fun _ _ _ h => h) (by rfl) ?_ (by assumption) ?_
                    rotate_left
                    · intro W hSw; (try dsimp only at hSw); go_simp; (try with_reducible rfl)
                    simp only [Act.put, List.setIfInBounds_toArray, List.set_cons_zero, List.set_cons_succ]
                    refine takeH (i := 8) (k := 167) (oi := _) (v := ?_) rfl rfl (by kernel_rfl) (by kernel_rfl) (by kernel_rfl) (fun _ _ _ h => h) (by rfl) ?_ (by assumption) ?_
                    rotate_left
                    · intro W hSw; (try dsimp only at hSw); go_simp; (try with_reducible rfl)
                    simp only [Act.put, List.setIfInBounds_toArray, List.set_cons_zero, List.set_cons_succ]
                    refine takeH (i := 9) (k := 168) (oi := _) (v := ?_) rfl rfl (by kernel_rfl) (by kernel_rfl) (by kernel_rfl) (fun _ _ _ h => h) (by rfl) ?_ (by assumption) ?_
                    rotate_left
                    · intro W hSw; (try dsimp only at hSw); go_simp; (try with_reducible rfl)
                    simp only [Act.put, List.setIfInBounds_toArray, List.set_cons_zero, List.set_cons_succ]
                    refine takeH (i := 10) (k := 169) (oi := _) (v := ?_) rfl rfl (by kernel_rfl) (by kernel_rfl) (by kernel_rfl) (fun _ _ _ h => h) (by rfl) ?_ (by assumption) ?_
                    rotate_left
                    · intro W hSw; (try dsimp only at hSw); go_simp; (try with_reducible rfl)
                    simp only [Act.put, List.setIfInBounds_toArray, List.set_cons_zero, List.set_cons_succ]
                    refine takeH (i := 11) (k := 170) (oi := _) (v := ?_) rfl rfl (by kernel_rfl) (by kernel_rfl) (by kernel_rfl) (fun _ _ _ h => h) (by rfl) ?_ (by assumption) ?_
                    rotate_left
                    · intro W hSw; (try dsimp only at hSw); go_simp; (try with_reducible rfl)
                    simp only [Act.put, List.setIfInBounds_toArray, List.set_cons_zero, List.set_cons_succ]
                    refine takeH (i := 12) (k := 171) (oi := _) (v := ?_) rfl rfl (by kernel_rfl) (by kernel_rfl) (by kernel_rfl) (fun _ _ _ h => h) (by rfl) ?_ (by assumption) ?_
                    rotate_left
                    · intro W hSw; (try dsimp only at hSw); go_simp; (try with_reducible rfl)
                    simp only [Act.put, List.setIfInBounds_toArray, List.set_cons_zero, List.set_cons_succ]
                    refine takeH (i := 13) (k := 172) (oi := _) (v := ?_) rfl rfl (by kernel_rfl) (by kernel_rfl) (by kernel_rfl) (fun _ _ _ h => h) (by rfl) ?_ (by assumption) ?_
                    rotate_left
                    · intro W hSw; (try dsimp only at hSw); go_simp; (try with_reducible rfl)
                    simp only [Act.put, List.setIfInBounds_toArray, List.set_cons_zero, List.set_cons_succ]
                    refine takeH (i := 14) (k := 173) (oi := _) (v := ?_) rfl rfl (by kernel_rfl) (by kernel_rfl) (by kernel_rfl) (fun _ _ _ h => h) (by rfl) ?_ (by assumption) ?_
                    rotate_left
                    · intro W hSw; (try dsimp only at hSw); go_simp; (try with_reducible rfl)
                    simp only [Act.put, List.setIfInBounds_toArray, List.set_cons_zero, List.set_cons_succ]
                    refine takeH (i := 15) (k := 174) (oi := _) (v := ?_) rfl rfl (by kernel_rfl) (by kernel_rfl) (by kernel_rfl) (fun _ _ _ h => h) (by rfl) ?_ (by assumption) ?_
                    rotate_left
                    · intro W hSw; (try dsimp only at hSw); go_simp; (try with_reducible rfl)
                    simp only [Act.put, List.setIfInBounds_toArray, List.set_cons_zero, List.set_cons_succ]
                    refine takeH (i := 16) (k := 175) (oi := _) (v := ?_) rfl rfl (by kernel_rfl) (by kernel_rfl) (by kernel_rfl) (fun _ _ _ h => h) (by rfl) ?_ (by assumption) ?_
                    rotate_left
                    · intro W hSw; (try dsimp only at hSw); go_simp; (try with_reducible rfl)
                    simp only [Act.put, List.setIfInBounds_toArray, List.set_cons_zero, List.set_cons_succ]
                    refine takeH (i := 17) (k := 176) (oi := _) (v := ?_) rfl rfl (by kernel_rfl) (by kernel_rfl) (by kernel_rfl) (fun _ _ _ h => h) (by rfl) ?_ (by assumption) ?_
                    rotate_left
                    · intro W hSw; (try dsimp only at hSw); go_simp; (try with_reducible rfl)
                    simp only [Act.put, List.setIfInBounds_toArray, List.set_cons_zero, List.set_cons_succ]
                    refine takeH (i := 18) (k := 177) (oi := _) (v := ?_) rfl rfl (by kernel_rfl) (by kernel_rfl) (by kernel_rfl) (fun _ _ _ h => h) (by rfl) ?_ (by assumption) ?_
                    rotate_left
                    · intro W hSw; (try dsimp only at hSw); go_simp; (try with_reducible rfl)
                    simp only [Act.put, List.setIfInBounds_toArray, List.set_cons_zero, List.set_cons_succ]
                    refine takeH (i := 19) (k := 178) (oi := _) (v := ?_) rfl rfl (by kernel_rfl) (by kernel_rfl) (by kernel_rfl) (fun _ _ _ h => h) (by rfl) ?_ (by assumption) ?_
                    rotate_left
                    · intro W hSw; (try dsimp only at hSw); go_simp; (try with_reducible rfl)
                    simp only [Act.put, List.setIfInBounds_toArray, List.set_cons_zero, List.set_cons_succ]
                    refine takeH (i := 20) (k := 179) (oi := _) (v := ?_) rfl rfl (by kernel_rfl) (by kernel_rfl) (by kernel_rfl) (fun _ _ _ h => h) (by rfl) ?_ (by assumption) ?_
                    rotate_left
                    · intro W hSw; (try dsimp only at hSw); go_simp; (try with_reducible rfl)
                    simp only [Act.put, List.setIfInBounds_toArray, List.set_cons_zero, List.set_cons_succ]
                    refine takeH (i := 21) (k := 180) (oi := _) (v := ?_) rfl rfl (by kernel_rfl) (by kernel_rfl) (by kernel_rfl) (fun _ _ _ h => h) (by rfl) ?_ (by assumption) ?_
                    rotate_left
                    · intro W hSw; (try dsimp only at hSw); go_simp; (try with_reducible rfl)
                    simp only [Act.put, List.setIfInBounds_toArray, List.set_cons_zero, List.set_cons_succ]
                    refine takeH (i := 22) (k := 181) (oi := _) (v := ?_) rfl rfl (by kernel_rfl) (by kernel_rfl) (by kernel_rfl) (fun _ _ _ h => h) (by rfl) ?_ (by assumption) ?_
                    rotate_left
                    · intro W hSw; (try dsimp only at hSw); go_simp; (try with_reducible rfl)
                    simp only [Act.put, List.setIfInBounds_toArray, List.set_cons_zero, List.set_cons_succ]
                    refine takeH (i := 23) (k := 182) (oi := _) (v := ?_) rfl rfl (by kernel_rfl) (by kernel_rfl) (by kernel_rfl) (fun _ _ _ h => h) (by rfl) ?_ (by assumption) ?_
                    rotate_left
                    · intro W hSw; (try dsimp only at hSw); go_simp; (try with_reducible rfl)
                    simp only [Act.put, List.setIfInBounds_toArray, List.set_cons_zero, List.set_cons_succ]
                    refine takeH (i := 24) (k := 183) (oi := _) (v := ?_) rfl rfl (by kernel_rfl) (by kernel_rfl) (by kernel_rfl) (fun _ _ _ h => h) (by rfl) ?_ (by assumption) ?_
                    rotate_left
                    · intro W hSw; (try dsimp only at hSw); go_simp; (try with_reducible rfl)
                    simp only [Act.put, List.setIfInBounds_toArray, List.set_cons_zero, List.set_cons_succ]
                    refine takeH (i := 25) (k := 184) (oi := _) (v := ?_) rfl rfl (by kernel_rfl) (by kernel_rfl) (by kernel_rfl) (fun _ _ _ h => h) (by rfl) ?_ (by assumption) ?_
                    rotate_left
                    · intro W hSw; (try dsimp only at hSw); go_simp; (try with_reducible rfl)
                    simp only [Act.put, List.setIfInBounds_toArray, List.set_cons_zero, List.set_cons_succ]
                    refine wpAnyH_ready (rs := [26]) (by kernel_rfl) (by simp) ?_
                    refine AllReadyH.cons (o := _) rfl (fun K hK => ?_) AllReadyH.nil
                    go_simp; go_at_call 27; refine (scheck_yes sW sa sl sc _ HOK.out).mono ?_; rintro e wk ⟨rfl, rfl⟩; have hkb : b < wv.heap.size := (by have := HBX.out.size; omega); dsimp only
                    refine hK.out _ _ (by first | exact hHeld | go_keep) (fun hHeld => ?_)
                    clear hK K
                    refine takeH (i := 27) (k := 186) (oi := _) (v := ?_) rfl rfl (by kernel_rfl) (by kernel_rfl) (by kernel_rfl) (fun _ _ _ h => h) (by rfl) ?_ (by assumption) ?_
                    rotate_left
                    · intro W hSw; (try dsimp only at hSw); go_simp; (try with_reducible rfl)
                    simp only [Act.put, List.setIfInBounds_toArray, List.set_cons_zero, List.set_cons_succ]
                    refine takeH (i := 28) (k := 187) (oi := _) (v := ?_) rfl rfl (by kernel_rfl) (by kernel_rfl) (by kernel_rfl) (fun _ _ _ h => h) (by rfl) ?_ (by assumption) ?_
                    rotate_left
                    · intro W hSw; (try dsimp only at hSw); go_simp; (try with_reducible rfl)
                    simp only [Act.put, List.setIfInBounds_toArray, List.set_cons_zero, List.set_cons_succ]
                    refine wpAnyH_done (by kernel_rfl) ?_ _
                    obtain ⟨y0, y1, y2, y3, _, _, _, _, zy⟩ := ((HXX.out.drew).alloc (.cells #[.int .i64 sW, .int .i64 sa, .int .i64 sl, .int .i64 sc] 25)).four
                    go_wp2
                    go_roundw
                    case rel => exact ⟨i + 1, by omega, by go_num, by rw [HST.out], Lib.hid (by first | exact HRX.out.drew.alloc _ | exact (HRX.out.alloc _).drew), Lib.hid (by first | exact HPX.out.drew.alloc _ | exact (HPX.out.alloc _).drew), Lib.hid (by first | exact HBX.out.drew.alloc HBX.out.size _ | exact (HBX.out.alloc HBX.out.size _).drew), Lib.hid (by first | exact HBo2.out.drew.alloc HBo2.out.size _ | exact (HBo2.out.alloc HBo2.out.size _).drew)⟩
                    case measure => simp [intOf]; omega
              · obtain rfl : i = S.length := by omega
                have hlS : S2.length = S.length := HR.out.len
                rw [List.take_of_length_le (by omega)] at sb0 sb1 ⊢
                rw [HT4.out] at sb0 sb1 ⊢
                have hsz := HB.out.size
                go_wp2
                go_roundw
                case rel => exact ⟨j + 1, vr2, S2, row2.length, row2, by omega, by omega, by go_num, by rw [HT4.out], by rw [HT4.out]; omega, HR, HIZ, HP, HB, by have := HBo.out.size; omega⟩
                case measure => simp [intOf]; omega
        · have hd : (j : Int) ≤ m ∧ ¬ (j : Int) ≤ 60 ∨ ¬ (j : Int) ≤ m := by omega
          clear hin
          rcases hd with ⟨h1, h2⟩ | h1
          all_goals
            go_wp2
            go_ret
            exact ⟨rfl, HB.out⟩
theorem roadKeeps_walk (A : Option Addr) (c : Nat) (S : List Src) (w : World) (hs : Srcs w w.heap.size A c S) (_ : True) (r p k : Int) (_ : (Lit.int .i64 r).wf = true) (_ : (Lit.int .i64 p).wf = true) (_ : (Lit.int .i64 k).wf = true) (m : Int) (_ : (Lit.int .i64 m).wf = true) :
    Calls Try.prog 4 #[.slice A S.length c, .agg #[.int .i64 r, .int .i64 p, .int .i64 k], .int .i64 m] w fun e w' => e = .returned (.bool true) ∧ Below w.heap.size w w' := by
  by_cases he : newErr S r p k = 0
  · unfold newErr at he
    split at he
    · rename_i h1
      split at he
      · rename_i h2
        split at he
        · rename_i h3
          subst h3
          exact roadKeeps_yes A c S w hs r p m h1 h2
        · omega
      · omega
    · rename_i h1; exact absurd he h1
  · exact roadKeeps_no A c S w hs r p k m _ rfl he
end Go.Proofs.Ythffjnfnfddpdaa
