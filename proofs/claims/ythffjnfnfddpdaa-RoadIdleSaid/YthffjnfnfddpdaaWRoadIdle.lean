/- The walk of RoadIdle: it returns true for every input. -/
import Derived.Test.YthffjnfnfddpdaaRoadInv
import Derived.Deep.RegionHeld3
namespace Go.Proofs.Ythffjnfnfddpdaa
open Go.RowKit
attribute [local go_sem ↓] run_min_mn run_max_mx
theorem Srcs.one {w : World} {b B : Nat} {s : Src} (h : Blk w b 25 #[.int .i64 s.W, .int .i64 s.a, .int .i64 s.l, .int .i64 s.c]) (hB : b < B) : Srcs w B (some ⟨b, 0, none⟩) 1 [s] :=
  ⟨⟨rfl, fun _ => ⟨b, 0, rfl, hB, fun j u hu => by rw [Nat.zero_add, h.cell j]; simpa [srcCells, Src.cells] using hu⟩⟩, Nat.le_refl _, by simp [maxLen]⟩
theorem idle_came (W : Int) : cameOf [⟨W, 0, 0, 0⟩] = 0 := by simp [cameOf, Src.n, sentN]; omega
theorem idle_sends (W : Int) : sends 0 [⟨W, 0, 0, 0⟩] = [] := by
  have : (⟨W, 0, 0, 0⟩ : Src).n = 0 := by simp [Src.n, sentN]; omega
  simp [sends, this]
theorem idle_sent (W : Int) : [(⟨W, 0, 0, 0⟩ : Src)].map Src.sent = [⟨W, 0, 0, 0⟩] := by
  have : (⟨W, 0, 0, 0⟩ : Src).n = 0 := by simp [Src.n, sentN]; omega
  simp [Src.sent, this]
theorem idle_tick (w : World) (base g gs cs : Nat) (vr : Value) (W r p : Int) (h : RoadAt w base g gs cs 1 vr [⟨W, 0, 0, 0⟩] r p 0 []) (hb : base ≤ w.heap.size) (hi : RInv [0] [⟨W, 0, 0, 0⟩] r p 0 []) :
    Calls Try.prog 23 #[.pointer (some ⟨g, 0, none⟩)] w fun e w' => ∃ vr', e = .returned (.agg #[.int .i64 0, .int .i64 0, .int .i64 0]) ∧ RoadAt w' base g gs cs 1 vr' [⟨W, 0, 0, 0⟩] r p 0 [] ∧ Below base w w' := by
  obtain ⟨q0, q1, q2, q3, q4, q5⟩ := hi.pool
  have e1 : PP.went p 0 0 = 0 := by unfold PP.went; omega
  have e2 : PP.left r p 0 0 = 0 := by unfold PP.left; rw [e1]; omega
  have e3 : PP.lost r p 0 0 = 0 := by unfold PP.lost; rw [e1, e2]; omega
  refine (tick_any w base g gs cs 1 vr [⟨W, 0, 0, 0⟩] r p 0 [] h hb hi.tick).mono ?_
  rintro e w' ⟨vr', he, hr, hbw, _⟩
  rw [idle_came, e1, e2, e3] at he
  rw [idle_came, e1, e2, idle_sends, idle_sent] at hr
  exact ⟨vr', he, hr, hbw⟩
set_option maxHeartbeats 4000000 in
set_option maxRecDepth 100000 in
theorem roadIdle_no (W r p k m er : Int) (w : World) (he : newErr [⟨W, 0, 0, 0⟩] r p k = er) (hp : er ≠ 0) :
    Calls Try.prog 3 #[.int .i64 W, .agg #[.int .i64 r, .int .i64 p, .int .i64 k], .int .i64 m] w fun e w' => e = .returned (.bool true) ∧ Below w.heap.size w w' := by
  have HN := Lib.hid fun (A : Option Addr) (W' : World) (h : Srcs W' W'.heap.size A 1 [⟨W, 0, 0, 0⟩]) => rnew_no A 1 [⟨W, 0, 0, 0⟩] r p k er W' h he hp
  clear he hp
  go_enter Try.func3, Try.ntmps3
  go_wp2_with fail
  refine (HN.out _ _ (Srcs.one (s := ⟨W, 0, 0, 0⟩) (Blk.new' _ _ _ (by simp)) (by simp))).mono ?_; rintro e w1 ⟨rfl, hb1⟩
  go_wp2
  go_ret
  exact ⟨rfl, (((Below.refl _ _).alloc (Nat.le_refl _) _).alloc (by simp) _).trans (hb1.mono (by simp; omega))⟩
set_option maxHeartbeats 8000000 in
set_option maxRecDepth 100000 in
theorem roadIdle_yes (W r p m : Int) (w : World) (he : roadErr [⟨W, 0, 0, 0⟩] = 0) (hp : PoolOk r p 0) :
    Calls Try.prog 3 #[.int .i64 W, .agg #[.int .i64 r, .int .i64 p, .int .i64 0], .int .i64 m] w fun e w' => e = .returned (.bool true) ∧ Below w.heap.size w w' := by
  have HN := Lib.hid fun (A : Option Addr) (W' : World) (h : Srcs W' W'.heap.size A 1 [⟨W, 0, 0, 0⟩]) => rnew_yes A 1 [⟨W, 0, 0, 0⟩] r p W' h he hp
  have HI : Hid (RInv [0] [⟨W, 0, 0, 0⟩] r p 0 []) := Lib.hid (RInv.start (S := [⟨W, 0, 0, 0⟩]) he hp)
  clear he hp
  have HP0 := Lib.hid ((Blk.new w 23 #[.int .i64 r, .int .i64 p, .int .i64 0]).alloc (.cells #[.int .i64 W, .int .i64 0, .int .i64 0, .int .i64 0] 25))
  have HS0 := Lib.hid (Blk.new' (w.alloc (.cells #[.int .i64 r, .int .i64 p, .int .i64 0] 23)) 25 #[.int .i64 W, .int .i64 0, .int .i64 0, .int .i64 0] (g := w.heap.size + 1) (by simp))
  have HB0 := Lib.hid (((Below.refl w.heap.size w).alloc (Nat.le_refl _) (.cells #[.int .i64 r, .int .i64 p, .int .i64 0] 23)).alloc (by simp) (.cells #[.int .i64 W, .int .i64 0, .int .i64 0, .int .i64 0] 25))
  go_enter Try.func3, Try.ntmps3
  go_wp2_with fail
  refine (HN.out _ _ (Srcs.one (s := ⟨W, 0, 0, 0⟩) (Blk.new' _ _ _ (by simp)) (by simp))).mono ?_; rintro e w1 ⟨g, gs, cs, rfl, hr1, hb1⟩
  have HP1 := Lib.hid (HP0.out.go hb1)
  have HS1 := Lib.hid (HS0.out.go hb1)
  have HB1 := Lib.hid (HB0.out.trans (hb1.mono (by simp; omega)))
  obtain ⟨base, hbase⟩ : ∃ x, x = ((w.alloc (.cells #[.int .i64 r, .int .i64 p, .int .i64 0] 23)).alloc (.cells #[.int .i64 W, .int .i64 0, .int .i64 0, .int .i64 0] 25)).heap.size := ⟨_, rfl⟩
  rw [← hbase] at hr1
  have hbs : base ≤ w1.heap.size := by rw [hbase]; exact hb1.size
  have hb2 : w.heap.size + 1 < base := by rw [hbase]; simp
  have HR1 := Lib.hid hr1
  clear hr1 hb1 hbase HP0 HS0 HB0 HN
  go_wp2
  go_loopw [10] (fun i wr => ∃ (j : Nat) (vr : Value), j ≤ 20 ∧ i = .int .i64 j ∧ Hid (RoadAt wr base g gs cs 1 vr [⟨W, 0, 0, 0⟩] r p 0 []) ∧ Hid (Blk wr w.heap.size 23 #[.int .i64 r, .int .i64 p, .int .i64 0]) ∧ Hid (Blk wr (w.heap.size + 1) 25 #[.int .i64 W, .int .i64 0, .int .i64 0, .int .i64 0]) ∧ Hid (Below w.heap.size w wr) ∧ base ≤ wr.heap.size) (fun i _ => 20 - (intOf i).toNat)
  case atStart => exact ⟨0, _, by omega, rfl, HR1, HP1, HS1, HB1, hbs⟩
  case round =>
    clear HR1 HP1 HS1 HB1 hbs
    obtain ⟨j, vr, hj, rfl, HR, HP, HS, HB, hbs⟩ := hrel
    by_cases hin : (j : Int) < m ∧ (j : Int) < 20
    · obtain ⟨h1, h2⟩ := hin
      go_wp2_with fail
      refine (idle_tick _ base g gs cs vr W r p HR.out hbs HI.out).mono ?_; rintro e wz ⟨vr', rfl, hrz, hbz⟩
      have HRZ := Lib.hid hrz
      have HPZ := Lib.hid (HP.out.below hbz (by omega))
      have HSZ := Lib.hid (HS.out.below hbz (by omega))
      have HBZ := Lib.hid (HB.out.trans (hbz.mono (by omega)))
      have hsz := hbz.size
      clear hrz hbz
      go_wp2
      go_roundw
      case rel => exact ⟨j + 1, vr', by omega, by go_num, Lib.hid (HRZ.out.alloc _), Lib.hid (HPZ.out.alloc _), Lib.hid (HSZ.out.alloc _), Lib.hid (HBZ.out.alloc HBZ.out.size _), by simp; omega⟩
      case measure => simp [intOf]; omega
    · have hd : (j : Int) < m ∧ ¬ (j : Int) < 20 ∨ ¬ (j : Int) < m := by omega
      clear hin
      obtain ⟨ps0, ps1, ps2, ps3, _, _, _, _, zs, _, _, _⟩ := HS.out.four'
      obtain ⟨pp0, pp1, pp2, _, _, _, zp, _, _, _⟩ := HP.out.three'
      rcases hd with ⟨h1, h2⟩ | h1
      all_goals
        go_wp2_with fail
        refine (rsource_in _ base g gs cs 1 vr [⟨W, 0, 0, 0⟩] r p 0 [] HR.out 0 ⟨W, 0, 0, 0⟩ rfl (by omega)).mono ?_; rintro e wz ⟨rfl, hbz⟩
        have HRZ := Lib.hid (HR.out.below hbz)
        have HPZ := Lib.hid (HP.out.go hbz)
        have HSZ := Lib.hid (HS.out.go hbz)
        have HBZ := Lib.hid (HB.out.trans (hbz.mono HB.out.size))
        clear hbz ps0 ps1 ps2 ps3 pp0 pp1 pp2 zs zp HR HP HS HB
        dsimp only [Src.val]
        go_wp2_with fail
        have HRY := Lib.hid (HRZ.out.alloc (.cells #[.int .i64 W, .int .i64 0, .int .i64 0, .int .i64 0] 25))
        have HPY := Lib.hid (HPZ.out.alloc (.cells #[.int .i64 W, .int .i64 0, .int .i64 0, .int .i64 0] 25))
        have HSY := Lib.hid (HSZ.out.alloc (.cells #[.int .i64 W, .int .i64 0, .int .i64 0, .int .i64 0] 25))
        have HXY := Lib.hid (Blk.new wz 25 #[.int .i64 W, .int .i64 0, .int .i64 0, .int .i64 0])
        have HBY := Lib.hid (HBZ.out.alloc HBZ.out.size (.cells #[.int .i64 W, .int .i64 0, .int .i64 0, .int .i64 0] 25))
        have hz1 := HSZ.out.lt
        have hz2 := HPZ.out.lt
        clear HRZ HPZ HSZ HBZ h1
        try clear h2
        obtain ⟨wy, hwy⟩ : ∃ x, x = wz.alloc (.cells #[.int .i64 W, .int .i64 0, .int .i64 0, .int .i64 0] 25) := ⟨_, rfl⟩
        rw [← hwy] at HRY HPY HSY HXY HBY ⊢
        obtain ⟨gx, hgx⟩ : ∃ x, x = wz.heap.size := ⟨_, rfl⟩
        rw [← hgx] at HXY ⊢
        clear hwy hgx hz1 hz2
        obtain ⟨x0, x1, x2, x3, _, _, _, _, zx⟩ := HXY.out.four
        obtain ⟨s0, s1, s2, s3, _, _, _, _, zs⟩ := HSY.out.four
        obtain ⟨p0, p1, p2, _, _, _, zp⟩ := HPY.out.three
        go_region_held3 (fun w' => w'.cell? ⟨gx, 0, none⟩ = some (.int .i64 W) ∧ w'.cell? ⟨gx, 1, none⟩ = some (.int .i64 0) ∧ w'.cell? ⟨gx, 2, none⟩ = some (.int .i64 0) ∧ w'.cell? ⟨gx, 3, none⟩ = some (.int .i64 0) ∧ w'.cell? ⟨w.heap.size + 1, 0, none⟩ = some (.int .i64 W) ∧ w'.cell? ⟨w.heap.size + 1, 1, none⟩ = some (.int .i64 0) ∧ w'.cell? ⟨w.heap.size + 1, 2, none⟩ = some (.int .i64 0) ∧ w'.cell? ⟨w.heap.size + 1, 3, none⟩ = some (.int .i64 0) ∧ w'.cell? ⟨w.heap.size, 0, none⟩ = some (.int .i64 r) ∧ w'.cell? ⟨w.heap.size, 1, none⟩ = some (.int .i64 p) ∧ w'.cell? ⟨w.heap.size, 2, none⟩ = some (.int .i64 0)) (go_keep)
          (first
            | (go_simp; go_at_call 25; refine (rpool_any _ base g gs cs 1 vr [⟨W, 0, 0, 0⟩] r p 0 [] (by first | exact HRY.out | exact HRY.out.drew)).mono ?_; rintro e wp ⟨rfl, hbp⟩; have HBP : Hid (Below wy.heap.size wy wp) := Lib.hid (by first | exact hbp | exact (Below.refl _ _).drew.trans hbp); have HRP := Lib.hid (HRY.out.below HBP.out); have HXP := Lib.hid (HXY.out.go HBP.out); have HSP := Lib.hid (HSY.out.go HBP.out); have HPP := Lib.hid (HPY.out.go HBP.out); have HBW := Lib.hid (HBY.out.trans (HBP.out.mono HBY.out.size)); clear hbp; obtain ⟨y0, y1, y2, y3, _, _, _, _, zy⟩ := HXP.out.four; obtain ⟨t0, t1, t2, t3, _, _, _, _, zt⟩ := HSP.out.four; obtain ⟨q0, q1, q2, _, _, _, zq⟩ := HPP.out.three; dsimp only)
            | (go_simp; go_at_call 26; refine (rwaits_any _ base g gs cs 1 vr [⟨W, 0, 0, 0⟩] r p 0 [] (by first | exact HRP.out | exact HRP.out.drew) (by simp)).mono ?_; rintro e wq ⟨v, rfl, hov, hbq⟩; have HBQ : Hid (Below wp.heap.size wp wq) := Lib.hid (by first | exact hbq | exact (Below.refl _ _).drew.trans hbq); have HXQ := Lib.hid (HXP.out.go HBQ.out); have HSQ := Lib.hid (HSP.out.go HBQ.out); have HPQ := Lib.hid (HPP.out.go HBQ.out); have HBV := Lib.hid (HBW.out.trans (HBQ.out.mono HBW.out.size)); obtain ⟨Av, cv, rfl, _, _, _⟩ := owns_reads hov; clear hbq hov; obtain ⟨y0', y1', y2', y3', _, _, _, _, zy'⟩ := HXQ.out.four; obtain ⟨t0', t1', t2', t3', _, _, _, _, zt'⟩ := HSQ.out.four; obtain ⟨q0', q1', q2', _, _, _, zq'⟩ := HPQ.out.three; dsimp only))
        all_goals
          go_wp2
          go_ret
          exact ⟨rfl, HBV.out⟩
theorem roadIdle_walk (W : Int) (_ : (Lit.int .i64 W).wf = true) (r p k : Int) (_ : (Lit.int .i64 r).wf = true) (_ : (Lit.int .i64 p).wf = true) (_ : (Lit.int .i64 k).wf = true) (m : Int) (_ : (Lit.int .i64 m).wf = true) (w : World) :
    Calls Try.prog 3 #[.int .i64 W, .agg #[.int .i64 r, .int .i64 p, .int .i64 k], .int .i64 m] w fun e w' => e = .returned (.bool true) ∧ Below w.heap.size w w' := by
  by_cases he : newErr [⟨W, 0, 0, 0⟩] r p k = 0
  · unfold newErr at he
    split at he
    · rename_i h1
      split at he
      · rename_i h2
        split at he
        · rename_i h3
          subst h3
          exact roadIdle_yes W r p m w h1 h2
        · omega
      · omega
    · rename_i h1; exact absurd he h1
  · exact roadIdle_no W r p k m _ w rfl he
end Go.Proofs.Ythffjnfnfddpdaa
