/- FracTells: some of its ways. -/
import Derived.Test.YtblanfaghnflkaaDoorFracSameF
namespace Go.Proofs.YtblanfaghnflkaaDoor
open Go.RowKit
attribute [local go_sem ↓] run_min_mn run_max_mx
set_option maxHeartbeats 16000000 in
set_option maxRecDepth 100000 in
theorem fracTells_bad_x_x_x (t : Int) (b : Int) (a1 a2 : Int) (b1 b2 : Int) (n : Int) (w : World) (hg : Laid w) (fa : Int) (hf : fracErr a1 a2 = fa) (hfa : fa ≠ 0) :
    Calls Tryd.prog 3 #[.int .i64 t, .int .i64 b, .agg #[.int .i64 a1, .int .i64 a2], .agg #[.int .i64 b1, .int .i64 b2], .int .i64 n] w fun e w' => e = .returned (.bool true) ∧ Below w.heap.size w w' := by
  have h2 : fracs2 a1 a2 b1 b2 = fa := by unfold fracs2; rw [hf, if_pos hfa]
  have HFA := Lib.hid (show ∀ W : World, Calls Tryd.prog 16 #[.agg #[.int .i64 a1, .int .i64 a2]] W fun e w' => e = .returned (.int .i64 fa) ∧ Below W.heap.size W w' from fun W => by have := refFrac_any a1 a2 W; rwa [hf] at this)
  have HCA := Lib.hid (show ∀ W : World, Calls Tryd.prog 17 #[.agg #[.int .i64 a1, .int .i64 a2]] W fun e w' => e = .returned (.iface 119 (.int .i64 fa)) ∧ Below W.heap.size W w' from fun W => fcheck_no a1 a2 fa W hf hfa)
  have HTM := Lib.hid (show ∀ W : World, Calls Tryd.prog 19 #[.agg #[.int .i64 a1, .int .i64 a2], .int .i64 n] W fun e w' => e = .returned (.tuple #[.agg #[.int .i64 0, .int .i64 0], .iface 119 (.int .i64 fa)]) ∧ Below W.heap.size W w' from fun W => times_bad a1 a2 n fa W hf hfa)
  have HBY := Lib.hid (show ∀ W : World, Calls Tryd.prog 20 #[.agg #[.int .i64 a1, .int .i64 a2], .int .i64 n] W fun e w' => e = .returned (.tuple #[.agg #[.int .i64 0, .int .i64 0], .iface 119 (.int .i64 fa)]) ∧ Below W.heap.size W w' from fun W => by_bad a1 a2 n fa W hf hfa)
  have HCM := Lib.hid (show ∀ W : World, Calls Tryd.prog 22 #[.agg #[.int .i64 a1, .int .i64 a2], .agg #[.int .i64 b1, .int .i64 b2]] W fun e w' => e = .returned (.tuple #[.int .i64 0, .iface 119 (.int .i64 fa)]) ∧ Below W.heap.size W w' from fun W => fcompare_no a1 a2 b1 b2 fa W h2 hfa)
  have HAD := Lib.hid (show ∀ W : World, Calls Tryd.prog 24 #[.agg #[.int .i64 a1, .int .i64 a2], .agg #[.int .i64 b1, .int .i64 b2]] W fun e w' => e = .returned (.tuple #[.agg #[.int .i64 0, .int .i64 0], .iface 119 (.int .i64 fa)]) ∧ Below W.heap.size W w' from fun W => fadd_no a1 a2 b1 b2 fa W h2 hfa)
  have HFN := Lib.hid hfa
  have q0 : (fa == 0) = false := beq_eq_false_iff_ne.2 hfa
  clear hf hfa h2
  have LAID := Lib.hid hg; clear hg
  obtain ⟨o1, o2, oe, ob, hOF, hofc⟩ := of_tell t b
  have HOF := Lib.hid hOF; have HOFC := Lib.hid hofc
  clear hOF hofc
  have hA0 := Lib.hid (((Blk.new w 23 #[.int .i64 a1, .int .i64 a2]).alloc (.cells #[.int .i64 b1, .int .i64 b2] 23)).alloc (.cells #[.int .i64 0, .int .i64 0] 23))
  have hB0 := Lib.hid ((Blk.new' (w.alloc (.cells #[.int .i64 a1, .int .i64 a2] 23)) 23 #[.int .i64 b1, .int .i64 b2] (g := w.heap.size + 1) (by simp)).alloc (.cells #[.int .i64 0, .int .i64 0] 23))
  have hW0 := Lib.hid (Blk.new' ((w.alloc (.cells #[.int .i64 a1, .int .i64 a2] 23)).alloc (.cells #[.int .i64 b1, .int .i64 b2] 23)) 23 #[.int .i64 0, .int .i64 0] (g := w.heap.size + 1 + 1) (by simp))
  have hL0 := Lib.hid ((((Below.refl w.heap.size w).alloc (Nat.le_refl _) (.cells #[.int .i64 a1, .int .i64 a2] 23)).alloc (by simp) (.cells #[.int .i64 b1, .int .i64 b2] 23)).alloc (by simp; omega) (.cells #[.int .i64 0, .int .i64 0] 23))
  go_enter Tryd.func3, Tryd.ntmps3
  go_upto_region 3 with (fail)
  go_cut [40] (fun s40 wx => s40 = .bool ob ∧ Hid (Blk wx w.heap.size 23 #[.int .i64 a1, .int .i64 a2]) ∧ Hid (Blk wx (w.heap.size + 1) 23 #[.int .i64 b1, .int .i64 b2]) ∧ Hid (Blk wx (w.heap.size + 1 + 1) 23 #[.int .i64 0, .int .i64 0]) ∧ Hid (Below w.heap.size w wx))
  case first =>
    rcases HOFC.out with ⟨h, _, _, _, h4⟩ | ⟨h, _, _, _, h4⟩
    · subst h4
      unfold FracIn at h
      by_cases q1 : b < 1
      · go_wp2
        go_meet
        exact ⟨rfl, hA0, hB0, hW0, hL0⟩
      · by_cases q2 : 100000000 < b
        · go_wp2
          go_meet
          exact ⟨rfl, hA0, hB0, hW0, hL0⟩
        · by_cases q3 : t < -1000000000
          · go_wp2
            go_meet
            exact ⟨rfl, hA0, hB0, hW0, hL0⟩
          · have q4 : 1000000000 < t := by omega
            clear h
            go_wp2
            go_meet
            exact ⟨rfl, hA0, hB0, hW0, hL0⟩
    · subst h4
      obtain ⟨i0, i1, i2, i3⟩ := h
      have q1 : decide (b < 1) = false := decide_eq_false (by omega)
      have q2 : decide (100000000 < b) = false := decide_eq_false (by omega)
      have q3 : decide (t < -1000000000) = false := decide_eq_false (by omega)
      have q4 : decide (1000000000 < t) = false := decide_eq_false (by omega)
      go_wp2
      go_meet
      exact ⟨rfl, hA0, hB0, hW0, hL0⟩
  case rest =>
    obtain ⟨rfl, HA, HB, HW, HL⟩ := hcut
    clear hA0 hB0 hW0 hL0
    obtain ⟨wd, hwd⟩ : ∃ x, x = wc := ⟨_, rfl⟩
    rw [← hwd] at HA HB HW HL ⊢
    clear hwd
    go_upto_if 40 with (fail)
    go_cut [11] (fun s11 wx => s11 = .int .i64 oe ∧ Hid (Blk wx w.heap.size 23 #[.int .i64 a1, .int .i64 a2]) ∧ Hid (Blk wx (w.heap.size + 1) 23 #[.int .i64 b1, .int .i64 b2]) ∧ Hid (Blk wx (w.heap.size + 1 + 1) 23 #[.int .i64 o1, .int .i64 o2]) ∧ Hid (Below w.heap.size w wx))
    case first =>
      rcases HOFC.out with ⟨h, h1, h2, h3, h4⟩ | ⟨h, h1, h2, h3, h4⟩
      · subst h1 h2 h3 h4
        go_wp2
        go_meet
        exact ⟨rfl, HA, HB, HW, HL⟩
      · subst h3 h4
        obtain ⟨i0, i1, i2, i3⟩ := h
        have HLW := Lib.hid fun W => by have := refLow_any t b W (by omega) (by omega) (by omega) (by omega); rw [h1, h2] at this; exact this
        clear h1 h2
        go_wp2_with fail
        refine (HLW.out _).mono ?_; rintro e wq ⟨rfl, hb⟩
        have KA := Lib.hid (HA.out.go hb); have KB := Lib.hid (HB.out.go hb); have KW := Lib.hid (HW.out.go hb); have KL := Lib.hid (HL.out.trans (hb.mono HL.out.size))
        clear hb
        obtain ⟨w0, w1, f0, f1, wz⟩ := KW.out.two
        have e1 : w.heap.size ≠ w.heap.size + 1 + 1 := by omega
        have e2 : w.heap.size + 1 ≠ w.heap.size + 1 + 1 := by omega
        go_wp2
        go_meet
        exact ⟨rfl, Lib.hid ((KA.out.far (p := ⟨_, 0, none⟩) e1 _).far (p := ⟨_, 1, none⟩) e1 _), Lib.hid ((KB.out.far (p := ⟨_, 0, none⟩) e2 _).far (p := ⟨_, 1, none⟩) e2 _), Lib.hid ((KW.out.s2_0 _).s2_1 _), Lib.hid ((KL.out.setCell (p := ⟨_, 0, none⟩) (by show w.heap.size ≤ w.heap.size + 1 + 1; omega) _).setCell (p := ⟨_, 1, none⟩) (by show w.heap.size ≤ w.heap.size + 1 + 1; omega) _)⟩
    case rest =>
      clear HA HB HW HL
      obtain ⟨rfl, HA, HB, HW, HL⟩ := hcut
      go_wp2_with fail
      refine (HOF.out _).mono ?_; rintro e w1 ⟨rfl, hb1⟩
      have KA := Lib.hid ((HA.out.go hb1).alloc (.cells #[.int .i64 o1, .int .i64 o2] 23)); have KB := Lib.hid ((HB.out.go hb1).alloc (.cells #[.int .i64 o1, .int .i64 o2] 23)); have KW := Lib.hid ((HW.out.go hb1).alloc (.cells #[.int .i64 o1, .int .i64 o2] 23))
      have hl1 := HL.out.trans (hb1.mono HL.out.size)
      have KL := Lib.hid (hl1.alloc hl1.size (.cells #[.int .i64 o1, .int .i64 o2] 23))
      have KX := Lib.hid (Blk.new w1 23 #[.int .i64 o1, .int .i64 o2])
      obtain ⟨gX, hgX⟩ : ∃ x, x = w1.heap.size := ⟨_, rfl⟩
      rw [← hgX] at KX
      have hlt : w.heap.size + 1 + 1 < gX := by have := HW.out.lt; have := hb1.size; omega
      have S := Lib.hid (show FT w _ gX a1 a2 b1 b2 o1 o2 o1 o2 from ⟨KA.out, KB.out, KW.out, KX.out, KL.out, LAID.out.below KL.out, hlt⟩)
      clear HA HB HW HL KA KB KW KL KX hb1 hl1 HOF HOFC LAID
      go_wp2_with fail
      rw [← hgX]
      refine (same_yes oe _ S.out.laid).mono ?_; rintro e wq ⟨rfl, hb⟩
      replace S := Lib.hid (S.out.below hb)
      clear hb hgX hlt
      obtain ⟨ca0, ca1, cb0, cb1, cw0, cw1, cx0, cx1, fw0, fw1, fx0, fx1, za, zb, zw, zx, n1, n2, n3, n4, n5⟩ := S.out.open
      go_wp2_with fail
      refine (HFA.out _).mono ?_; rintro e wq ⟨rfl, hb⟩
      replace S := Lib.hid (S.out.below hb)
      clear ca0 ca1 cb0 cb1 cw0 cw1 cx0 cx1 fw0 fw1 fx0 fx1 za zb zw zx n1 n2 n3 n4 n5 hb
      obtain ⟨ca0, ca1, cb0, cb1, cw0, cw1, cx0, cx1, fw0, fw1, fx0, fx1, za, zb, zw, zx, n1, n2, n3, n4, n5⟩ := S.out.open
      go_wp2_with fail
      refine (HCA.out _).mono ?_; rintro e wq ⟨rfl, hb⟩
      replace S := Lib.hid (S.out.below hb)
      clear ca0 ca1 cb0 cb1 cw0 cw1 cx0 cx1 fw0 fw1 fx0 fx1 za zb zw zx n1 n2 n3 n4 n5 hb
      obtain ⟨ca0, ca1, cb0, cb1, cw0, cw1, cx0, cx1, fw0, fw1, fx0, fx1, za, zb, zw, zx, n1, n2, n3, n4, n5⟩ := S.out.open
      go_wp2_with fail
      refine (sameF_e fa _ S.out.laid HFN.out).mono ?_; rintro e wq ⟨rfl, hb⟩
      replace S := Lib.hid (S.out.below hb)
      clear ca0 ca1 cb0 cb1 cw0 cw1 cx0 cx1 fw0 fw1 fx0 fx1 za zb zw zx n1 n2 n3 n4 n5 hb
      obtain ⟨ca0, ca1, cb0, cb1, cw0, cw1, cx0, cx1, fw0, fw1, fx0, fx1, za, zb, zw, zx, n1, n2, n3, n4, n5⟩ := S.out.open
      go_wp2_with fail
      refine (HTM.out _).mono ?_; rintro e wq ⟨rfl, hb⟩
      replace S := Lib.hid ((S.out.setW 0 0).below hb)
      clear ca0 ca1 cb0 cb1 cw0 cw1 cx0 cx1 fw0 fw1 fx0 fx1 za zb zw zx n1 n2 n3 n4 n5 hb
      obtain ⟨ca0, ca1, cb0, cb1, cw0, cw1, cx0, cx1, fw0, fw1, fx0, fx1, za, zb, zw, zx, n1, n2, n3, n4, n5⟩ := S.out.open
      go_wp2_with fail
      refine (sameF_e fa _ (S.out.setX 0 0).laid HFN.out).mono ?_; rintro e wq ⟨rfl, hb⟩
      replace S := Lib.hid ((S.out.setX 0 0).below hb)
      clear ca0 ca1 cb0 cb1 cw0 cw1 cx0 cx1 fw0 fw1 fx0 fx1 za zb zw zx n1 n2 n3 n4 n5 hb
      obtain ⟨ca0, ca1, cb0, cb1, cw0, cw1, cx0, cx1, fw0, fw1, fx0, fx1, za, zb, zw, zx, n1, n2, n3, n4, n5⟩ := S.out.open
      go_wp2_with fail
      refine (HBY.out _).mono ?_; rintro e wq ⟨rfl, hb⟩
      replace S := Lib.hid ((S.out.setW 0 0).below hb)
      clear ca0 ca1 cb0 cb1 cw0 cw1 cx0 cx1 fw0 fw1 fx0 fx1 za zb zw zx n1 n2 n3 n4 n5 hb
      obtain ⟨ca0, ca1, cb0, cb1, cw0, cw1, cx0, cx1, fw0, fw1, fx0, fx1, za, zb, zw, zx, n1, n2, n3, n4, n5⟩ := S.out.open
      go_wp2_with fail
      refine (sameF_e fa _ (S.out.setX 0 0).laid HFN.out).mono ?_; rintro e wq ⟨rfl, hb⟩
      replace S := Lib.hid ((S.out.setX 0 0).below hb)
      clear ca0 ca1 cb0 cb1 cw0 cw1 cx0 cx1 fw0 fw1 fx0 fx1 za zb zw zx n1 n2 n3 n4 n5 hb
      obtain ⟨ca0, ca1, cb0, cb1, cw0, cw1, cx0, cx1, fw0, fw1, fx0, fx1, za, zb, zw, zx, n1, n2, n3, n4, n5⟩ := S.out.open
      go_wp2_with fail
      refine (HCM.out _).mono ?_; rintro e wq ⟨rfl, hb⟩
      replace S := Lib.hid (S.out.below hb)
      clear ca0 ca1 cb0 cb1 cw0 cw1 cx0 cx1 fw0 fw1 fx0 fx1 za zb zw zx n1 n2 n3 n4 n5 hb
      obtain ⟨ca0, ca1, cb0, cb1, cw0, cw1, cx0, cx1, fw0, fw1, fx0, fx1, za, zb, zw, zx, n1, n2, n3, n4, n5⟩ := S.out.open
      go_wp2_with fail
      refine (sameF_e fa _ S.out.laid HFN.out).mono ?_; rintro e wq ⟨rfl, hb⟩
      replace S := Lib.hid (S.out.below hb)
      clear ca0 ca1 cb0 cb1 cw0 cw1 cx0 cx1 fw0 fw1 fx0 fx1 za zb zw zx n1 n2 n3 n4 n5 hb
      obtain ⟨ca0, ca1, cb0, cb1, cw0, cw1, cx0, cx1, fw0, fw1, fx0, fx1, za, zb, zw, zx, n1, n2, n3, n4, n5⟩ := S.out.open
      go_wp2_with fail
      refine (HAD.out _).mono ?_; rintro e wq ⟨rfl, hb⟩
      replace S := Lib.hid ((S.out.setW 0 0).below hb)
      clear ca0 ca1 cb0 cb1 cw0 cw1 cx0 cx1 fw0 fw1 fx0 fx1 za zb zw zx n1 n2 n3 n4 n5 hb
      obtain ⟨ca0, ca1, cb0, cb1, cw0, cw1, cx0, cx1, fw0, fw1, fx0, fx1, za, zb, zw, zx, n1, n2, n3, n4, n5⟩ := S.out.open
      go_wp2_with fail
      refine (sameF_e fa _ (S.out.setX 0 0).laid HFN.out).mono ?_; rintro e wq ⟨rfl, hb⟩
      replace S := Lib.hid ((S.out.setX 0 0).below hb)
      clear ca0 ca1 cb0 cb1 cw0 cw1 cx0 cx1 fw0 fw1 fx0 fx1 za zb zw zx n1 n2 n3 n4 n5 hb
      obtain ⟨ca0, ca1, cb0, cb1, cw0, cw1, cx0, cx1, fw0, fw1, fx0, fx1, za, zb, zw, zx, n1, n2, n3, n4, n5⟩ := S.out.open
      have hfin := S.out.bel
      go_wp2
      go_ret
      exact ⟨rfl, hfin⟩
set_option maxHeartbeats 16000000 in
set_option maxRecDepth 100000 in
theorem fracTells_ok_lo_lo_er (t : Int) (b : Int) (a1 a2 : Int) (b1 b2 : Int) (n : Int) (w : World) (hg : Laid w) (hf : fracErr a1 a2 = 0) (n0 : n < -1000) (fb : Int) (hfb : fracErr b1 b2 = fb) (hb0 : fb ≠ 0) :
    Calls Tryd.prog 3 #[.int .i64 t, .int .i64 b, .agg #[.int .i64 a1, .int .i64 a2], .agg #[.int .i64 b1, .int .i64 b2], .int .i64 n] w fun e w' => e = .returned (.bool true) ∧ Below w.heap.size w w' := by
  obtain ⟨i0, i1, i2, i3⟩ := (frac_ok hf).1
  have HFA := Lib.hid (show ∀ W : World, Calls Tryd.prog 16 #[.agg #[.int .i64 a1, .int .i64 a2]] W fun e w' => e = .returned (.int .i64 0) ∧ Below W.heap.size W w' from fun W => by have := refFrac_any a1 a2 W; rwa [hf] at this)
  have HCA := Lib.hid (show ∀ W : World, Calls Tryd.prog 17 #[.agg #[.int .i64 a1, .int .i64 a2]] W fun e w' => e = .returned (.nilIface) ∧ Below W.heap.size W w' from fun W => fcheck_yes a1 a2 W hf)
  have HTM := Lib.hid (show ∀ W : World, Calls Tryd.prog 19 #[.agg #[.int .i64 a1, .int .i64 a2], .int .i64 n] W fun e w' => e = .returned (.tuple #[.agg #[.int .i64 0, .int .i64 0], .iface 119 (.int .i64 1)]) ∧ Below W.heap.size W w' from fun W => times_out0 a1 a2 n W hf (by omega))
  have HBY := Lib.hid (show ∀ W : World, Calls Tryd.prog 20 #[.agg #[.int .i64 a1, .int .i64 a2], .int .i64 n] W fun e w' => e = .returned (.tuple #[.agg #[.int .i64 0, .int .i64 0], .iface 119 (.int .i64 1)]) ∧ Below W.heap.size W w' from fun W => by_out0 a1 a2 n W hf (by omega))
  have h2 : fracs2 a1 a2 b1 b2 = fb := by unfold fracs2; rw [hf, if_neg (fun x => x rfl), hfb]
  have HFB := Lib.hid (show ∀ W : World, Calls Tryd.prog 16 #[.agg #[.int .i64 b1, .int .i64 b2]] W fun e w' => e = .returned (.int .i64 fb) ∧ Below W.heap.size W w' from fun W => by have := refFrac_any b1 b2 W; rwa [hfb] at this)
  have HCM := Lib.hid (show ∀ W : World, Calls Tryd.prog 22 #[.agg #[.int .i64 a1, .int .i64 a2], .agg #[.int .i64 b1, .int .i64 b2]] W fun e w' => e = .returned (.tuple #[.int .i64 0, .iface 119 (.int .i64 fb)]) ∧ Below W.heap.size W w' from fun W => fcompare_no a1 a2 b1 b2 fb W h2 hb0)
  have HAD := Lib.hid (show ∀ W : World, Calls Tryd.prog 24 #[.agg #[.int .i64 a1, .int .i64 a2], .agg #[.int .i64 b1, .int .i64 b2]] W fun e w' => e = .returned (.tuple #[.agg #[.int .i64 0, .int .i64 0], .iface 119 (.int .i64 fb)]) ∧ Below W.heap.size W w' from fun W => fadd_no a1 a2 b1 b2 fb W h2 hb0)
  have HFN := Lib.hid hb0
  have q0 : (fb == 0) = false := beq_eq_false_iff_ne.2 hb0
  clear hfb hb0 h2
  have r1 : n < 1 := by omega
  clear hf
  have LAID := Lib.hid hg; clear hg
  obtain ⟨o1, o2, oe, ob, hOF, hofc⟩ := of_tell t b
  have HOF := Lib.hid hOF; have HOFC := Lib.hid hofc
  clear hOF hofc
  have hA0 := Lib.hid (((Blk.new w 23 #[.int .i64 a1, .int .i64 a2]).alloc (.cells #[.int .i64 b1, .int .i64 b2] 23)).alloc (.cells #[.int .i64 0, .int .i64 0] 23))
  have hB0 := Lib.hid ((Blk.new' (w.alloc (.cells #[.int .i64 a1, .int .i64 a2] 23)) 23 #[.int .i64 b1, .int .i64 b2] (g := w.heap.size + 1) (by simp)).alloc (.cells #[.int .i64 0, .int .i64 0] 23))
  have hW0 := Lib.hid (Blk.new' ((w.alloc (.cells #[.int .i64 a1, .int .i64 a2] 23)).alloc (.cells #[.int .i64 b1, .int .i64 b2] 23)) 23 #[.int .i64 0, .int .i64 0] (g := w.heap.size + 1 + 1) (by simp))
  have hL0 := Lib.hid ((((Below.refl w.heap.size w).alloc (Nat.le_refl _) (.cells #[.int .i64 a1, .int .i64 a2] 23)).alloc (by simp) (.cells #[.int .i64 b1, .int .i64 b2] 23)).alloc (by simp; omega) (.cells #[.int .i64 0, .int .i64 0] 23))
  go_enter Tryd.func3, Tryd.ntmps3
  go_upto_region 3 with (fail)
  go_cut [40] (fun s40 wx => s40 = .bool ob ∧ Hid (Blk wx w.heap.size 23 #[.int .i64 a1, .int .i64 a2]) ∧ Hid (Blk wx (w.heap.size + 1) 23 #[.int .i64 b1, .int .i64 b2]) ∧ Hid (Blk wx (w.heap.size + 1 + 1) 23 #[.int .i64 0, .int .i64 0]) ∧ Hid (Below w.heap.size w wx))
  case first =>
    rcases HOFC.out with ⟨h, _, _, _, h4⟩ | ⟨h, _, _, _, h4⟩
    · subst h4
      unfold FracIn at h
      by_cases q1 : b < 1
      · go_wp2
        go_meet
        exact ⟨rfl, hA0, hB0, hW0, hL0⟩
      · by_cases q2 : 100000000 < b
        · go_wp2
          go_meet
          exact ⟨rfl, hA0, hB0, hW0, hL0⟩
        · by_cases q3 : t < -1000000000
          · go_wp2
            go_meet
            exact ⟨rfl, hA0, hB0, hW0, hL0⟩
          · have q4 : 1000000000 < t := by omega
            clear h
            go_wp2
            go_meet
            exact ⟨rfl, hA0, hB0, hW0, hL0⟩
    · subst h4
      obtain ⟨i0, i1, i2, i3⟩ := h
      have q1 : decide (b < 1) = false := decide_eq_false (by omega)
      have q2 : decide (100000000 < b) = false := decide_eq_false (by omega)
      have q3 : decide (t < -1000000000) = false := decide_eq_false (by omega)
      have q4 : decide (1000000000 < t) = false := decide_eq_false (by omega)
      go_wp2
      go_meet
      exact ⟨rfl, hA0, hB0, hW0, hL0⟩
  case rest =>
    obtain ⟨rfl, HA, HB, HW, HL⟩ := hcut
    clear hA0 hB0 hW0 hL0
    obtain ⟨wd, hwd⟩ : ∃ x, x = wc := ⟨_, rfl⟩
    rw [← hwd] at HA HB HW HL ⊢
    clear hwd
    go_upto_if 40 with (fail)
    go_cut [11] (fun s11 wx => s11 = .int .i64 oe ∧ Hid (Blk wx w.heap.size 23 #[.int .i64 a1, .int .i64 a2]) ∧ Hid (Blk wx (w.heap.size + 1) 23 #[.int .i64 b1, .int .i64 b2]) ∧ Hid (Blk wx (w.heap.size + 1 + 1) 23 #[.int .i64 o1, .int .i64 o2]) ∧ Hid (Below w.heap.size w wx))
    case first =>
      rcases HOFC.out with ⟨h, h1, h2, h3, h4⟩ | ⟨h, h1, h2, h3, h4⟩
      · subst h1 h2 h3 h4
        go_wp2
        go_meet
        exact ⟨rfl, HA, HB, HW, HL⟩
      · subst h3 h4
        obtain ⟨i0, i1, i2, i3⟩ := h
        have HLW := Lib.hid fun W => by have := refLow_any t b W (by omega) (by omega) (by omega) (by omega); rw [h1, h2] at this; exact this
        clear h1 h2
        go_wp2_with fail
        refine (HLW.out _).mono ?_; rintro e wq ⟨rfl, hb⟩
        have KA := Lib.hid (HA.out.go hb); have KB := Lib.hid (HB.out.go hb); have KW := Lib.hid (HW.out.go hb); have KL := Lib.hid (HL.out.trans (hb.mono HL.out.size))
        clear hb
        obtain ⟨w0, w1, f0, f1, wz⟩ := KW.out.two
        have e1 : w.heap.size ≠ w.heap.size + 1 + 1 := by omega
        have e2 : w.heap.size + 1 ≠ w.heap.size + 1 + 1 := by omega
        go_wp2
        go_meet
        exact ⟨rfl, Lib.hid ((KA.out.far (p := ⟨_, 0, none⟩) e1 _).far (p := ⟨_, 1, none⟩) e1 _), Lib.hid ((KB.out.far (p := ⟨_, 0, none⟩) e2 _).far (p := ⟨_, 1, none⟩) e2 _), Lib.hid ((KW.out.s2_0 _).s2_1 _), Lib.hid ((KL.out.setCell (p := ⟨_, 0, none⟩) (by show w.heap.size ≤ w.heap.size + 1 + 1; omega) _).setCell (p := ⟨_, 1, none⟩) (by show w.heap.size ≤ w.heap.size + 1 + 1; omega) _)⟩
    case rest =>
      clear HA HB HW HL
      obtain ⟨rfl, HA, HB, HW, HL⟩ := hcut
      go_wp2_with fail
      refine (HOF.out _).mono ?_; rintro e w1 ⟨rfl, hb1⟩
      have KA := Lib.hid ((HA.out.go hb1).alloc (.cells #[.int .i64 o1, .int .i64 o2] 23)); have KB := Lib.hid ((HB.out.go hb1).alloc (.cells #[.int .i64 o1, .int .i64 o2] 23)); have KW := Lib.hid ((HW.out.go hb1).alloc (.cells #[.int .i64 o1, .int .i64 o2] 23))
      have hl1 := HL.out.trans (hb1.mono HL.out.size)
      have KL := Lib.hid (hl1.alloc hl1.size (.cells #[.int .i64 o1, .int .i64 o2] 23))
      have KX := Lib.hid (Blk.new w1 23 #[.int .i64 o1, .int .i64 o2])
      obtain ⟨gX, hgX⟩ : ∃ x, x = w1.heap.size := ⟨_, rfl⟩
      rw [← hgX] at KX
      have hlt : w.heap.size + 1 + 1 < gX := by have := HW.out.lt; have := hb1.size; omega
      have S := Lib.hid (show FT w _ gX a1 a2 b1 b2 o1 o2 o1 o2 from ⟨KA.out, KB.out, KW.out, KX.out, KL.out, LAID.out.below KL.out, hlt⟩)
      clear HA HB HW HL KA KB KW KL KX hb1 hl1 HOF HOFC LAID
      go_wp2_with fail
      rw [← hgX]
      refine (same_yes oe _ S.out.laid).mono ?_; rintro e wq ⟨rfl, hb⟩
      replace S := Lib.hid (S.out.below hb)
      clear hb hgX hlt
      obtain ⟨ca0, ca1, cb0, cb1, cw0, cw1, cx0, cx1, fw0, fw1, fx0, fx1, za, zb, zw, zx, n1, n2, n3, n4, n5⟩ := S.out.open
      go_wp2_with fail
      refine (HFA.out _).mono ?_; rintro e wq ⟨rfl, hb⟩
      replace S := Lib.hid (S.out.below hb)
      clear ca0 ca1 cb0 cb1 cw0 cw1 cx0 cx1 fw0 fw1 fx0 fx1 za zb zw zx n1 n2 n3 n4 n5 hb
      obtain ⟨ca0, ca1, cb0, cb1, cw0, cw1, cx0, cx1, fw0, fw1, fx0, fx1, za, zb, zw, zx, n1, n2, n3, n4, n5⟩ := S.out.open
      go_wp2_with fail
      refine (HCA.out _).mono ?_; rintro e wq ⟨rfl, hb⟩
      replace S := Lib.hid (S.out.below hb)
      clear ca0 ca1 cb0 cb1 cw0 cw1 cx0 cx1 fw0 fw1 fx0 fx1 za zb zw zx n1 n2 n3 n4 n5 hb
      obtain ⟨ca0, ca1, cb0, cb1, cw0, cw1, cx0, cx1, fw0, fw1, fx0, fx1, za, zb, zw, zx, n1, n2, n3, n4, n5⟩ := S.out.open
      go_wp2_with fail
      refine (sameF_0 _ S.out.laid).mono ?_; rintro e wq ⟨rfl, hb⟩
      replace S := Lib.hid (S.out.below hb)
      clear ca0 ca1 cb0 cb1 cw0 cw1 cx0 cx1 fw0 fw1 fx0 fx1 za zb zw zx n1 n2 n3 n4 n5 hb
      obtain ⟨ca0, ca1, cb0, cb1, cw0, cw1, cx0, cx1, fw0, fw1, fx0, fx1, za, zb, zw, zx, n1, n2, n3, n4, n5⟩ := S.out.open
      go_wp2_with fail
      refine (HTM.out _).mono ?_; rintro e wq ⟨rfl, hb⟩
      replace S := Lib.hid ((S.out.setW 0 0).below hb)
      clear ca0 ca1 cb0 cb1 cw0 cw1 cx0 cx1 fw0 fw1 fx0 fx1 za zb zw zx n1 n2 n3 n4 n5 hb
      obtain ⟨ca0, ca1, cb0, cb1, cw0, cw1, cx0, cx1, fw0, fw1, fx0, fx1, za, zb, zw, zx, n1, n2, n3, n4, n5⟩ := S.out.open
      go_wp2_with fail
      refine (sameF_e 1 _ (S.out.setX 0 0).laid (by decide)).mono ?_; rintro e wq ⟨rfl, hb⟩
      replace S := Lib.hid ((S.out.setX 0 0).below hb)
      clear ca0 ca1 cb0 cb1 cw0 cw1 cx0 cx1 fw0 fw1 fx0 fx1 za zb zw zx n1 n2 n3 n4 n5 hb
      obtain ⟨ca0, ca1, cb0, cb1, cw0, cw1, cx0, cx1, fw0, fw1, fx0, fx1, za, zb, zw, zx, n1, n2, n3, n4, n5⟩ := S.out.open
      go_wp2_with fail
      refine (HBY.out _).mono ?_; rintro e wq ⟨rfl, hb⟩
      replace S := Lib.hid ((S.out.setW 0 0).below hb)
      clear ca0 ca1 cb0 cb1 cw0 cw1 cx0 cx1 fw0 fw1 fx0 fx1 za zb zw zx n1 n2 n3 n4 n5 hb
      obtain ⟨ca0, ca1, cb0, cb1, cw0, cw1, cx0, cx1, fw0, fw1, fx0, fx1, za, zb, zw, zx, n1, n2, n3, n4, n5⟩ := S.out.open
      go_wp2_with fail
      refine (sameF_e 1 _ (S.out.setX 0 0).laid (by decide)).mono ?_; rintro e wq ⟨rfl, hb⟩
      replace S := Lib.hid ((S.out.setX 0 0).below hb)
      clear ca0 ca1 cb0 cb1 cw0 cw1 cx0 cx1 fw0 fw1 fx0 fx1 za zb zw zx n1 n2 n3 n4 n5 hb
      obtain ⟨ca0, ca1, cb0, cb1, cw0, cw1, cx0, cx1, fw0, fw1, fx0, fx1, za, zb, zw, zx, n1, n2, n3, n4, n5⟩ := S.out.open
      go_wp2_with fail
      refine (HFB.out _).mono ?_; rintro e wq ⟨rfl, hb⟩
      replace S := Lib.hid (S.out.below hb)
      clear ca0 ca1 cb0 cb1 cw0 cw1 cx0 cx1 fw0 fw1 fx0 fx1 za zb zw zx n1 n2 n3 n4 n5 hb
      obtain ⟨ca0, ca1, cb0, cb1, cw0, cw1, cx0, cx1, fw0, fw1, fx0, fx1, za, zb, zw, zx, n1, n2, n3, n4, n5⟩ := S.out.open
      go_wp2_with fail
      refine (HCM.out _).mono ?_; rintro e wq ⟨rfl, hb⟩
      replace S := Lib.hid (S.out.below hb)
      clear ca0 ca1 cb0 cb1 cw0 cw1 cx0 cx1 fw0 fw1 fx0 fx1 za zb zw zx n1 n2 n3 n4 n5 hb
      obtain ⟨ca0, ca1, cb0, cb1, cw0, cw1, cx0, cx1, fw0, fw1, fx0, fx1, za, zb, zw, zx, n1, n2, n3, n4, n5⟩ := S.out.open
      go_wp2_with fail
      refine (sameF_e fb _ S.out.laid HFN.out).mono ?_; rintro e wq ⟨rfl, hb⟩
      replace S := Lib.hid (S.out.below hb)
      clear ca0 ca1 cb0 cb1 cw0 cw1 cx0 cx1 fw0 fw1 fx0 fx1 za zb zw zx n1 n2 n3 n4 n5 hb
      obtain ⟨ca0, ca1, cb0, cb1, cw0, cw1, cx0, cx1, fw0, fw1, fx0, fx1, za, zb, zw, zx, n1, n2, n3, n4, n5⟩ := S.out.open
      go_wp2_with fail
      refine (HAD.out _).mono ?_; rintro e wq ⟨rfl, hb⟩
      replace S := Lib.hid ((S.out.setW 0 0).below hb)
      clear ca0 ca1 cb0 cb1 cw0 cw1 cx0 cx1 fw0 fw1 fx0 fx1 za zb zw zx n1 n2 n3 n4 n5 hb
      obtain ⟨ca0, ca1, cb0, cb1, cw0, cw1, cx0, cx1, fw0, fw1, fx0, fx1, za, zb, zw, zx, n1, n2, n3, n4, n5⟩ := S.out.open
      go_wp2_with fail
      refine (sameF_e fb _ (S.out.setX 0 0).laid HFN.out).mono ?_; rintro e wq ⟨rfl, hb⟩
      replace S := Lib.hid ((S.out.setX 0 0).below hb)
      clear ca0 ca1 cb0 cb1 cw0 cw1 cx0 cx1 fw0 fw1 fx0 fx1 za zb zw zx n1 n2 n3 n4 n5 hb
      obtain ⟨ca0, ca1, cb0, cb1, cw0, cw1, cx0, cx1, fw0, fw1, fx0, fx1, za, zb, zw, zx, n1, n2, n3, n4, n5⟩ := S.out.open
      have hfin := S.out.bel
      go_wp2
      go_ret
      exact ⟨rfl, hfin⟩
set_option maxHeartbeats 16000000 in
set_option maxRecDepth 100000 in
theorem fracTells_ok_lo_lo_ok (t : Int) (b : Int) (a1 a2 : Int) (b1 b2 : Int) (n : Int) (w : World) (hg : Laid w) (hf : fracErr a1 a2 = 0) (n0 : n < -1000) (hfb : fracErr b1 b2 = 0) (hs : FracIn (sumT a1 a2 b1 b2) (sumB a1 a2 b1 b2)) :
    Calls Tryd.prog 3 #[.int .i64 t, .int .i64 b, .agg #[.int .i64 a1, .int .i64 a2], .agg #[.int .i64 b1, .int .i64 b2], .int .i64 n] w fun e w' => e = .returned (.bool true) ∧ Below w.heap.size w w' := by
  obtain ⟨i0, i1, i2, i3⟩ := (frac_ok hf).1
  have HFA := Lib.hid (show ∀ W : World, Calls Tryd.prog 16 #[.agg #[.int .i64 a1, .int .i64 a2]] W fun e w' => e = .returned (.int .i64 0) ∧ Below W.heap.size W w' from fun W => by have := refFrac_any a1 a2 W; rwa [hf] at this)
  have HCA := Lib.hid (show ∀ W : World, Calls Tryd.prog 17 #[.agg #[.int .i64 a1, .int .i64 a2]] W fun e w' => e = .returned (.nilIface) ∧ Below W.heap.size W w' from fun W => fcheck_yes a1 a2 W hf)
  have HTM := Lib.hid (show ∀ W : World, Calls Tryd.prog 19 #[.agg #[.int .i64 a1, .int .i64 a2], .int .i64 n] W fun e w' => e = .returned (.tuple #[.agg #[.int .i64 0, .int .i64 0], .iface 119 (.int .i64 1)]) ∧ Below W.heap.size W w' from fun W => times_out0 a1 a2 n W hf (by omega))
  have HBY := Lib.hid (show ∀ W : World, Calls Tryd.prog 20 #[.agg #[.int .i64 a1, .int .i64 a2], .int .i64 n] W fun e w' => e = .returned (.tuple #[.agg #[.int .i64 0, .int .i64 0], .iface 119 (.int .i64 1)]) ∧ Below W.heap.size W w' from fun W => by_out0 a1 a2 n W hf (by omega))
  have HFB := Lib.hid (show ∀ W : World, Calls Tryd.prog 16 #[.agg #[.int .i64 b1, .int .i64 b2]] W fun e w' => e = .returned (.int .i64 0) ∧ Below W.heap.size W w' from fun W => by have := refFrac_any b1 b2 W; rwa [hfb] at this)
  obtain ⟨oo, hoo⟩ : ∃ x, cmpI (a1 * b2) (b1 * a2) = x := ⟨_, rfl⟩
  have HOR := Lib.hid (show ∀ W : World, Calls Tryd.prog 21 #[.agg #[.int .i64 a1, .int .i64 a2], .agg #[.int .i64 b1, .int .i64 b2]] W fun e w' => e = .returned (.int .i64 oo) ∧ Below W.heap.size W w' from fun W => by have := refOrder_any a1 a2 b1 b2 W (frac_ok hf).1 (frac_ok hfb).1; rwa [hoo] at this)
  have HCM := Lib.hid (show ∀ W : World, Calls Tryd.prog 22 #[.agg #[.int .i64 a1, .int .i64 a2], .agg #[.int .i64 b1, .int .i64 b2]] W fun e w' => e = .returned (.tuple #[.int .i64 oo, .nilIface]) ∧ Below W.heap.size W w' from fun W => fcompare_yes a1 a2 b1 b2 oo W hf hfb hoo)
  have hsw := fun W => refSum_any a1 a2 b1 b2 W (frac_ok hf).1 (frac_ok hfb).1
  have hsp : 1 ≤ sumB a1 a2 b1 b2 := lowB_pos _ _ (Int.mul_pos (by omega) (by have := (frac_ok hfb).1.1; omega))
  have hsv := fun (W : World) => fadd_yes a1 a2 b1 b2 (sumT a1 a2 b1 b2) (sumB a1 a2 b1 b2) 0 W hf hfb (show fitV (sumT a1 a2 b1 b2) (sumB a1 a2 b1 b2) = .tuple #[.agg #[.int .i64 (sumT a1 a2 b1 b2), .int .i64 (sumB a1 a2 b1 b2)], errVal 0] from by unfold fitV; rw [if_pos hs]; rfl)
  generalize sumT a1 a2 b1 b2 = s1 at *
  generalize sumB a1 a2 b1 b2 = s2 at *
  have HSM := Lib.hid hsw
  have HSB := Lib.hid (show ∀ W : World, Calls Tryd.prog 18 #[.agg #[.int .i64 s1, .int .i64 s2]] W fun e w' => e = .returned (.bool false) ∧ Below W.heap.size W w' from fun W => refBig_no s1 s2 W hs)
  have HAD := Lib.hid (show ∀ W : World, Calls Tryd.prog 24 #[.agg #[.int .i64 a1, .int .i64 a2], .agg #[.int .i64 b1, .int .i64 b2]] W fun e w' => e = .returned (.tuple #[.agg #[.int .i64 s1, .int .i64 s2], .nilIface]) ∧ Below W.heap.size W w' from fun W => by have := hsv W; rwa [errVal_zero] at this)
  clear hsw hsv hsp hs hfb hoo
  have r1 : n < 1 := by omega
  clear hf
  have LAID := Lib.hid hg; clear hg
  obtain ⟨o1, o2, oe, ob, hOF, hofc⟩ := of_tell t b
  have HOF := Lib.hid hOF; have HOFC := Lib.hid hofc
  clear hOF hofc
  have hA0 := Lib.hid (((Blk.new w 23 #[.int .i64 a1, .int .i64 a2]).alloc (.cells #[.int .i64 b1, .int .i64 b2] 23)).alloc (.cells #[.int .i64 0, .int .i64 0] 23))
  have hB0 := Lib.hid ((Blk.new' (w.alloc (.cells #[.int .i64 a1, .int .i64 a2] 23)) 23 #[.int .i64 b1, .int .i64 b2] (g := w.heap.size + 1) (by simp)).alloc (.cells #[.int .i64 0, .int .i64 0] 23))
  have hW0 := Lib.hid (Blk.new' ((w.alloc (.cells #[.int .i64 a1, .int .i64 a2] 23)).alloc (.cells #[.int .i64 b1, .int .i64 b2] 23)) 23 #[.int .i64 0, .int .i64 0] (g := w.heap.size + 1 + 1) (by simp))
  have hL0 := Lib.hid ((((Below.refl w.heap.size w).alloc (Nat.le_refl _) (.cells #[.int .i64 a1, .int .i64 a2] 23)).alloc (by simp) (.cells #[.int .i64 b1, .int .i64 b2] 23)).alloc (by simp; omega) (.cells #[.int .i64 0, .int .i64 0] 23))
  go_enter Tryd.func3, Tryd.ntmps3
  go_upto_region 3 with (fail)
  go_cut [40] (fun s40 wx => s40 = .bool ob ∧ Hid (Blk wx w.heap.size 23 #[.int .i64 a1, .int .i64 a2]) ∧ Hid (Blk wx (w.heap.size + 1) 23 #[.int .i64 b1, .int .i64 b2]) ∧ Hid (Blk wx (w.heap.size + 1 + 1) 23 #[.int .i64 0, .int .i64 0]) ∧ Hid (Below w.heap.size w wx))
  case first =>
    rcases HOFC.out with ⟨h, _, _, _, h4⟩ | ⟨h, _, _, _, h4⟩
    · subst h4
      unfold FracIn at h
      by_cases q1 : b < 1
      · go_wp2
        go_meet
        exact ⟨rfl, hA0, hB0, hW0, hL0⟩
      · by_cases q2 : 100000000 < b
        · go_wp2
          go_meet
          exact ⟨rfl, hA0, hB0, hW0, hL0⟩
        · by_cases q3 : t < -1000000000
          · go_wp2
            go_meet
            exact ⟨rfl, hA0, hB0, hW0, hL0⟩
          · have q4 : 1000000000 < t := by omega
            clear h
            go_wp2
            go_meet
            exact ⟨rfl, hA0, hB0, hW0, hL0⟩
    · subst h4
      obtain ⟨i0, i1, i2, i3⟩ := h
      have q1 : decide (b < 1) = false := decide_eq_false (by omega)
      have q2 : decide (100000000 < b) = false := decide_eq_false (by omega)
      have q3 : decide (t < -1000000000) = false := decide_eq_false (by omega)
      have q4 : decide (1000000000 < t) = false := decide_eq_false (by omega)
      go_wp2
      go_meet
      exact ⟨rfl, hA0, hB0, hW0, hL0⟩
  case rest =>
    obtain ⟨rfl, HA, HB, HW, HL⟩ := hcut
    clear hA0 hB0 hW0 hL0
    obtain ⟨wd, hwd⟩ : ∃ x, x = wc := ⟨_, rfl⟩
    rw [← hwd] at HA HB HW HL ⊢
    clear hwd
    go_upto_if 40 with (fail)
    go_cut [11] (fun s11 wx => s11 = .int .i64 oe ∧ Hid (Blk wx w.heap.size 23 #[.int .i64 a1, .int .i64 a2]) ∧ Hid (Blk wx (w.heap.size + 1) 23 #[.int .i64 b1, .int .i64 b2]) ∧ Hid (Blk wx (w.heap.size + 1 + 1) 23 #[.int .i64 o1, .int .i64 o2]) ∧ Hid (Below w.heap.size w wx))
    case first =>
      rcases HOFC.out with ⟨h, h1, h2, h3, h4⟩ | ⟨h, h1, h2, h3, h4⟩
      · subst h1 h2 h3 h4
        go_wp2
        go_meet
        exact ⟨rfl, HA, HB, HW, HL⟩
      · subst h3 h4
        obtain ⟨i0, i1, i2, i3⟩ := h
        have HLW := Lib.hid fun W => by have := refLow_any t b W (by omega) (by omega) (by omega) (by omega); rw [h1, h2] at this; exact this
        clear h1 h2
        go_wp2_with fail
        refine (HLW.out _).mono ?_; rintro e wq ⟨rfl, hb⟩
        have KA := Lib.hid (HA.out.go hb); have KB := Lib.hid (HB.out.go hb); have KW := Lib.hid (HW.out.go hb); have KL := Lib.hid (HL.out.trans (hb.mono HL.out.size))
        clear hb
        obtain ⟨w0, w1, f0, f1, wz⟩ := KW.out.two
        have e1 : w.heap.size ≠ w.heap.size + 1 + 1 := by omega
        have e2 : w.heap.size + 1 ≠ w.heap.size + 1 + 1 := by omega
        go_wp2
        go_meet
        exact ⟨rfl, Lib.hid ((KA.out.far (p := ⟨_, 0, none⟩) e1 _).far (p := ⟨_, 1, none⟩) e1 _), Lib.hid ((KB.out.far (p := ⟨_, 0, none⟩) e2 _).far (p := ⟨_, 1, none⟩) e2 _), Lib.hid ((KW.out.s2_0 _).s2_1 _), Lib.hid ((KL.out.setCell (p := ⟨_, 0, none⟩) (by show w.heap.size ≤ w.heap.size + 1 + 1; omega) _).setCell (p := ⟨_, 1, none⟩) (by show w.heap.size ≤ w.heap.size + 1 + 1; omega) _)⟩
    case rest =>
      clear HA HB HW HL
      obtain ⟨rfl, HA, HB, HW, HL⟩ := hcut
      go_wp2_with fail
      refine (HOF.out _).mono ?_; rintro e w1 ⟨rfl, hb1⟩
      have KA := Lib.hid ((HA.out.go hb1).alloc (.cells #[.int .i64 o1, .int .i64 o2] 23)); have KB := Lib.hid ((HB.out.go hb1).alloc (.cells #[.int .i64 o1, .int .i64 o2] 23)); have KW := Lib.hid ((HW.out.go hb1).alloc (.cells #[.int .i64 o1, .int .i64 o2] 23))
      have hl1 := HL.out.trans (hb1.mono HL.out.size)
      have KL := Lib.hid (hl1.alloc hl1.size (.cells #[.int .i64 o1, .int .i64 o2] 23))
      have KX := Lib.hid (Blk.new w1 23 #[.int .i64 o1, .int .i64 o2])
      obtain ⟨gX, hgX⟩ : ∃ x, x = w1.heap.size := ⟨_, rfl⟩
      rw [← hgX] at KX
      have hlt : w.heap.size + 1 + 1 < gX := by have := HW.out.lt; have := hb1.size; omega
      have S := Lib.hid (show FT w _ gX a1 a2 b1 b2 o1 o2 o1 o2 from ⟨KA.out, KB.out, KW.out, KX.out, KL.out, LAID.out.below KL.out, hlt⟩)
      clear HA HB HW HL KA KB KW KL KX hb1 hl1 HOF HOFC LAID
      go_wp2_with fail
      rw [← hgX]
      refine (same_yes oe _ S.out.laid).mono ?_; rintro e wq ⟨rfl, hb⟩
      replace S := Lib.hid (S.out.below hb)
      clear hb hgX hlt
      obtain ⟨ca0, ca1, cb0, cb1, cw0, cw1, cx0, cx1, fw0, fw1, fx0, fx1, za, zb, zw, zx, n1, n2, n3, n4, n5⟩ := S.out.open
      go_wp2_with fail
      refine (HFA.out _).mono ?_; rintro e wq ⟨rfl, hb⟩
      replace S := Lib.hid (S.out.below hb)
      clear ca0 ca1 cb0 cb1 cw0 cw1 cx0 cx1 fw0 fw1 fx0 fx1 za zb zw zx n1 n2 n3 n4 n5 hb
      obtain ⟨ca0, ca1, cb0, cb1, cw0, cw1, cx0, cx1, fw0, fw1, fx0, fx1, za, zb, zw, zx, n1, n2, n3, n4, n5⟩ := S.out.open
      go_wp2_with fail
      refine (HCA.out _).mono ?_; rintro e wq ⟨rfl, hb⟩
      replace S := Lib.hid (S.out.below hb)
      clear ca0 ca1 cb0 cb1 cw0 cw1 cx0 cx1 fw0 fw1 fx0 fx1 za zb zw zx n1 n2 n3 n4 n5 hb
      obtain ⟨ca0, ca1, cb0, cb1, cw0, cw1, cx0, cx1, fw0, fw1, fx0, fx1, za, zb, zw, zx, n1, n2, n3, n4, n5⟩ := S.out.open
      go_wp2_with fail
      refine (sameF_0 _ S.out.laid).mono ?_; rintro e wq ⟨rfl, hb⟩
      replace S := Lib.hid (S.out.below hb)
      clear ca0 ca1 cb0 cb1 cw0 cw1 cx0 cx1 fw0 fw1 fx0 fx1 za zb zw zx n1 n2 n3 n4 n5 hb
      obtain ⟨ca0, ca1, cb0, cb1, cw0, cw1, cx0, cx1, fw0, fw1, fx0, fx1, za, zb, zw, zx, n1, n2, n3, n4, n5⟩ := S.out.open
      go_wp2_with fail
      refine (HTM.out _).mono ?_; rintro e wq ⟨rfl, hb⟩
      replace S := Lib.hid ((S.out.setW 0 0).below hb)
      clear ca0 ca1 cb0 cb1 cw0 cw1 cx0 cx1 fw0 fw1 fx0 fx1 za zb zw zx n1 n2 n3 n4 n5 hb
      obtain ⟨ca0, ca1, cb0, cb1, cw0, cw1, cx0, cx1, fw0, fw1, fx0, fx1, za, zb, zw, zx, n1, n2, n3, n4, n5⟩ := S.out.open
      go_wp2_with fail
      refine (sameF_e 1 _ (S.out.setX 0 0).laid (by decide)).mono ?_; rintro e wq ⟨rfl, hb⟩
      replace S := Lib.hid ((S.out.setX 0 0).below hb)
      clear ca0 ca1 cb0 cb1 cw0 cw1 cx0 cx1 fw0 fw1 fx0 fx1 za zb zw zx n1 n2 n3 n4 n5 hb
      obtain ⟨ca0, ca1, cb0, cb1, cw0, cw1, cx0, cx1, fw0, fw1, fx0, fx1, za, zb, zw, zx, n1, n2, n3, n4, n5⟩ := S.out.open
      go_wp2_with fail
      refine (HBY.out _).mono ?_; rintro e wq ⟨rfl, hb⟩
      replace S := Lib.hid ((S.out.setW 0 0).below hb)
      clear ca0 ca1 cb0 cb1 cw0 cw1 cx0 cx1 fw0 fw1 fx0 fx1 za zb zw zx n1 n2 n3 n4 n5 hb
      obtain ⟨ca0, ca1, cb0, cb1, cw0, cw1, cx0, cx1, fw0, fw1, fx0, fx1, za, zb, zw, zx, n1, n2, n3, n4, n5⟩ := S.out.open
      go_wp2_with fail
      refine (sameF_e 1 _ (S.out.setX 0 0).laid (by decide)).mono ?_; rintro e wq ⟨rfl, hb⟩
      replace S := Lib.hid ((S.out.setX 0 0).below hb)
      clear ca0 ca1 cb0 cb1 cw0 cw1 cx0 cx1 fw0 fw1 fx0 fx1 za zb zw zx n1 n2 n3 n4 n5 hb
      obtain ⟨ca0, ca1, cb0, cb1, cw0, cw1, cx0, cx1, fw0, fw1, fx0, fx1, za, zb, zw, zx, n1, n2, n3, n4, n5⟩ := S.out.open
      go_wp2_with fail
      refine (HFB.out _).mono ?_; rintro e wq ⟨rfl, hb⟩
      replace S := Lib.hid (S.out.below hb)
      clear ca0 ca1 cb0 cb1 cw0 cw1 cx0 cx1 fw0 fw1 fx0 fx1 za zb zw zx n1 n2 n3 n4 n5 hb
      obtain ⟨ca0, ca1, cb0, cb1, cw0, cw1, cx0, cx1, fw0, fw1, fx0, fx1, za, zb, zw, zx, n1, n2, n3, n4, n5⟩ := S.out.open
      go_wp2_with fail
      refine (HOR.out _).mono ?_; rintro e wq ⟨rfl, hb⟩
      replace S := Lib.hid (S.out.below hb)
      clear ca0 ca1 cb0 cb1 cw0 cw1 cx0 cx1 fw0 fw1 fx0 fx1 za zb zw zx n1 n2 n3 n4 n5 hb
      obtain ⟨ca0, ca1, cb0, cb1, cw0, cw1, cx0, cx1, fw0, fw1, fx0, fx1, za, zb, zw, zx, n1, n2, n3, n4, n5⟩ := S.out.open
      go_wp2_with fail
      refine (HCM.out _).mono ?_; rintro e wq ⟨rfl, hb⟩
      replace S := Lib.hid (S.out.below hb)
      clear ca0 ca1 cb0 cb1 cw0 cw1 cx0 cx1 fw0 fw1 fx0 fx1 za zb zw zx n1 n2 n3 n4 n5 hb
      obtain ⟨ca0, ca1, cb0, cb1, cw0, cw1, cx0, cx1, fw0, fw1, fx0, fx1, za, zb, zw, zx, n1, n2, n3, n4, n5⟩ := S.out.open
      go_wp2_with fail
      refine (sameF_0 _ S.out.laid).mono ?_; rintro e wq ⟨rfl, hb⟩
      replace S := Lib.hid (S.out.below hb)
      clear ca0 ca1 cb0 cb1 cw0 cw1 cx0 cx1 fw0 fw1 fx0 fx1 za zb zw zx n1 n2 n3 n4 n5 hb
      obtain ⟨ca0, ca1, cb0, cb1, cw0, cw1, cx0, cx1, fw0, fw1, fx0, fx1, za, zb, zw, zx, n1, n2, n3, n4, n5⟩ := S.out.open
      go_wp2_with fail
      refine (HSM.out _).mono ?_; rintro e wq ⟨rfl, hb⟩
      replace S := Lib.hid ((S.out.setW 0 0).below hb)
      clear ca0 ca1 cb0 cb1 cw0 cw1 cx0 cx1 fw0 fw1 fx0 fx1 za zb zw zx n1 n2 n3 n4 n5 hb
      obtain ⟨ca0, ca1, cb0, cb1, cw0, cw1, cx0, cx1, fw0, fw1, fx0, fx1, za, zb, zw, zx, n1, n2, n3, n4, n5⟩ := S.out.open
      go_wp2_with fail
      refine (HSB.out _).mono ?_; rintro e wq ⟨rfl, hb⟩
      replace S := Lib.hid ((S.out.setW s1 s2).below hb)
      clear ca0 ca1 cb0 cb1 cw0 cw1 cx0 cx1 fw0 fw1 fx0 fx1 za zb zw zx n1 n2 n3 n4 n5 hb
      obtain ⟨ca0, ca1, cb0, cb1, cw0, cw1, cx0, cx1, fw0, fw1, fx0, fx1, za, zb, zw, zx, n1, n2, n3, n4, n5⟩ := S.out.open
      go_wp2_with fail
      refine (HAD.out _).mono ?_; rintro e wq ⟨rfl, hb⟩
      replace S := Lib.hid (S.out.below hb)
      clear ca0 ca1 cb0 cb1 cw0 cw1 cx0 cx1 fw0 fw1 fx0 fx1 za zb zw zx n1 n2 n3 n4 n5 hb
      obtain ⟨ca0, ca1, cb0, cb1, cw0, cw1, cx0, cx1, fw0, fw1, fx0, fx1, za, zb, zw, zx, n1, n2, n3, n4, n5⟩ := S.out.open
      go_wp2_with fail
      refine (sameF_0 _ (S.out.setX s1 s2).laid).mono ?_; rintro e wq ⟨rfl, hb⟩
      replace S := Lib.hid ((S.out.setX s1 s2).below hb)
      clear ca0 ca1 cb0 cb1 cw0 cw1 cx0 cx1 fw0 fw1 fx0 fx1 za zb zw zx n1 n2 n3 n4 n5 hb
      obtain ⟨ca0, ca1, cb0, cb1, cw0, cw1, cx0, cx1, fw0, fw1, fx0, fx1, za, zb, zw, zx, n1, n2, n3, n4, n5⟩ := S.out.open
      have hfin := S.out.bel
      go_wp2
      go_ret
      exact ⟨rfl, hfin⟩
set_option maxHeartbeats 16000000 in
set_option maxRecDepth 100000 in
theorem fracTells_ok_lo_lo_big (t : Int) (b : Int) (a1 a2 : Int) (b1 b2 : Int) (n : Int) (w : World) (hg : Laid w) (hf : fracErr a1 a2 = 0) (n0 : n < -1000) (hfb : fracErr b1 b2 = 0) (hs : ¬ FracIn (sumT a1 a2 b1 b2) (sumB a1 a2 b1 b2)) :
    Calls Tryd.prog 3 #[.int .i64 t, .int .i64 b, .agg #[.int .i64 a1, .int .i64 a2], .agg #[.int .i64 b1, .int .i64 b2], .int .i64 n] w fun e w' => e = .returned (.bool true) ∧ Below w.heap.size w w' := by
  obtain ⟨i0, i1, i2, i3⟩ := (frac_ok hf).1
  have HFA := Lib.hid (show ∀ W : World, Calls Tryd.prog 16 #[.agg #[.int .i64 a1, .int .i64 a2]] W fun e w' => e = .returned (.int .i64 0) ∧ Below W.heap.size W w' from fun W => by have := refFrac_any a1 a2 W; rwa [hf] at this)
  have HCA := Lib.hid (show ∀ W : World, Calls Tryd.prog 17 #[.agg #[.int .i64 a1, .int .i64 a2]] W fun e w' => e = .returned (.nilIface) ∧ Below W.heap.size W w' from fun W => fcheck_yes a1 a2 W hf)
  have HTM := Lib.hid (show ∀ W : World, Calls Tryd.prog 19 #[.agg #[.int .i64 a1, .int .i64 a2], .int .i64 n] W fun e w' => e = .returned (.tuple #[.agg #[.int .i64 0, .int .i64 0], .iface 119 (.int .i64 1)]) ∧ Below W.heap.size W w' from fun W => times_out0 a1 a2 n W hf (by omega))
  have HBY := Lib.hid (show ∀ W : World, Calls Tryd.prog 20 #[.agg #[.int .i64 a1, .int .i64 a2], .int .i64 n] W fun e w' => e = .returned (.tuple #[.agg #[.int .i64 0, .int .i64 0], .iface 119 (.int .i64 1)]) ∧ Below W.heap.size W w' from fun W => by_out0 a1 a2 n W hf (by omega))
  have HFB := Lib.hid (show ∀ W : World, Calls Tryd.prog 16 #[.agg #[.int .i64 b1, .int .i64 b2]] W fun e w' => e = .returned (.int .i64 0) ∧ Below W.heap.size W w' from fun W => by have := refFrac_any b1 b2 W; rwa [hfb] at this)
  obtain ⟨oo, hoo⟩ : ∃ x, cmpI (a1 * b2) (b1 * a2) = x := ⟨_, rfl⟩
  have HOR := Lib.hid (show ∀ W : World, Calls Tryd.prog 21 #[.agg #[.int .i64 a1, .int .i64 a2], .agg #[.int .i64 b1, .int .i64 b2]] W fun e w' => e = .returned (.int .i64 oo) ∧ Below W.heap.size W w' from fun W => by have := refOrder_any a1 a2 b1 b2 W (frac_ok hf).1 (frac_ok hfb).1; rwa [hoo] at this)
  have HCM := Lib.hid (show ∀ W : World, Calls Tryd.prog 22 #[.agg #[.int .i64 a1, .int .i64 a2], .agg #[.int .i64 b1, .int .i64 b2]] W fun e w' => e = .returned (.tuple #[.int .i64 oo, .nilIface]) ∧ Below W.heap.size W w' from fun W => fcompare_yes a1 a2 b1 b2 oo W hf hfb hoo)
  have hsw := fun W => refSum_any a1 a2 b1 b2 W (frac_ok hf).1 (frac_ok hfb).1
  have hsp : 1 ≤ sumB a1 a2 b1 b2 := lowB_pos _ _ (Int.mul_pos (by omega) (by have := (frac_ok hfb).1.1; omega))
  have hsv := fun (W : World) => fadd_yes a1 a2 b1 b2 0 0 4 W hf hfb (show fitV (sumT a1 a2 b1 b2) (sumB a1 a2 b1 b2) = .tuple #[.agg #[.int .i64 0, .int .i64 0], errVal 4] from by unfold fitV; rw [if_neg hs]; rfl)
  generalize sumT a1 a2 b1 b2 = s1 at *
  generalize sumB a1 a2 b1 b2 = s2 at *
  have HSM := Lib.hid hsw
  have HSB := Lib.hid (show ∀ W : World, Calls Tryd.prog 18 #[.agg #[.int .i64 s1, .int .i64 s2]] W fun e w' => e = .returned (.bool true) ∧ Below W.heap.size W w' from fun W => refBig_yes s1 s2 W hsp hs)
  have HAD := Lib.hid (show ∀ W : World, Calls Tryd.prog 24 #[.agg #[.int .i64 a1, .int .i64 a2], .agg #[.int .i64 b1, .int .i64 b2]] W fun e w' => e = .returned (.tuple #[.agg #[.int .i64 0, .int .i64 0], .iface 119 (.int .i64 4)]) ∧ Below W.heap.size W w' from fun W => by have := hsv W; rwa [errVal_pos (by decide)] at this)
  clear hsw hsv hsp hs hfb hoo
  have r1 : n < 1 := by omega
  clear hf
  have LAID := Lib.hid hg; clear hg
  obtain ⟨o1, o2, oe, ob, hOF, hofc⟩ := of_tell t b
  have HOF := Lib.hid hOF; have HOFC := Lib.hid hofc
  clear hOF hofc
  have hA0 := Lib.hid (((Blk.new w 23 #[.int .i64 a1, .int .i64 a2]).alloc (.cells #[.int .i64 b1, .int .i64 b2] 23)).alloc (.cells #[.int .i64 0, .int .i64 0] 23))
  have hB0 := Lib.hid ((Blk.new' (w.alloc (.cells #[.int .i64 a1, .int .i64 a2] 23)) 23 #[.int .i64 b1, .int .i64 b2] (g := w.heap.size + 1) (by simp)).alloc (.cells #[.int .i64 0, .int .i64 0] 23))
  have hW0 := Lib.hid (Blk.new' ((w.alloc (.cells #[.int .i64 a1, .int .i64 a2] 23)).alloc (.cells #[.int .i64 b1, .int .i64 b2] 23)) 23 #[.int .i64 0, .int .i64 0] (g := w.heap.size + 1 + 1) (by simp))
  have hL0 := Lib.hid ((((Below.refl w.heap.size w).alloc (Nat.le_refl _) (.cells #[.int .i64 a1, .int .i64 a2] 23)).alloc (by simp) (.cells #[.int .i64 b1, .int .i64 b2] 23)).alloc (by simp; omega) (.cells #[.int .i64 0, .int .i64 0] 23))
  go_enter Tryd.func3, Tryd.ntmps3
  go_upto_region 3 with (fail)
  go_cut [40] (fun s40 wx => s40 = .bool ob ∧ Hid (Blk wx w.heap.size 23 #[.int .i64 a1, .int .i64 a2]) ∧ Hid (Blk wx (w.heap.size + 1) 23 #[.int .i64 b1, .int .i64 b2]) ∧ Hid (Blk wx (w.heap.size + 1 + 1) 23 #[.int .i64 0, .int .i64 0]) ∧ Hid (Below w.heap.size w wx))
  case first =>
    rcases HOFC.out with ⟨h, _, _, _, h4⟩ | ⟨h, _, _, _, h4⟩
    · subst h4
      unfold FracIn at h
      by_cases q1 : b < 1
      · go_wp2
        go_meet
        exact ⟨rfl, hA0, hB0, hW0, hL0⟩
      · by_cases q2 : 100000000 < b
        · go_wp2
          go_meet
          exact ⟨rfl, hA0, hB0, hW0, hL0⟩
        · by_cases q3 : t < -1000000000
          · go_wp2
            go_meet
            exact ⟨rfl, hA0, hB0, hW0, hL0⟩
          · have q4 : 1000000000 < t := by omega
            clear h
            go_wp2
            go_meet
            exact ⟨rfl, hA0, hB0, hW0, hL0⟩
    · subst h4
      obtain ⟨i0, i1, i2, i3⟩ := h
      have q1 : decide (b < 1) = false := decide_eq_false (by omega)
      have q2 : decide (100000000 < b) = false := decide_eq_false (by omega)
      have q3 : decide (t < -1000000000) = false := decide_eq_false (by omega)
      have q4 : decide (1000000000 < t) = false := decide_eq_false (by omega)
      go_wp2
      go_meet
      exact ⟨rfl, hA0, hB0, hW0, hL0⟩
  case rest =>
    obtain ⟨rfl, HA, HB, HW, HL⟩ := hcut
    clear hA0 hB0 hW0 hL0
    obtain ⟨wd, hwd⟩ : ∃ x, x = wc := ⟨_, rfl⟩
    rw [← hwd] at HA HB HW HL ⊢
    clear hwd
    go_upto_if 40 with (fail)
    go_cut [11] (fun s11 wx => s11 = .int .i64 oe ∧ Hid (Blk wx w.heap.size 23 #[.int .i64 a1, .int .i64 a2]) ∧ Hid (Blk wx (w.heap.size + 1) 23 #[.int .i64 b1, .int .i64 b2]) ∧ Hid (Blk wx (w.heap.size + 1 + 1) 23 #[.int .i64 o1, .int .i64 o2]) ∧ Hid (Below w.heap.size w wx))
    case first =>
      rcases HOFC.out with ⟨h, h1, h2, h3, h4⟩ | ⟨h, h1, h2, h3, h4⟩
      · subst h1 h2 h3 h4
        go_wp2
        go_meet
        exact ⟨rfl, HA, HB, HW, HL⟩
      · subst h3 h4
        obtain ⟨i0, i1, i2, i3⟩ := h
        have HLW := Lib.hid fun W => by have := refLow_any t b W (by omega) (by omega) (by omega) (by omega); rw [h1, h2] at this; exact this
        clear h1 h2
        go_wp2_with fail
        refine (HLW.out _).mono ?_; rintro e wq ⟨rfl, hb⟩
        have KA := Lib.hid (HA.out.go hb); have KB := Lib.hid (HB.out.go hb); have KW := Lib.hid (HW.out.go hb); have KL := Lib.hid (HL.out.trans (hb.mono HL.out.size))
        clear hb
        obtain ⟨w0, w1, f0, f1, wz⟩ := KW.out.two
        have e1 : w.heap.size ≠ w.heap.size + 1 + 1 := by omega
        have e2 : w.heap.size + 1 ≠ w.heap.size + 1 + 1 := by omega
        go_wp2
        go_meet
        exact ⟨rfl, Lib.hid ((KA.out.far (p := ⟨_, 0, none⟩) e1 _).far (p := ⟨_, 1, none⟩) e1 _), Lib.hid ((KB.out.far (p := ⟨_, 0, none⟩) e2 _).far (p := ⟨_, 1, none⟩) e2 _), Lib.hid ((KW.out.s2_0 _).s2_1 _), Lib.hid ((KL.out.setCell (p := ⟨_, 0, none⟩) (by show w.heap.size ≤ w.heap.size + 1 + 1; omega) _).setCell (p := ⟨_, 1, none⟩) (by show w.heap.size ≤ w.heap.size + 1 + 1; omega) _)⟩
    case rest =>
      clear HA HB HW HL
      obtain ⟨rfl, HA, HB, HW, HL⟩ := hcut
      go_wp2_with fail
      refine (HOF.out _).mono ?_; rintro e w1 ⟨rfl, hb1⟩
      have KA := Lib.hid ((HA.out.go hb1).alloc (.cells #[.int .i64 o1, .int .i64 o2] 23)); have KB := Lib.hid ((HB.out.go hb1).alloc (.cells #[.int .i64 o1, .int .i64 o2] 23)); have KW := Lib.hid ((HW.out.go hb1).alloc (.cells #[.int .i64 o1, .int .i64 o2] 23))
      have hl1 := HL.out.trans (hb1.mono HL.out.size)
      have KL := Lib.hid (hl1.alloc hl1.size (.cells #[.int .i64 o1, .int .i64 o2] 23))
      have KX := Lib.hid (Blk.new w1 23 #[.int .i64 o1, .int .i64 o2])
      obtain ⟨gX, hgX⟩ : ∃ x, x = w1.heap.size := ⟨_, rfl⟩
      rw [← hgX] at KX
      have hlt : w.heap.size + 1 + 1 < gX := by have := HW.out.lt; have := hb1.size; omega
      have S := Lib.hid (show FT w _ gX a1 a2 b1 b2 o1 o2 o1 o2 from ⟨KA.out, KB.out, KW.out, KX.out, KL.out, LAID.out.below KL.out, hlt⟩)
      clear HA HB HW HL KA KB KW KL KX hb1 hl1 HOF HOFC LAID
      go_wp2_with fail
      rw [← hgX]
      refine (same_yes oe _ S.out.laid).mono ?_; rintro e wq ⟨rfl, hb⟩
      replace S := Lib.hid (S.out.below hb)
      clear hb hgX hlt
      obtain ⟨ca0, ca1, cb0, cb1, cw0, cw1, cx0, cx1, fw0, fw1, fx0, fx1, za, zb, zw, zx, n1, n2, n3, n4, n5⟩ := S.out.open
      go_wp2_with fail
      refine (HFA.out _).mono ?_; rintro e wq ⟨rfl, hb⟩
      replace S := Lib.hid (S.out.below hb)
      clear ca0 ca1 cb0 cb1 cw0 cw1 cx0 cx1 fw0 fw1 fx0 fx1 za zb zw zx n1 n2 n3 n4 n5 hb
      obtain ⟨ca0, ca1, cb0, cb1, cw0, cw1, cx0, cx1, fw0, fw1, fx0, fx1, za, zb, zw, zx, n1, n2, n3, n4, n5⟩ := S.out.open
      go_wp2_with fail
      refine (HCA.out _).mono ?_; rintro e wq ⟨rfl, hb⟩
      replace S := Lib.hid (S.out.below hb)
      clear ca0 ca1 cb0 cb1 cw0 cw1 cx0 cx1 fw0 fw1 fx0 fx1 za zb zw zx n1 n2 n3 n4 n5 hb
      obtain ⟨ca0, ca1, cb0, cb1, cw0, cw1, cx0, cx1, fw0, fw1, fx0, fx1, za, zb, zw, zx, n1, n2, n3, n4, n5⟩ := S.out.open
      go_wp2_with fail
      refine (sameF_0 _ S.out.laid).mono ?_; rintro e wq ⟨rfl, hb⟩
      replace S := Lib.hid (S.out.below hb)
      clear ca0 ca1 cb0 cb1 cw0 cw1 cx0 cx1 fw0 fw1 fx0 fx1 za zb zw zx n1 n2 n3 n4 n5 hb
      obtain ⟨ca0, ca1, cb0, cb1, cw0, cw1, cx0, cx1, fw0, fw1, fx0, fx1, za, zb, zw, zx, n1, n2, n3, n4, n5⟩ := S.out.open
      go_wp2_with fail
      refine (HTM.out _).mono ?_; rintro e wq ⟨rfl, hb⟩
      replace S := Lib.hid ((S.out.setW 0 0).below hb)
      clear ca0 ca1 cb0 cb1 cw0 cw1 cx0 cx1 fw0 fw1 fx0 fx1 za zb zw zx n1 n2 n3 n4 n5 hb
      obtain ⟨ca0, ca1, cb0, cb1, cw0, cw1, cx0, cx1, fw0, fw1, fx0, fx1, za, zb, zw, zx, n1, n2, n3, n4, n5⟩ := S.out.open
      go_wp2_with fail
      refine (sameF_e 1 _ (S.out.setX 0 0).laid (by decide)).mono ?_; rintro e wq ⟨rfl, hb⟩
      replace S := Lib.hid ((S.out.setX 0 0).below hb)
      clear ca0 ca1 cb0 cb1 cw0 cw1 cx0 cx1 fw0 fw1 fx0 fx1 za zb zw zx n1 n2 n3 n4 n5 hb
      obtain ⟨ca0, ca1, cb0, cb1, cw0, cw1, cx0, cx1, fw0, fw1, fx0, fx1, za, zb, zw, zx, n1, n2, n3, n4, n5⟩ := S.out.open
      go_wp2_with fail
      refine (HBY.out _).mono ?_; rintro e wq ⟨rfl, hb⟩
      replace S := Lib.hid ((S.out.setW 0 0).below hb)
      clear ca0 ca1 cb0 cb1 cw0 cw1 cx0 cx1 fw0 fw1 fx0 fx1 za zb zw zx n1 n2 n3 n4 n5 hb
      obtain ⟨ca0, ca1, cb0, cb1, cw0, cw1, cx0, cx1, fw0, fw1, fx0, fx1, za, zb, zw, zx, n1, n2, n3, n4, n5⟩ := S.out.open
      go_wp2_with fail
      refine (sameF_e 1 _ (S.out.setX 0 0).laid (by decide)).mono ?_; rintro e wq ⟨rfl, hb⟩
      replace S := Lib.hid ((S.out.setX 0 0).below hb)
      clear ca0 ca1 cb0 cb1 cw0 cw1 cx0 cx1 fw0 fw1 fx0 fx1 za zb zw zx n1 n2 n3 n4 n5 hb
      obtain ⟨ca0, ca1, cb0, cb1, cw0, cw1, cx0, cx1, fw0, fw1, fx0, fx1, za, zb, zw, zx, n1, n2, n3, n4, n5⟩ := S.out.open
      go_wp2_with fail
      refine (HFB.out _).mono ?_; rintro e wq ⟨rfl, hb⟩
      replace S := Lib.hid (S.out.below hb)
      clear ca0 ca1 cb0 cb1 cw0 cw1 cx0 cx1 fw0 fw1 fx0 fx1 za zb zw zx n1 n2 n3 n4 n5 hb
      obtain ⟨ca0, ca1, cb0, cb1, cw0, cw1, cx0, cx1, fw0, fw1, fx0, fx1, za, zb, zw, zx, n1, n2, n3, n4, n5⟩ := S.out.open
      go_wp2_with fail
      refine (HOR.out _).mono ?_; rintro e wq ⟨rfl, hb⟩
      replace S := Lib.hid (S.out.below hb)
      clear ca0 ca1 cb0 cb1 cw0 cw1 cx0 cx1 fw0 fw1 fx0 fx1 za zb zw zx n1 n2 n3 n4 n5 hb
      obtain ⟨ca0, ca1, cb0, cb1, cw0, cw1, cx0, cx1, fw0, fw1, fx0, fx1, za, zb, zw, zx, n1, n2, n3, n4, n5⟩ := S.out.open
      go_wp2_with fail
      refine (HCM.out _).mono ?_; rintro e wq ⟨rfl, hb⟩
      replace S := Lib.hid (S.out.below hb)
      clear ca0 ca1 cb0 cb1 cw0 cw1 cx0 cx1 fw0 fw1 fx0 fx1 za zb zw zx n1 n2 n3 n4 n5 hb
      obtain ⟨ca0, ca1, cb0, cb1, cw0, cw1, cx0, cx1, fw0, fw1, fx0, fx1, za, zb, zw, zx, n1, n2, n3, n4, n5⟩ := S.out.open
      go_wp2_with fail
      refine (sameF_0 _ S.out.laid).mono ?_; rintro e wq ⟨rfl, hb⟩
      replace S := Lib.hid (S.out.below hb)
      clear ca0 ca1 cb0 cb1 cw0 cw1 cx0 cx1 fw0 fw1 fx0 fx1 za zb zw zx n1 n2 n3 n4 n5 hb
      obtain ⟨ca0, ca1, cb0, cb1, cw0, cw1, cx0, cx1, fw0, fw1, fx0, fx1, za, zb, zw, zx, n1, n2, n3, n4, n5⟩ := S.out.open
      go_wp2_with fail
      refine (HSM.out _).mono ?_; rintro e wq ⟨rfl, hb⟩
      replace S := Lib.hid ((S.out.setW 0 0).below hb)
      clear ca0 ca1 cb0 cb1 cw0 cw1 cx0 cx1 fw0 fw1 fx0 fx1 za zb zw zx n1 n2 n3 n4 n5 hb
      obtain ⟨ca0, ca1, cb0, cb1, cw0, cw1, cx0, cx1, fw0, fw1, fx0, fx1, za, zb, zw, zx, n1, n2, n3, n4, n5⟩ := S.out.open
      go_wp2_with fail
      refine (HSB.out _).mono ?_; rintro e wq ⟨rfl, hb⟩
      replace S := Lib.hid ((S.out.setW s1 s2).below hb)
      clear ca0 ca1 cb0 cb1 cw0 cw1 cx0 cx1 fw0 fw1 fx0 fx1 za zb zw zx n1 n2 n3 n4 n5 hb
      obtain ⟨ca0, ca1, cb0, cb1, cw0, cw1, cx0, cx1, fw0, fw1, fx0, fx1, za, zb, zw, zx, n1, n2, n3, n4, n5⟩ := S.out.open
      go_wp2_with fail
      refine (HAD.out _).mono ?_; rintro e wq ⟨rfl, hb⟩
      replace S := Lib.hid ((S.out.setW 0 0).below hb)
      clear ca0 ca1 cb0 cb1 cw0 cw1 cx0 cx1 fw0 fw1 fx0 fx1 za zb zw zx n1 n2 n3 n4 n5 hb
      obtain ⟨ca0, ca1, cb0, cb1, cw0, cw1, cx0, cx1, fw0, fw1, fx0, fx1, za, zb, zw, zx, n1, n2, n3, n4, n5⟩ := S.out.open
      go_wp2_with fail
      refine (sameF_e 4 _ (S.out.setX 0 0).laid (by decide)).mono ?_; rintro e wq ⟨rfl, hb⟩
      replace S := Lib.hid ((S.out.setX 0 0).below hb)
      clear ca0 ca1 cb0 cb1 cw0 cw1 cx0 cx1 fw0 fw1 fx0 fx1 za zb zw zx n1 n2 n3 n4 n5 hb
      obtain ⟨ca0, ca1, cb0, cb1, cw0, cw1, cx0, cx1, fw0, fw1, fx0, fx1, za, zb, zw, zx, n1, n2, n3, n4, n5⟩ := S.out.open
      have hfin := S.out.bel
      go_wp2
      go_ret
      exact ⟨rfl, hfin⟩
end Go.Proofs.YtblanfaghnflkaaDoor
