/- The walk of SourceKeeps: it returns true for every input. -/
import Derived.Test.YtkheobdkmmbjnaaSource
namespace Go.Proofs.Ytkheobdkmmbjnaa
open Go.RowKit
attribute [local go_sem ↓] run_min_mn run_max_mx
theorem send_one (w : World) : Calls Try.prog 29 #[.agg #[.int .i64 3, .int .i64 1, .int .i64 9, .int .i64 0]] w fun e w' =>
      e = .returned (.tuple #[.agg #[.int .i64 3, .int .i64 3, .int .i64 7, .int .i64 0], .int .i64 2, .nilIface]) ∧ Below w.heap.size w w' :=
  (send_yes 3 1 9 0 w (by unfold SourceOk; omega)).mono fun _ _ ⟨he, hw⟩ => ⟨by rw [he]; rfl, hw⟩
/-- what an answer, or a loss, makes of one that is right -/
def StepIs (_W a l c : Int) (v : Value) : Prop :=
  (∃ W' a' l' c', v = .tuple #[.agg #[.int .i64 W', .int .i64 a', .int .i64 l', .int .i64 c'], .nilIface] ∧ SourceOk W' a' l' c' ∧ a' + l' + c' = a + l + c) ∨
  ((a ≤ 0 ∨ 10000 ≤ c ∨ 10000 ≤ l) ∧ ∃ e, v = .tuple #[.agg #[.int .i64 0, .int .i64 0, .int .i64 0, .int .i64 0], .iface 34 (.int .i64 e)])
theorem ack_step (W a l c : Int) (b : Bool) (w : World) (ok : SourceOk W a l c) :
    Calls Try.prog 31 #[.agg #[.int .i64 W, .int .i64 a, .int .i64 l, .int .i64 c], .bool b] w fun e w' => ∃ v, e = .returned v ∧ StepIs W a l c v ∧ Below w.heap.size w w' := by
  have hk := ok
  obtain ⟨g1, g2, g3, g4, g5, g6, g7, g8⟩ := hk
  by_cases h : a = 0
  · subst h
    exact (ack_low W l c b w ok).mono fun _ _ ⟨he, hw⟩ => ⟨_, he, .inr ⟨.inl (by omega), _, rfl⟩, hw⟩
  · by_cases hc : c = 10000
    · subst hc
      exact (ack_full W a l b w ok h).mono fun _ _ ⟨he, hw⟩ => ⟨_, he, .inr ⟨.inr (.inl (by omega)), _, rfl⟩, hw⟩
    · refine (ack_yes W a l c b w ok h hc).mono fun _ _ ⟨he, hw⟩ => ⟨_, he, .inl ⟨_, _, _, _, rfl, ?_, by omega⟩, hw⟩
      unfold SourceOk ackW
      cases b <;> simp <;> omega
theorem lost_step (W a l c : Int) (w : World) (ok : SourceOk W a l c) :
    Calls Try.prog 32 #[.agg #[.int .i64 W, .int .i64 a, .int .i64 l, .int .i64 c]] w fun e w' => ∃ v, e = .returned v ∧ StepIs W a l c v ∧ Below w.heap.size w w' := by
  have hk := ok
  obtain ⟨g1, g2, g3, g4, g5, g6, g7, g8⟩ := hk
  by_cases h : a = 0
  · subst h
    exact (lost_low W l c w ok).mono fun _ _ ⟨he, hw⟩ => ⟨_, he, .inr ⟨.inl (by omega), _, rfl⟩, hw⟩
  · by_cases hc : l = 10000
    · subst hc
      exact (lost_full W a c w ok h).mono fun _ _ ⟨he, hw⟩ => ⟨_, he, .inr ⟨.inr (.inr (by omega)), _, rfl⟩, hw⟩
    · refine (lost_yes W a l c w ok h hc).mono fun _ _ ⟨he, hw⟩ => ⟨_, he, .inl ⟨_, _, _, _, rfl, ?_, by omega⟩, hw⟩
      unfold SourceOk
      omega
theorem send_step (W a l c : Int) (w : World) (ok : SourceOk W a l c) :
    Calls Try.prog 29 #[.agg #[.int .i64 W, .int .i64 a, .int .i64 l, .int .i64 c]] w fun e w' => ∃ n : Int, e = .returned (.tuple #[.agg #[.int .i64 W, .int .i64 (a + n), .int .i64 (l - n), .int .i64 c], .int .i64 n, .nilIface]) ∧ 0 ≤ n ∧ n ≤ l ∧ (n ≤ 0 ∨ a + n ≤ W) ∧ Below w.heap.size w w' := by
  have hk := ok
  obtain ⟨g1, g2, g3, g4, g5, g6, g7, g8⟩ := hk
  refine (send_yes W a l c w ok).mono fun _ _ ⟨he, hw⟩ => ⟨_, he, ?_, ?_, ?_, hw⟩ <;> unfold sentN <;> omega
set_option maxHeartbeats 8000000 in
set_option maxRecDepth 100000 in
theorem sourceKeeps_walk (W0 a0 l0 c0 : Int) (_ : (Lit.int .i64 W0).wf = true) (_ : (Lit.int .i64 a0).wf = true) (_ : (Lit.int .i64 l0).wf = true) (_ : (Lit.int .i64 c0).wf = true) (A : Option Addr) (cp : Nat) (ls : List Int) (w : World) (hi : Ints w w.heap.size A cp ls)
    (hwf : ∀ n ∈ ls, (Lit.int .i64 n).wf = true) :
    Calls Try.prog 10 #[.agg #[.int .i64 W0, .int .i64 a0, .int .i64 l0, .int .i64 c0], .slice A ls.length cp] w fun e w' => e = .returned (.bool true) ∧ Below w.heap.size w w' := by
  have hm := hi.cap
  have hle := hi.le
  unfold maxLen at hm
  have HI := Lib.hid hi; clear hi
  have HWF := Lib.hid hwf; clear hwf
  have b0 : Below w.heap.size w (w.alloc (.cells #[.int .i64 W0, .int .i64 a0, .int .i64 l0, .int .i64 c0] 60)) := (Below.refl _ _).alloc (Nat.le_refl _) _
  by_cases hok : SourceOk W0 a0 l0 c0
  · have hk := hok
    obtain ⟨g1, g2, g3, g4, g5, g6, g7, g8⟩ := hk
    have HOK := Lib.hid hok; clear hok
    go_enter Try.func10, Try.ntmps10
    go_wp2_with fail
    refine (send_one _).mono ?_; rintro e w1 ⟨rfl, hb1⟩
    have hw1 := b0.trans (hb1.mono (by simp))
    have HP1 := Lib.hid ((Blk.new w 60 #[.int .i64 W0, .int .i64 a0, .int .i64 l0, .int .i64 c0]).below hb1 (by simp))
    clear hb1 b0
    obtain ⟨p0, p1, p2, p3, f0, f1, f2, f3, z0⟩ := HP1.out.four
    go_wp2_with fail
    refine (scheck_yes W0 a0 l0 c0 _ HOK.out).mono ?_; rintro e w2 ⟨rfl, rfl⟩
    have z1 : w.heap.size < w1.heap.size + 1 := by omega
    go_wp2_with fail
    generalize hA : a0 + l0 + c0 = all at *
    have HALL := Lib.hid hA; clear hA
    have r0 : 0 ≤ all ∧ all ≤ 30000 := by have := HALL.out; omega
    obtain ⟨r0, r1⟩ := r0
    go_loopw [9] (fun i wr => ∃ (j : Nat) (W a l c : Int), j ≤ ls.length ∧ i = .int .i64 j ∧ Hid (SourceOk W a l c) ∧ Hid (a + l + c = all) ∧ Hid (Blk wr w.heap.size 60 #[.int .i64 W, .int .i64 a, .int .i64 l, .int .i64 c]) ∧ Below w.heap.size w wr) (fun i _ => ls.length - (intOf i).toNat)
    case atStart => exact ⟨0, W0, a0, l0, c0, Nat.zero_le _, rfl, HOK, HALL, (HP1.out.alloc _).alloc _, (hw1.alloc hw1.size _).alloc (by simp; have := hw1.size; omega) _⟩
    case round =>
      clear p0 p1 p2 p3 f0 f1 f2 f3 z0 z1 g1 g2 g3 g4 g5 g6 g7 g8
      obtain ⟨j, W, a, l, c, hj, rfl, HS, HA, HP, hbel⟩ := hrel
      obtain ⟨p0, p1, p2, p3, f0, f1, f2, f3, z0⟩ := HP.out.four
      by_cases hlt : j < ls.length ∧ j < 60
      · obtain ⟨hlt, h60⟩ := hlt
        obtain ⟨bb, off, n, rfl, hbb, hc, hn, HT, HX⟩ := (HI.out.below hbel (Nat.le_refl _)).elem hlt
        clear HT HX hn
        have hok := HS.out
        obtain ⟨g1, g2, g3, g4, g5, g6, g7, g8⟩ := hok
        have hX0 := Lib.hid (Blk.new wr 60 #[.int .i64 0, .int .i64 0, .int .i64 0, .int .i64 0])
        have hcb : w.heap.size ≤ wr.heap.size := by omega
        have q : (n.tmod 3 == 0) = true ∨ ((n.tmod 3 == 0) = false ∧ (n.tmod 3 == 1) = true) ∨ ((n.tmod 3 == 0) = false ∧ (n.tmod 3 == 1) = false) := by
          cases e1 : (n.tmod 3 == 0)
          · cases e2 : (n.tmod 3 == 1)
            · exact .inr (.inr ⟨rfl, rfl⟩)
            · exact .inr (.inl ⟨rfl, rfl⟩)
          · exact .inl rfl
        have hx : bb < wr.heap.size := by omega
        have HZ := Lib.hid (Blk.new wr 60 #[.int .i64 0, .int .i64 0, .int .i64 0, .int .i64 0])
        have hsum : a + l + c ≤ all ∧ all ≤ a + l + c := by have := HA.out; omega
        obtain ⟨hs1, hs2⟩ := hsum
        rcases q with q | ⟨q, q2⟩ | ⟨q, q2⟩
        · go_wp2_with fail
          refine (send_step W a l c _ HS.out).mono ?_; rintro e w3 ⟨k, rfl, k0, k1, k2, hb3⟩
          have hok' : SourceOk W (a + k) (l - k) c := by unfold SourceOk; omega
          have hrest : (a + k) + (l - k) + c = all := by omega
          have htest : decide (0 < k) = false ∨ (decide (0 < k) = true ∧ decide (W < a + k) = false) := by
            by_cases q : 0 < k
            · exact .inr ⟨decide_eq_true q, decide_eq_false (by omega)⟩
            · exact .inl (decide_eq_false q)
          generalize ha' : a + k = a' at *
          generalize hl' : l - k = l' at *
          have HAK := Lib.hid ha'
          clear ha' hl' k2
          have HOK' := Lib.hid hok'
          have HREST := Lib.hid hrest
          clear hok' hrest
          have hw3 : Below w.heap.size w w3 := (hbel.alloc hbel.size _).trans (hb3.mono (by simp; omega))
          have HP3 := Lib.hid ((HP.out.alloc _).below hb3 (by simp; omega))
          have HX3 := Lib.hid (HZ.out.below hb3 (by simp))
          have hg3 : wr.heap.size < w3.heap.size := HX3.out.lt
          clear hb3 p0 p1 p2 p3 f0 f1 f2 f3 HP HZ hX0
          obtain ⟨p0, p1, p2, p3, f0, f1, f2, f3, z1⟩ := HP3.out.four
          obtain ⟨x0, x1, x2, x3, fx0, fx1, fx2, fx3, _⟩ := HX3.out.four
          have HX4 := ((((HX3.out.set_ 0 (.int .i64 W)).set_ 1 (.int .i64 a')).set_ 2 (.int .i64 l')).set_ 3 (.int .i64 c)).val (cs' := #[.int .i64 W, .int .i64 a', .int .i64 l', .int .i64 c]) rfl
          obtain ⟨y0, y1, y2, y3, _⟩ := HX4.four
          have HP4 := Lib.hid ((((((HP3.out.far (p := ⟨wr.heap.size, 0, none⟩) (by simp; omega) (.int .i64 W)).far (p := ⟨wr.heap.size, 1, none⟩) (by simp; omega) (.int .i64 a')).far (p := ⟨wr.heap.size, 2, none⟩) (by simp; omega) (.int .i64 l')).far (p := ⟨wr.heap.size, 3, none⟩) (by simp; omega) (.int .i64 c))))
          have hw4 : Below w.heap.size w ((((w3.setCell ⟨wr.heap.size, 0, none⟩ (.int .i64 W)).setCell ⟨wr.heap.size, 1, none⟩ (.int .i64 a')).setCell ⟨wr.heap.size, 2, none⟩ (.int .i64 l')).setCell ⟨wr.heap.size, 3, none⟩ (.int .i64 c)) :=
            (((hw3.setCell (by simp; omega) _).setCell (by simp; omega) _).setCell (by simp; omega) _).setCell (by simp; omega) _
          clear HX4
          have hd0 : decide (k < 0) = false := decide_eq_false (by omega)
          have hak : (a' != a + k) = false := by rw [HAK.out]; simp
          rcases htest with ht | ⟨ht, ht2⟩
          all_goals
            have hok'' := HOK'.out
            obtain ⟨e1, e2, e3, e4, e5, e6, e7, e8⟩ := hok''
            have hall : (a' + l' + c != all) = false := by rw [HREST.out]; simp
            go_wp2_with fail
            refine (scheck_yes W a' l' c _ HOK'.out).mono ?_; rintro e w5 ⟨rfl, rfl⟩
            have z2 : w.heap.size < w3.heap.size + 1 := by omega
            have z3 : wr.heap.size < w3.heap.size + 1 := by omega
            go_wp2_with fail
            exact ⟨⟨j + 1, W, a', l', c, by omega, by go_num, HOK', HREST, (((((HP4.out.set_ 0 _).set_ 1 _).set_ 2 _).set_ 3 _).alloc _), ((((hw4.setCell (by simp) _).setCell (by simp) _).setCell (by simp) _).setCell (by simp) _).alloc (by simp [World.setCell]; omega) _⟩, by simp [intOf]; omega⟩
        · go_wp2_with fail
          refine (ack_step W a l c _ _ HS.out).mono ?_; rintro e w3 ⟨v, rfl, hv, hb3⟩
          rcases hv with ⟨W', a', l', c', rfl, hok', hrest⟩ | ⟨hno, ev, rfl⟩
          · have HREST : Hid (a' + l' + c' = all) := Lib.hid (by rw [hrest]; exact HA.out)
            have HOK' := Lib.hid hok'
            clear hok' hrest
            have hw3 : Below w.heap.size w w3 := (hbel.alloc hbel.size _).trans (hb3.mono (by simp; omega))
            have HP3 := Lib.hid ((HP.out.alloc _).below hb3 (by simp; omega))
            have HX3 := Lib.hid (HZ.out.below hb3 (by simp))
            have hg3 : wr.heap.size < w3.heap.size := HX3.out.lt
            clear hb3 p0 p1 p2 p3 f0 f1 f2 f3 HP HZ hX0
            obtain ⟨p0, p1, p2, p3, f0, f1, f2, f3, z1⟩ := HP3.out.four
            obtain ⟨x0, x1, x2, x3, fx0, fx1, fx2, fx3, _⟩ := HX3.out.four
            have HX4 := ((((HX3.out.set_ 0 (.int .i64 W')).set_ 1 (.int .i64 a')).set_ 2 (.int .i64 l')).set_ 3 (.int .i64 c')).val (cs' := #[.int .i64 W', .int .i64 a', .int .i64 l', .int .i64 c']) rfl
            obtain ⟨y0, y1, y2, y3, _⟩ := HX4.four
            have HP4 := Lib.hid ((((((HP3.out.far (p := ⟨wr.heap.size, 0, none⟩) (by simp; omega) (.int .i64 W')).far (p := ⟨wr.heap.size, 1, none⟩) (by simp; omega) (.int .i64 a')).far (p := ⟨wr.heap.size, 2, none⟩) (by simp; omega) (.int .i64 l')).far (p := ⟨wr.heap.size, 3, none⟩) (by simp; omega) (.int .i64 c'))))
            have hw4 : Below w.heap.size w ((((w3.setCell ⟨wr.heap.size, 0, none⟩ (.int .i64 W')).setCell ⟨wr.heap.size, 1, none⟩ (.int .i64 a')).setCell ⟨wr.heap.size, 2, none⟩ (.int .i64 l')).setCell ⟨wr.heap.size, 3, none⟩ (.int .i64 c')) :=
              (((hw3.setCell (by simp; omega) _).setCell (by simp; omega) _).setCell (by simp; omega) _).setCell (by simp; omega) _
            clear HX4
            have hok'' := HOK'.out
            obtain ⟨e1, e2, e3, e4, e5, e6, e7, e8⟩ := hok''
            have hall : (a' + l' + c' != all) = false := by rw [HREST.out]; simp
            go_wp2_with fail
            refine (scheck_yes W' a' l' c' _ HOK'.out).mono ?_; rintro e w5 ⟨rfl, rfl⟩
            have z2 : w.heap.size < w3.heap.size + 1 := by omega
            have z3 : wr.heap.size < w3.heap.size + 1 := by omega
            go_wp2_with fail
            exact ⟨⟨j + 1, W', a', l', c', by omega, by go_num, HOK', HREST, (((((HP4.out.set_ 0 _).set_ 1 _).set_ 2 _).set_ 3 _).alloc _), ((((hw4.setCell (by simp) _).setCell (by simp) _).setCell (by simp) _).setCell (by simp) _).alloc (by simp [World.setCell]; omega) _⟩, by simp [intOf]; omega⟩
          · have htest : decide (0 < a) = false ∨ (decide (0 < a) = true ∧ decide (c < 10000) = false) ∨ (decide (0 < a) = true ∧ decide (c < 10000) = true ∧ decide (l < 10000) = false) := by
              by_cases t1 : 0 < a
              · by_cases t2 : c < 10000
                · exact .inr (.inr ⟨decide_eq_true t1, decide_eq_true t2, decide_eq_false (by omega)⟩)
                · exact .inr (.inl ⟨decide_eq_true t1, decide_eq_false t2⟩)
              · exact .inl (decide_eq_false t1)
            clear hno
            have hw3 : Below w.heap.size w w3 := (hbel.alloc hbel.size _).trans (hb3.mono (by simp; omega))
            have HP3 := Lib.hid ((HP.out.alloc _).below hb3 (by simp; omega))
            have HX3 := Lib.hid (HZ.out.below hb3 (by simp))
            have hg3 : wr.heap.size < w3.heap.size := HX3.out.lt
            clear hb3 p0 p1 p2 p3 f0 f1 f2 f3 HP HZ hX0
            obtain ⟨p0, p1, p2, p3, f0, f1, f2, f3, z1⟩ := HP3.out.four
            obtain ⟨x0, x1, x2, x3, fx0, fx1, fx2, fx3, _⟩ := HX3.out.four
            have HX4 := ((((HX3.out.set_ 0 (.int .i64 0)).set_ 1 (.int .i64 0)).set_ 2 (.int .i64 0)).set_ 3 (.int .i64 0)).val (cs' := #[.int .i64 0, .int .i64 0, .int .i64 0, .int .i64 0]) rfl
            obtain ⟨y0, y1, y2, y3, _⟩ := HX4.four
            have HP4 := Lib.hid ((((((HP3.out.far (p := ⟨wr.heap.size, 0, none⟩) (by simp; omega) (.int .i64 0)).far (p := ⟨wr.heap.size, 1, none⟩) (by simp; omega) (.int .i64 0)).far (p := ⟨wr.heap.size, 2, none⟩) (by simp; omega) (.int .i64 0)).far (p := ⟨wr.heap.size, 3, none⟩) (by simp; omega) (.int .i64 0))))
            have hw4 : Below w.heap.size w ((((w3.setCell ⟨wr.heap.size, 0, none⟩ (.int .i64 0)).setCell ⟨wr.heap.size, 1, none⟩ (.int .i64 0)).setCell ⟨wr.heap.size, 2, none⟩ (.int .i64 0)).setCell ⟨wr.heap.size, 3, none⟩ (.int .i64 0)) :=
              (((hw3.setCell (by simp; omega) _).setCell (by simp; omega) _).setCell (by simp; omega) _).setCell (by simp; omega) _
            clear HX4
            rcases htest with t1 | ⟨t1, t2⟩ | ⟨t1, t2, t3⟩
            all_goals
              go_wp2_with fail
              exact ⟨⟨j + 1, W, a, l, c, by omega, by go_num, HS, HA, HP4.out, hw4⟩, by simp [intOf]; omega⟩
        · go_wp2_with fail
          refine (lost_step W a l c _ HS.out).mono ?_; rintro e w3 ⟨v, rfl, hv, hb3⟩
          rcases hv with ⟨W', a', l', c', rfl, hok', hrest⟩ | ⟨hno, ev, rfl⟩
          · have HREST : Hid (a' + l' + c' = all) := Lib.hid (by rw [hrest]; exact HA.out)
            have HOK' := Lib.hid hok'
            clear hok' hrest
            have hw3 : Below w.heap.size w w3 := (hbel.alloc hbel.size _).trans (hb3.mono (by simp; omega))
            have HP3 := Lib.hid ((HP.out.alloc _).below hb3 (by simp; omega))
            have HX3 := Lib.hid (HZ.out.below hb3 (by simp))
            have hg3 : wr.heap.size < w3.heap.size := HX3.out.lt
            clear hb3 p0 p1 p2 p3 f0 f1 f2 f3 HP HZ hX0
            obtain ⟨p0, p1, p2, p3, f0, f1, f2, f3, z1⟩ := HP3.out.four
            obtain ⟨x0, x1, x2, x3, fx0, fx1, fx2, fx3, _⟩ := HX3.out.four
            have HX4 := ((((HX3.out.set_ 0 (.int .i64 W')).set_ 1 (.int .i64 a')).set_ 2 (.int .i64 l')).set_ 3 (.int .i64 c')).val (cs' := #[.int .i64 W', .int .i64 a', .int .i64 l', .int .i64 c']) rfl
            obtain ⟨y0, y1, y2, y3, _⟩ := HX4.four
            have HP4 := Lib.hid ((((((HP3.out.far (p := ⟨wr.heap.size, 0, none⟩) (by simp; omega) (.int .i64 W')).far (p := ⟨wr.heap.size, 1, none⟩) (by simp; omega) (.int .i64 a')).far (p := ⟨wr.heap.size, 2, none⟩) (by simp; omega) (.int .i64 l')).far (p := ⟨wr.heap.size, 3, none⟩) (by simp; omega) (.int .i64 c'))))
            have hw4 : Below w.heap.size w ((((w3.setCell ⟨wr.heap.size, 0, none⟩ (.int .i64 W')).setCell ⟨wr.heap.size, 1, none⟩ (.int .i64 a')).setCell ⟨wr.heap.size, 2, none⟩ (.int .i64 l')).setCell ⟨wr.heap.size, 3, none⟩ (.int .i64 c')) :=
              (((hw3.setCell (by simp; omega) _).setCell (by simp; omega) _).setCell (by simp; omega) _).setCell (by simp; omega) _
            clear HX4
            have hok'' := HOK'.out
            obtain ⟨e1, e2, e3, e4, e5, e6, e7, e8⟩ := hok''
            have hall : (a' + l' + c' != all) = false := by rw [HREST.out]; simp
            go_wp2_with fail
            refine (scheck_yes W' a' l' c' _ HOK'.out).mono ?_; rintro e w5 ⟨rfl, rfl⟩
            have z2 : w.heap.size < w3.heap.size + 1 := by omega
            have z3 : wr.heap.size < w3.heap.size + 1 := by omega
            go_wp2_with fail
            exact ⟨⟨j + 1, W', a', l', c', by omega, by go_num, HOK', HREST, (((((HP4.out.set_ 0 _).set_ 1 _).set_ 2 _).set_ 3 _).alloc _), ((((hw4.setCell (by simp) _).setCell (by simp) _).setCell (by simp) _).setCell (by simp) _).alloc (by simp [World.setCell]; omega) _⟩, by simp [intOf]; omega⟩
          · have htest : decide (0 < a) = false ∨ (decide (0 < a) = true ∧ decide (c < 10000) = false) ∨ (decide (0 < a) = true ∧ decide (c < 10000) = true ∧ decide (l < 10000) = false) := by
              by_cases t1 : 0 < a
              · by_cases t2 : c < 10000
                · exact .inr (.inr ⟨decide_eq_true t1, decide_eq_true t2, decide_eq_false (by omega)⟩)
                · exact .inr (.inl ⟨decide_eq_true t1, decide_eq_false t2⟩)
              · exact .inl (decide_eq_false t1)
            clear hno
            have hw3 : Below w.heap.size w w3 := (hbel.alloc hbel.size _).trans (hb3.mono (by simp; omega))
            have HP3 := Lib.hid ((HP.out.alloc _).below hb3 (by simp; omega))
            have HX3 := Lib.hid (HZ.out.below hb3 (by simp))
            have hg3 : wr.heap.size < w3.heap.size := HX3.out.lt
            clear hb3 p0 p1 p2 p3 f0 f1 f2 f3 HP HZ hX0
            obtain ⟨p0, p1, p2, p3, f0, f1, f2, f3, z1⟩ := HP3.out.four
            obtain ⟨x0, x1, x2, x3, fx0, fx1, fx2, fx3, _⟩ := HX3.out.four
            have HX4 := ((((HX3.out.set_ 0 (.int .i64 0)).set_ 1 (.int .i64 0)).set_ 2 (.int .i64 0)).set_ 3 (.int .i64 0)).val (cs' := #[.int .i64 0, .int .i64 0, .int .i64 0, .int .i64 0]) rfl
            obtain ⟨y0, y1, y2, y3, _⟩ := HX4.four
            have HP4 := Lib.hid ((((((HP3.out.far (p := ⟨wr.heap.size, 0, none⟩) (by simp; omega) (.int .i64 0)).far (p := ⟨wr.heap.size, 1, none⟩) (by simp; omega) (.int .i64 0)).far (p := ⟨wr.heap.size, 2, none⟩) (by simp; omega) (.int .i64 0)).far (p := ⟨wr.heap.size, 3, none⟩) (by simp; omega) (.int .i64 0))))
            have hw4 : Below w.heap.size w ((((w3.setCell ⟨wr.heap.size, 0, none⟩ (.int .i64 0)).setCell ⟨wr.heap.size, 1, none⟩ (.int .i64 0)).setCell ⟨wr.heap.size, 2, none⟩ (.int .i64 0)).setCell ⟨wr.heap.size, 3, none⟩ (.int .i64 0)) :=
              (((hw3.setCell (by simp; omega) _).setCell (by simp; omega) _).setCell (by simp; omega) _).setCell (by simp; omega) _
            clear HX4
            rcases htest with t1 | ⟨t1, t2⟩ | ⟨t1, t2, t3⟩
            all_goals
              go_wp2_with fail
              exact ⟨⟨j + 1, W, a, l, c, by omega, by go_num, HS, HA, HP4.out, hw4⟩, by simp [intOf]; omega⟩
      · have hfin : decide ((j : Int) < (ls.length : Int)) = false ∨ (decide ((j : Int) < (ls.length : Int)) = true ∧ decide ((j : Int) < 60) = false) := by
          by_cases t : j < ls.length
          · exact .inr ⟨decide_eq_true (by omega), decide_eq_false (by omega)⟩
          · exact .inl (decide_eq_false (by omega))
        rcases hfin with t | ⟨t, t2⟩
        all_goals
          go_wp2_with fail
          all_goals
            go_ret
            exact ⟨rfl, hbel⟩
  · have HNO := Lib.hid hok; clear hok
    go_enter Try.func10, Try.ntmps10
    go_wp2_with fail
    refine (send_one _).mono ?_; rintro e w1 ⟨rfl, hb1⟩
    have hw1 := b0.trans (hb1.mono (by simp))
    have HP1 := Lib.hid ((Blk.new w 60 #[.int .i64 W0, .int .i64 a0, .int .i64 l0, .int .i64 c0]).below hb1 (by simp))
    clear hb1 b0
    obtain ⟨p0, p1, p2, p3, f0, f1, f2, f3, z0⟩ := HP1.out.four
    go_wp2_with fail
    refine (scheck_no W0 a0 l0 c0 _ HNO.out).mono ?_; rintro e w2 ⟨rfl, rfl⟩
    go_wp2
    go_ret
    exact ⟨rfl, (hw1.alloc hw1.size _).alloc (by simp; have := hw1.size; omega) _⟩
end Go.Proofs.Ytkheobdkmmbjnaa
