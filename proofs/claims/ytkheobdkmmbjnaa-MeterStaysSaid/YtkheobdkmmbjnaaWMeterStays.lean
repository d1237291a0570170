/- The walk of MeterStays: it returns true for every input. -/
import Derived.Test.YtkheobdkmmbjnaaMeter
namespace Go.Proofs.Ytkheobdkmmbjnaa
open Go.RowKit
attribute [local go_sem ↓] run_min_mn run_max_mx
theorem mnext_fact (w : World) : Calls Try.prog 25 #[.agg #[.int .i64 10, .int .i64 20, .int .i64 0], .int .i64 8] w fun e w' => e = .returned (.tuple #[.int .i64 4, .nilIface]) ∧ Below w.heap.size w w' :=
  (mnext_yes 10 20 0 8 w (by unfold MeterOk; omega) (by omega) (by omega)).mono fun _ _ ⟨he, hw⟩ => ⟨by rw [he]; rfl, hw⟩
/-- the next rate is no more than n, where there is one -/
theorem mnext_le (c a k r n : Int) (w : World) (hn : Hid (MeterOk c a k → 1 ≤ r → r ≤ 1000 → PM.nxt c a k r ≤ n)) :
    Calls Try.prog 25 #[.agg #[.int .i64 c, .int .i64 a, .int .i64 k], .int .i64 r] w fun e w' => ∃ v, e = .returned v ∧ ((∃ x, v = .tuple #[.int .i64 x, .nilIface] ∧ x ≤ n) ∨ v = .tuple #[.int .i64 0, .iface 34 (.int .i64 1)]) ∧ Below w.heap.size w w' := by
  by_cases h : MeterOk c a k ∧ 1 ≤ r ∧ r ≤ 1000
  · exact (mnext_yes c a k r w h.1 h.2.1 h.2.2).mono fun _ _ ⟨he, hw⟩ => ⟨_, he, .inl ⟨_, rfl, hn.out h.1 h.2.1 h.2.2⟩, hw⟩
  · exact (mnext_no c a k r w h).mono fun _ _ ⟨he, hw⟩ => ⟨_, he, .inr rfl, hw⟩
set_option maxHeartbeats 4000000 in
set_option maxRecDepth 100000 in
theorem meterStays_walk (c a k : Int) (_ : (Lit.int .i64 c).wf = true) (_ : (Lit.int .i64 a).wf = true) (_ : (Lit.int .i64 k).wf = true) (r : Int) (_ : (Lit.int .i64 r).wf = true) (m : Int) (_ : (Lit.int .i64 m).wf = true) (w : World) :
    Calls Try.prog 7 #[.agg #[.int .i64 c, .int .i64 a, .int .i64 k], .int .i64 r, .int .i64 m] w fun e w' => e = .returned (.bool true) ∧ Below w.heap.size w w' := by
  have b0 : Below w.heap.size w (w.alloc (.cells #[.int .i64 c, .int .i64 a, .int .i64 k] 46)) := (Below.refl _ _).alloc (Nat.le_refl _) _
  by_cases hv : MeterOk c a k ∧ 1 ≤ r ∧ r ≤ 1000
  · obtain ⟨h, r0, r1⟩ := hv
    have hk := h
    obtain ⟨g1, g2, g3, g4, g5, g6⟩ := hk
    have HOK := Lib.hid h; clear h
    obtain ⟨n0, n1⟩ := PM.bounds c a k r g1
    have hcase : (a == c) = false ∨ ((a == c) = true ∧ (k == 0) = false) ∨ ((a == c) = true ∧ (k == 0) = true ∧ (PM.nxt c a k r != r) = false) ∨ ((a == c) = true ∧ (k == 0) = true ∧ (PM.nxt c a k r != r) = true ∧ decide (r ≤ c) = false) := by
      by_cases e1 : a = c
      · by_cases e2 : k = 0
        · subst e1 e2
          by_cases e3 : r ≤ a
          · refine .inr (.inr (.inl ⟨by simp, by simp, ?_⟩))
            rw [PM.stays a r r0 e3]; simp
          · refine .inr (.inr (.inr ⟨by simp, by simp, ?_, by simp; omega⟩))
            rw [bne_iff_ne]; omega
        · exact .inr (.inl ⟨by simp [e1], by simp [e2]⟩)
      · exact .inl (by simp [e1])
    have L1 : Hid (∀ m, 0 ≤ m → MeterOk c (a + m) k → 1 ≤ r → r ≤ 1000 → PM.nxt c (a + m) k r ≤ PM.nxt c a k r) := Lib.hid fun m hm _ _ _ => PM.less_came c a k r m g1 r0 hm
    have L2 : Hid (∀ m, 0 ≤ m → MeterOk c a (k + m) → 1 ≤ r → r ≤ 1000 → PM.nxt c a (k + m) r ≤ PM.nxt c a k r) := Lib.hid fun m hm _ _ _ => PM.less_wait c a k r m g1 r0 hm
    go_enter Try.func7, Try.ntmps7
    go_wp2_with fail
    refine (mnext_fact _).mono ?_; rintro e w1 ⟨rfl, hb1⟩
    have hw1 := b0.trans (hb1.mono (by simp))
    have HP1 := Lib.hid ((Blk.new w 46 #[.int .i64 c, .int .i64 a, .int .i64 k]).below hb1 (by simp))
    clear hb1 b0
    obtain ⟨p0, p1, p2, f0, f1, f2, z0⟩ := HP1.out.three
    go_wp2_with fail
    refine (mnext_yes c a k r _ HOK.out r0 r1).mono ?_; rintro e w2 ⟨rfl, hb2⟩
    generalize PM.nxt c a k r = n at *
    have hw2 := hw1.trans (hb2.mono hw1.size)
    have HP2 := Lib.hid (HP1.out.below hb2 (by omega))
    clear p0 p1 p2 f0 f1 f2 z0 hb2 hw1 HP1
    obtain ⟨p0, p1, p2, f0, f1, f2, z0⟩ := HP2.out.three
    have d1 : decide (n < 1) = false := by simp; omega
    have d2 : decide (c < n) = false := by simp; omega
    have key1 : 0 ≤ m → ∀ W : World, Calls Try.prog 25 #[.agg #[.int .i64 c, .int .i64 (a + m), .int .i64 k], .int .i64 r] W fun e w' => ∃ v, e = .returned v ∧ ((∃ x, v = .tuple #[.int .i64 x, .nilIface] ∧ x ≤ n) ∨ v = .tuple #[.int .i64 0, .iface 34 (.int .i64 1)]) ∧ Below W.heap.size W w' :=
      fun hm W => mnext_le c (a + m) k r n W (L1.out m hm)
    have key2 : 0 ≤ m → ∀ W : World, Calls Try.prog 25 #[.agg #[.int .i64 c, .int .i64 a, .int .i64 (k + m)], .int .i64 r] W fun e w' => ∃ v, e = .returned v ∧ ((∃ x, v = .tuple #[.int .i64 x, .nilIface] ∧ x ≤ n) ∨ v = .tuple #[.int .i64 0, .iface 34 (.int .i64 1)]) ∧ Below W.heap.size W w' :=
      fun hm W => mnext_le c a (k + m) r n W (L2.out m hm)
    have K1 := Lib.hid key1
    have K2 := Lib.hid key2
    clear key1 key2 L1 L2
    by_cases hm : m < 0 ∨ 10000 < m
    · have hm' : (decide (m < 0) = true) ∨ (decide (m < 0) = false ∧ decide (10000 < m) = true) := by
        by_cases x : m < 0
        · exact .inl (by simp [x])
        · exact .inr ⟨by simp; omega, by simp; omega⟩
      clear hm
      rcases hcase with q | ⟨q, q2⟩ | ⟨q, q2, q3⟩ | ⟨q, q2, q3, q4⟩ <;> rcases hm' with hm | ⟨hm, hm2⟩
      all_goals
        go_wp2
        go_ret
        exact ⟨rfl, hw2⟩
    · have m0 : 0 ≤ m := by omega
      have m1 : m ≤ 10000 := by omega
      clear hm
      rcases hcase with q | ⟨q, q2⟩ | ⟨q, q2, q3⟩ | ⟨q, q2, q3, q4⟩
      all_goals
        go_wp2_with fail
        refine (K1.out m0 _).mono ?_
        rintro e w3 ⟨v, rfl, hv, hb3⟩
        have HP3 := Lib.hid ((HP2.out.alloc _).below hb3 (by simp; omega))
        have HQ3 := Lib.hid ((Blk.new w2 46 #[.int .i64 c, .int .i64 (a + m), .int .i64 k]).below hb3 (by simp))
        have hw3 : Below w.heap.size w w3 := (hw2.alloc hw2.size _).trans (hb3.mono (by simp; omega))
        clear p0 p1 p2 f0 f1 f2 hb3
        obtain ⟨p0, p1, p2, f0, f1, f2, z3⟩ := HP3.out.three
        obtain ⟨s0, s1, s2, fs0, fs1, fs2, y1⟩ := HQ3.out.three
        have HX := ((((HQ3.out.set_ 0 (.int .i64 c)).set_ 1 (.int .i64 a)).set_ 2 (.int .i64 k)).set_ 2 (.int .i64 (k + m))).val (cs' := #[.int .i64 c, .int .i64 a, .int .i64 (k + m)]) rfl
        obtain ⟨x0, x1, x2, fx0, fx1, fx2, _⟩ := HX.three
        have hw4 : Below w.heap.size w ((((w3.setCell ⟨w2.heap.size, 0, none⟩ (.int .i64 c)).setCell ⟨w2.heap.size, 1, none⟩ (.int .i64 a)).setCell ⟨w2.heap.size, 2, none⟩ (.int .i64 k)).setCell ⟨w2.heap.size, 2, none⟩ (.int .i64 (k + m))) :=
          (((hw3.setCell (by simp; omega) _).setCell (by simp; omega) _).setCell (by simp; omega) _).setCell (by simp; omega) _
        rcases hv with ⟨x, rfl, hx⟩ | rfl
        all_goals
          go_wp2_with fail
          refine (K2.out m0 _).mono ?_
          rintro e w5 ⟨v, rfl, hv, hb5⟩
          have hw5 : Below w.heap.size w w5 := hw4.trans (hb5.mono hw4.size)
          clear HX HP3 HQ3
          rcases hv with ⟨x', rfl, hx'⟩ | rfl
          · go_wp2
            go_ret
            exact ⟨rfl, hw5⟩
          · go_wp2
            go_ret
            exact ⟨rfl, hw5⟩
  · have HNO := Lib.hid hv; clear hv
    go_enter Try.func7, Try.ntmps7
    go_wp2_with fail
    refine (mnext_fact _).mono ?_; rintro e w1 ⟨rfl, hb1⟩
    have hw1 := b0.trans (hb1.mono (by simp))
    have HP1 := Lib.hid ((Blk.new w 46 #[.int .i64 c, .int .i64 a, .int .i64 k]).below hb1 (by simp))
    clear hb1 b0
    obtain ⟨p0, p1, p2, f0, f1, f2, z0⟩ := HP1.out.three
    go_wp2_with fail
    refine (mnext_no c a k r _ HNO.out).mono ?_; rintro e w2 ⟨rfl, hb2⟩
    go_wp2
    go_ret
    exact ⟨rfl, hw1.trans (hb2.mono hw1.size)⟩
end Go.Proofs.Ytkheobdkmmbjnaa
