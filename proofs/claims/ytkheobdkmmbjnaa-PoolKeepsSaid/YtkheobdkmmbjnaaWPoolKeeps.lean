/- The walk of PoolKeeps: it returns true for every input. -/
import Derived.Test.YtkheobdkmmbjnaaPoolRun
import Derived.Test.YtkheobdkmmbjnaaTotal
namespace Go.Proofs.Ytkheobdkmmbjnaa
open Go.RowKit
attribute [local go_sem ↓] run_min_mn run_max_mx
/-- pool.Run, of whatever comes -/
def RunIs (r c k : Int) (l : List Int) (v : Value) : Prop :=
  (PoolOk r c k ∧ l.length ≤ 60 ∧ l.any badRate = false ∧ v = .tuple #[.agg #[.int .i64 (PP.run r c k l).1, .int .i64 (PP.run r c k l).2.1, .int .i64 (PP.run r c k l).2.2], .nilIface]) ∨
  (¬ (PoolOk r c k ∧ l.length ≤ 60 ∧ l.any badRate = false) ∧ ∃ e, v = .tuple #[.agg #[.int .i64 0, .int .i64 0, .int .i64 0], .iface 34 (.int .i64 e)])
theorem prun_any (r c k : Int) (A : Option Addr) (cp : Nat) (l : List Int) (w : World) (hi : Ints w w.heap.size A cp l) :
    Calls Try.prog 27 #[.agg #[.int .i64 r, .int .i64 c, .int .i64 k], .slice A l.length cp] w fun e w' => ∃ v, e = .returned v ∧ RunIs r c k l v ∧ Below w.heap.size w w' := by
  by_cases hp : PoolOk r c k
  · by_cases hl : l.length ≤ 60
    · cases hb : l.any badRate
      · exact (prun_yes r c k A cp l w hp hi hl hb).mono fun _ _ ⟨he, hw⟩ => ⟨_, he, .inl ⟨hp, hl, hb, rfl⟩, hw⟩
      · exact (prun_bad r c k A cp l w hp hi hl hb).mono fun _ _ ⟨he, hw⟩ => ⟨_, he, .inr ⟨(fun h => by rw [hb] at h; cases h.2.2), _, rfl⟩, hw⟩
    · exact (prun_full r c k A cp l.length w hp (by omega) (Nat.le_trans hi.le hi.cap)).mono fun _ _ ⟨he, hw⟩ => ⟨_, he, .inr ⟨fun h => hl h.2.1, _, rfl⟩, hw⟩
  · exact (prun_no r c k A cp l.length w hp).mono fun _ _ ⟨he, hw⟩ => ⟨_, he, .inr ⟨fun h => hp h.1, _, rfl⟩, hw⟩
theorem run_fact : PP.run 3 2 0 [9] = (2, 4, 3) := by decide
theorem run_one (A : Nat) (w : World) (hc : w.cell? ⟨A, 0, none⟩ = some (.int .i64 9)) (hA : A < w.heap.size) :
    Calls Try.prog 27 #[.agg #[.int .i64 3, .int .i64 2, .int .i64 0], .slice (some ⟨A, 0, none⟩) 1 1] w fun e w' => e = .returned (.tuple #[.agg #[.int .i64 2, .int .i64 4, .int .i64 3], .nilIface]) ∧ Below w.heap.size w w' :=
  (prun_yes 3 2 0 (some ⟨A, 0, none⟩) 1 [9] w (by unfold PoolOk; omega) (Ints.one hc hA) (by decide) (by decide)).mono fun _ _ ⟨he, hw⟩ => ⟨by rw [he, run_fact], hw⟩
set_option maxHeartbeats 4000000 in
set_option maxRecDepth 100000 in
theorem poolKeeps_walk (r c k : Int) (_ : (Lit.int .i64 r).wf = true) (_ : (Lit.int .i64 c).wf = true) (_ : (Lit.int .i64 k).wf = true) (A : Option Addr) (cp : Nat) (l : List Int) (w : World) (hi : Ints w w.heap.size A cp l)
    (_ : ∀ n ∈ l, (Lit.int .i64 n).wf = true) (m : Int) (_ : (Lit.int .i64 m).wf = true) :
    Calls Try.prog 9 #[.agg #[.int .i64 r, .int .i64 c, .int .i64 k], .slice A l.length cp, .int .i64 m] w fun e w' => e = .returned (.bool true) ∧ Below w.heap.size w w' := by
  have HI := Lib.hid hi; clear hi
  go_enter Try.func9, Try.ntmps9
  go_wp2_with fail
  refine (run_one _ _ (by simp) (by simp)).mono ?_; rintro e w1 ⟨rfl, hb1⟩
  have HP1 : Blk w1 w.heap.size 38 #[.int .i64 r, .int .i64 c, .int .i64 k] := ((Blk.new w 38 #[.int .i64 r, .int .i64 c, .int .i64 k]).alloc _).below hb1 (by simp <;> omega)
  have HP := Lib.hid HP1; clear HP1
  obtain ⟨p0, p1, p2, f0, f1, f2, z0⟩ := HP.out.three
  have hw1 : Below w.heap.size w w1 := (((Below.refl _ _).alloc (Nat.le_refl _) _).alloc (by simp) _).trans (hb1.mono (by simp <;> omega))
  go_wp2_with fail
  refine (prun_any r c k A cp l _ ?_).mono ?_
  · exact (HI.out.below (hw1.alloc hw1.size _) (Nat.le_refl _)).more (by simp; omega)
  rintro e w2 ⟨v, rfl, hv, hb2⟩
  have hw2 : Below w.heap.size w w2 := (hw1.alloc hw1.size _).trans (hb2.mono (by simp; omega))
  have HP2 := Lib.hid ((HP.out.alloc _).below hb2 (by simp; omega))
  clear p0 p1 p2 f0 f1 f2 z0 HP hb1 hb2
  obtain ⟨p0, p1, p2, f0, f1, f2, z0⟩ := HP2.out.three
  rcases hv with ⟨hp, hl, hok, rfl⟩ | ⟨hbad, ev, rfl⟩
  · have hk := hp
    obtain ⟨h1, h2, h3, h4, h5, h8⟩ := hk
    have K1 := PP.keeps r c h1 h3 l k h5 h8 fun x hx => (ticks_in hok x hx).1
    generalize hR : PP.run r c k l = R at K1 ⊢
    obtain ⟨a, b, d⟩ := R
    simp only at K1 ⊢
    obtain ⟨k1, k2, k3, k4, k5, k6⟩ := K1
    have HR := Lib.hid hR; clear hR
    have HO := Lib.hid hok; clear hok
    have hT : tot l = a + b + d - k := by omega
    have HT := Lib.hid hT; clear hT
    have g1 : decide (60 < (l.length : Int)) = false := by simp; omega
    have g2 : decide (a < 0) = false := by simp; omega
    have g3 : decide (b < 0) = false := by simp; omega
    have g4 : decide (d < 0) = false := by simp; omega
    have g5 : decide (r < d) = false := by simp; omega
    have g6 : decide ((l.length : Int) * c < a) = false := by simp; omega
    have hlc : 0 ≤ (l.length : Int) * c ∧ (l.length : Int) * c ≤ 60 * 1000 := ⟨Int.mul_nonneg (by omega) (by omega), Int.mul_le_mul (by omega) h4 (by omega) (by omega)⟩
    have hab : a + b + d - k ≤ 600000 := by
      have := (tot_bound l 10000 (ticks_in HO.out)).2
      rw [HT.out] at this; omega
    obtain ⟨hlc1, hlc2⟩ := hlc
    clear k6
    go_wp2_with fail
    go_quiet ((go_at_call 28; exact quiet_left (total_any A cp l w.heap.size _ (HI.out.below (below_drewN (hw2.alloc hw2.size _) _) (Nat.le_refl _)) (fun x hx => by have := ticks_in HO.out x hx; omega) hl)))
    rw [HT.out]
    have g7 : (a + b + d != wrap64 (k + (a + b + d - k))) = false := by
      rw [IntWalk.wrap64_in _ ⟨by omega, by omega⟩]; simp; omega
    have hq2 : Below w.heap.size w ((w2.alloc (Obj.cells #[Value.int IntKind.i64 a, Value.int IntKind.i64 b, Value.int IntKind.i64 d] 40)).drewN nq) := below_drewN (hw2.alloc hw2.size _) _
    by_cases hm : m < 0 ∨ 1000 < m
    · rcases hm with hm | hm
      · go_wp2
        go_ret
        exact ⟨rfl, hq2⟩
      · have hd : decide (m < 0) = false := by simp; omega
        go_wp2
        go_ret
        exact ⟨rfl, hq2⟩
    · have hm1 : 0 ≤ m := by omega
      have hm2 : m ≤ 1000 := by omega
      have c1 : w.heap.size < w2.heap.size + 1 := by omega
      have c2 : w.heap.size < w2.heap.size + 1 + 1 := by omega
      go_wp2_with fail
      have hq3 := hq2.alloc (by simp; omega) (Obj.cells #[Value.int IntKind.i64 (r + m), Value.int IntKind.i64 c, Value.int IntKind.i64 k] 38)
      refine (prun_any (r + m) c k A cp l _ ((HI.out.below hq3 (Nat.le_refl _)).more hq3.size)).mono ?_
      rintro e w3 ⟨v, rfl, hv, hb3⟩
      have hw3 : Below w.heap.size w w3 := hq3.trans (hb3.mono hq3.size)
      have HP3 := Lib.hid ((((HP2.out.alloc _).drewN nq).alloc _).below hb3 (by simp; omega))
      have HG3 := Lib.hid ((((Blk.new w2 40 #[Value.int IntKind.i64 a, Value.int IntKind.i64 b, Value.int IntKind.i64 d]).drewN nq).alloc _).below hb3 (by simp; omega))
      have HQ3 := Lib.hid ((Blk.new' ((w2.alloc (Obj.cells #[Value.int IntKind.i64 a, Value.int IntKind.i64 b, Value.int IntKind.i64 d] 40)).drewN nq) 38 #[Value.int IntKind.i64 (r + m), Value.int IntKind.i64 c, Value.int IntKind.i64 k] (g := w2.heap.size + 1) (by simp)).below hb3 (by simp))
      clear p0 p1 p2 f0 f1 f2 HP2 c1 c2 hb3 hq3 hq2
      have hfin : (∃ a' b' d' : Int, v = .tuple #[.agg #[.int .i64 a', .int .i64 b', .int .i64 d'], .nilIface] ∧ b' ≤ b ∧ a ≤ a') ∨ (∃ e, v = .tuple #[.agg #[.int .i64 0, .int .i64 0, .int .i64 0], .iface 34 (.int .i64 e)]) := by
        rcases hv with ⟨_, _, _, rfl⟩ | ⟨_, ev, rfl⟩
        · refine .inl ⟨_, _, _, rfl, ?_⟩
          have := PP.roomy r c m hm1 h1 l k k h5 (Int.le_refl _) h8 (by omega) (by omega) fun x hx => (ticks_in HO.out x hx).1
          rw [HR.out] at this
          exact this
        · exact .inr ⟨ev, rfl⟩
      clear hv
      obtain ⟨p0, p1, p2, f0, f1, f2, y0⟩ := HP3.out.three
      obtain ⟨s0, s1, s2, fs0, fs1, fs2, y1⟩ := HG3.out.three
      obtain ⟨q0, q1, q2, fq0, fq1, fq2, y2⟩ := HQ3.out.three
      have y3 : w.heap.size < w3.heap.size + 1 := by omega
      have y4 : w2.heap.size < w3.heap.size + 1 := by omega
      have y5 : w2.heap.size + 1 < w3.heap.size + 1 := by omega
      obtain ⟨x0, x1, x2, fx0, fx1, fx2, _⟩ := (((((HQ3.out.set_ 0 (.int .i64 r)).set_ 1 (.int .i64 c)).set_ 2 (.int .i64 k)).set_ 1 (.int .i64 (c + m))).val (cs' := #[.int .i64 r, .int .i64 (c + m), .int .i64 k]) rfl).three
      have key : ∀ H : Obj, Calls Try.prog 27 #[.agg #[.int .i64 r, .int .i64 (c + m), .int .i64 k], .slice A l.length cp] (((((w3.setCell ⟨w2.heap.size + 1, 0, none⟩ (.int .i64 r)).setCell ⟨w2.heap.size + 1, 1, none⟩ (.int .i64 c)).setCell ⟨w2.heap.size + 1, 2, none⟩ (.int .i64 k)).setCell ⟨w2.heap.size + 1, 1, none⟩ (.int .i64 (c + m))).alloc H)
          fun e w' => ∃ v, e = .returned v ∧ ((∃ a' b' d' : Int, v = .tuple #[.agg #[.int .i64 a', .int .i64 b', .int .i64 d'], .nilIface] ∧ b' ≤ b ∧ d' ≤ d) ∨ (∃ e, v = .tuple #[.agg #[.int .i64 0, .int .i64 0, .int .i64 0], .iface 34 (.int .i64 e)])) ∧
            Below w.heap.size w w' ∧ (∀ cs, H = .cells cs 40 → Blk w' w3.heap.size 40 cs) ∧ Blk w' w2.heap.size 40 #[.int .i64 a, .int .i64 b, .int .i64 d] := by
        intro H
        have hq4 : Below w.heap.size w (((((w3.setCell ⟨w2.heap.size + 1, 0, none⟩ (.int .i64 r)).setCell ⟨w2.heap.size + 1, 1, none⟩ (.int .i64 c)).setCell ⟨w2.heap.size + 1, 2, none⟩ (.int .i64 k)).setCell ⟨w2.heap.size + 1, 1, none⟩ (.int .i64 (c + m))).alloc H) :=
          ((((hw3.setCell (by simp; omega) _).setCell (by simp; omega) _).setCell (by simp; omega) _).setCell (by simp; omega) _).alloc (by simp; omega) _
        refine (prun_any r (c + m) k A cp l _ ((HI.out.below hq4 (Nat.le_refl _)).more hq4.size)).mono ?_
        rintro e w4 ⟨v, rfl, hv, hb4⟩
        refine ⟨v, rfl, ?_, hq4.trans (hb4.mono hq4.size), fun cs hcs => ?_, ?_⟩
        · rcases hv with ⟨_, _, _, rfl⟩ | ⟨_, ev, rfl⟩
          · refine .inl ⟨_, _, _, rfl, ?_⟩
            have := PP.wider r c m hm1 h1 l k k h5 (Int.le_refl _) h8 fun x hx => (ticks_in HO.out x hx).1
            rw [HR.out] at this
            exact ⟨this.2, this.1⟩
          · exact .inr ⟨ev, rfl⟩
        · subst hcs
          exact (Blk.new' _ _ _ (by simp)).below hb4 (by simp)
        · exact (((((HG3.out.far (by simp) _).far (by simp) _).far (by simp) _).far (by simp) _).alloc _).below hb4 (by simp; omega)
      have KEY := Lib.hid key; clear key
      have cl1 : decide (w.heap.size < 0) = false := by simp
      clear cl1
      rcases hfin with ⟨a', b', d', rfl, hh1, hh2⟩ | ⟨ev, rfl⟩
      all_goals
        go_wp2_with fail
        refine (KEY.out _).mono ?_
        rintro e w4 ⟨v, rfl, hv, hw4, hH, HG4⟩
        obtain ⟨t0, t1, t2, ft0, ft1, ft2, _⟩ := (hH _ rfl).three
        obtain ⟨g0', g1', g2', fg0, fg1, fg2, _⟩ := HG4.three
        have hne : w2.heap.size < w3.heap.size := y1
        have hBZ := hw4.size
        rcases hv with ⟨a'', b'', d'', rfl, hh3, hh4⟩ | ⟨ev2, rfl⟩
        · go_wp2
          go_ret
          exact ⟨rfl, (by repeat (first | exact hw4 | refine Below.setCell ?_ (by simp <;> omega) _))⟩
        · go_wp2
          go_ret
          exact ⟨rfl, (by repeat (first | exact hw4 | refine Below.setCell ?_ (by simp <;> omega) _))⟩
  · clear hbad
    go_wp2
    go_ret
    exact ⟨rfl, hw2.alloc hw2.size _⟩
end Go.Proofs.Ytkheobdkmmbjnaa
