/- Package frac, third part: its functions at Rats. -/
import Derived.Test.YthffjnfnfddpdaaFrac2
namespace Go.Proofs.Ythffjnfnfddpdaa
open Go.RowKit
attribute [local go_sem ↓] run_min_mn run_max_mx
theorem sum_q (q r s : Rat) (w : World) (hq : QIn q) (hr : QIn r) (hs : q + r = s) :
    Calls Try.prog 72 #[.agg #[.int .i64 q.num, .int .i64 q.den], .agg #[.int .i64 r.num, .int .i64 r.den]] w fun e w' => e = .returned (.agg #[.int .i64 s.num, .int .i64 s.den]) ∧ Below w.heap.size w w' := by
  subst hs
  refine (sum_any q.num q.den r.num r.den w hq hr).mono fun _ _ ⟨h1, h2⟩ => ⟨?_, h2⟩
  rw [h1]; unfold sumT sumB; rw [sum_num, sum_den]
theorem minus_q (q r : Rat) (w : World) (hq : QIn q) (hr : -q = r) :
    Calls Try.prog 93 #[.agg #[.int .i64 q.num, .int .i64 q.den]] w fun e w' => e = .returned (.agg #[.int .i64 r.num, .int .i64 r.den]) ∧ Below w.heap.size w w' := by
  subst hr
  refine (minus_any q.num q.den w hq.2.2.1 hq.2.2.2).mono fun _ _ ⟨h1, h2⟩ => ⟨?_, h2⟩
  rw [h1]; simp
theorem parts_q (q s : Rat) (n : Int) (w : World) (hq : QIn q) (n0 : 1 ≤ n) (n1 : n ≤ 1000) (hs : q / (n : Rat) = s) :
    Calls Try.prog 77 #[.agg #[.int .i64 q.num, .int .i64 q.den], .int .i64 n] w fun e w' => e = .returned (.agg #[.int .i64 s.num, .int .i64 s.den]) ∧ Below w.heap.size w w' := by
  subst hs
  refine (parts_any q.num q.den n w hq n0 n1).mono fun _ _ ⟨h1, h2⟩ => ⟨?_, h2⟩
  rw [h1, by_num q n (by omega), by_den q n (by omega)]
theorem order_q (q r : Rat) (o : Int) (w : World) (hq : QIn q) (hr : QIn r) (ho : ordQ q r = o) :
    Calls Try.prog 78 #[.agg #[.int .i64 q.num, .int .i64 q.den], .agg #[.int .i64 r.num, .int .i64 r.den]] w fun e w' => e = .returned (.int .i64 o) ∧ Below w.heap.size w w' := by
  subst ho
  refine (order_any q.num q.den r.num r.den w hq hr).mono fun _ _ ⟨h1, h2⟩ => ⟨?_, h2⟩
  rw [h1, cmp_rat]
theorem fcheck_q (q : Rat) (w : World) (hq : QIn q) :
    Calls Try.prog 30 #[.agg #[.int .i64 q.num, .int .i64 q.den]] w fun e w' => e = .returned .nilIface ∧ Below w.heap.size w w' := fcheck_yes _ _ w (rat_frac hq)
theorem fitV_q {q : Rat} (h : QIn q) : fitV q.num q.den = .tuple #[.agg #[.int .i64 q.num, .int .i64 q.den], errVal 0] := by
  unfold QIn at h; unfold fitV; rw [if_pos h]; rfl
theorem fitV_no {q : Rat} (h : ¬ QIn q) : fitV q.num q.den = .tuple #[.agg #[.int .i64 0, .int .i64 0], errVal 4] := by
  unfold QIn at h; unfold fitV; rw [if_neg h]; rfl
theorem fadd_q (q r s : Rat) (w : World) (hq : QIn q) (hr : QIn r) (hs : q + r = s) (h : QIn s) :
    Calls Try.prog 28 #[.agg #[.int .i64 q.num, .int .i64 q.den], .agg #[.int .i64 r.num, .int .i64 r.den]] w fun e w' => e = .returned (.tuple #[.agg #[.int .i64 s.num, .int .i64 s.den], .nilIface]) ∧ Below w.heap.size w w' := by
  subst hs
  exact fadd_yes q.num q.den r.num r.den _ _ 0 w (rat_frac hq) (rat_frac hr) (by unfold sumT sumB; rw [sum_num, sum_den]; exact fitV_q h)
theorem fadd_full (q r s : Rat) (w : World) (hq : QIn q) (hr : QIn r) (hs : q + r = s) (h : ¬ QIn s) :
    Calls Try.prog 28 #[.agg #[.int .i64 q.num, .int .i64 q.den], .agg #[.int .i64 r.num, .int .i64 r.den]] w fun e w' => e = .returned (.tuple #[.agg #[.int .i64 0, .int .i64 0], .iface 103 (.int .i64 4)]) ∧ Below w.heap.size w w' := by
  subst hs
  exact fadd_yes q.num q.den r.num r.den _ _ 4 w (rat_frac hq) (rat_frac hr) (by unfold sumT sumB; rw [sum_num, sum_den]; exact fitV_no h)
theorem times_q (q s : Rat) (n : Int) (w : World) (hq : QIn q) (n0 : -1000 ≤ n) (n1 : n ≤ 1000) (hs : q * (n : Rat) = s) (h : QIn s) :
    Calls Try.prog 29 #[.agg #[.int .i64 q.num, .int .i64 q.den], .int .i64 n] w fun e w' => e = .returned (.tuple #[.agg #[.int .i64 s.num, .int .i64 s.den], .nilIface]) ∧ Below w.heap.size w w' := by
  subst hs
  exact times_yes q.num q.den n _ _ 0 w (rat_frac hq) n0 n1 (by rw [times_num, times_den]; exact fitV_q h)
theorem times_full (q s : Rat) (n : Int) (w : World) (hq : QIn q) (n0 : -1000 ≤ n) (n1 : n ≤ 1000) (hs : q * (n : Rat) = s) (h : ¬ QIn s) :
    Calls Try.prog 29 #[.agg #[.int .i64 q.num, .int .i64 q.den], .int .i64 n] w fun e w' => e = .returned (.tuple #[.agg #[.int .i64 0, .int .i64 0], .iface 103 (.int .i64 4)]) ∧ Below w.heap.size w w' := by
  subst hs
  exact times_yes q.num q.den n _ _ 4 w (rat_frac hq) n0 n1 (by rw [times_num, times_den]; exact fitV_no h)
theorem by_q (q s : Rat) (n : Int) (w : World) (hq : QIn q) (n0 : 1 ≤ n) (n1 : n ≤ 1000) (hs : q / (n : Rat) = s) (h : QIn s) :
    Calls Try.prog 32 #[.agg #[.int .i64 q.num, .int .i64 q.den], .int .i64 n] w fun e w' => e = .returned (.tuple #[.agg #[.int .i64 s.num, .int .i64 s.den], .nilIface]) ∧ Below w.heap.size w w' := by
  subst hs
  exact by_yes q.num q.den n _ _ 0 w (rat_frac hq) n0 n1 (by rw [by_num q n (by omega), by_den q n (by omega)]; exact fitV_q h)
theorem by_full (q s : Rat) (n : Int) (w : World) (hq : QIn q) (n0 : 1 ≤ n) (n1 : n ≤ 1000) (hs : q / (n : Rat) = s) (h : ¬ QIn s) :
    Calls Try.prog 32 #[.agg #[.int .i64 q.num, .int .i64 q.den], .int .i64 n] w fun e w' => e = .returned (.tuple #[.agg #[.int .i64 0, .int .i64 0], .iface 103 (.int .i64 4)]) ∧ Below w.heap.size w w' := by
  subst hs
  exact by_yes q.num q.den n _ _ 4 w (rat_frac hq) n0 n1 (by rw [by_num q n (by omega), by_den q n (by omega)]; exact fitV_no h)
theorem fcompare_q (q r : Rat) (o : Int) (w : World) (hq : QIn q) (hr : QIn r) (ho : ordQ q r = o) :
    Calls Try.prog 33 #[.agg #[.int .i64 q.num, .int .i64 q.den], .agg #[.int .i64 r.num, .int .i64 r.den]] w fun e w' => e = .returned (.tuple #[.int .i64 o, .nilIface]) ∧ Below w.heap.size w w' := by
  subst ho
  exact fcompare_yes _ _ _ _ _ w (rat_frac hq) (rat_frac hr) (cmp_rat q r)
/-- by a number, whatever it is asked: the fault, or what it is -/
def ByIs (t b n v1 v2 er : Int) : Prop := er = 0 → ∃ q s : Rat, t = q.num ∧ b = q.den ∧ QIn q ∧ v1 = s.num ∧ v2 = s.den ∧ QIn s ∧ s * (n : Rat) = q ∧ 1 ≤ n ∧ n ≤ 1000
theorem by_ex (t b n : Int) (w : World) :
    Calls Try.prog 32 #[.agg #[.int .i64 t, .int .i64 b], .int .i64 n] w fun e w' => ∃ v1 v2 er : Int, e = .returned (.tuple #[.agg #[.int .i64 v1, .int .i64 v2], errVal er]) ∧ ByIs t b n v1 v2 er ∧ Below w.heap.size w w' := by
  by_cases h : fracErr t b = 0
  · by_cases n0 : n < 1
    · exact (by_out0 t b n w h n0).mono fun _ _ ⟨h1, h2⟩ => ⟨0, 0, 1, h1, fun h => absurd h (by decide), h2⟩
    · by_cases n1 : 1000 < n
      · exact (by_out1 t b n w h n1).mono fun _ _ ⟨h1, h2⟩ => ⟨0, 0, 1, h1, fun h => absurd h (by decide), h2⟩
      · obtain ⟨q, rfl, rfl, hq⟩ := frac_rat h
        by_cases hs : QIn (q / (n : Rat))
        · refine (by_q q _ n w hq (by omega) (by omega) rfl hs).mono fun _ _ ⟨h1, h2⟩ => ⟨_, _, 0, h1, fun _ => ⟨q, _, rfl, rfl, hq, rfl, rfl, hs, ?_, by omega, by omega⟩, h2⟩
          have : (n : Rat) ≠ 0 := by intro e; have : n = 0 := by exact_mod_cast e
                                     omega
          grind
        · exact (by_full q _ n w hq (by omega) (by omega) rfl hs).mono fun _ _ ⟨h1, h2⟩ => ⟨0, 0, 4, h1, fun h => absurd h (by decide), h2⟩
  · exact (by_bad t b n _ w rfl h).mono fun _ _ ⟨h1, h2⟩ => ⟨0, 0, fracErr t b, by rw [errVal_pos h]; exact h1, fun e => absurd e h, h2⟩
def AddIs (t b u c v1 v2 er : Int) : Prop := er = 0 → ∃ q r s : Rat, t = q.num ∧ b = q.den ∧ QIn q ∧ u = r.num ∧ c = r.den ∧ QIn r ∧ v1 = s.num ∧ v2 = s.den ∧ QIn s ∧ q + r = s
theorem fadd_ex (t b u c : Int) (w : World) :
    Calls Try.prog 28 #[.agg #[.int .i64 t, .int .i64 b], .agg #[.int .i64 u, .int .i64 c]] w fun e w' => ∃ v1 v2 er : Int, e = .returned (.tuple #[.agg #[.int .i64 v1, .int .i64 v2], errVal er]) ∧ AddIs t b u c v1 v2 er ∧ Below w.heap.size w w' := by
  by_cases h : fracs2 t b u c = 0
  · have h1 : fracErr t b = 0 := by
      apply Decidable.byContradiction; intro hc
      unfold fracs2 at h; rw [if_pos hc] at h; exact hc h
    have h2 : fracErr u c = 0 := by unfold fracs2 at h; rw [if_neg (fun x => x h1)] at h; exact h
    obtain ⟨q, rfl, rfl, hq⟩ := frac_rat h1
    obtain ⟨r, rfl, rfl, hr⟩ := frac_rat h2
    by_cases hs : QIn (q + r)
    · exact (fadd_q q r _ w hq hr rfl hs).mono fun _ _ ⟨h1, h2⟩ => ⟨_, _, 0, h1, fun _ => ⟨q, r, _, rfl, rfl, hq, rfl, rfl, hr, rfl, rfl, hs, rfl⟩, h2⟩
    · exact (fadd_full q r _ w hq hr rfl hs).mono fun _ _ ⟨h1, h2⟩ => ⟨0, 0, 4, h1, fun h => absurd h (by decide), h2⟩
  · exact (fadd_no t b u c _ w rfl h).mono fun _ _ ⟨h1, h2⟩ => ⟨0, 0, fracs2 t b u c, by rw [errVal_pos h]; exact h1, fun e => absurd e h, h2⟩
end Go.Proofs.Ythffjnfnfddpdaa
