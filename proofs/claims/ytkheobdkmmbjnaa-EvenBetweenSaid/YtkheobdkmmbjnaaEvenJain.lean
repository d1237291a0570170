/- Plain: Jain's index lies between one by how many and 1, 1 just if all are alike; what a richer one gives a poorer one makes it no less. -/
import Derived.Test.YtkheobdkmmbjnaaEvenGive
import Derived.Test.YtkheobdkmmbjnaaFracCmp
import Derived.Test.YtkheobdkmmbjnaaEvenLow
namespace Go.Proofs.Ytkheobdkmmbjnaa
open Go.RowKit
theorem sq_nn (x : Int) : 0 ≤ x * x := by
  rcases Int.le_total 0 x with h | h
  · exact Int.mul_nonneg h h
  · exact Int.mul_nonneg_of_nonpos_of_nonpos h h
theorem low_spec (t b : Int) (hb : 0 < b) : ∃ g : Int, 0 < g ∧ lowT t b * g = t ∧ lowB t b * g = b ∧ Int.gcd (lowT t b) (lowB t b) = 1 ∧ 0 < lowB t b := by
  have hg := gcd_pos_of t b hb
  have e1 : lowT t b * (Int.gcd t b) = t := Int.tdiv_mul_cancel (Int.gcd_dvd_left ..)
  have e2 : lowB t b * (Int.gcd t b) = b := Int.ediv_mul_cancel (Int.gcd_dvd_right ..)
  refine ⟨Int.gcd t b, by omega, e1, e2, ?_, ?_⟩
  · unfold lowT lowB
    rw [Int.tdiv_eq_ediv_of_dvd (Int.gcd_dvd_left ..)]
    exact Int.gcd_ediv_gcd_ediv_gcd hg
  · rcases Int.lt_or_le 0 (lowB t b) with h | h
    · exact h
    · have : lowB t b * (Int.gcd t b) ≤ 0 := Int.mul_nonpos_of_nonpos_of_nonneg h (by omega)
      omega
theorem low_err (t b : Int) (ht0 : -1000000000 ≤ t) (ht1 : t ≤ 1000000000) (hb : 0 < b) (hb1 : b ≤ 100000000) : fracErr (lowT t b) (lowB t b) = 0 := by
  obtain ⟨g, hg, e1, e2, e3, e4⟩ := low_spec t b hb
  have l1 := abs_tdiv_le t (Int.gcd t b)
  have l2 : lowB t b ≤ b := Int.ediv_le_self _ (by omega)
  have l3 : -(t.natAbs : Int) ≤ lowT t b ∧ lowT t b ≤ t.natAbs := l1
  unfold fracErr
  rw [if_neg, if_neg]
  · rw [e3]; simp
  · intro h; exact h ⟨by omega, by omega, by omega, by omega⟩
theorem low_cmp (t b u c : Int) (hb : 0 < b) (hc : 0 < c) : (lowT t b * lowB u c ≤ lowT u c * lowB t b ↔ t * c ≤ u * b) ∧ (lowT u c * lowB t b ≤ lowT t b * lowB u c ↔ u * b ≤ t * c) := by
  obtain ⟨g, hg, e1, e2, _, _⟩ := low_spec t b hb
  obtain ⟨k, hk, f1, f2, _, _⟩ := low_spec u c hc
  have hgk : 0 < g * k := Int.mul_pos hg hk
  have x1 : lowT t b * lowB u c * (g * k) = t * c := by
    rw [show lowT t b * lowB u c * (g * k) = (lowT t b * g) * (lowB u c * k) by grind, e1, f2]
  have x2 : lowT u c * lowB t b * (g * k) = u * b := by
    rw [show lowT u c * lowB t b * (g * k) = (lowT u c * k) * (lowB t b * g) by grind, f1, e2]
  rw [← x1, ← x2]
  exact ⟨⟨fun h => Int.mul_le_mul_of_nonneg_right h (by omega), fun h => Int.le_of_mul_le_mul_right h hgk⟩, ⟨fun h => Int.mul_le_mul_of_nonneg_right h (by omega), fun h => Int.le_of_mul_le_mul_right h hgk⟩⟩
def dev (a : Int) (l : List Int) : Int := tot (l.map fun x => (a - x) * (a - x))
def vari (l : List Int) : Int := l.length * sqs l - tot l * tot l
theorem dev_eq (a : Int) (l : List Int) : dev a l = l.length * a * a - 2 * a * tot l + sqs l := by
  induction l with
  | nil => simp [dev, tot, sqs]
  | cons x l ih =>
    have e1 : dev a (x :: l) = (a - x) * (a - x) + dev a l := rfl
    have e2 : tot (x :: l) = x + tot l := rfl
    have e3 : sqs (x :: l) = x * x + sqs l := rfl
    have e4 : ((x :: l).length : Int) = l.length + 1 := by simp
    rw [e1, e2, e3, e4, ih]; grind
theorem vari_cons (a : Int) (l : List Int) : vari (a :: l) = vari l + dev a l := by
  have e2 : tot (a :: l) = a + tot l := rfl
  have e3 : sqs (a :: l) = a * a + sqs l := rfl
  have e4 : ((a :: l).length : Int) = l.length + 1 := by simp
  rw [dev_eq]; unfold vari; rw [e2, e3, e4]; grind
theorem dev_nn (a : Int) (l : List Int) : 0 ≤ dev a l := tot_nonneg _ fun y hy => by
  obtain ⟨x, _, rfl⟩ := List.mem_map.1 hy
  exact sq_nn _
theorem dev_zero (a : Int) (l : List Int) (h : dev a l = 0) : ∀ x ∈ l, x = a := by
  induction l with
  | nil => simp
  | cons y l ih =>
    have e1 : dev a (y :: l) = (a - y) * (a - y) + dev a l := rfl
    have h1 := sq_nn (a - y)
    have h2 := dev_nn a l
    intro x hx
    rcases List.mem_cons.1 hx with rfl | hx
    · have : (a - x) * (a - x) = 0 := by omega
      rcases Int.mul_eq_zero.1 this with h | h <;> omega
    · exact ih (by omega) x hx
theorem vari_nn (l : List Int) : 0 ≤ vari l := by
  induction l with
  | nil => simp [vari, tot, sqs]
  | cons a l ih => have := dev_nn a l; rw [vari_cons]; omega
theorem vari_zero (l : List Int) : vari l = 0 ↔ ∀ x ∈ l, ∀ y ∈ l, x = y := by
  induction l with
  | nil => simp [vari, tot, sqs]
  | cons a l ih =>
    have h1 := vari_nn l
    have h2 := dev_nn a l
    rw [vari_cons]
    constructor
    · intro h
      have hd := dev_zero a l (by omega)
      intro x hx y hy
      have hx' : x = a := by rcases List.mem_cons.1 hx with h | h; exact h; exact hd x h
      have hy' : y = a := by rcases List.mem_cons.1 hy with h | h; exact h; exact hd y h
      rw [hx', hy']
    · intro h
      have v0 := ih.2 fun x hx y hy => h x (List.mem_cons_of_mem _ hx) y (List.mem_cons_of_mem _ hy)
      have d0 : dev a l = 0 := by
        unfold dev
        have : ∀ y ∈ l.map (fun x => (a - x) * (a - x)), y = 0 := fun y hy => by
          obtain ⟨x, hx, rfl⟩ := List.mem_map.1 hy
          rw [h x (List.mem_cons_of_mem _ hx) a List.mem_cons_self]; simp
        generalize l.map (fun x => (a - x) * (a - x)) = m at this
        induction m with
        | nil => rfl
        | cons b m ihm =>
          have e : tot (b :: m) = b + tot m := rfl
          rw [e, this b List.mem_cons_self, ihm fun y hy => this y (List.mem_cons_of_mem _ hy)]; rfl
      omega
theorem sqs_le (l : List Int) (h : ∀ a ∈ l, 0 ≤ a) : sqs l ≤ tot l * tot l := by
  induction l with
  | nil => simp [sqs, tot]
  | cons a l ih =>
    have h1 := ih fun b hb => h b (List.mem_cons_of_mem _ hb)
    have h2 := h a List.mem_cons_self
    have h3 := tot_nonneg l fun b hb => h b (List.mem_cons_of_mem _ hb)
    have h4 := Int.mul_nonneg h2 h3
    have e2 : tot (a :: l) = a + tot l := rfl
    have e3 : sqs (a :: l) = a * a + sqs l := rfl
    rw [e2, e3]; grind
theorem gap_zero (l : List Int) (hne : l ≠ []) : gapL l = 0 ↔ ∀ x ∈ l, ∀ y ∈ l, x = y := by
  obtain ⟨m1, m2⟩ := lmax_spec l hne
  obtain ⟨n1, n2⟩ := lmin_spec l hne
  unfold gapL
  constructor
  · intro h x hx y hy
    have := m2 x hx; have := n2 x hx; have := m2 y hy; have := n2 y hy
    omega
  · intro h
    have := h _ m1 _ n1
    omega
theorem cmp_le {x y : Int} : cmpI x y ≤ 0 ↔ x ≤ y := by unfold cmpI; split <;> (try split) <;> omega
theorem cmp_zero {x y : Int} : cmpI x y = 0 ↔ x = y := by unfold cmpI; split <;> (try split) <;> omega
theorem tot_set (l : List Int) (i : Nat) (v : Int) (h : i < l.length) : tot (l.set i v) = tot l - l.getD i 0 + v := by
  induction l generalizing i with
  | nil => simp at h
  | cons a l ih =>
    cases i with
    | zero => simp [tot]; omega
    | succ i =>
      have := ih i (by simpa using h)
      simp only [List.set_cons_succ, tot, List.getD_cons_succ]; omega
theorem sqs_set (l : List Int) (i : Nat) (v : Int) (h : i < l.length) : sqs (l.set i v) = sqs l - l.getD i 0 * l.getD i 0 + v * v := by
  induction l generalizing i with
  | nil => simp at h
  | cons a l ih =>
    have e3 : ∀ (b : Int) (m : List Int), sqs (b :: m) = b * b + sqs m := fun _ _ => rfl
    cases i with
    | zero => simp only [List.set_cons_zero, List.getD_cons_zero, e3]; omega
    | succ i =>
      have := ih i (by simpa using h)
      simp only [List.set_cons_succ, List.getD_cons_succ, e3]; omega
/-- what is given leaves the sum, and no greater squares, and no wider gap -/
theorem give_laws (l : List Int) (f t : Nat) (m : Int) (hf : f < l.length) (ht : t < l.length) (m0 : 0 ≤ m) (hm : 2 * m ≤ l.getD f 0 - l.getD t 0) :
    (giveTo l f t m).length = l.length ∧ tot (giveTo l f t m) = tot l ∧ sqs (giveTo l f t m) ≤ sqs l ∧ (∀ x ∈ giveTo l f t m, lmin l ≤ x ∧ x ≤ lmax l) := by
  have hne : l ≠ [] := by intro h; rw [h] at hf; simp at hf
  obtain ⟨q1, q2⟩ := lmax_spec l hne
  obtain ⟨r1, r2⟩ := lmin_spec l hne
  have a1 := q2 _ (getD_mem l f hf); have a2 := r2 _ (getD_mem l f hf)
  have b1 := q2 _ (getD_mem l t ht); have b2 := r2 _ (getD_mem l t ht)
  by_cases hft : f = t
  · subst hft
    have hm' : m = 0 := by omega
    subst hm'
    have e : giveTo l f f 0 = l := by
      unfold giveTo
      have h1 : l.set f (l.getD f 0 - 0) = l := by
        rw [Int.sub_zero]
        apply List.ext_getElem?
        intro i
        rw [List.getElem?_set]
        split
        · rename_i h; subst h; rw [getD_some l f hf]
        · rfl
      rw [h1, Int.add_zero]
      rw [Int.sub_zero] at h1; exact h1
    rw [e]
    exact ⟨rfl, rfl, Int.le_refl _, fun x hx => ⟨r2 x hx, q2 x hx⟩⟩
  · have hg : (l.set f (l.getD f 0 - m)).getD t 0 = l.getD t 0 := by
      simp [List.getD_eq_getElem?_getD, hft]
    unfold giveTo
    rw [hg]
    refine ⟨by simp, ?_, ?_, ?_⟩
    · rw [tot_set _ _ _ (by simpa using ht), tot_set _ _ _ hf, hg]; omega
    · rw [sqs_set _ _ _ (by simpa using ht), sqs_set _ _ _ hf, hg]
      generalize l.getD f 0 = a at *
      generalize l.getD t 0 = b at *
      have : 0 ≤ m * (a - b - m) := Int.mul_nonneg m0 (by omega)
      grind
    · intro x hx
      rcases List.mem_or_eq_of_mem_set hx with h | h
      · rcases List.mem_or_eq_of_mem_set h with h | h
        · exact ⟨r2 x h, q2 x h⟩
        · omega
      · omega
end Go.Proofs.Ytkheobdkmmbjnaa
