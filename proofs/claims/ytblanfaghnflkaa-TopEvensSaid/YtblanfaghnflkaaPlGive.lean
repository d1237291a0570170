/- Parts in plain words. -/
import Derived.Test.YtblanfaghnflkaaLibA
namespace Go.Proofs.Ytblanfaghnflkaa
namespace PG
open PR
theorem tot_nonneg (l : List Int) (h : ∀ a ∈ l, 0 ≤ a) : 0 ≤ tot l := by
  induction l with
  | nil => simp [tot]
  | cons a l ih => have := h a List.mem_cons_self; have := ih fun b hb => h b (List.mem_cons_of_mem _ hb); simp only [tot]; omega
theorem tot_le (l : List Int) (b : Int) (h : ∀ a ∈ l, a ≤ b) : tot l ≤ l.length * b := by
  induction l with
  | nil => simp [tot]
  | cons a l ih =>
    have := h a List.mem_cons_self
    have := ih fun b hb => h b (List.mem_cons_of_mem _ hb)
    simp only [tot, List.length_cons, Int.natCast_add, Int.add_mul]
    simp; omega
/-- each one's, rounded down; and what is left of each -/
def base (many : Int) (w : List Int) (i : Nat) : Int := many * w.getD i 0 / tot w
def rest (many : Int) (w : List Int) (i : Nat) : Int := many * w.getD i 0 % tot w
/-- how many are left to be given -/
def left (many : Int) (w : List Int) : Int := many - tot ((List.range w.length).map (base many w))
/-- parts of many -/
def parts (many : Int) (w : List Int) : List Int := (List.range w.length).map fun i => base many w i + if rank (rest many w) w.length i < (left many w).toNat then 1 else 0

theorem tot_map_add (f g : Nat → Int) (l : List Nat) : tot (l.map fun i => f i + g i) = tot (l.map f) + tot (l.map g) := by
  induction l with
  | nil => simp [tot]
  | cons a l ih => simp only [List.map_cons, tot, ih]; omega
theorem tot_map_mul (c : Int) (f : Nat → Int) (l : List Nat) : tot (l.map fun i => c * f i) = c * tot (l.map f) := by
  induction l with
  | nil => simp [tot]
  | cons a l ih => simp only [List.map_cons, tot, ih, Int.mul_add]
theorem tot_ones (p : Nat → Bool) (l : List Nat) : tot (l.map fun i => if p i then 1 else 0) = (l.countP p : Int) := by
  induction l with
  | nil => simp [tot]
  | cons a l ih => simp only [List.map_cons, tot, ih, List.countP_cons]; split <;> simp <;> omega
theorem range_map_getD (w : List Int) : (List.range w.length).map (fun i => w.getD i 0) = w := by
  apply List.ext_getElem
  · simp
  · intro i h1 h2; simp at h1; simp [h1]
theorem sum_rest (many : Int) (w : List Int) : many * tot w = tot w * tot ((List.range w.length).map (base many w)) + tot ((List.range w.length).map (rest many w)) := by
  rw [← tot_map_mul, ← tot_map_add]
  have : (List.range w.length).map (fun i => tot w * base many w i + rest many w i) = (List.range w.length).map fun i => many * w.getD i 0 :=
    List.map_congr_left fun i _ => Int.mul_ediv_add_emod _ _
  rw [this, tot_map_mul, range_map_getD]
theorem left_rest (many : Int) (w : List Int) : tot w * left many w = tot ((List.range w.length).map (rest many w)) := by
  have := sum_rest many w
  unfold left
  rw [Int.mul_sub, Int.mul_comm (tot w) many]; omega
theorem left_bounds (many : Int) (w : List Int) (hw : 0 < tot w) : 0 ≤ left many w ∧ left many w < max 1 w.length := by
  have h := left_rest many w
  have hr : ∀ i, 0 ≤ rest many w i ∧ rest many w i ≤ tot w - 1 := fun i => by
    have := Int.emod_nonneg (many * w.getD i 0) (show tot w ≠ 0 by omega)
    have := Int.emod_lt_of_pos (many * w.getD i 0) hw
    unfold rest; omega
  have h0 : 0 ≤ tot ((List.range w.length).map (rest many w)) := tot_nonneg _ fun a ha => by
    obtain ⟨i, _, rfl⟩ := List.mem_map.1 ha; exact (hr i).1
  have h1 := tot_le ((List.range w.length).map (rest many w)) (tot w - 1) fun a ha => by
    obtain ⟨i, _, rfl⟩ := List.mem_map.1 ha; exact (hr i).2
  simp only [List.length_map, List.length_range] at h1
  refine ⟨?_, ?_⟩
  · apply Classical.byContradiction
    intro hc
    have : tot w * left many w < 0 := Int.mul_neg_of_pos_of_neg hw (by omega)
    omega
  · by_cases hn : w.length = 0
    · have : w = [] := List.eq_nil_of_length_eq_zero hn
      subst this; simp [tot] at hw
    · have hlt : (w.length : Int) * (tot w - 1) < w.length * tot w := Int.mul_lt_mul_of_pos_left (by omega) (by omega)
      have : tot w * left many w < tot w * w.length := by rw [Int.mul_comm (tot w) (w.length : Int)]; omega
      have := Int.lt_of_mul_lt_mul_left this (by omega)
      omega
theorem parts_len (many : Int) (w : List Int) : (parts many w).length = w.length := by simp [parts]
theorem parts_tot (many : Int) (w : List Int) (hw : 0 < tot w) : tot (parts many w) = many := by
  unfold parts
  rw [tot_map_add]
  have hb := left_bounds many w hw
  have hn : w.length ≠ 0 := fun hn => by
    have : w = [] := List.eq_nil_of_length_eq_zero hn
    subst this; simp [tot] at hw
  have := tot_ones (fun i => decide (rank (rest many w) w.length i < (left many w).toNat)) (List.range w.length)
  simp only [decide_eq_true_eq] at this
  rw [this, ones (rest many w) w.length (left many w).toNat (by omega)]
  unfold left at *; omega
/-- who has nothing left over gets no more -/
theorem none_more (many : Int) (w : List Int) (hw : 0 < tot w) (i : Nat) (hi : i < w.length) (h : rest many w i = 0) : ¬ rank (rest many w) w.length i < (left many w).toNat := by
  intro hlt
  have hb := left_bounds many w hw
  have hr : ∀ i, 0 ≤ rest many w i ∧ rest many w i ≤ tot w - 1 := fun i => by
    have := Int.emod_nonneg (many * w.getD i 0) (show tot w ≠ 0 by omega)
    have := Int.emod_lt_of_pos (many * w.getD i 0) hw
    unfold rest; omega
  -- those with something left are all ahead of i, so fewer than left of them
  have hcount : (List.range w.length).countP (fun j => decide (0 < rest many w j)) ≤ rank (rest many w) w.length i := by
    unfold rank
    refine List.countP_mono_left fun j _ hj => ?_
    have hj' : 0 < rest many w j := by simpa using hj
    simp [PR.ahead, h, hj']
  have hsum : tot ((List.range w.length).map (rest many w)) ≤ (List.range w.length).countP (fun j => decide (0 < rest many w j)) * (tot w - 1) := by
    generalize List.range w.length = l
    induction l with
    | nil => simp [tot]
    | cons a l ih =>
      simp only [List.map_cons, tot, List.countP_cons]
      by_cases ha : 0 < rest many w a
      · have := (hr a).2
        simp only [ha, decide_true, if_true, Int.natCast_add, Int.add_mul]
        simp; omega
      · have := (hr a).1
        simp only [ha, decide_false]
        simp; omega
  have hle : ((List.range w.length).countP (fun j => decide (0 < rest many w j)) : Int) * (tot w - 1) ≤ (left many w - 1) * (tot w - 1) :=
    Int.mul_le_mul_of_nonneg_right (by omega) (by omega)
  have h2 := left_rest many w
  have e : (left many w - 1) * (tot w - 1) = tot w * left many w - tot w - left many w + 1 := by
    rw [Int.sub_mul, Int.mul_sub, Int.mul_comm (left many w) (tot w)]; omega
  omega
theorem base_zero (many : Int) (w : List Int) (i : Nat) (h : w.getD i 0 = 0) : base many w i = 0 ∧ rest many w i = 0 := by
  unfold base rest; rw [h]; simp
end PG
end Go.Proofs.Ytblanfaghnflkaa
