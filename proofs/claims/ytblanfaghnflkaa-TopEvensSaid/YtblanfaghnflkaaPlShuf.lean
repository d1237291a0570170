/- What goes from all to all, in plain words. -/
import Derived.Test.YtblanfaghnflkaaPlGive
namespace Go.Proofs.Ytblanfaghnflkaa
namespace PS
open PR PG
/-- what is taken of one -/
def tk (l : List Int) (p : Int) (i : Nat) : Int := l.getD i 0 * p / 1000
def all (l : List Int) (p : Int) : Int := tot (l.map fun n => n * p / 1000)
def key (l : List Int) (i : Nat) : Int := - l.getD i 0
def step (l : List Int) (p : Int) : List Int :=
  (List.range l.length).map fun i => l.getD i 0 - tk l p i + all l p / l.length + if rank (key l) l.length i < (all l p % l.length).toNat then 1 else 0
theorem step_len (l : List Int) (p : Int) : (step l p).length = l.length := by simp [step]
theorem all_range (l : List Int) (p : Int) : all l p = tot ((List.range l.length).map (tk l p)) := by
  unfold all
  congr 1
  apply List.ext_getElem
  · simp
  · intro i h1 h2; simp at h1; simp [tk, h1]
theorem tot_const (c : Int) (n : Nat) : tot ((List.range n).map fun _ => c) = n * c := by
  induction n with
  | zero => simp [tot]
  | succ n ih => rw [List.range_succ, List.map_append, tot_append, ih]; simp [tot]; rw [Int.add_mul]; omega
theorem step_tot (l : List Int) (p : Int) (h0 : 0 < l.length) : tot (step l p) = tot l := by
  unfold step
  have e : (fun i => l.getD i 0 - tk l p i + all l p / l.length + if rank (key l) l.length i < (all l p % l.length).toNat then 1 else 0)
      = fun i => (l.getD i 0 + ((-1) * tk l p i + (all l p / l.length + if rank (key l) l.length i < (all l p % l.length).toNat then 1 else 0))) := by
    funext i; omega
  rw [e, tot_map_add, tot_map_add, tot_map_add, tot_map_mul, tot_const, range_map_getD, ← all_range]
  have hm0 := Int.emod_nonneg (all l p) (show (l.length : Int) ≠ 0 by omega)
  have hm1 := Int.emod_lt_of_pos (all l p) (show (0 : Int) < l.length by omega)
  have := tot_ones (fun i => decide (rank (key l) l.length i < (all l p % l.length).toNat)) (List.range l.length)
  simp only [decide_eq_true_eq] at this
  rw [this, ones (key l) l.length _ (by omega)]
  have := Int.mul_ediv_add_emod (all l p) l.length
  omega
/-- what is left of one that is more is no less, and they are no further apart -/
theorem left_mono (a b p : Int) (h : a ≤ b) (p0 : 0 ≤ p) (p1 : p ≤ 1000) : a - a * p / 1000 ≤ b - b * p / 1000 ∧ (b - b * p / 1000) - (a - a * p / 1000) ≤ b - a := by
  have e : b * p = a * p + (b - a) * p := by rw [← Int.add_mul]; congr 1; omega
  have h1 : 0 ≤ (b - a) * p := Int.mul_nonneg (by omega) p0
  have h2 : (b - a) * p ≤ (b - a) * 1000 := Int.mul_le_mul_of_nonneg_left p1 (by omega)
  rw [e]
  generalize (b - a) * p = q at *
  generalize a * p = r at *
  omega
theorem taken_le (a m p : Int) (h : a ≤ m) (p0 : 0 ≤ p) : a * p / 1000 ≤ m * p / 1000 := by
  have := Int.mul_le_mul_of_nonneg_right h p0
  omega
theorem getD_step (l : List Int) (p : Int) (i : Nat) (hi : i < l.length) : (step l p).getD i 0 = l.getD i 0 - tk l p i + all l p / l.length + if rank (key l) l.length i < (all l p % l.length).toNat then 1 else 0 := by
  unfold step
  simp [hi]
theorem all_bounds (l : List Int) (p m : Int) (h : ∀ a ∈ l, 0 ≤ a ∧ a ≤ m) (p0 : 0 ≤ p) : 0 ≤ all l p ∧ all l p ≤ l.length * (m * p / 1000) := by
  unfold all
  refine ⟨tot_nonneg _ fun a ha => ?_, ?_⟩
  · obtain ⟨n, hn, rfl⟩ := List.mem_map.1 ha
    have := Int.mul_nonneg (h n hn).1 p0
    omega
  · have := tot_le (l.map fun n => n * p / 1000) (m * p / 1000) fun a ha => by
      obtain ⟨n, hn, rfl⟩ := List.mem_map.1 ha
      exact taken_le _ _ _ (h n hn).2 p0
    simpa using this
/-- none gets more than the most there was -/
theorem step_le (l : List Int) (p m : Int) (h : ∀ a ∈ l, 0 ≤ a ∧ a ≤ m) (p0 : 0 ≤ p) (p1 : p ≤ 1000) (i : Nat) (hi : i < l.length) : 0 ≤ (step l p).getD i 0 ∧ (step l p).getD i 0 ≤ m := by
  rw [getD_step l p i hi]
  have hx := h _ (getD_mem l i hi)
  have hb := all_bounds l p m h p0
  have hl := left_mono _ _ p hx.2 p0 p1
  have hz := left_mono _ _ p hx.1 p0 p1
  unfold tk
  generalize l.getD i 0 = x at *
  have hpos : (0 : Int) < l.length := by omega
  have hm0 := Int.emod_nonneg (all l p) (show (l.length : Int) ≠ 0 by omega)
  have hdm := Int.mul_ediv_add_emod (all l p) l.length
  have hq0 : 0 ≤ all l p / l.length := Int.ediv_nonneg hb.1 (by omega)
  have hq : all l p / l.length ≤ m * p / 1000 := by
    have : (l.length : Int) * (all l p / l.length) ≤ l.length * (m * p / 1000) := by omega
    exact Int.le_of_mul_le_mul_left this hpos
  have hq' : 0 < all l p % l.length → all l p / l.length + 1 ≤ m * p / 1000 := fun h0 => by
    have : (l.length : Int) * (all l p / l.length) < l.length * (m * p / 1000) := by omega
    have := Int.lt_of_mul_lt_mul_left this (by omega)
    omega
  generalize all l p / l.length = q at *
  generalize m * p / 1000 = mp at *
  simp only [Int.zero_mul, Int.zero_ediv] at hz
  generalize x * p / 1000 = xp at *
  by_cases hr : rank (key l) l.length i < (all l p % l.length).toNat
  · rw [if_pos hr]
    have := hq' (by omega)
    omega
  · rw [if_neg hr]; omega
/-- no further apart -/
theorem step_gap (l : List Int) (p lo hi : Int) (h : ∀ a ∈ l, lo ≤ a ∧ a ≤ hi) (p0 : 0 ≤ p) (p1 : p ≤ 1000) (i j : Nat) (hi' : i < l.length) (hj : j < l.length) : (step l p).getD i 0 - (step l p).getD j 0 ≤ hi - lo := by
  rw [getD_step l p i hi', getD_step l p j hj]
  unfold tk
  have hx := h _ (getD_mem l i hi')
  have hy := h _ (getD_mem l j hj)
  obtain ⟨x, ex⟩ : ∃ x, l.getD i 0 = x := ⟨_, rfl⟩
  obtain ⟨y, ey⟩ : ∃ x, l.getD j 0 = x := ⟨_, rfl⟩
  rw [ex] at hx ⊢
  rw [ey] at hy ⊢
  by_cases hg : lo = hi
  · -- all alike: nothing is left over
    have hc : all l p % l.length = 0 := by
      have hall : ∀ a ∈ l, a = lo := fun a ha => by have := h a ha; omega
      have : all l p = l.length * (lo * p / 1000) := by
        unfold all
        have : l.map (fun n => n * p / 1000) = (List.range l.length).map fun _ => lo * p / 1000 := by
          apply List.ext_getElem
          · simp
          · intro k h1 h2; simp at h1; simp [hall _ (List.getElem_mem h1)]
        rw [this, tot_const]
      rw [this]; exact Int.mul_emod_right _ _
    rw [hc]
    have : x = y := by omega
    subst this
    simp; omega
  · rcases Int.lt_trichotomy x y with hlt | heq | hgt
    · have := left_mono _ _ p (Int.le_of_lt hlt) p0 p1
      split <;> split <;> omega
    · subst heq
      split <;> split <;> omega
    · have hm := left_mono _ _ p (Int.le_of_lt hgt) p0 p1
      -- j is ahead of i
      have ha : PR.ahead (key l) j i = true := by
        unfold PR.ahead key
        rw [ex, ey]
        simp; omega
      have := rank_mono (n := l.length) hj ha
      split <;> split <;> omega
/-- of no part nothing goes -/
theorem step_none (l : List Int) : step l 0 = l := by
  have ha : all l 0 = 0 := by
    unfold all
    induction l with
    | nil => rfl
    | cons a l ih => simp only [List.map_cons, tot, ih]; simp
  apply List.ext_getElem
  · simp [step]
  · intro i h1 h2
    simp [step, tk, ha, h2]
theorem all_whole (l : List Int) : all l 1000 = tot l := by
  unfold all
  induction l with
  | nil => rfl
  | cons a l ih => simp only [List.map_cons, tot, ih]; rw [Int.mul_ediv_cancel _ (by omega)]
/-- of all: alike, or one apart -/
theorem step_whole (l : List Int) (i : Nat) (hi : i < l.length) : (step l 1000).getD i 0 = tot l / l.length ∨ (step l 1000).getD i 0 = tot l / l.length + 1 := by
  rw [getD_step l 1000 i hi, all_whole]
  unfold tk
  rw [Int.mul_ediv_cancel _ (by omega)]
  split
  · right; omega
  · left; omega
end PS
end Go.Proofs.Ytblanfaghnflkaa
