/- The meter in plain words: the next rate. -/
import Derived.Test.YtblanfaghnflkaaDoorLibA
namespace Go.Proofs.YtblanfaghnflkaaDoor
namespace PM
/-- the next rate -/
def nxt (cap came wait rate : Int) : Int := max 1 (min cap (rate + rate * (2 * (cap - came) - wait) / (4 * cap)))
theorem bounds (cap came wait rate : Int) (hc : 1 ≤ cap) : 1 ≤ nxt cap came wait rate ∧ nxt cap came wait rate ≤ cap := by unfold nxt; omega
theorem stays (cap rate : Int) (h1 : 1 ≤ rate) (hr : rate ≤ cap) : nxt cap cap 0 rate = rate := by
  unfold nxt
  have : rate * (2 * (cap - cap) - 0) = 0 := by simp
  rw [this]; simp; omega
theorem mono (cap a b rate : Int) (hc : 1 ≤ cap) (h1 : 1 ≤ rate) (h : b ≤ a) : max 1 (min cap (rate + rate * b / (4 * cap))) ≤ max 1 (min cap (rate + rate * a / (4 * cap))) := by
  have h2 : rate * b ≤ rate * a := Int.mul_le_mul_of_nonneg_left h (by omega)
  have h3 : rate * b / (4 * cap) ≤ rate * a / (4 * cap) := Int.ediv_le_ediv (by omega) h2
  omega
theorem less_came (cap came wait rate more : Int) (hc : 1 ≤ cap) (h1 : 1 ≤ rate) (hm : 0 ≤ more) : nxt cap (came + more) wait rate ≤ nxt cap came wait rate :=
  mono cap _ _ rate hc h1 (by omega)
theorem less_wait (cap came wait rate more : Int) (hc : 1 ≤ cap) (h1 : 1 ≤ rate) (hm : 0 ≤ more) : nxt cap came (wait + more) rate ≤ nxt cap came wait rate :=
  mono cap _ _ rate hc h1 (by omega)
theorem idle (cap rate : Int) (hc : 1 ≤ cap) (h1 : 1 ≤ rate) : nxt cap 0 0 rate = min cap (rate + rate / 2) := by
  unfold nxt
  have e : rate * (2 * (cap - 0) - 0) / (4 * cap) = rate / 2 := by
    rw [show rate * (2 * (cap - 0) - 0) = (2 * cap) * rate by rw [Int.mul_comm]; simp, show 4 * cap = (2 * cap) * 2 by omega]
    exact Int.mul_ediv_mul_of_pos _ _ (by omega)
  rw [e]; omega
/-- so many ticks: the rates -/
def rates (cap : Int) : Int → Int → List Int → List Int
  | _, _, [] => []
  | wait, rate, n :: l => nxt cap n (max 0 (min 10000 (wait + n - cap))) rate :: rates cap (max 0 (min 10000 (wait + n - cap))) (nxt cap n (max 0 (min 10000 (wait + n - cap))) rate) l
/-- so many idle ticks -/
def up (cap : Int) : Nat → Int → Int
  | 0, r => r
  | n + 1, r => up cap n (min cap (r + r / 2))
/-- what waits, and the rate, behind so many -/
def after (cap : Int) : Int → Int → List Int → Int × Int
  | w, r, [] => (w, r)
  | w, r, n :: l => after cap (max 0 (min 10000 (w + n - cap))) (nxt cap n (max 0 (min 10000 (w + n - cap))) r) l
theorem rates_snoc (cap : Int) : ∀ (l : List Int) (w r x : Int), rates cap w r (l ++ [x]) = rates cap w r l ++ [nxt cap x (max 0 (min 10000 ((after cap w r l).1 + x - cap))) (after cap w r l).2] := by
  intro l
  induction l with
  | nil => intros; simp [rates, after]
  | cons n l ih => intros; simp only [List.cons_append, rates, after, ih]
theorem after_snoc (cap : Int) : ∀ (l : List Int) (w r x : Int), after cap w r (l ++ [x]) = (max 0 (min 10000 ((after cap w r l).1 + x - cap)), nxt cap x (max 0 (min 10000 ((after cap w r l).1 + x - cap))) (after cap w r l).2) := by
  intro l
  induction l with
  | nil => intros; simp [after]
  | cons n l ih => intros; simp only [List.cons_append, after, ih]
theorem len_rates (cap : Int) : ∀ (l : List Int) (w r : Int), (rates cap w r l).length = l.length := by
  intro l
  induction l with
  | nil => intros; rfl
  | cons n l ih => intros; simp [rates, ih]
theorem rates_idle (cap : Int) (hc : 1 ≤ cap) : ∀ (n : Nat) (r : Int) (k : Nat), 1 ≤ r → k < n → (rates cap 0 r (List.replicate n 0)).getD k 0 = up cap (k + 1) r := by
  intro n
  induction n with
  | zero => intros; omega
  | succ n ih =>
    intro r k hr hk
    rw [List.replicate_succ]
    simp only [rates]
    have e : max 0 (min 10000 ((0 : Int) + 0 - cap)) = 0 := by omega
    rw [e, idle cap r hc hr]
    cases k with
    | zero => simp [up]
    | succ k =>
      have := ih (min cap (r + r / 2)) k (by omega) (by omega)
      simp only [List.getD_cons_succ, this]
      rfl
def grows : Nat → Int → Int
  | 0, r => r
  | n + 1, r => grows n (r + r / 2)
theorem up_ge (cap : Int) (hc : 1 ≤ cap) : ∀ (n : Nat) (r g : Int), min cap g ≤ r → 0 ≤ g → 1 ≤ r → r ≤ max cap r → min cap (grows n g) ≤ up cap n r := by
  intro n
  induction n with
  | zero => intro r g h _ _ _; simpa [grows, up] using h
  | succ n ih =>
    intro r g h hg hr _
    simp only [grows, up]
    refine ih _ _ ?_ (by omega) (by omega) (by omega)
    omega
theorem up_le (cap : Int) : ∀ (n : Nat) (r : Int), up cap (n + 1) r ≤ cap := by
  intro n
  induction n with
  | zero => intro r; simp only [up]; omega
  | succ n ih => intro r; exact ih _
theorem full (cap rate : Int) (hc : 1 ≤ cap) (hm : cap ≤ 1000) (h2 : 2 ≤ rate ∨ cap = 1) (h1 : 1 ≤ rate) : up cap 40 rate = cap := by
  have a : up cap 40 rate ≤ cap := up_le cap 39 rate
  rcases h2 with h2 | h2
  · have b := up_ge cap hc 40 rate 2 (by omega) (by omega) h1 (by omega)
    have c : grows 40 2 ≥ 1000 := by decide
    omega
  · have b := up_ge cap hc 40 rate 1 (by omega) (by omega) h1 (by omega)
    have c : grows 40 1 = 1 := by decide
    omega
/-- rounded down, as the program has it -/
theorem down (n b : Int) (hb : 0 < b) : (if n.tmod b < 0 then n.tdiv b - 1 else n.tdiv b) = n / b := by
  have h1 := Int.mul_tdiv_add_tmod n b
  have h2 : n.tmod b < b ∧ -b < n.tmod b := ⟨Int.tmod_lt_of_pos n hb, Int.lt_tmod_of_pos n hb⟩
  split
  · symm
    rw [Int.ediv_eq_iff_of_pos hb]
    have e : (n.tdiv b - 1) * b = b * n.tdiv b - b := by rw [Int.sub_mul, Int.mul_comm]; simp
    omega
  · symm
    rw [Int.ediv_eq_iff_of_pos hb]
    have e : n.tdiv b * b = b * n.tdiv b := Int.mul_comm _ _
    omega
theorem down' (n b : Int) (hb : 0 < b) : (if n < 0 ∧ n.tdiv b * b ≠ n then n.tdiv b - 1 else n.tdiv b) = n / b := by
  rw [← down n b hb]
  have h1 := Int.mul_tdiv_add_tmod n b
  have e : n.tdiv b * b = b * n.tdiv b := Int.mul_comm _ _
  have h3 : 0 ≤ n → 0 ≤ n.tmod b := fun h => Int.tmod_nonneg b h
  have h4 : n < 0 → n.tmod b ≤ 0 := fun h => by
    have := Int.tmod_nonneg b (show 0 ≤ -n by omega)
    rw [Int.neg_tmod] at this
    omega
  by_cases a : n.tmod b < 0
  · rw [if_pos a, if_pos (by omega)]
  · rw [if_neg a, if_neg (by omega)]
end PM
end Go.Proofs.YtblanfaghnflkaaDoor
