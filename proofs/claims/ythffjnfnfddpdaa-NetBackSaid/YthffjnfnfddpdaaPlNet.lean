/- Nets in plain words: faults, users. -/
import Derived.Test.YthffjnfnfddpdaaFew
namespace Go.Proofs.Ythffjnfnfddpdaa
/-- the first that is not 0 of f at i, i + 1 .. (so many) -/
def firstFrom (f : Nat → Int) : Nat → Nat → Int
  | 0, _ => 0
  | n + 1, i => if f i = 0 then firstFrom f n (i + 1) else f i
theorem firstFrom_step {f : Nat → Int} {n k : Nat} (h : k < n) : firstFrom f (n - k) k = if f k = 0 then firstFrom f (n - (k + 1)) (k + 1) else f k := by
  obtain ⟨d, hd⟩ : ∃ d, n - k = d + 1 := ⟨n - k - 1, by omega⟩
  rw [hd, show n - (k + 1) = d by omega]; rfl
theorem firstFrom_end {f : Nat → Int} {n : Nat} : firstFrom f (n - n) n = 0 := by rw [Nat.sub_self]; rfl
theorem firstFrom_zero {f : Nat → Int} : ∀ {n i : Nat}, firstFrom f n i = 0 → ∀ j, i ≤ j → j < i + n → f j = 0 := by
  intro n
  induction n with
  | zero => intro i _ j h1 h2; omega
  | succ n ih =>
    intro i h j h1 h2
    unfold firstFrom at h
    split at h
    · rename_i h0
      by_cases e : j = i
      · rw [e]; exact h0
      · exact ih h j (by omega) (by omega)
    · rename_i h0; exact absurd h h0
theorem firstFrom_all {f : Nat → Int} : ∀ {n i : Nat}, (∀ j, i ≤ j → j < i + n → f j = 0) → firstFrom f n i = 0 := by
  intro n
  induction n with
  | zero => intro i _; rfl
  | succ n ih =>
    intro i h
    unfold firstFrom
    rw [if_pos (h i (Nat.le_refl _) (by omega))]
    exact ih fun j h1 h2 => h j (by omega) (by omega)
theorem firstFrom_congr {f g : Nat → Int} : ∀ {n i : Nat}, (∀ j, i ≤ j → j < i + n → f j = g j) → firstFrom f n i = firstFrom g n i := by
  intro n
  induction n with
  | zero => intro i _; rfl
  | succ n ih =>
    intro i h
    unfold firstFrom
    rw [h i (Nat.le_refl _) (by omega), ih fun j h1 h2 => h j (by omega) (by omega)]
def inL (l : List Int) (x : Int) : Bool := l.any fun a => a == x
theorem inL_iff {l : List Int} {x : Int} : inL l x = true ↔ x ∈ l := by
  unfold inL; rw [List.any_eq_true]
  constructor
  · rintro ⟨a, ha, e⟩; rw [beq_iff_eq] at e; rwa [← e]
  · intro h; exact ⟨x, h, by simp⟩
theorem inL_take {l : List Int} {x a : Int} {k : Nat} (h : l.take (k + 1) = l.take k ++ [a]) : inL (l.take (k + 1)) x = (inL (l.take k) x || (a == x)) := by
  unfold inL; rw [h]; simp
theorem inL_of_take {l : List Int} {x : Int} {k : Nat} (h : inL (l.take k) x = true) : inL l x = true := by
  rw [inL_iff] at *; exact List.mem_of_mem_take h
def badCap (n : Int) : Bool := decide (n < 1) || decide (1000 < n)
def linksErr (l : List Int) : Int := if l.length = 0 then 5 else if 6 < l.length then 4 else if l.any badCap then 1 else 0
def pathAt (k : Int) (p : List Int) (i : Nat) : Int := if p.getD i 0 < 0 ∨ k ≤ p.getD i 0 then 1 else if inL (p.take i) (p.getD i 0) then 7 else 0
def pathErr (k : Int) (p : List Int) : Int := if p.length = 0 then 5 else firstFrom (pathAt k p) (p.length - 0) 0
def netErr (caps : List Int) (paths : List (List Int)) : Int :=
  if caps.length = 0 ∨ paths.length = 0 then 5 else if 6 < caps.length ∨ 6 < paths.length then 4 else if linksErr caps = 0 then firstFrom (fun i => pathErr caps.length (paths.getD i [])) (paths.length - 0) 0 else linksErr caps
/-- who goes over a link -/
def usersTo (L : List (List Int)) (x : Int) (n : Nat) : List Nat := (List.range n).filter fun f => inL (L.getD f []) x
def users (L : List (List Int)) (x : Int) : List Nat := usersTo L x L.length
theorem usersTo_yes {L : List (List Int)} {x : Int} {n : Nat} {l : List Int} (h : L[n]? = some l) (hi : inL l x = true) : usersTo L x (n + 1) = usersTo L x n ++ [n] := by
  simp [usersTo, List.range_succ, List.filter_append, h, hi]
theorem usersTo_no {L : List (List Int)} {x : Int} {n : Nat} {l : List Int} (h : L[n]? = some l) (hi : inL l x = false) : usersTo L x (n + 1) = usersTo L x n := by
  simp [usersTo, List.range_succ, List.filter_append, h, hi]
theorem usersTo_le (L : List (List Int)) (x : Int) (n : Nat) : (usersTo L x n).length ≤ n := by
  unfold usersTo
  exact Nat.le_trans (List.length_filter_le _ _) (by simp)
theorem users_mem {L : List (List Int)} {x : Int} {f : Nat} : f ∈ users L x ↔ f < L.length ∧ x ∈ L.getD f [] := by
  unfold users usersTo
  rw [List.mem_filter, List.mem_range, inL_iff]
theorem netErr_ok {caps : List Int} {paths : List (List Int)} (h : netErr caps paths = 0) :
    0 < caps.length ∧ caps.length ≤ 6 ∧ 0 < paths.length ∧ paths.length ≤ 6 ∧ (∀ c ∈ caps, 1 ≤ c ∧ c ≤ 1000) ∧ ∀ p ∈ paths, pathErr caps.length p = 0 := by
  unfold netErr at h
  split at h
  · omega
  · split at h
    · omega
    · split at h
      · rename_i h1 h2 h3
        refine ⟨by omega, by omega, by omega, by omega, fun c hc => ?_, fun p hp => ?_⟩
        · unfold linksErr at h3
          rw [if_neg (by omega), if_neg (by omega)] at h3
          split at h3
          · omega
          · rename_i h4
            cases hb : badCap c
            · simp only [badCap, Bool.or_eq_false_iff, decide_eq_false_iff_not] at hb; omega
            · exact absurd (List.any_eq_true.2 ⟨c, hc, hb⟩) h4
        · obtain ⟨i, hi, e⟩ := List.getElem_of_mem hp
          have := firstFrom_zero h i (Nat.zero_le _) (by omega)
          simpa [hi, e] using this
      · rename_i h1 h2 h3; exact absurd h h3
theorem pathErr_ok {k : Int} {p : List Int} (h : pathErr k p = 0) : 0 < p.length ∧ ∀ l ∈ p, 0 ≤ l ∧ l < k := by
  unfold pathErr at h
  split at h
  · omega
  · refine ⟨by omega, fun l hl => ?_⟩
    obtain ⟨i, hi, e⟩ := List.getElem_of_mem hl
    have := firstFrom_zero h i (Nat.zero_le _) (by omega)
    unfold pathAt at this
    have hg : p.getD i 0 = l := by simp [hi, e]
    rw [hg] at this
    split at this
    · omega
    · omega
end Go.Proofs.Ythffjnfnfddpdaa
