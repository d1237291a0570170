/- bucket.Ticks: what is wrong with what comes tick by tick. -/
import Derived.Test.YtblanfaghnflkaaDoorMark
import Derived.Test.YtblanfaghnflkaaDoorLibA
namespace Go.Proofs.YtblanfaghnflkaaDoor
open Go.RowKit
def badRate (n : Int) : Bool := !(decide (0 ≤ n) && decide (n ≤ 10000))
theorem badRate_false {n : Int} (h : badRate n = false) : 0 ≤ n ∧ n ≤ 10000 := by
  simp only [badRate, Bool.not_eq_false', Bool.and_eq_true, decide_eq_true_eq] at h; exact h
theorem badRate_true {n : Int} (h : badRate n = true) : n < 0 ∨ 10000 < n := by
  simp only [badRate, Bool.not_eq_true', Bool.and_eq_false_imp, decide_eq_true_eq, decide_eq_false_iff_not] at h
  omega
theorem ticks_in {l : List Int} (h : l.any badRate = false) : ∀ n ∈ l, 0 ≤ n ∧ n ≤ 10000 := fun n hn => by
  refine badRate_false ?_
  cases e : badRate n
  · rfl
  · rw [List.any_eq_true.2 ⟨n, hn, e⟩] at h; cases h
end Go.Proofs.YtblanfaghnflkaaDoor
