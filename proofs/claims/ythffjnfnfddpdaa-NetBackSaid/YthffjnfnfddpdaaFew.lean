/- The fault of shares, up to a bound. -/
import Derived.Test.YthffjnfnfddpdaaFind
import Derived.Test.YthffjnfnfddpdaaOwn
namespace Go.Proofs.Ythffjnfnfddpdaa
open Go.RowKit
def badTo (most n : Int) : Bool := decide (n < 0) || decide (most < n)
theorem badTo_iff (most n : Int) : badTo most n = false ↔ 0 ≤ n ∧ n ≤ most := by
  simp only [badTo, Bool.or_eq_false_iff, decide_eq_false_iff_not]; omega
theorem badTo_true {most n : Int} (h : badTo most n = true) : n < 0 ∨ most < n := by
  simp only [badTo, Bool.or_eq_true, decide_eq_true_eq] at h; exact h
theorem badTo_in {most : Int} {l : List Int} (h : l.any (badTo most) = false) : ∀ n ∈ l, 0 ≤ n ∧ n ≤ most := fun n hn => by
  rw [← badTo_iff]
  cases e : badTo most n
  · rfl
  · rw [List.any_eq_true.2 ⟨n, hn, e⟩] at h; cases h
def fewErr (l : List Int) (most : Int) : Int := if l.length = 0 then 5 else if 6 < l.length then 4 else if l.any (badTo most) then 1 else 0
end Go.Proofs.Ythffjnfnfddpdaa
