/- mark's functions, whatever they are asked. -/
import Derived.Test.YtkheobdkmmbjnaaDoorMark
import Derived.Test.YtkheobdkmmbjnaaDoorTold
import Derived.Test.YtkheobdkmmbjnaaDoorOwn
namespace Go.Proofs.YtkheobdkmmbjnaaDoor
open Go.RowKit
theorem refMarked (f i : Int) (w : World) (h0 : 0 ≤ f) (h1 : f ≤ 1000) (h2 : 0 ≤ i) (h3 : i ≤ 1000000000) :
    Calls Tryd.prog 18 #[.int .i64 f, .int .i64 i] w fun e w' => e = .returned (.bool (marked f i)) ∧ w = w' := by
  have b1 : 0 ≤ (i + 1) * f := Int.mul_nonneg (by omega) h0
  have b2 : (i + 1) * f ≤ 1000000001 * 1000 := Int.mul_le_mul (by omega) h1 h0 (by omega)
  have b3 : 0 ≤ i * f := Int.mul_nonneg (by omega) h0
  have b4 : i * f ≤ 1000000001 * 1000 := Int.mul_le_mul (by omega) h1 h0 (by omega)
  unfold marked
  go_enter Tryd.func18, Tryd.ntmps18
  go_wp2
  go_ret
  exact ⟨rfl, rfl⟩
def isErr (f i : Int) : Int := if f < 0 ∨ 1000 < f ∨ i < 0 ∨ 1000000000 < i then 1 else 0
def isWant (f i : Int) : Bool := if f < 0 ∨ 1000 < f ∨ i < 0 ∨ 1000000000 < i then false else marked f i
theorem is_all (f i : Int) (w : World) : Calls Tryd.prog 19 #[.int .i64 f, .int .i64 i] w fun e w' => e = .returned (.tuple #[.bool (isWant f i), errVal (isErr f i)]) ∧ w = w' := by
  unfold isWant isErr
  by_cases h : f < 0 ∨ 1000 < f ∨ i < 0 ∨ 1000000000 < i
  · rw [if_pos h, if_pos h]; exact is_no f i w h
  · rw [if_neg h, if_neg h]; exact is_yes f i w (by omega) (by omega) (by omega) (by omega)
def countErr (f n m : Int) : Int := if f < 0 ∨ 1000 < f ∨ n < 0 ∨ 10000 < n ∨ m < 0 ∨ 10000 < m then 1 else 0
def countN (f n m : Int) : Int := if f < 0 ∨ 1000 < f ∨ n < 0 ∨ 10000 < n ∨ m < 0 ∨ 10000 < m then 0 else (n + m) * f / 1000 - n * f / 1000
theorem count_all (f n m : Int) (w : World) : Calls Tryd.prog 21 #[.int .i64 f, .int .i64 n, .int .i64 m] w fun e w' => e = .returned (.tuple #[.int .i64 (countN f n m), errVal (countErr f n m)]) ∧ w = w' := by
  unfold countN countErr
  by_cases h : f < 0 ∨ 1000 < f ∨ n < 0 ∨ 10000 < n ∨ m < 0 ∨ 10000 < m
  · rw [if_pos h, if_pos h]; exact count_no f n m w h
  · rw [if_neg h, if_neg h]; exact count_yes f n m w (by omega) (by omega) (by omega) (by omega) (by omega) (by omega)
theorem countN_step (f n : Int) (k : Nat) (h0 : 0 ≤ f) (h1 : f ≤ 1000) :
    (n + ((k : Int) + 1)) * f / 1000 - n * f / 1000 = (n + k) * f / 1000 - n * f / 1000 + (if marked f (n + k) then 1 else 0) := by
  unfold marked
  have e : (n + ((k : Int) + 1)) = n + k + 1 := by omega
  rw [e]
  have e2 : (n + k + 1) * f = (n + k) * f + f := by rw [Int.add_mul]; omega
  rw [e2]
  generalize (n + k) * f = x
  by_cases c : x / 1000 < (x + f) / 1000
  · rw [decide_eq_true c]; simp only [if_true]; omega
  · rw [decide_eq_false c]; simp only [Bool.false_eq_true, if_false]; omega
def listErr (f m : Int) : Int := if f < 0 ∨ 1000 < f ∨ m < 0 ∨ 60 < m then 1 else 0
end Go.Proofs.YtkheobdkmmbjnaaDoor
