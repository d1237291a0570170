/- Package mark: what its functions compute. -/
import Derived.Test.YtbojccikmpbpbaaRate
namespace Go.Proofs.Ytbojccikmpbpbaa
open Go.RowKit
attribute [local go_sem ↓] run_min_mn run_max_mx

theorem first_bd (f many : Int) (h0 : 0 ≤ f) (h1 : f ≤ 1000) (h2 : 0 ≤ many) (h3 : many ≤ 1000000001) : 0 ≤ many * f / 1000 ∧ many * f / 1000 ≤ 1000000001 := by
  have b1 : 0 ≤ many * f := Int.mul_nonneg h2 h0
  have b2 : many * f ≤ 1000000001 * 1000 := Int.mul_le_mul h3 h1 h0 (by omega)
  omega

/-- is the i-th marked? -/
def marked (f : Int) (i : Int) : Bool := decide (i * f / 1000 < (i + 1) * f / 1000)
/-- the first so many -/
def marks (f : Int) (k : Nat) : List Value := (List.range k).map fun (i : Nat) => Value.bool (marked f i)
theorem marks_succ (f : Int) (k : Nat) : marks f (k + 1) = marks f k ++ [.bool (marked f k)] := by simp [marks, List.range_succ]
theorem Try.info_bool : (Try.prog.info? 4).map (fun i => (i.zero, i.size, i.bytes)) = some (some (.bool false), 1, 1) := by kernel_rfl
end Go.Proofs.Ytbojccikmpbpbaa
