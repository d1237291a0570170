/- An error as a number. -/
import Derived.Test.YthffjnfnfddpdaaBase
namespace Go.Proofs.Ythffjnfnfddpdaa
open Go.RowKit
/-- an error as a number -/
def errVal (n : Int) : Value := if n = 0 then .nilIface else .iface 103 (.int .i64 n)
theorem errVal_zero : errVal 0 = .nilIface := rfl
theorem errVal_pos {n : Int} (h : n ≠ 0) : errVal n = .iface 103 (.int .i64 n) := if_neg h
end Go.Proofs.Ythffjnfnfddpdaa
