/- even.Give: some go from one to another. -/
import Derived.Test.YtblanfaghnflkaaEvenGap
namespace Go.Proofs.Ytblanfaghnflkaa
open Go.RowKit
attribute [local go_sem ↓] run_min_mn run_max_mx
def GiveRange (n : Nat) (f t m : Int) : Prop := 0 ≤ f ∧ f < n ∧ 0 ≤ t ∧ t < n ∧ 0 ≤ m ∧ m ≤ 1000
abbrev boxed (w : World) (A : Option Addr) (n c : Nat) : World := w.alloc (.cells #[.slice A n c] 22)
/-- some go from one place to another -/
def giveTo (l : List Int) (f t : Nat) (m : Int) : List Int := (l.set f (l.getD f 0 - m)).set t ((l.set f (l.getD f 0 - m)).getD t 0 + m)
end Go.Proofs.Ytblanfaghnflkaa
