/- fairtop.one: the closed fact that the laws on top begin with. -/
import Derived.Test.YtaijpiebjhhkjaaDoorLibK
import Derived.Test.YtaijpiebjhhkjaaDoorLibM
namespace Go.Proofs.YtaijpiebjhhkjaaDoor
open Go.RowKit
theorem ends_dec {caps : List Int} {paths : List (List Int)} {K : Nat} {R : List Rat} (h1 : allDone (fillSt caps paths K) = true) (h2 : ((List.range K).all fun j => !allDone (fillSt caps paths j)) = true) (h3 : fillSt caps paths K = R.map some) : FillEnds caps paths K R :=
  ⟨h1, fun j hj => by have := List.all_eq_true.1 h2 j (List.mem_range.2 hj); simpa using this, h3⟩
theorem one_ends : FillEnds [8] [[0], [0]] 1 [4, 4] := ends_dec (by decide +kernel) (by decide +kernel) (by decide +kernel)
/-- a fraction of a result -/
theorem frs_k {w : World} {B : Nat} {A : Option Addr} {c : Nat} {Q : List Rat} (h : Frs w B A c (Q.map frQ)) (k : Nat) {q : Rat} (hk : Q[k]? = some q) :
    ∃ b off, A = some ⟨b, off, none⟩ ∧ b < B ∧ w.cell? ⟨b, off + k * 2, none⟩ = some (.int .i64 q.num) ∧ w.cell? ⟨b, off + k * 2 + 1, none⟩ = some (.int .i64 q.den) := by
  have hl := (List.getElem?_eq_some_iff.1 hk).1
  have := frs_q h hl
  rwa [List.getD_eq_getElem?_getD, hk] at this
end Go.Proofs.YtaijpiebjhhkjaaDoor
