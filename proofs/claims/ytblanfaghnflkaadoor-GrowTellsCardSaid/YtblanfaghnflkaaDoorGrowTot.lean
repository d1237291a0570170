/- grow's calls and the reference's Fill, each with one form for every input. -/
import Derived.Test.YtblanfaghnflkaaDoorGrowTot0
import Derived.Test.YtblanfaghnflkaaDoorGrow2
import Derived.Test.YtblanfaghnflkaaDoorRefFill3
import Derived.Test.YtblanfaghnflkaaDoorRefWith
import Derived.Test.YtblanfaghnflkaaDoorFrSame
import Derived.Test.YtblanfaghnflkaaDoorTold
namespace Go.Proofs.YtblanfaghnflkaaDoor
open Go.RowKit
theorem Ints.cells {w : World} {B b off : Nat} {c : Nat} {l : List Int} (h : Ints w B (some ⟨b, off, none⟩) c l) (j : Nat) (u : Value) (hu : (l.map (Value.int .i64))[j]? = some u) : w.cell? ((⟨b, off, none⟩ : Addr).add j) = some u := by
  have hl : j < l.length := by have := (List.getElem?_eq_some_iff.1 hu).1; simpa using this
  obtain ⟨b', off', e, _, hc⟩ := h.rd.2 (by omega)
  injection e with e
  injection e with e1 e2 _
  subst e1 e2
  rw [addr_add']
  exact hc j u hu
theorem refFill_tot (C : Option Addr) (cc nc : Nat) (caps : List Int) (P : Option Addr) (cp m : Nat) (paths : List (List Int)) (S : List Fr) (B : Nat) (w : World) (hB : B ≤ w.heap.size) (hc : Ints w B C cc caps) (hp : Rows2 w B P cp paths) (hnc : nc = caps.length) (hm : m = paths.length) (h12 : caps.length ≤ 12) (hl : ∀ p ∈ paths, p.length ≤ 1000) (hS : RatesIs 0 caps paths S) :
    Calls Tryd.prog 43 #[.agg #[.slice C nc cc, .slice P m cp]] w fun e w' => ∃ A c U, e = .returned (.tuple #[.slice A S.length c, U]) ∧ Frs w' w'.heap.size A c S ∧ Below w.heap.size w w' := by
  obtain ⟨ok, K, R, hK, rfl⟩ := hS.yes rfl
  refine (refFill_yes C cc nc caps P cp m paths B w K R hB hc hp hnc hm ok h12 hl hK).mono ?_
  rintro e w' ⟨A, c, P', cp', rfl, hf, _, hb⟩
  exact ⟨A, c, _, by rw [List.length_map], hf, hb⟩
end Go.Proofs.YtblanfaghnflkaaDoor
