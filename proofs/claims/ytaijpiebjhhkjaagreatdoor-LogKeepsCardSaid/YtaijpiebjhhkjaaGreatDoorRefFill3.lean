/- The reference's Fill: the form for laws. -/
import Derived.Test.YtaijpiebjhhkjaaGreatDoorRefFill2
namespace Go.Proofs.YtaijpiebjhhkjaaGreatDoor
open Go.RowKit
theorem refFill_yes (C : Option Addr) (cc nc : Nat) (caps : List Int) (P : Option Addr) (cp m : Nat) (paths : List (List Int)) (B : Nat) (w : World) (K : Nat) (R : List Rat) (hB : B ≤ w.heap.size) (hc : Ints w B C cc caps) (hp : Rows2 w B P cp paths) (hnc : nc = caps.length) (hm : m = paths.length) (ok : NetOk caps paths) (h12 : caps.length ≤ 12) (hl : ∀ p ∈ paths, p.length ≤ 1000) (hK : FillEnds caps paths K R) :
    Calls Tryz.prog 24 #[.agg #[.slice C nc cc, .slice P m cp]] w fun e w' => ∃ A c P' cp', e = .returned (.tuple #[.slice A R.length c, .slice P' K cp']) ∧ Frs w' w'.heap.size A c (R.map frQ) ∧ Rows2 w' w'.heap.size P' cp' (rounds caps paths K) ∧ Below w.heap.size w w' := by
  subst hm hnc
  refine (refFill_any C cc P cp caps paths B w hB hc hp ok h12 hl K R hK).mono ?_
  rintro e w' ⟨v, u, vs, rfl, hv, hu, hb⟩
  obtain ⟨A, c, rfl, hf⟩ := rates_frs hv
  obtain ⟨P', cp', rfl, hr⟩ := hu.rows
  exact ⟨A, c, P', cp', by rw [rounds_len], hf, hr, hb⟩
end Go.Proofs.YtaijpiebjhhkjaaGreatDoor
