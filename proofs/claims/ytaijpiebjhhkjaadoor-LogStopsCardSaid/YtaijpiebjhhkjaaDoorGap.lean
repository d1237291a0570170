/- fairref1.Gap, and fairsame.Ints. -/
import Derived.Test.YtaijpiebjhhkjaaDoorLibA
namespace Go.Proofs.YtaijpiebjhhkjaaDoor
open Go.RowKit
theorem Ints.drewN {w : World} {B : Nat} {A : Option Addr} {c : Nat} {l : List Int} (h : Ints w B A c l) (n : Nat) : Ints (w.drewN n) B A c l := h.below (below_drewN (Below.refl B _) n) (Nat.le_refl _)
theorem sameInts_quiet {P : Program} {f : FuncId} {args : Array Value} {w : World} {n : Nat} {v : Value}
    (h : Calls P f args (w.drewN n) fun e w' => e = .returned v ∧ ∃ m, w' = (w.drewN n).drewN m) : Calls P f args (w.drewN n) fun e w'' => e = .returned v ∧ ∃ m, w'' = w.drewN m :=
  h.mono fun _ _ ⟨he, m, hm⟩ => ⟨he, n + m, by rw [hm, World.drewN_drewN]⟩
end Go.Proofs.YtaijpiebjhhkjaaDoor
