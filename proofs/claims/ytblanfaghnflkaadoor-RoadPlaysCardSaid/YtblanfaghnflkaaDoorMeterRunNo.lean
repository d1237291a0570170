/- meter.Run where it refuses; two lists that are the same. -/
import Derived.Test.YtblanfaghnflkaaDoorMeterRun
import Derived.Test.YtblanfaghnflkaaDoorGap
namespace Go.Proofs.YtblanfaghnflkaaDoor
open Go.RowKit
theorem Ints.nil (w : World) (B : Nat) : Ints w B none 0 [] := ⟨Reads.none_, Nat.le_refl _, by simp [maxLen]⟩
theorem sameInts_b (A A' : Option Addr) (c c' n n' : Nat) (l : List Int) (B B' : Nat) (w : World) (h : Ints w B A c l) (h' : Ints w B' A' c' l) (hn : n = l.length) (hn' : n' = l.length) :
    Calls Tryd.prog 29 #[.slice A n c, .slice A' n' c'] w fun e w' => e = .returned (.bool true) ∧ Below w.heap.size w w' := by
  subst hn hn'
  refine (sameInts_eq A A' c c' l B B' w h h').mono ?_
  rintro e w' ⟨rfl, n, rfl⟩
  exact ⟨rfl, below_drewN (Below.refl _ _) n⟩
theorem sameInts_nil (w : World) : Calls Tryd.prog 29 #[.slice none 0 0, .slice none 0 0] w fun e w' => e = .returned (.bool true) ∧ Below w.heap.size w w' :=
  sameInts_b none none 0 0 0 0 [] 0 0 w (Ints.nil _ _) (Ints.nil _ _) rfl rfl
theorem owns_ints' {w : World} {base n : Nat} {v : Value} {l : List Int} (h : w.ownsRow base 3 1 v n (l.map (Value.int .i64))) : ∃ A c, v = .slice A n c ∧ n = l.length ∧ Ints w w.heap.size A c l := by
  obtain ⟨A, c, rfl, hn, hi⟩ := owns_ints h
  exact ⟨A, c, by rw [hn], hn, hi⟩
end Go.Proofs.YtblanfaghnflkaaDoor
