/- meter.Run where it refuses; two lists that are the same. -/
import Derived.Test.YtkheobdkmmbjnaaDoorMeterRun
import Derived.Test.YtkheobdkmmbjnaaDoorGap
namespace Go.Proofs.YtkheobdkmmbjnaaDoor
open Go.RowKit
theorem mrun_no (c a k r : Int) (A : Option Addr) (cp n : Nat) (w : World) (h : ¬ (MeterOk c a k ∧ 1 ≤ r ∧ r ≤ 1000)) :
    Calls Tryd.prog 49 #[.agg #[.int .i64 c, .int .i64 a, .int .i64 k], .int .i64 r, .slice A n cp] w fun e w' => e = .returned (.tuple #[.slice none 0 0, .iface 124 (.int .i64 1)]) ∧ Below w.heap.size w w' := by
  have H := Lib.hid h; clear h
  go_enter Tryd.func49, Tryd.ntmps49
  go_wp2_with fail
  refine (mchk_no c a k r _ H.out).mono ?_; rintro e w1 ⟨rfl, hb1⟩
  go_wp2
  go_ret2
  exact ⟨rfl, ((Below.refl _ _).alloc (Nat.le_refl _) _).trans (hb1.mono (by simp))⟩
theorem mrun_full (c a k r : Int) (A : Option Addr) (cp n : Nat) (w : World) (h : MeterOk c a k) (h0 : 1 ≤ r) (h1 : r ≤ 1000) (hn : 60 < n) (hm : n ≤ maxLen) :
    Calls Tryd.prog 49 #[.agg #[.int .i64 c, .int .i64 a, .int .i64 k], .int .i64 r, .slice A n cp] w fun e w' => e = .returned (.tuple #[.slice none 0 0, .iface 124 (.int .i64 4)]) ∧ Below w.heap.size w w' := by
  have H := Lib.hid h; clear h
  go_enter Tryd.func49, Tryd.ntmps49
  go_wp2_with fail
  refine (mchk_yes c a k r _ H.out h0 h1).mono ?_; rintro e w1 ⟨rfl, hb1⟩
  go_wp2_with fail
  refine (ticks_full A cp n _ hn hm).mono ?_; rintro e w2 ⟨rfl, rfl⟩
  go_wp2
  go_ret2
  exact ⟨rfl, ((Below.refl _ _).alloc (Nat.le_refl _) _).trans (hb1.mono (by simp))⟩
theorem mrun_bad (c a k r : Int) (A : Option Addr) (cp : Nat) (l : List Int) (w : World) (h : MeterOk c a k) (h0 : 1 ≤ r) (h1 : r ≤ 1000) (hi : Ints w w.heap.size A cp l) (hl : l.length ≤ 60) (hbad : l.any badRate = true) :
    Calls Tryd.prog 49 #[.agg #[.int .i64 c, .int .i64 a, .int .i64 k], .int .i64 r, .slice A l.length cp] w fun e w' => e = .returned (.tuple #[.slice none 0 0, .iface 124 (.int .i64 1)]) ∧ Below w.heap.size w w' := by
  have H := Lib.hid h; clear h
  have HI := Lib.hid hi; clear hi
  have HB := Lib.hid hbad; clear hbad
  go_enter Tryd.func49, Tryd.ntmps49
  go_wp2_with fail
  refine (mchk_yes c a k r _ H.out h0 h1).mono ?_; rintro e w1 ⟨rfl, hb1⟩
  have hw1 : Below w.heap.size w w1 := ((Below.refl _ _).alloc (Nat.le_refl _) _).trans (hb1.mono (by simp))
  go_wp2_with fail
  refine (ticks_bad A cp l w.heap.size _ (HI.out.below hw1 (Nat.le_refl _)) hl HB.out).mono ?_; rintro e w2 ⟨rfl, rfl⟩
  go_wp2
  go_ret2
  exact ⟨rfl, hw1⟩
theorem Ints.nil (w : World) (B : Nat) : Ints w B none 0 [] := ⟨Reads.none_, Nat.le_refl _, by simp [maxLen]⟩
theorem sameInts_b (A A' : Option Addr) (c c' n n' : Nat) (l : List Int) (B B' : Nat) (w : World) (h : Ints w B A c l) (h' : Ints w B' A' c' l) (hn : n = l.length) (hn' : n' = l.length) :
    Calls Tryd.prog 44 #[.slice A n c, .slice A' n' c'] w fun e w' => e = .returned (.bool true) ∧ Below w.heap.size w w' := by
  subst hn hn'
  refine (sameInts_eq A A' c c' l B B' w h h').mono ?_
  rintro e w' ⟨rfl, n, rfl⟩
  exact ⟨rfl, below_drewN (Below.refl _ _) n⟩
theorem sameInts_nil (w : World) : Calls Tryd.prog 44 #[.slice none 0 0, .slice none 0 0] w fun e w' => e = .returned (.bool true) ∧ Below w.heap.size w w' :=
  sameInts_b none none 0 0 0 0 [] 0 0 w (Ints.nil _ _) (Ints.nil _ _) rfl rfl
theorem owns_ints' {w : World} {base n : Nat} {v : Value} {l : List Int} (h : w.ownsRow base 3 1 v n (l.map (Value.int .i64))) : ∃ A c, v = .slice A n c ∧ n = l.length ∧ Ints w w.heap.size A c l := by
  obtain ⟨A, c, rfl, hn, hi⟩ := owns_ints h
  exact ⟨A, c, by rw [hn], hn, hi⟩
end Go.Proofs.YtkheobdkmmbjnaaDoor
