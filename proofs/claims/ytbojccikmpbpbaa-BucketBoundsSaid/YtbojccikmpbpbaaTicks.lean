/- bucket.Ticks: what is wrong with what comes tick by tick. -/
import Derived.Test.YtbojccikmpbpbaaMark
import Derived.Test.YtbojccikmpbpbaaLibA
namespace Go.Proofs.Ytbojccikmpbpbaa
open Go.RowKit
def badRate (n : Int) : Bool := !(decide (0 ≤ n) && decide (n ≤ 10000))
theorem badRate_false {n : Int} (h : badRate n = false) : 0 ≤ n ∧ n ≤ 10000 := by
  simp only [badRate, Bool.not_eq_false', Bool.and_eq_true, decide_eq_true_eq] at h; exact h
theorem badRate_true {n : Int} (h : badRate n = true) : n < 0 ∨ 10000 < n := by
  simp only [badRate, Bool.not_eq_true', Bool.and_eq_false_imp, decide_eq_true_eq, decide_eq_false_iff_not] at h
  omega
theorem ticks1_any (n : Int) (w : World) : Calls Try.prog 9 #[.int .i64 n] w fun e w' => e = .returned (.bool (badRate n)) ∧ w = w' := by
  by_cases h : n < 0 ∨ 10000 < n
  · have hb : badRate n = true := by
      cases e : badRate n
      · have := badRate_false e; omega
      · rfl
    rw [hb]
    clear hb
    go_enter Try.func9, Try.ntmps9
    go_wp2_with fail
    refine (rate_no _ _ h).mono ?_; rintro e w' ⟨rfl, rfl⟩
    go_wp2
    go_ret
    exact ⟨rfl, rfl⟩
  · have hb : badRate n = false := by
      cases e : badRate n
      · rfl
      · have := badRate_true e; omega
    rw [hb]
    clear hb
    go_enter Try.func9, Try.ntmps9
    go_wp2_with fail
    refine (rate_yes _ _ (by omega) (by omega)).mono ?_; rintro e w' ⟨rfl, rfl⟩
    go_wp2
    go_ret
    exact ⟨rfl, rfl⟩
theorem ticks1_cf (a : Array Value) (W : World) : (callFunc 9 a).run Try.prog W = .ok (.enter 9 a) W := by kernel_rfl
theorem ticks_full (A : Option Addr) (c n : Nat) (w : World) (h : 60 < n) (hm : n ≤ maxLen) :
    Calls Try.prog 6 #[.slice A n c] w fun e w' => e = .returned (.iface 33 (.int .i64 4)) ∧ w = w' := by
  unfold maxLen at hm
  go_enter Try.func6, Try.ntmps6
  go_wp2
  go_ret
  exact ⟨rfl, rfl⟩
theorem ticks_bad (A : Option Addr) (c : Nat) (l : List Int) (B : Nat) (w : World) (h : Ints w B A c l) (hl : l.length ≤ 60) (hbad : l.any badRate = true) :
    Calls Try.prog 6 #[.slice A l.length c] w fun e w' => e = .returned (.iface 33 (.int .i64 1)) ∧ w = w' := by
  have HC := Lib.hid (contains_any A c l B w h 9 #[] badRate ticks1_cf fun x _ => ticks1_any x w)
  have HB := Lib.hid hbad
  clear h hbad
  go_enter Try.func6, Try.ntmps6
  go_wp2_with fail
  refine HC.out.mono ?_; rintro e w' ⟨rfl, rfl⟩
  rw [HB.out]
  go_wp2
  go_ret
  exact ⟨rfl, rfl⟩
theorem ticks_ok (A : Option Addr) (c : Nat) (l : List Int) (B : Nat) (w : World) (h : Ints w B A c l) (hl : l.length ≤ 60) (hok : l.any badRate = false) :
    Calls Try.prog 6 #[.slice A l.length c] w fun e w' => e = .returned .nilIface ∧ w = w' := by
  have HC := Lib.hid (contains_any A c l B w h 9 #[] badRate ticks1_cf fun x _ => ticks1_any x w)
  have HB := Lib.hid hok
  clear h hok
  go_enter Try.func6, Try.ntmps6
  go_wp2_with fail
  refine HC.out.mono ?_; rintro e w' ⟨rfl, rfl⟩
  rw [HB.out]
  go_wp2
  go_ret
  exact ⟨rfl, rfl⟩
theorem ticks_in {l : List Int} (h : l.any badRate = false) : ∀ n ∈ l, 0 ≤ n ∧ n ≤ 10000 := fun n hn => by
  refine badRate_false ?_
  cases e : badRate n
  · rfl
  · rw [List.any_eq_true.2 ⟨n, hn, e⟩] at h; cases h
end Go.Proofs.Ytbojccikmpbpbaa
