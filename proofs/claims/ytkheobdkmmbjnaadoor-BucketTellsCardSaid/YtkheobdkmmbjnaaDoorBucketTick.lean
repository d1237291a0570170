/- bucket.Tick, Take. -/
import Derived.Test.YtkheobdkmmbjnaaDoorBucket
namespace Go.Proofs.YtkheobdkmmbjnaaDoor
open Go.RowKit
attribute [local go_sem ↓] run_min_mn run_max_mx
theorem bTick_yes (s r h : Int) (w : World) (ok : BucketOk s r h) : Calls Tryd.prog 23 #[.agg #[.int .i64 s, .int .i64 r, .int .i64 h]] w fun e w' =>
    e = .returned (.tuple #[.agg #[.int .i64 s, .int .i64 r, .int .i64 (min s (h + r))], .nilIface]) ∧ Below w.heap.size w w' := by
  have H := Lib.hid ok
  obtain ⟨g1, g2, g3, g4, g5, g6⟩ := ok
  go_enter Tryd.func23, Tryd.ntmps23
  go_wp2_with fail
  refine (bcheck_yes s r h _ H.out).mono ?_; rintro e w' ⟨rfl, rfl⟩
  go_wp2_with fail
  refine (btick_any s r h _ (by omega) (by omega) (by omega) (by omega)).mono ?_; rintro e w' ⟨rfl, rfl⟩
  go_wp2
  refine bodyPost_ret (v := .tuple #[.agg #[.int .i64 s, .int .i64 r, .int .i64 (min s (h + r))], .nilIface]) (by simp [results, Tryd.results23, go_sem]) rfl ⟨rfl, ?_⟩
  repeat (first | exact Below.refl _ _ | apply Below.drew | refine Below.alloc ?_ (by simp <;> omega) _)
theorem bTick_no (s r h : Int) (w : World) (no : ¬ BucketOk s r h) : Calls Tryd.prog 23 #[.agg #[.int .i64 s, .int .i64 r, .int .i64 h]] w fun e w' =>
    e = .returned (.tuple #[.agg #[.int .i64 0, .int .i64 0, .int .i64 0], .iface 124 (.int .i64 1)]) ∧ Below w.heap.size w w' := by
  have H := Lib.hid no; clear no
  go_enter Tryd.func23, Tryd.ntmps23
  go_wp2_with fail
  refine (bcheck_no s r h _ H.out).mono ?_; rintro e w' ⟨rfl, rfl⟩
  go_wp2
  refine bodyPost_ret (v := .tuple #[.agg #[.int .i64 0, .int .i64 0, .int .i64 0], .iface 124 (.int .i64 1)]) (by simp [results, Tryd.results23, go_sem]) rfl ⟨rfl, ?_⟩
  repeat (first | exact Below.refl _ _ | apply Below.drew | refine Below.alloc ?_ (by simp <;> omega) _)
theorem take_no (s r h n : Int) (w : World) (no : ¬ BucketOk s r h) : Calls Tryd.prog 25 #[.agg #[.int .i64 s, .int .i64 r, .int .i64 h], .int .i64 n] w fun e w' =>
    e = .returned (.tuple #[.agg #[.int .i64 0, .int .i64 0, .int .i64 0], .iface 124 (.int .i64 1)]) ∧ Below w.heap.size w w' := by
  have H := Lib.hid no; clear no
  go_enter Tryd.func25, Tryd.ntmps25
  go_wp2_with fail
  refine (bcheck_no s r h _ H.out).mono ?_; rintro e w' ⟨rfl, rfl⟩
  go_wp2
  refine bodyPost_ret (v := .tuple #[.agg #[.int .i64 0, .int .i64 0, .int .i64 0], .iface 124 (.int .i64 1)]) (by simp [results, Tryd.results25, go_sem]) rfl ⟨rfl, ?_⟩
  repeat (first | exact Below.refl _ _ | apply Below.drew | refine Below.alloc ?_ (by simp <;> omega) _)
theorem take_range (s r h n : Int) (w : World) (ok : BucketOk s r h) (hn : n < 0 ∨ 10000 < n) : Calls Tryd.prog 25 #[.agg #[.int .i64 s, .int .i64 r, .int .i64 h], .int .i64 n] w fun e w' =>
    e = .returned (.tuple #[.agg #[.int .i64 0, .int .i64 0, .int .i64 0], .iface 124 (.int .i64 1)]) ∧ Below w.heap.size w w' := by
  have H := Lib.hid ok; clear ok
  go_enter Tryd.func25, Tryd.ntmps25
  go_wp2_with fail
  refine (bcheck_yes s r h _ H.out).mono ?_; rintro e w' ⟨rfl, rfl⟩
  go_wp2_with fail
  refine (rate_no n _ hn).mono ?_; rintro e w' ⟨rfl, rfl⟩
  clear hn
  go_wp2
  refine bodyPost_ret (v := .tuple #[.agg #[.int .i64 0, .int .i64 0, .int .i64 0], .iface 124 (.int .i64 1)]) (by simp [results, Tryd.results25, go_sem]) rfl ⟨rfl, ?_⟩
  repeat (first | exact Below.refl _ _ | apply Below.drew | refine Below.alloc ?_ (by simp <;> omega) _)
theorem take_low (s r h n : Int) (w : World) (ok : BucketOk s r h) (h0 : 0 ≤ n) (h1 : n ≤ 10000) (hl : h < n) : Calls Tryd.prog 25 #[.agg #[.int .i64 s, .int .i64 r, .int .i64 h], .int .i64 n] w fun e w' =>
    e = .returned (.tuple #[.agg #[.int .i64 0, .int .i64 0, .int .i64 0], .iface 124 (.int .i64 8)]) ∧ Below w.heap.size w w' := by
  have H := Lib.hid ok; clear ok
  go_enter Tryd.func25, Tryd.ntmps25
  go_wp2_with fail
  refine (bcheck_yes s r h _ H.out).mono ?_; rintro e w' ⟨rfl, rfl⟩
  go_wp2_with fail
  refine (rate_yes n _ h0 h1).mono ?_; rintro e w' ⟨rfl, rfl⟩
  go_wp2
  refine bodyPost_ret (v := .tuple #[.agg #[.int .i64 0, .int .i64 0, .int .i64 0], .iface 124 (.int .i64 8)]) (by simp [results, Tryd.results25, go_sem]) rfl ⟨rfl, ?_⟩
  repeat (first | exact Below.refl _ _ | apply Below.drew | refine Below.alloc ?_ (by simp <;> omega) _)
theorem take_yes (s r h n : Int) (w : World) (ok : BucketOk s r h) (h0 : 0 ≤ n) (h1 : n ≤ 10000) (hl : n ≤ h) : Calls Tryd.prog 25 #[.agg #[.int .i64 s, .int .i64 r, .int .i64 h], .int .i64 n] w fun e w' =>
    e = .returned (.tuple #[.agg #[.int .i64 s, .int .i64 r, .int .i64 (h - n)], .nilIface]) ∧ Below w.heap.size w w' := by
  have H := Lib.hid ok
  obtain ⟨g1, g2, g3, g4, g5, g6⟩ := ok
  go_enter Tryd.func25, Tryd.ntmps25
  go_wp2_with fail
  refine (bcheck_yes s r h _ H.out).mono ?_; rintro e w' ⟨rfl, rfl⟩
  go_wp2_with fail
  refine (rate_yes n _ h0 h1).mono ?_; rintro e w' ⟨rfl, rfl⟩
  go_wp2
  refine bodyPost_ret (v := .tuple #[.agg #[.int .i64 s, .int .i64 r, .int .i64 (h - n)], .nilIface]) (by simp [results, Tryd.results25, go_sem]) rfl ⟨rfl, ?_⟩
  repeat (first | exact Below.refl _ _ | apply Below.drew | refine Below.alloc ?_ (by simp <;> omega) _)
end Go.Proofs.YtkheobdkmmbjnaaDoor
