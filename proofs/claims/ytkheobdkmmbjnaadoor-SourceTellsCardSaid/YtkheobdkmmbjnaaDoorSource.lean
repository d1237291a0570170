/- Package source: what its functions compute. -/
import Derived.Test.YtkheobdkmmbjnaaDoorMark
import Derived.Test.YtkheobdkmmbjnaaDoorBlk
namespace Go.Proofs.YtkheobdkmmbjnaaDoor
open Go.RowKit
attribute [local go_sem ↓] run_min_mn run_max_mx
def SourceOk (W a l c : Int) : Prop := 1 ≤ W ∧ W ≤ 1000 ∧ 0 ≤ a ∧ a ≤ 10000 ∧ 0 ≤ l ∧ l ≤ 10000 ∧ 0 ≤ c ∧ c ≤ 10000
def sentN (W a l : Int) : Int := max 0 (min l (W - a))
set_option maxHeartbeats 1000000 in
theorem scheck_yes (W a l c : Int) (w : World) (ok : SourceOk W a l c) : Calls Tryd.prog 33 #[.agg #[.int .i64 W, .int .i64 a, .int .i64 l, .int .i64 c]] w fun e w' => e = .returned .nilIface ∧ w.alloc (.cells #[.int .i64 W, .int .i64 a, .int .i64 l, .int .i64 c] 56) = w' := by
  obtain ⟨g1, g2, g3, g4, g5, g6, g7, g8⟩ := ok
  go_enter Tryd.func33, Tryd.ntmps33
  go_wp2_with (go_at_call 79; refine (rate_yes _ _ (by omega) (by omega)).mono ?_; rintro e w' ⟨rfl, rfl⟩)
  go_ret
  exact ⟨rfl, rfl⟩
set_option maxHeartbeats 4000000 in
theorem scheck_no (W a l c : Int) (w : World) (no : ¬ SourceOk W a l c) : Calls Tryd.prog 33 #[.agg #[.int .i64 W, .int .i64 a, .int .i64 l, .int .i64 c]] w fun e w' => e = .returned (.iface 124 (.int .i64 1)) ∧ w.alloc (.cells #[.int .i64 W, .int .i64 a, .int .i64 l, .int .i64 c] 56) = w' := by
  unfold SourceOk at no
  by_cases h1 : W < 1
  · clear no
    go_enter Tryd.func33, Tryd.ntmps33
    go_wp2
    go_ret
    exact ⟨rfl, rfl⟩
  · by_cases h2 : 1000 < W
    · clear no
      go_enter Tryd.func33, Tryd.ntmps33
      go_wp2
      go_ret
      exact ⟨rfl, rfl⟩
    · by_cases h3 : a < 0 ∨ 10000 < a
      · clear no
        go_enter Tryd.func33, Tryd.ntmps33
        go_wp2_with fail
        refine (rate_no _ _ h3).mono ?_; rintro e w' ⟨rfl, rfl⟩
        go_wp2
        go_ret
        exact ⟨rfl, rfl⟩
      · by_cases h4 : l < 0 ∨ 10000 < l
        · clear no
          go_enter Tryd.func33, Tryd.ntmps33
          go_wp2_with fail
          refine (rate_yes _ _ (by omega) (by omega)).mono ?_; rintro e w' ⟨rfl, rfl⟩
          go_wp2_with fail
          refine (rate_no _ _ h4).mono ?_; rintro e w' ⟨rfl, rfl⟩
          go_wp2
          go_ret
          exact ⟨rfl, rfl⟩
        · have h5 : c < 0 ∨ 10000 < c := by omega
          clear no
          go_enter Tryd.func33, Tryd.ntmps33
          go_wp2_with fail
          refine (rate_yes _ _ (by omega) (by omega)).mono ?_; rintro e w' ⟨rfl, rfl⟩
          go_wp2_with fail
          refine (rate_yes _ _ (by omega) (by omega)).mono ?_; rintro e w' ⟨rfl, rfl⟩
          go_wp2_with fail
          refine (rate_no _ _ h5).mono ?_; rintro e w' ⟨rfl, rfl⟩
          go_wp2
          go_ret
          exact ⟨rfl, rfl⟩
theorem sent_any (W a l c : Int) (w : World) (ok : SourceOk W a l c) :
    Calls Tryd.prog 83 #[.agg #[.int .i64 W, .int .i64 a, .int .i64 l, .int .i64 c]] w fun e w' =>
      e = .returned (.tuple #[.agg #[.int .i64 W, .int .i64 (a + sentN W a l), .int .i64 (l - sentN W a l), .int .i64 c], .int .i64 (sentN W a l)]) ∧
      (w.alloc (.cells #[.int .i64 W, .int .i64 (a + sentN W a l), .int .i64 (l - sentN W a l), .int .i64 c] 56)).alloc (.cells #[.int .i64 W, .int .i64 (a + sentN W a l), .int .i64 (l - sentN W a l), .int .i64 c] 56) = w' := by
  obtain ⟨g1, g2, g3, g4, g5, g6, g7, g8⟩ := ok
  unfold sentN
  go_enter Tryd.func83, Tryd.ntmps83
  go_wp2
  exact bodyPost_ret (v := .tuple #[.agg #[.int .i64 W, .int .i64 (a + max 0 (min l (W - a))), .int .i64 (l - max 0 (min l (W - a))), .int .i64 c], .int .i64 (max 0 (min l (W - a)))]) (by simp [results, Tryd.results83, go_sem]) rfl ⟨rfl, rfl⟩
theorem acked_yes (W a l c : Int) (w : World) (ok : SourceOk W a l c) :
    Calls Tryd.prog 85 #[.agg #[.int .i64 W, .int .i64 a, .int .i64 l, .int .i64 c], .bool true] w fun e w' =>
      e = .returned (.agg #[.int .i64 (min 1000 (W + 1)), .int .i64 (a - 1), .int .i64 l, .int .i64 (c + 1)]) ∧
      (w.alloc (.cells #[.int .i64 (min 1000 (W + 1)), .int .i64 (a - 1), .int .i64 l, .int .i64 (c + 1)] 56)).alloc (.cells #[.int .i64 (min 1000 (W + 1)), .int .i64 (a - 1), .int .i64 l, .int .i64 (c + 1)] 56) = w' := by
  obtain ⟨g1, g2, g3, g4, g5, g6, g7, g8⟩ := ok
  go_enter Tryd.func85, Tryd.ntmps85
  go_wp2
  exact bodyPost_ret (v := .agg #[.int .i64 (min 1000 (W + 1)), .int .i64 (a - 1), .int .i64 l, .int .i64 (c + 1)]) (by simp [results, Tryd.results85, go_sem]) rfl ⟨rfl, rfl⟩
theorem acked_no (W a l c : Int) (w : World) (ok : SourceOk W a l c) :
    Calls Tryd.prog 85 #[.agg #[.int .i64 W, .int .i64 a, .int .i64 l, .int .i64 c], .bool false] w fun e w' =>
      e = .returned (.agg #[.int .i64 (max 1 (W - 1)), .int .i64 (a - 1), .int .i64 l, .int .i64 (c + 1)]) ∧
      (w.alloc (.cells #[.int .i64 (max 1 (W - 1)), .int .i64 (a - 1), .int .i64 l, .int .i64 (c + 1)] 56)).alloc (.cells #[.int .i64 (max 1 (W - 1)), .int .i64 (a - 1), .int .i64 l, .int .i64 (c + 1)] 56) = w' := by
  obtain ⟨g1, g2, g3, g4, g5, g6, g7, g8⟩ := ok
  go_enter Tryd.func85, Tryd.ntmps85
  go_wp2
  exact bodyPost_ret (v := .agg #[.int .i64 (max 1 (W - 1)), .int .i64 (a - 1), .int .i64 l, .int .i64 (c + 1)]) (by simp [results, Tryd.results85, go_sem]) rfl ⟨rfl, rfl⟩
theorem fell_any (W a l c : Int) (w : World) (ok : SourceOk W a l c) :
    Calls Tryd.prog 86 #[.agg #[.int .i64 W, .int .i64 a, .int .i64 l, .int .i64 c]] w fun e w' =>
      e = .returned (.agg #[.int .i64 (max 1 (W / 2)), .int .i64 (a - 1), .int .i64 (l + 1), .int .i64 c]) ∧
      (w.alloc (.cells #[.int .i64 (max 1 (W / 2)), .int .i64 (a - 1), .int .i64 (l + 1), .int .i64 c] 56)).alloc (.cells #[.int .i64 (max 1 (W / 2)), .int .i64 (a - 1), .int .i64 (l + 1), .int .i64 c] 56) = w' := by
  obtain ⟨g1, g2, g3, g4, g5, g6, g7, g8⟩ := ok
  go_enter Tryd.func86, Tryd.ntmps86
  go_wp2
  exact bodyPost_ret (v := .agg #[.int .i64 (max 1 (W / 2)), .int .i64 (a - 1), .int .i64 (l + 1), .int .i64 c]) (by simp [results, Tryd.results86, go_sem]) rfl ⟨rfl, rfl⟩
set_option maxHeartbeats 1000000 in
theorem send_yes (W a l c : Int) (w : World) (ok : SourceOk W a l c) :
    Calls Tryd.prog 32 #[.agg #[.int .i64 W, .int .i64 a, .int .i64 l, .int .i64 c]] w fun e w' =>
      e = .returned (.tuple #[.agg #[.int .i64 W, .int .i64 (a + sentN W a l), .int .i64 (l - sentN W a l), .int .i64 c], .int .i64 (sentN W a l), .nilIface]) ∧ Below w.heap.size w w' := by
  have H := Lib.hid ok; clear ok
  go_enter Tryd.func32, Tryd.ntmps32
  go_wp2_with fail
  refine (scheck_yes W a l c _ H.out).mono ?_; rintro e w' ⟨rfl, rfl⟩
  go_wp2_with fail
  refine (sent_any W a l c _ H.out).mono ?_; rintro e w' ⟨rfl, rfl⟩
  go_wp2
  exact bodyPost_ret (v := .tuple #[.agg #[.int .i64 W, .int .i64 (a + sentN W a l), .int .i64 (l - sentN W a l), .int .i64 c], .int .i64 (sentN W a l), .nilIface]) (by simp [results, Tryd.results32, go_sem]) rfl ⟨rfl, (by repeat (first | exact Below.refl _ _ | refine Below.alloc ?_ (by simp <;> omega) _))⟩
set_option maxHeartbeats 1000000 in
theorem send_no (W a l c : Int) (w : World) (no : ¬ SourceOk W a l c) :
    Calls Tryd.prog 32 #[.agg #[.int .i64 W, .int .i64 a, .int .i64 l, .int .i64 c]] w fun e w' =>
      e = .returned (.tuple #[.agg #[.int .i64 0, .int .i64 0, .int .i64 0, .int .i64 0], .int .i64 0, .iface 124 (.int .i64 1)]) ∧ Below w.heap.size w w' := by
  have H := Lib.hid no; clear no
  go_enter Tryd.func32, Tryd.ntmps32
  go_wp2_with fail
  refine (scheck_no W a l c _ H.out).mono ?_; rintro e w' ⟨rfl, rfl⟩
  go_wp2
  exact bodyPost_ret (v := .tuple #[.agg #[.int .i64 0, .int .i64 0, .int .i64 0, .int .i64 0], .int .i64 0, .iface 124 (.int .i64 1)]) (by simp [results, Tryd.results32, go_sem]) rfl ⟨rfl, (by repeat (first | exact Below.refl _ _ | refine Below.alloc ?_ (by simp <;> omega) _))⟩
theorem one_yes (W a l c : Int) (w : World) (ok : SourceOk W a l c) (h : a ≠ 0) :
    Calls Tryd.prog 84 #[.agg #[.int .i64 W, .int .i64 a, .int .i64 l, .int .i64 c]] w fun e w' => e = .returned .nilIface ∧
      (w.alloc (.cells #[.int .i64 W, .int .i64 a, .int .i64 l, .int .i64 c] 56)).alloc (.cells #[.int .i64 W, .int .i64 a, .int .i64 l, .int .i64 c] 56) = w' := by
  have H := Lib.hid ok; clear ok
  have hb : (a == 0) = false := beq_eq_false_iff_ne.2 h
  clear h
  go_enter Tryd.func84, Tryd.ntmps84
  go_wp2_with fail
  refine (scheck_yes W a l c _ H.out).mono ?_; rintro e w' ⟨rfl, rfl⟩
  go_wp2
  go_ret
  exact ⟨rfl, rfl⟩
theorem one_low (W l c : Int) (w : World) (ok : SourceOk W 0 l c) :
    Calls Tryd.prog 84 #[.agg #[.int .i64 W, .int .i64 0, .int .i64 l, .int .i64 c]] w fun e w' => e = .returned (.iface 124 (.int .i64 8)) ∧
      (w.alloc (.cells #[.int .i64 W, .int .i64 0, .int .i64 l, .int .i64 c] 56)).alloc (.cells #[.int .i64 W, .int .i64 0, .int .i64 l, .int .i64 c] 56) = w' := by
  have H := Lib.hid ok; clear ok
  go_enter Tryd.func84, Tryd.ntmps84
  go_wp2_with fail
  refine (scheck_yes W 0 l c _ H.out).mono ?_; rintro e w' ⟨rfl, rfl⟩
  go_wp2
  go_ret
  exact ⟨rfl, rfl⟩
theorem one_no (W a l c : Int) (w : World) (no : ¬ SourceOk W a l c) :
    Calls Tryd.prog 84 #[.agg #[.int .i64 W, .int .i64 a, .int .i64 l, .int .i64 c]] w fun e w' => e = .returned (.iface 124 (.int .i64 1)) ∧
      (w.alloc (.cells #[.int .i64 W, .int .i64 a, .int .i64 l, .int .i64 c] 56)).alloc (.cells #[.int .i64 W, .int .i64 a, .int .i64 l, .int .i64 c] 56) = w' := by
  have H := Lib.hid no; clear no
  go_enter Tryd.func84, Tryd.ntmps84
  go_wp2_with fail
  refine (scheck_no W a l c _ H.out).mono ?_; rintro e w' ⟨rfl, rfl⟩
  go_wp2
  go_ret
  exact ⟨rfl, rfl⟩
/-- how the window turns by an answer -/
def ackW (W : Int) (b : Bool) : Int := if b then min 1000 (W + 1) else max 1 (W - 1)
set_option maxHeartbeats 2000000 in
theorem ack_yes (W a l c : Int) (b : Bool) (w : World) (ok : SourceOk W a l c) (h : a ≠ 0) (hc : c ≠ 10000) :
    Calls Tryd.prog 34 #[.agg #[.int .i64 W, .int .i64 a, .int .i64 l, .int .i64 c], .bool b] w fun e w' =>
      e = .returned (.tuple #[.agg #[.int .i64 (ackW W b), .int .i64 (a - 1), .int .i64 l, .int .i64 (c + 1)], .nilIface]) ∧ Below w.heap.size w w' := by
  have H := Lib.hid ok; clear ok
  have H1 := Lib.hid h; clear h
  have hb : (c == 10000) = false := beq_eq_false_iff_ne.2 hc
  clear hc
  cases b
  · go_enter Tryd.func34, Tryd.ntmps34
    go_wp2_with fail
    refine (one_yes W a l c _ H.out H1.out).mono ?_; rintro e w' ⟨rfl, rfl⟩
    go_wp2_with fail
    refine (acked_no W a l c _ H.out).mono ?_; rintro e w' ⟨rfl, rfl⟩
    go_wp2
    exact bodyPost_ret (v := .tuple #[.agg #[.int .i64 (max 1 (W - 1)), .int .i64 (a - 1), .int .i64 l, .int .i64 (c + 1)], .nilIface]) (by simp [results, Tryd.results34, go_sem]) rfl ⟨rfl, (by repeat (first | exact Below.refl _ _ | refine Below.alloc ?_ (by simp <;> omega) _))⟩
  · go_enter Tryd.func34, Tryd.ntmps34
    go_wp2_with fail
    refine (one_yes W a l c _ H.out H1.out).mono ?_; rintro e w' ⟨rfl, rfl⟩
    go_wp2_with fail
    refine (acked_yes W a l c _ H.out).mono ?_; rintro e w' ⟨rfl, rfl⟩
    go_wp2
    exact bodyPost_ret (v := .tuple #[.agg #[.int .i64 (min 1000 (W + 1)), .int .i64 (a - 1), .int .i64 l, .int .i64 (c + 1)], .nilIface]) (by simp [results, Tryd.results34, go_sem]) rfl ⟨rfl, (by repeat (first | exact Below.refl _ _ | refine Below.alloc ?_ (by simp <;> omega) _))⟩
set_option maxHeartbeats 2000000 in
theorem ack_full (W a l : Int) (b : Bool) (w : World) (ok : SourceOk W a l 10000) (h : a ≠ 0) :
    Calls Tryd.prog 34 #[.agg #[.int .i64 W, .int .i64 a, .int .i64 l, .int .i64 10000], .bool b] w fun e w' =>
      e = .returned (.tuple #[.agg #[.int .i64 0, .int .i64 0, .int .i64 0, .int .i64 0], .iface 124 (.int .i64 4)]) ∧ Below w.heap.size w w' := by
  have H := Lib.hid ok; clear ok
  have H1 := Lib.hid h; clear h
  go_enter Tryd.func34, Tryd.ntmps34
  go_wp2_with fail
  refine (one_yes W a l 10000 _ H.out H1.out).mono ?_; rintro e w' ⟨rfl, rfl⟩
  go_wp2
  exact bodyPost_ret (v := .tuple #[.agg #[.int .i64 0, .int .i64 0, .int .i64 0, .int .i64 0], .iface 124 (.int .i64 4)]) (by simp [results, Tryd.results34, go_sem]) rfl ⟨rfl, (by repeat (first | exact Below.refl _ _ | refine Below.alloc ?_ (by simp <;> omega) _))⟩
set_option maxHeartbeats 2000000 in
theorem ack_low (W l c : Int) (b : Bool) (w : World) (ok : SourceOk W 0 l c) :
    Calls Tryd.prog 34 #[.agg #[.int .i64 W, .int .i64 0, .int .i64 l, .int .i64 c], .bool b] w fun e w' =>
      e = .returned (.tuple #[.agg #[.int .i64 0, .int .i64 0, .int .i64 0, .int .i64 0], .iface 124 (.int .i64 8)]) ∧ Below w.heap.size w w' := by
  have H := Lib.hid ok; clear ok
  go_enter Tryd.func34, Tryd.ntmps34
  go_wp2_with fail
  refine (one_low W l c _ H.out).mono ?_; rintro e w' ⟨rfl, rfl⟩
  go_wp2
  exact bodyPost_ret (v := .tuple #[.agg #[.int .i64 0, .int .i64 0, .int .i64 0, .int .i64 0], .iface 124 (.int .i64 8)]) (by simp [results, Tryd.results34, go_sem]) rfl ⟨rfl, (by repeat (first | exact Below.refl _ _ | refine Below.alloc ?_ (by simp <;> omega) _))⟩
set_option maxHeartbeats 2000000 in
theorem ack_no (W a l c : Int) (b : Bool) (w : World) (no : ¬ SourceOk W a l c) :
    Calls Tryd.prog 34 #[.agg #[.int .i64 W, .int .i64 a, .int .i64 l, .int .i64 c], .bool b] w fun e w' =>
      e = .returned (.tuple #[.agg #[.int .i64 0, .int .i64 0, .int .i64 0, .int .i64 0], .iface 124 (.int .i64 1)]) ∧ Below w.heap.size w w' := by
  have H := Lib.hid no; clear no
  go_enter Tryd.func34, Tryd.ntmps34
  go_wp2_with fail
  refine (one_no W a l c _ H.out).mono ?_; rintro e w' ⟨rfl, rfl⟩
  go_wp2
  exact bodyPost_ret (v := .tuple #[.agg #[.int .i64 0, .int .i64 0, .int .i64 0, .int .i64 0], .iface 124 (.int .i64 1)]) (by simp [results, Tryd.results34, go_sem]) rfl ⟨rfl, (by repeat (first | exact Below.refl _ _ | refine Below.alloc ?_ (by simp <;> omega) _))⟩
set_option maxHeartbeats 2000000 in
theorem lost_yes (W a l c : Int) (w : World) (ok : SourceOk W a l c) (h : a ≠ 0) (hc : l ≠ 10000) :
    Calls Tryd.prog 35 #[.agg #[.int .i64 W, .int .i64 a, .int .i64 l, .int .i64 c]] w fun e w' =>
      e = .returned (.tuple #[.agg #[.int .i64 (max 1 (W / 2)), .int .i64 (a - 1), .int .i64 (l + 1), .int .i64 c], .nilIface]) ∧ Below w.heap.size w w' := by
  have H := Lib.hid ok; clear ok
  have H1 := Lib.hid h; clear h
  have hb : (l == 10000) = false := beq_eq_false_iff_ne.2 hc
  clear hc
  go_enter Tryd.func35, Tryd.ntmps35
  go_wp2_with fail
  refine (one_yes W a l c _ H.out H1.out).mono ?_; rintro e w' ⟨rfl, rfl⟩
  go_wp2_with fail
  refine (fell_any W a l c _ H.out).mono ?_; rintro e w' ⟨rfl, rfl⟩
  go_wp2
  exact bodyPost_ret (v := .tuple #[.agg #[.int .i64 (max 1 (W / 2)), .int .i64 (a - 1), .int .i64 (l + 1), .int .i64 c], .nilIface]) (by simp [results, Tryd.results35, go_sem]) rfl ⟨rfl, (by repeat (first | exact Below.refl _ _ | refine Below.alloc ?_ (by simp <;> omega) _))⟩
set_option maxHeartbeats 2000000 in
theorem lost_full (W a c : Int) (w : World) (ok : SourceOk W a 10000 c) (h : a ≠ 0) :
    Calls Tryd.prog 35 #[.agg #[.int .i64 W, .int .i64 a, .int .i64 10000, .int .i64 c]] w fun e w' =>
      e = .returned (.tuple #[.agg #[.int .i64 0, .int .i64 0, .int .i64 0, .int .i64 0], .iface 124 (.int .i64 4)]) ∧ Below w.heap.size w w' := by
  have H := Lib.hid ok; clear ok
  have H1 := Lib.hid h; clear h
  go_enter Tryd.func35, Tryd.ntmps35
  go_wp2_with fail
  refine (one_yes W a 10000 c _ H.out H1.out).mono ?_; rintro e w' ⟨rfl, rfl⟩
  go_wp2
  exact bodyPost_ret (v := .tuple #[.agg #[.int .i64 0, .int .i64 0, .int .i64 0, .int .i64 0], .iface 124 (.int .i64 4)]) (by simp [results, Tryd.results35, go_sem]) rfl ⟨rfl, (by repeat (first | exact Below.refl _ _ | refine Below.alloc ?_ (by simp <;> omega) _))⟩
set_option maxHeartbeats 2000000 in
theorem lost_low (W l c : Int) (w : World) (ok : SourceOk W 0 l c) :
    Calls Tryd.prog 35 #[.agg #[.int .i64 W, .int .i64 0, .int .i64 l, .int .i64 c]] w fun e w' =>
      e = .returned (.tuple #[.agg #[.int .i64 0, .int .i64 0, .int .i64 0, .int .i64 0], .iface 124 (.int .i64 8)]) ∧ Below w.heap.size w w' := by
  have H := Lib.hid ok; clear ok
  go_enter Tryd.func35, Tryd.ntmps35
  go_wp2_with fail
  refine (one_low W l c _ H.out).mono ?_; rintro e w' ⟨rfl, rfl⟩
  go_wp2
  exact bodyPost_ret (v := .tuple #[.agg #[.int .i64 0, .int .i64 0, .int .i64 0, .int .i64 0], .iface 124 (.int .i64 8)]) (by simp [results, Tryd.results35, go_sem]) rfl ⟨rfl, (by repeat (first | exact Below.refl _ _ | refine Below.alloc ?_ (by simp <;> omega) _))⟩
set_option maxHeartbeats 2000000 in
theorem lost_no (W a l c : Int) (w : World) (no : ¬ SourceOk W a l c) :
    Calls Tryd.prog 35 #[.agg #[.int .i64 W, .int .i64 a, .int .i64 l, .int .i64 c]] w fun e w' =>
      e = .returned (.tuple #[.agg #[.int .i64 0, .int .i64 0, .int .i64 0, .int .i64 0], .iface 124 (.int .i64 1)]) ∧ Below w.heap.size w w' := by
  have H := Lib.hid no; clear no
  go_enter Tryd.func35, Tryd.ntmps35
  go_wp2_with fail
  refine (one_no W a l c _ H.out).mono ?_; rintro e w' ⟨rfl, rfl⟩
  go_wp2
  exact bodyPost_ret (v := .tuple #[.agg #[.int .i64 0, .int .i64 0, .int .i64 0, .int .i64 0], .iface 124 (.int .i64 1)]) (by simp [results, Tryd.results35, go_sem]) rfl ⟨rfl, (by repeat (first | exact Below.refl _ _ | refine Below.alloc ?_ (by simp <;> omega) _))⟩
end Go.Proofs.YtkheobdkmmbjnaaDoor
