/- Package source: what its functions compute. -/
import Derived.Test.YtkheobdkmmbjnaaMark
import Derived.Test.YtkheobdkmmbjnaaBlk
namespace Go.Proofs.Ytkheobdkmmbjnaa
open Go.RowKit
attribute [local go_sem ↓] run_min_mn run_max_mx
def SourceOk (W a l c : Int) : Prop := 1 ≤ W ∧ W ≤ 1000 ∧ 0 ≤ a ∧ a ≤ 10000 ∧ 0 ≤ l ∧ l ≤ 10000 ∧ 0 ≤ c ∧ c ≤ 10000
def sentN (W a l : Int) : Int := max 0 (min l (W - a))
set_option maxHeartbeats 1000000 in
theorem scheck_yes (W a l c : Int) (w : World) (ok : SourceOk W a l c) : Calls Try.prog 30 #[.agg #[.int .i64 W, .int .i64 a, .int .i64 l, .int .i64 c]] w fun e w' => e = .returned .nilIface ∧ w.alloc (.cells #[.int .i64 W, .int .i64 a, .int .i64 l, .int .i64 c] 60) = w' := by
  obtain ⟨g1, g2, g3, g4, g5, g6, g7, g8⟩ := ok
  go_enter Try.func30, Try.ntmps30
  go_wp2_with (go_at_call 53; refine (rate_yes _ _ (by omega) (by omega)).mono ?_; rintro e w' ⟨rfl, rfl⟩)
  go_ret
  exact ⟨rfl, rfl⟩
set_option maxHeartbeats 4000000 in
theorem scheck_no (W a l c : Int) (w : World) (no : ¬ SourceOk W a l c) : Calls Try.prog 30 #[.agg #[.int .i64 W, .int .i64 a, .int .i64 l, .int .i64 c]] w fun e w' => e = .returned (.iface 34 (.int .i64 1)) ∧ w.alloc (.cells #[.int .i64 W, .int .i64 a, .int .i64 l, .int .i64 c] 60) = w' := by
  unfold SourceOk at no
  by_cases h1 : W < 1
  · clear no
    go_enter Try.func30, Try.ntmps30
    go_wp2
    go_ret
    exact ⟨rfl, rfl⟩
  · by_cases h2 : 1000 < W
    · clear no
      go_enter Try.func30, Try.ntmps30
      go_wp2
      go_ret
      exact ⟨rfl, rfl⟩
    · by_cases h3 : a < 0 ∨ 10000 < a
      · clear no
        go_enter Try.func30, Try.ntmps30
        go_wp2_with fail
        refine (rate_no _ _ h3).mono ?_; rintro e w' ⟨rfl, rfl⟩
        go_wp2
        go_ret
        exact ⟨rfl, rfl⟩
      · by_cases h4 : l < 0 ∨ 10000 < l
        · clear no
          go_enter Try.func30, Try.ntmps30
          go_wp2_with fail
          refine (rate_yes _ _ (by omega) (by omega)).mono ?_; rintro e w' ⟨rfl, rfl⟩
          go_wp2_with fail
          refine (rate_no _ _ h4).mono ?_; rintro e w' ⟨rfl, rfl⟩
          go_wp2
          go_ret
          exact ⟨rfl, rfl⟩
        · have h5 : c < 0 ∨ 10000 < c := by omega
          clear no
          go_enter Try.func30, Try.ntmps30
          go_wp2_with fail
          refine (rate_yes _ _ (by omega) (by omega)).mono ?_; rintro e w' ⟨rfl, rfl⟩
          go_wp2_with fail
          refine (rate_yes _ _ (by omega) (by omega)).mono ?_; rintro e w' ⟨rfl, rfl⟩
          go_wp2_with fail
          refine (rate_no _ _ h5).mono ?_; rintro e w' ⟨rfl, rfl⟩
          go_wp2
          go_ret
          exact ⟨rfl, rfl⟩
theorem sent_any (W a l c : Int) (w : World) (ok : SourceOk W a l c) :
    Calls Try.prog 61 #[.agg #[.int .i64 W, .int .i64 a, .int .i64 l, .int .i64 c]] w fun e w' =>
      e = .returned (.tuple #[.agg #[.int .i64 W, .int .i64 (a + sentN W a l), .int .i64 (l - sentN W a l), .int .i64 c], .int .i64 (sentN W a l)]) ∧
      (w.alloc (.cells #[.int .i64 W, .int .i64 (a + sentN W a l), .int .i64 (l - sentN W a l), .int .i64 c] 60)).alloc (.cells #[.int .i64 W, .int .i64 (a + sentN W a l), .int .i64 (l - sentN W a l), .int .i64 c] 60) = w' := by
  obtain ⟨g1, g2, g3, g4, g5, g6, g7, g8⟩ := ok
  unfold sentN
  go_enter Try.func61, Try.ntmps61
  go_wp2
  exact bodyPost_ret (v := .tuple #[.agg #[.int .i64 W, .int .i64 (a + max 0 (min l (W - a))), .int .i64 (l - max 0 (min l (W - a))), .int .i64 c], .int .i64 (max 0 (min l (W - a)))]) (by simp [results, Try.results61, go_sem]) rfl ⟨rfl, rfl⟩
theorem acked_yes (W a l c : Int) (w : World) (ok : SourceOk W a l c) :
    Calls Try.prog 63 #[.agg #[.int .i64 W, .int .i64 a, .int .i64 l, .int .i64 c], .bool true] w fun e w' =>
      e = .returned (.agg #[.int .i64 (min 1000 (W + 1)), .int .i64 (a - 1), .int .i64 l, .int .i64 (c + 1)]) ∧
      (w.alloc (.cells #[.int .i64 (min 1000 (W + 1)), .int .i64 (a - 1), .int .i64 l, .int .i64 (c + 1)] 60)).alloc (.cells #[.int .i64 (min 1000 (W + 1)), .int .i64 (a - 1), .int .i64 l, .int .i64 (c + 1)] 60) = w' := by
  obtain ⟨g1, g2, g3, g4, g5, g6, g7, g8⟩ := ok
  go_enter Try.func63, Try.ntmps63
  go_wp2
  exact bodyPost_ret (v := .agg #[.int .i64 (min 1000 (W + 1)), .int .i64 (a - 1), .int .i64 l, .int .i64 (c + 1)]) (by simp [results, Try.results63, go_sem]) rfl ⟨rfl, rfl⟩
theorem acked_no (W a l c : Int) (w : World) (ok : SourceOk W a l c) :
    Calls Try.prog 63 #[.agg #[.int .i64 W, .int .i64 a, .int .i64 l, .int .i64 c], .bool false] w fun e w' =>
      e = .returned (.agg #[.int .i64 (max 1 (W - 1)), .int .i64 (a - 1), .int .i64 l, .int .i64 (c + 1)]) ∧
      (w.alloc (.cells #[.int .i64 (max 1 (W - 1)), .int .i64 (a - 1), .int .i64 l, .int .i64 (c + 1)] 60)).alloc (.cells #[.int .i64 (max 1 (W - 1)), .int .i64 (a - 1), .int .i64 l, .int .i64 (c + 1)] 60) = w' := by
  obtain ⟨g1, g2, g3, g4, g5, g6, g7, g8⟩ := ok
  go_enter Try.func63, Try.ntmps63
  go_wp2
  exact bodyPost_ret (v := .agg #[.int .i64 (max 1 (W - 1)), .int .i64 (a - 1), .int .i64 l, .int .i64 (c + 1)]) (by simp [results, Try.results63, go_sem]) rfl ⟨rfl, rfl⟩
theorem fell_any (W a l c : Int) (w : World) (ok : SourceOk W a l c) :
    Calls Try.prog 64 #[.agg #[.int .i64 W, .int .i64 a, .int .i64 l, .int .i64 c]] w fun e w' =>
      e = .returned (.agg #[.int .i64 (max 1 (W / 2)), .int .i64 (a - 1), .int .i64 (l + 1), .int .i64 c]) ∧
      (w.alloc (.cells #[.int .i64 (max 1 (W / 2)), .int .i64 (a - 1), .int .i64 (l + 1), .int .i64 c] 60)).alloc (.cells #[.int .i64 (max 1 (W / 2)), .int .i64 (a - 1), .int .i64 (l + 1), .int .i64 c] 60) = w' := by
  obtain ⟨g1, g2, g3, g4, g5, g6, g7, g8⟩ := ok
  go_enter Try.func64, Try.ntmps64
  go_wp2
  exact bodyPost_ret (v := .agg #[.int .i64 (max 1 (W / 2)), .int .i64 (a - 1), .int .i64 (l + 1), .int .i64 c]) (by simp [results, Try.results64, go_sem]) rfl ⟨rfl, rfl⟩
set_option maxHeartbeats 1000000 in
theorem send_yes (W a l c : Int) (w : World) (ok : SourceOk W a l c) :
    Calls Try.prog 29 #[.agg #[.int .i64 W, .int .i64 a, .int .i64 l, .int .i64 c]] w fun e w' =>
      e = .returned (.tuple #[.agg #[.int .i64 W, .int .i64 (a + sentN W a l), .int .i64 (l - sentN W a l), .int .i64 c], .int .i64 (sentN W a l), .nilIface]) ∧ Below w.heap.size w w' := by
  have H := Lib.hid ok; clear ok
  go_enter Try.func29, Try.ntmps29
  go_wp2_with fail
  refine (scheck_yes W a l c _ H.out).mono ?_; rintro e w' ⟨rfl, rfl⟩
  go_wp2_with fail
  refine (sent_any W a l c _ H.out).mono ?_; rintro e w' ⟨rfl, rfl⟩
  go_wp2
  exact bodyPost_ret (v := .tuple #[.agg #[.int .i64 W, .int .i64 (a + sentN W a l), .int .i64 (l - sentN W a l), .int .i64 c], .int .i64 (sentN W a l), .nilIface]) (by simp [results, Try.results29, go_sem]) rfl ⟨rfl, (by repeat (first | exact Below.refl _ _ | refine Below.alloc ?_ (by simp <;> omega) _))⟩
set_option maxHeartbeats 1000000 in
theorem send_no (W a l c : Int) (w : World) (no : ¬ SourceOk W a l c) :
    Calls Try.prog 29 #[.agg #[.int .i64 W, .int .i64 a, .int .i64 l, .int .i64 c]] w fun e w' =>
      e = .returned (.tuple #[.agg #[.int .i64 0, .int .i64 0, .int .i64 0, .int .i64 0], .int .i64 0, .iface 34 (.int .i64 1)]) ∧ Below w.heap.size w w' := by
  have H := Lib.hid no; clear no
  go_enter Try.func29, Try.ntmps29
  go_wp2_with fail
  refine (scheck_no W a l c _ H.out).mono ?_; rintro e w' ⟨rfl, rfl⟩
  go_wp2
  exact bodyPost_ret (v := .tuple #[.agg #[.int .i64 0, .int .i64 0, .int .i64 0, .int .i64 0], .int .i64 0, .iface 34 (.int .i64 1)]) (by simp [results, Try.results29, go_sem]) rfl ⟨rfl, (by repeat (first | exact Below.refl _ _ | refine Below.alloc ?_ (by simp <;> omega) _))⟩
theorem one_yes (W a l c : Int) (w : World) (ok : SourceOk W a l c) (h : a ≠ 0) :
    Calls Try.prog 62 #[.agg #[.int .i64 W, .int .i64 a, .int .i64 l, .int .i64 c]] w fun e w' => e = .returned .nilIface ∧
      (w.alloc (.cells #[.int .i64 W, .int .i64 a, .int .i64 l, .int .i64 c] 60)).alloc (.cells #[.int .i64 W, .int .i64 a, .int .i64 l, .int .i64 c] 60) = w' := by
  have H := Lib.hid ok; clear ok
  have hb : (a == 0) = false := beq_eq_false_iff_ne.2 h
  clear h
  go_enter Try.func62, Try.ntmps62
  go_wp2_with fail
  refine (scheck_yes W a l c _ H.out).mono ?_; rintro e w' ⟨rfl, rfl⟩
  go_wp2
  go_ret
  exact ⟨rfl, rfl⟩
theorem one_low (W l c : Int) (w : World) (ok : SourceOk W 0 l c) :
    Calls Try.prog 62 #[.agg #[.int .i64 W, .int .i64 0, .int .i64 l, .int .i64 c]] w fun e w' => e = .returned (.iface 34 (.int .i64 8)) ∧
      (w.alloc (.cells #[.int .i64 W, .int .i64 0, .int .i64 l, .int .i64 c] 60)).alloc (.cells #[.int .i64 W, .int .i64 0, .int .i64 l, .int .i64 c] 60) = w' := by
  have H := Lib.hid ok; clear ok
  go_enter Try.func62, Try.ntmps62
  go_wp2_with fail
  refine (scheck_yes W 0 l c _ H.out).mono ?_; rintro e w' ⟨rfl, rfl⟩
  go_wp2
  go_ret
  exact ⟨rfl, rfl⟩
theorem one_no (W a l c : Int) (w : World) (no : ¬ SourceOk W a l c) :
    Calls Try.prog 62 #[.agg #[.int .i64 W, .int .i64 a, .int .i64 l, .int .i64 c]] w fun e w' => e = .returned (.iface 34 (.int .i64 1)) ∧
      (w.alloc (.cells #[.int .i64 W, .int .i64 a, .int .i64 l, .int .i64 c] 60)).alloc (.cells #[.int .i64 W, .int .i64 a, .int .i64 l, .int .i64 c] 60) = w' := by
  have H := Lib.hid no; clear no
  go_enter Try.func62, Try.ntmps62
  go_wp2_with fail
  refine (scheck_no W a l c _ H.out).mono ?_; rintro e w' ⟨rfl, rfl⟩
  go_wp2
  go_ret
  exact ⟨rfl, rfl⟩
/-- how the window turns by an answer -/
def ackW (W : Int) (b : Bool) : Int := if b then min 1000 (W + 1) else max 1 (W - 1)
set_option maxHeartbeats 2000000 in
theorem ack_yes (W a l c : Int) (b : Bool) (w : World) (ok : SourceOk W a l c) (h : a ≠ 0) (hc : c ≠ 10000) :
    Calls Try.prog 31 #[.agg #[.int .i64 W, .int .i64 a, .int .i64 l, .int .i64 c], .bool b] w fun e w' =>
      e = .returned (.tuple #[.agg #[.int .i64 (ackW W b), .int .i64 (a - 1), .int .i64 l, .int .i64 (c + 1)], .nilIface]) ∧ Below w.heap.size w w' := by
  have H := Lib.hid ok; clear ok
  have H1 := Lib.hid h; clear h
  have hb : (c == 10000) = false := beq_eq_false_iff_ne.2 hc
  clear hc
  cases b
  · go_enter Try.func31, Try.ntmps31
    go_wp2_with fail
    refine (one_yes W a l c _ H.out H1.out).mono ?_; rintro e w' ⟨rfl, rfl⟩
    go_wp2_with fail
    refine (acked_no W a l c _ H.out).mono ?_; rintro e w' ⟨rfl, rfl⟩
    go_wp2
    exact bodyPost_ret (v := .tuple #[.agg #[.int .i64 (max 1 (W - 1)), .int .i64 (a - 1), .int .i64 l, .int .i64 (c + 1)], .nilIface]) (by simp [results, Try.results31, go_sem]) rfl ⟨rfl, (by repeat (first | exact Below.refl _ _ | refine Below.alloc ?_ (by simp <;> omega) _))⟩
  · go_enter Try.func31, Try.ntmps31
    go_wp2_with fail
    refine (one_yes W a l c _ H.out H1.out).mono ?_; rintro e w' ⟨rfl, rfl⟩
    go_wp2_with fail
    refine (acked_yes W a l c _ H.out).mono ?_; rintro e w' ⟨rfl, rfl⟩
    go_wp2
    exact bodyPost_ret (v := .tuple #[.agg #[.int .i64 (min 1000 (W + 1)), .int .i64 (a - 1), .int .i64 l, .int .i64 (c + 1)], .nilIface]) (by simp [results, Try.results31, go_sem]) rfl ⟨rfl, (by repeat (first | exact Below.refl _ _ | refine Below.alloc ?_ (by simp <;> omega) _))⟩
set_option maxHeartbeats 2000000 in
theorem ack_full (W a l : Int) (b : Bool) (w : World) (ok : SourceOk W a l 10000) (h : a ≠ 0) :
    Calls Try.prog 31 #[.agg #[.int .i64 W, .int .i64 a, .int .i64 l, .int .i64 10000], .bool b] w fun e w' =>
      e = .returned (.tuple #[.agg #[.int .i64 0, .int .i64 0, .int .i64 0, .int .i64 0], .iface 34 (.int .i64 4)]) ∧ Below w.heap.size w w' := by
  have H := Lib.hid ok; clear ok
  have H1 := Lib.hid h; clear h
  go_enter Try.func31, Try.ntmps31
  go_wp2_with fail
  refine (one_yes W a l 10000 _ H.out H1.out).mono ?_; rintro e w' ⟨rfl, rfl⟩
  go_wp2
  exact bodyPost_ret (v := .tuple #[.agg #[.int .i64 0, .int .i64 0, .int .i64 0, .int .i64 0], .iface 34 (.int .i64 4)]) (by simp [results, Try.results31, go_sem]) rfl ⟨rfl, (by repeat (first | exact Below.refl _ _ | refine Below.alloc ?_ (by simp <;> omega) _))⟩
set_option maxHeartbeats 2000000 in
theorem ack_low (W l c : Int) (b : Bool) (w : World) (ok : SourceOk W 0 l c) :
    Calls Try.prog 31 #[.agg #[.int .i64 W, .int .i64 0, .int .i64 l, .int .i64 c], .bool b] w fun e w' =>
      e = .returned (.tuple #[.agg #[.int .i64 0, .int .i64 0, .int .i64 0, .int .i64 0], .iface 34 (.int .i64 8)]) ∧ Below w.heap.size w w' := by
  have H := Lib.hid ok; clear ok
  go_enter Try.func31, Try.ntmps31
  go_wp2_with fail
  refine (one_low W l c _ H.out).mono ?_; rintro e w' ⟨rfl, rfl⟩
  go_wp2
  exact bodyPost_ret (v := .tuple #[.agg #[.int .i64 0, .int .i64 0, .int .i64 0, .int .i64 0], .iface 34 (.int .i64 8)]) (by simp [results, Try.results31, go_sem]) rfl ⟨rfl, (by repeat (first | exact Below.refl _ _ | refine Below.alloc ?_ (by simp <;> omega) _))⟩
set_option maxHeartbeats 2000000 in
theorem ack_no (W a l c : Int) (b : Bool) (w : World) (no : ¬ SourceOk W a l c) :
    Calls Try.prog 31 #[.agg #[.int .i64 W, .int .i64 a, .int .i64 l, .int .i64 c], .bool b] w fun e w' =>
      e = .returned (.tuple #[.agg #[.int .i64 0, .int .i64 0, .int .i64 0, .int .i64 0], .iface 34 (.int .i64 1)]) ∧ Below w.heap.size w w' := by
  have H := Lib.hid no; clear no
  go_enter Try.func31, Try.ntmps31
  go_wp2_with fail
  refine (one_no W a l c _ H.out).mono ?_; rintro e w' ⟨rfl, rfl⟩
  go_wp2
  exact bodyPost_ret (v := .tuple #[.agg #[.int .i64 0, .int .i64 0, .int .i64 0, .int .i64 0], .iface 34 (.int .i64 1)]) (by simp [results, Try.results31, go_sem]) rfl ⟨rfl, (by repeat (first | exact Below.refl _ _ | refine Below.alloc ?_ (by simp <;> omega) _))⟩
set_option maxHeartbeats 2000000 in
theorem lost_yes (W a l c : Int) (w : World) (ok : SourceOk W a l c) (h : a ≠ 0) (hc : l ≠ 10000) :
    Calls Try.prog 32 #[.agg #[.int .i64 W, .int .i64 a, .int .i64 l, .int .i64 c]] w fun e w' =>
      e = .returned (.tuple #[.agg #[.int .i64 (max 1 (W / 2)), .int .i64 (a - 1), .int .i64 (l + 1), .int .i64 c], .nilIface]) ∧ Below w.heap.size w w' := by
  have H := Lib.hid ok; clear ok
  have H1 := Lib.hid h; clear h
  have hb : (l == 10000) = false := beq_eq_false_iff_ne.2 hc
  clear hc
  go_enter Try.func32, Try.ntmps32
  go_wp2_with fail
  refine (one_yes W a l c _ H.out H1.out).mono ?_; rintro e w' ⟨rfl, rfl⟩
  go_wp2_with fail
  refine (fell_any W a l c _ H.out).mono ?_; rintro e w' ⟨rfl, rfl⟩
  go_wp2
  exact bodyPost_ret (v := .tuple #[.agg #[.int .i64 (max 1 (W / 2)), .int .i64 (a - 1), .int .i64 (l + 1), .int .i64 c], .nilIface]) (by simp [results, Try.results32, go_sem]) rfl ⟨rfl, (by repeat (first | exact Below.refl _ _ | refine Below.alloc ?_ (by simp <;> omega) _))⟩
set_option maxHeartbeats 2000000 in
theorem lost_full (W a c : Int) (w : World) (ok : SourceOk W a 10000 c) (h : a ≠ 0) :
    Calls Try.prog 32 #[.agg #[.int .i64 W, .int .i64 a, .int .i64 10000, .int .i64 c]] w fun e w' =>
      e = .returned (.tuple #[.agg #[.int .i64 0, .int .i64 0, .int .i64 0, .int .i64 0], .iface 34 (.int .i64 4)]) ∧ Below w.heap.size w w' := by
  have H := Lib.hid ok; clear ok
  have H1 := Lib.hid h; clear h
  go_enter Try.func32, Try.ntmps32
  go_wp2_with fail
  refine (one_yes W a 10000 c _ H.out H1.out).mono ?_; rintro e w' ⟨rfl, rfl⟩
  go_wp2
  exact bodyPost_ret (v := .tuple #[.agg #[.int .i64 0, .int .i64 0, .int .i64 0, .int .i64 0], .iface 34 (.int .i64 4)]) (by simp [results, Try.results32, go_sem]) rfl ⟨rfl, (by repeat (first | exact Below.refl _ _ | refine Below.alloc ?_ (by simp <;> omega) _))⟩
set_option maxHeartbeats 2000000 in
theorem lost_low (W l c : Int) (w : World) (ok : SourceOk W 0 l c) :
    Calls Try.prog 32 #[.agg #[.int .i64 W, .int .i64 0, .int .i64 l, .int .i64 c]] w fun e w' =>
      e = .returned (.tuple #[.agg #[.int .i64 0, .int .i64 0, .int .i64 0, .int .i64 0], .iface 34 (.int .i64 8)]) ∧ Below w.heap.size w w' := by
  have H := Lib.hid ok; clear ok
  go_enter Try.func32, Try.ntmps32
  go_wp2_with fail
  refine (one_low W l c _ H.out).mono ?_; rintro e w' ⟨rfl, rfl⟩
  go_wp2
  exact bodyPost_ret (v := .tuple #[.agg #[.int .i64 0, .int .i64 0, .int .i64 0, .int .i64 0], .iface 34 (.int .i64 8)]) (by simp [results, Try.results32, go_sem]) rfl ⟨rfl, (by repeat (first | exact Below.refl _ _ | refine Below.alloc ?_ (by simp <;> omega) _))⟩
set_option maxHeartbeats 2000000 in
theorem lost_no (W a l c : Int) (w : World) (no : ¬ SourceOk W a l c) :
    Calls Try.prog 32 #[.agg #[.int .i64 W, .int .i64 a, .int .i64 l, .int .i64 c]] w fun e w' =>
      e = .returned (.tuple #[.agg #[.int .i64 0, .int .i64 0, .int .i64 0, .int .i64 0], .iface 34 (.int .i64 1)]) ∧ Below w.heap.size w w' := by
  have H := Lib.hid no; clear no
  go_enter Try.func32, Try.ntmps32
  go_wp2_with fail
  refine (one_no W a l c _ H.out).mono ?_; rintro e w' ⟨rfl, rfl⟩
  go_wp2
  exact bodyPost_ret (v := .tuple #[.agg #[.int .i64 0, .int .i64 0, .int .i64 0, .int .i64 0], .iface 34 (.int .i64 1)]) (by simp [results, Try.results32, go_sem]) rfl ⟨rfl, (by repeat (first | exact Below.refl _ _ | refine Below.alloc ?_ (by simp <;> omega) _))⟩
end Go.Proofs.Ytkheobdkmmbjnaa
