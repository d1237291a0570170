/- Package source: what its functions compute. -/
import Derived.Test.YtblanfaghnflkaaDoorRate
import Derived.Test.YtblanfaghnflkaaDoorLibA
namespace Go.Proofs.YtblanfaghnflkaaDoor
open Go.RowKit
attribute [local go_sem ↓] run_min_mn run_max_mx
def SourceOk (W a l c : Int) : Prop := 1 ≤ W ∧ W ≤ 1000 ∧ 0 ≤ a ∧ a ≤ 10000 ∧ 0 ≤ l ∧ l ≤ 10000 ∧ 0 ≤ c ∧ c ≤ 10000
def sentN (W a l : Int) : Int := max 0 (min l (W - a))
set_option maxHeartbeats 1000000 in
theorem scheck_yes (W a l c : Int) (w : World) (ok : SourceOk W a l c) : Calls Tryd.prog 120 #[.agg #[.int .i64 W, .int .i64 a, .int .i64 l, .int .i64 c]] w fun e w' => e = .returned .nilIface ∧ w.alloc (.cells #[.int .i64 W, .int .i64 a, .int .i64 l, .int .i64 c] 74) = w' := by
  obtain ⟨g1, g2, g3, g4, g5, g6, g7, g8⟩ := ok
  go_enter Tryd.func120, Tryd.ntmps120
  go_wp2_with (go_at_call 121; refine (rate_yes _ _ (by omega) (by omega)).mono ?_; rintro e w' ⟨rfl, rfl⟩)
  go_ret
  exact ⟨rfl, rfl⟩
set_option maxHeartbeats 4000000 in
theorem scheck_no (W a l c : Int) (w : World) (no : ¬ SourceOk W a l c) : Calls Tryd.prog 120 #[.agg #[.int .i64 W, .int .i64 a, .int .i64 l, .int .i64 c]] w fun e w' => e = .returned (.iface 119 (.int .i64 1)) ∧ w.alloc (.cells #[.int .i64 W, .int .i64 a, .int .i64 l, .int .i64 c] 74) = w' := by
  unfold SourceOk at no
  by_cases h1 : W < 1
  · clear no
    go_enter Tryd.func120, Tryd.ntmps120
    go_wp2
    go_ret
    exact ⟨rfl, rfl⟩
  · by_cases h2 : 1000 < W
    · clear no
      go_enter Tryd.func120, Tryd.ntmps120
      go_wp2
      go_ret
      exact ⟨rfl, rfl⟩
    · by_cases h3 : a < 0 ∨ 10000 < a
      · clear no
        go_enter Tryd.func120, Tryd.ntmps120
        go_wp2_with fail
        refine (rate_no _ _ h3).mono ?_; rintro e w' ⟨rfl, rfl⟩
        go_wp2
        go_ret
        exact ⟨rfl, rfl⟩
      · by_cases h4 : l < 0 ∨ 10000 < l
        · clear no
          go_enter Tryd.func120, Tryd.ntmps120
          go_wp2_with fail
          refine (rate_yes _ _ (by omega) (by omega)).mono ?_; rintro e w' ⟨rfl, rfl⟩
          go_wp2_with fail
          refine (rate_no _ _ h4).mono ?_; rintro e w' ⟨rfl, rfl⟩
          go_wp2
          go_ret
          exact ⟨rfl, rfl⟩
        · have h5 : c < 0 ∨ 10000 < c := by omega
          clear no
          go_enter Tryd.func120, Tryd.ntmps120
          go_wp2_with fail
          refine (rate_yes _ _ (by omega) (by omega)).mono ?_; rintro e w' ⟨rfl, rfl⟩
          go_wp2_with fail
          refine (rate_yes _ _ (by omega) (by omega)).mono ?_; rintro e w' ⟨rfl, rfl⟩
          go_wp2_with fail
          refine (rate_no _ _ h5).mono ?_; rintro e w' ⟨rfl, rfl⟩
          go_wp2
          go_ret
          exact ⟨rfl, rfl⟩
theorem sent_any (W a l c : Int) (w : World) (ok : SourceOk W a l c) :
    Calls Tryd.prog 122 #[.agg #[.int .i64 W, .int .i64 a, .int .i64 l, .int .i64 c]] w fun e w' =>
      e = .returned (.tuple #[.agg #[.int .i64 W, .int .i64 (a + sentN W a l), .int .i64 (l - sentN W a l), .int .i64 c], .int .i64 (sentN W a l)]) ∧
      (w.alloc (.cells #[.int .i64 W, .int .i64 (a + sentN W a l), .int .i64 (l - sentN W a l), .int .i64 c] 74)).alloc (.cells #[.int .i64 W, .int .i64 (a + sentN W a l), .int .i64 (l - sentN W a l), .int .i64 c] 74) = w' := by
  obtain ⟨g1, g2, g3, g4, g5, g6, g7, g8⟩ := ok
  unfold sentN
  go_enter Tryd.func122, Tryd.ntmps122
  go_wp2
  exact bodyPost_ret (v := .tuple #[.agg #[.int .i64 W, .int .i64 (a + max 0 (min l (W - a))), .int .i64 (l - max 0 (min l (W - a))), .int .i64 c], .int .i64 (max 0 (min l (W - a)))]) (by simp [results, Tryd.results122, go_sem]) rfl ⟨rfl, rfl⟩
theorem acked_yes (W a l c : Int) (w : World) (ok : SourceOk W a l c) :
    Calls Tryd.prog 103 #[.agg #[.int .i64 W, .int .i64 a, .int .i64 l, .int .i64 c], .bool true] w fun e w' =>
      e = .returned (.agg #[.int .i64 (min 1000 (W + 1)), .int .i64 (a - 1), .int .i64 l, .int .i64 (c + 1)]) ∧
      (w.alloc (.cells #[.int .i64 (min 1000 (W + 1)), .int .i64 (a - 1), .int .i64 l, .int .i64 (c + 1)] 74)).alloc (.cells #[.int .i64 (min 1000 (W + 1)), .int .i64 (a - 1), .int .i64 l, .int .i64 (c + 1)] 74) = w' := by
  obtain ⟨g1, g2, g3, g4, g5, g6, g7, g8⟩ := ok
  go_enter Tryd.func103, Tryd.ntmps103
  go_wp2
  exact bodyPost_ret (v := .agg #[.int .i64 (min 1000 (W + 1)), .int .i64 (a - 1), .int .i64 l, .int .i64 (c + 1)]) (by simp [results, Tryd.results103, go_sem]) rfl ⟨rfl, rfl⟩
theorem acked_no (W a l c : Int) (w : World) (ok : SourceOk W a l c) :
    Calls Tryd.prog 103 #[.agg #[.int .i64 W, .int .i64 a, .int .i64 l, .int .i64 c], .bool false] w fun e w' =>
      e = .returned (.agg #[.int .i64 (max 1 (W - 1)), .int .i64 (a - 1), .int .i64 l, .int .i64 (c + 1)]) ∧
      (w.alloc (.cells #[.int .i64 (max 1 (W - 1)), .int .i64 (a - 1), .int .i64 l, .int .i64 (c + 1)] 74)).alloc (.cells #[.int .i64 (max 1 (W - 1)), .int .i64 (a - 1), .int .i64 l, .int .i64 (c + 1)] 74) = w' := by
  obtain ⟨g1, g2, g3, g4, g5, g6, g7, g8⟩ := ok
  go_enter Tryd.func103, Tryd.ntmps103
  go_wp2
  exact bodyPost_ret (v := .agg #[.int .i64 (max 1 (W - 1)), .int .i64 (a - 1), .int .i64 l, .int .i64 (c + 1)]) (by simp [results, Tryd.results103, go_sem]) rfl ⟨rfl, rfl⟩
theorem fell_any (W a l c : Int) (w : World) (ok : SourceOk W a l c) :
    Calls Tryd.prog 104 #[.agg #[.int .i64 W, .int .i64 a, .int .i64 l, .int .i64 c]] w fun e w' =>
      e = .returned (.agg #[.int .i64 (max 1 (W / 2)), .int .i64 (a - 1), .int .i64 (l + 1), .int .i64 c]) ∧
      (w.alloc (.cells #[.int .i64 (max 1 (W / 2)), .int .i64 (a - 1), .int .i64 (l + 1), .int .i64 c] 74)).alloc (.cells #[.int .i64 (max 1 (W / 2)), .int .i64 (a - 1), .int .i64 (l + 1), .int .i64 c] 74) = w' := by
  obtain ⟨g1, g2, g3, g4, g5, g6, g7, g8⟩ := ok
  go_enter Tryd.func104, Tryd.ntmps104
  go_wp2
  exact bodyPost_ret (v := .agg #[.int .i64 (max 1 (W / 2)), .int .i64 (a - 1), .int .i64 (l + 1), .int .i64 c]) (by simp [results, Tryd.results104, go_sem]) rfl ⟨rfl, rfl⟩
/-- how the window turns by an answer -/
def ackW (W : Int) (b : Bool) : Int := if b then min 1000 (W + 1) else max 1 (W - 1)
end Go.Proofs.YtblanfaghnflkaaDoor
