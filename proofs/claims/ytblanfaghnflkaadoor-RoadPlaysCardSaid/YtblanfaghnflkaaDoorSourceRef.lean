/- The reference's source: its functions. -/
import Derived.Test.YtblanfaghnflkaaDoorSource
import Derived.Test.YtblanfaghnflkaaDoorTold
namespace Go.Proofs.YtblanfaghnflkaaDoor
open Go.RowKit
attribute [local go_sem ↓] run_min_mn run_max_mx
set_option maxHeartbeats 1000000 in
theorem refSource_yes (W a l c : Int) (w : World) (ok : SourceOk W a l c) : Calls Tryd.prog 92 #[.agg #[.int .i64 W, .int .i64 a, .int .i64 l, .int .i64 c]] w fun e w' => e = .returned (.int .i64 0) ∧ w.alloc (.cells #[.int .i64 W, .int .i64 a, .int .i64 l, .int .i64 c] 74) = w' := by
  obtain ⟨g1, g2, g3, g4, g5, g6, g7, g8⟩ := ok
  go_enter Tryd.func92, Tryd.ntmps92
  go_wp2
  go_ret
  exact ⟨rfl, rfl⟩
set_option maxHeartbeats 2000000 in
theorem refSource_no (W a l c : Int) (w : World) (no : ¬ SourceOk W a l c) : Calls Tryd.prog 92 #[.agg #[.int .i64 W, .int .i64 a, .int .i64 l, .int .i64 c]] w fun e w' => e = .returned (.int .i64 1) ∧ w.alloc (.cells #[.int .i64 W, .int .i64 a, .int .i64 l, .int .i64 c] 74) = w' := by
  unfold SourceOk at no
  have d : W < 1 ∨ (1 ≤ W ∧ 1000 < W) ∨ (1 ≤ W ∧ W ≤ 1000 ∧ a < 0) ∨ (1 ≤ W ∧ W ≤ 1000 ∧ 0 ≤ a ∧ 10000 < a) ∨ (1 ≤ W ∧ W ≤ 1000 ∧ 0 ≤ a ∧ a ≤ 10000 ∧ l < 0) ∨ (1 ≤ W ∧ W ≤ 1000 ∧ 0 ≤ a ∧ a ≤ 10000 ∧ 0 ≤ l ∧ 10000 < l) ∨
    (1 ≤ W ∧ W ≤ 1000 ∧ 0 ≤ a ∧ a ≤ 10000 ∧ 0 ≤ l ∧ l ≤ 10000 ∧ c < 0) ∨ (1 ≤ W ∧ W ≤ 1000 ∧ 0 ≤ a ∧ a ≤ 10000 ∧ 0 ≤ l ∧ l ≤ 10000 ∧ 0 ≤ c ∧ 10000 < c) := by omega
  clear no
  rcases d with d | ⟨d1, d⟩ | ⟨d1, d2, d⟩ | ⟨d1, d2, d3, d⟩ | ⟨d1, d2, d3, d4, d⟩ | ⟨d1, d2, d3, d4, d5, d⟩ | ⟨d1, d2, d3, d4, d5, d6, d⟩ | ⟨d1, d2, d3, d4, d5, d6, d7, d⟩
  all_goals
    go_enter Tryd.func92, Tryd.ntmps92
    go_wp2
    go_ret
    exact ⟨rfl, rfl⟩
set_option maxHeartbeats 2000000 in
theorem refSend (W a l c : Int) (w : World) (ok : SourceOk W a l c) : Calls Tryd.prog 97 #[.agg #[.int .i64 W, .int .i64 a, .int .i64 l, .int .i64 c]] w fun e w' =>
    e = .returned (.tuple #[.agg #[.int .i64 W, .int .i64 (a + sentN W a l), .int .i64 (l - sentN W a l), .int .i64 c], .int .i64 (sentN W a l)]) ∧ Below w.heap.size w w' := by
  obtain ⟨g1, g2, g3, g4, g5, g6, g7, g8⟩ := ok
  have hn : ∃ n : Nat, (n : Int) = sentN W a l := ⟨(sentN W a l).toNat, by unfold sentN; omega⟩
  obtain ⟨n, hn⟩ := hn
  have hle : (n : Int) = max 0 (min l (W - a)) := hn
  rw [← hn]
  clear hn
  have b0 : Below w.heap.size w (w.alloc (.cells #[.int .i64 W, .int .i64 a, .int .i64 l, .int .i64 c] 74)) := (Below.refl _ _).alloc (Nat.le_refl _) _
  go_enter Tryd.func97, Tryd.ntmps97
  go_wp2
  go_loopw [4] (fun i wr => ∃ k : Nat, k ≤ n ∧ i = .int .i64 k ∧ Hid (Blk wr w.heap.size 74 #[.int .i64 W, .int .i64 (a + k), .int .i64 (l - k), .int .i64 c]) ∧ Hid (Blk wr (w.heap.size + 1) 74 #[.int .i64 0, .int .i64 0, .int .i64 0, .int .i64 0]) ∧ Below w.heap.size w wr) (fun i _ => n - (intOf i).toNat)
  case atStart =>
    refine ⟨0, Nat.zero_le _, rfl, ?_, ?_, ?_⟩
    · exact Lib.hid (((Blk.new w 74 #[.int .i64 W, .int .i64 a, .int .i64 l, .int .i64 c]).alloc _).val (by simp))
    · exact Lib.hid (Blk.new' _ _ _ (by simp))
    · exact b0.alloc (by simp) _
  case round =>
    obtain ⟨k, hk, rfl, HP, HZ, hbel⟩ := hrel
    obtain ⟨p0, p1, p2, p3, f0, f1, f2, f3, z0⟩ := HP.out.four
    by_cases hlt : k < n
    · have c1 : 0 < l - k := by omega
      have c2 : a + k < W := by omega
      have HN := Lib.hid (((HP.out.set_ 2 (.int .i64 (l - k - 1))).set_ 1 (.int .i64 (a + k + 1))).val (cs' := #[.int .i64 W, .int .i64 (a + ((k + 1 : Nat) : Int)), .int .i64 (l - ((k + 1 : Nat) : Int)), .int .i64 c]) (by simp; omega))
      have HZ' := Lib.hid ((HZ.out.far (p := ⟨w.heap.size, 2, none⟩) (by simp) (.int .i64 (l - k - 1))).far (p := ⟨w.heap.size, 1, none⟩) (by simp) (.int .i64 (a + k + 1)))
      have hb' : Below w.heap.size w ((wr.setCell ⟨w.heap.size, 2, none⟩ (.int .i64 (l - k - 1))).setCell ⟨w.heap.size, 1, none⟩ (.int .i64 (a + k + 1))) := (hbel.setCell (by simp) _).setCell (by simp) _
      clear HP HZ
      go_wp2
      go_roundw
      case rel => exact ⟨k + 1, by omega, by go_num, HN, HZ', hb'⟩
      case measure => simp [intOf]; omega
    · have hkn : k = n := by omega
      subst hkn
      obtain ⟨q0, q1, q2, q3, fq0, fq1, fq2, fq3, zq⟩ := HZ.out.four
      have hdone : l - k ≤ 0 ∨ 0 < l - k ∧ W ≤ a + k := by omega
      clear hk hlt HP HZ hle
      rcases hdone with c1 | ⟨c1, c2⟩
      all_goals
        go_wp2
        refine bodyPost_ret (v := .tuple #[.agg #[.int .i64 W, .int .i64 (a + k), .int .i64 (l - k), .int .i64 c], .int .i64 k]) (by simp [results, Tryd.results97, go_sem, q0, q1, q2, q3]) rfl ⟨rfl, ?_⟩
        exact (((hbel.setCell (by simp) _).setCell (by simp) _).setCell (by simp) _).setCell (by simp) _
set_option maxHeartbeats 2000000 in
theorem refAck (W a l c : Int) (b : Bool) (w : World) (ok : SourceOk W a l c) : Calls Tryd.prog 99 #[.agg #[.int .i64 W, .int .i64 a, .int .i64 l, .int .i64 c], .bool b] w fun e w' =>
    e = .returned (.agg #[.int .i64 (ackW W b), .int .i64 (a - 1), .int .i64 l, .int .i64 (c + 1)]) ∧ Below w.heap.size w w' := by
  obtain ⟨g1, g2, g3, g4, g5, g6, g7, g8⟩ := ok
  cases b
  · have e1 : ackW W false = max 1 (W - 1) := rfl
    rw [e1]
    by_cases h : 1 < W
    · have e2 : max 1 (W - 1) = W - 1 := by omega
      rw [e2]
      clear e1 e2
      go_enter Tryd.func99, Tryd.ntmps99
      go_wp2
      refine bodyPost_ret (v := .agg #[.int .i64 (W - 1), .int .i64 (a - 1), .int .i64 l, .int .i64 (c + 1)]) (by simp [results, Tryd.results99, go_sem]) rfl ⟨rfl, ?_⟩
      repeat (first | exact Below.refl _ _ | refine Below.alloc ?_ (by simp <;> omega) _)
    · have e2 : max 1 (W - 1) = W := by omega
      rw [e2]
      clear e1 e2
      go_enter Tryd.func99, Tryd.ntmps99
      go_wp2
      refine bodyPost_ret (v := .agg #[.int .i64 W, .int .i64 (a - 1), .int .i64 l, .int .i64 (c + 1)]) (by simp [results, Tryd.results99, go_sem]) rfl ⟨rfl, ?_⟩
      repeat (first | exact Below.refl _ _ | refine Below.alloc ?_ (by simp <;> omega) _)
  · have e1 : ackW W true = min 1000 (W + 1) := rfl
    rw [e1]
    by_cases h : W < 1000
    · have e2 : min 1000 (W + 1) = W + 1 := by omega
      rw [e2]
      clear e1 e2
      go_enter Tryd.func99, Tryd.ntmps99
      go_wp2
      refine bodyPost_ret (v := .agg #[.int .i64 (W + 1), .int .i64 (a - 1), .int .i64 l, .int .i64 (c + 1)]) (by simp [results, Tryd.results99, go_sem]) rfl ⟨rfl, ?_⟩
      repeat (first | exact Below.refl _ _ | refine Below.alloc ?_ (by simp <;> omega) _)
    · have e2 : min 1000 (W + 1) = W := by omega
      rw [e2]
      clear e1 e2
      go_enter Tryd.func99, Tryd.ntmps99
      go_wp2
      refine bodyPost_ret (v := .agg #[.int .i64 W, .int .i64 (a - 1), .int .i64 l, .int .i64 (c + 1)]) (by simp [results, Tryd.results99, go_sem]) rfl ⟨rfl, ?_⟩
      repeat (first | exact Below.refl _ _ | refine Below.alloc ?_ (by simp <;> omega) _)
set_option maxHeartbeats 2000000 in
theorem refLost (W a l c : Int) (w : World) (ok : SourceOk W a l c) : Calls Tryd.prog 100 #[.agg #[.int .i64 W, .int .i64 a, .int .i64 l, .int .i64 c]] w fun e w' =>
    e = .returned (.agg #[.int .i64 (max 1 (W / 2)), .int .i64 (a - 1), .int .i64 (l + 1), .int .i64 c]) ∧ Below w.heap.size w w' := by
  obtain ⟨g1, g2, g3, g4, g5, g6, g7, g8⟩ := ok
  by_cases h : 1 < W
  · have e2 : max 1 (W / 2) = W / 2 := by omega
    rw [e2]
    clear e2
    go_enter Tryd.func100, Tryd.ntmps100
    go_wp2
    refine bodyPost_ret (v := .agg #[.int .i64 (W / 2), .int .i64 (a - 1), .int .i64 (l + 1), .int .i64 c]) (by simp [results, Tryd.results100, go_sem]) rfl ⟨rfl, ?_⟩
    repeat (first | exact Below.refl _ _ | refine Below.alloc ?_ (by simp <;> omega) _)
  · have e2 : max 1 (W / 2) = W := by omega
    rw [e2]
    clear e2
    go_enter Tryd.func100, Tryd.ntmps100
    go_wp2
    refine bodyPost_ret (v := .agg #[.int .i64 W, .int .i64 (a - 1), .int .i64 (l + 1), .int .i64 c]) (by simp [results, Tryd.results100, go_sem]) rfl ⟨rfl, ?_⟩
    repeat (first | exact Below.refl _ _ | refine Below.alloc ?_ (by simp <;> omega) _)
end Go.Proofs.YtblanfaghnflkaaDoor
