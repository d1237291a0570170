/- The walk of MarkTells: it returns true for every input. -/
import Derived.Test.YtkheobdkmmbjnaaDoorMarkAll2
import Derived.Deep.DeepCutAuto
import Derived.Deep.CutBlock
namespace Go.Proofs.YtkheobdkmmbjnaaDoor
open Go.RowKit
attribute [local go_sem ↓] run_min_mn run_max_mx
set_option maxHeartbeats 4000000 in
set_option maxRecDepth 100000 in
theorem markTells_walk (f : Int) (_ : (Lit.int .i64 f).wf = true) (i : Int) (_ : (Lit.int .i64 i).wf = true) (n : Int) (_ : (Lit.int .i64 n).wf = true) (m : Int) (_ : (Lit.int .i64 m).wf = true) (w : World) (hg : Laid w) :
    Calls Tryd.prog 3 #[.int .i64 f, .int .i64 i, .int .i64 n, .int .i64 m] w fun e w' => e = .returned (.bool true) ∧ Below w.heap.size w w' := by
  have HG := Lib.hid hg; clear hg
  go_enter Tryd.func3, Tryd.ntmps3
  go_upto_region 3 with fail
  go_cut [35] (fun s wx => s = .bool (decide (f < 0 ∨ 1000 < f ∨ i < 0 ∨ 1000000000 < i)) ∧ wx = w)
  case first =>
    by_cases o0 : f < 0
    · go_wp2
      go_meet
      exact ⟨by rw [decide_eq_true (by omega)], rfl⟩
    · skip
      by_cases o1 : 1000 < f
      · go_wp2
        go_meet
        exact ⟨by rw [decide_eq_true (by omega)], rfl⟩
      · skip
        by_cases o2 : i < 0
        · go_wp2
          go_meet
          exact ⟨by rw [decide_eq_true (by omega)], rfl⟩
        · skip
          by_cases o3 : 1000000000 < i
          · go_wp2
            go_meet
            exact ⟨by rw [decide_eq_true (by omega)], rfl⟩
          · skip
            go_wp2
            go_meet
            exact ⟨by rw [decide_eq_false (by omega)], rfl⟩
  case rest =>
    obtain ⟨rfl, hw⟩ := hcut; obtain rfl := hw.symm; clear hw
    go_upto_if 35 with fail
    go_cut [9, 10] (fun s9 s10 wx => s9 = .int .i64 (isErr f i) ∧ s10 = .bool (isWant f i) ∧ wx = w)
    case first =>
      by_cases hb : f < 0 ∨ 1000 < f ∨ i < 0 ∨ 1000000000 < i
      · rw [decide_eq_true hb]
        go_wp2
        go_meet
        unfold isErr isWant; rw [if_pos hb, if_pos hb]
        exact ⟨rfl, rfl, rfl⟩
      · rw [decide_eq_false hb]
        go_wp2_with fail
        refine (refMarked f i _ (by omega) (by omega) (by omega) (by omega)).mono ?_; rintro e w' ⟨rfl, rfl⟩
        go_wp2
        go_meet
        unfold isErr isWant; rw [if_neg hb, if_neg hb]
        exact ⟨rfl, rfl, rfl⟩
    case rest =>
      obtain ⟨rfl, rfl, hw⟩ := hcut; obtain rfl := hw.symm; clear hw
      go_wp2_with fail
      refine (is_all f i _).mono ?_; rintro e w' ⟨rfl, rfl⟩
      go_wp2_with fail
      refine (same_yes (isErr f i) _ HG.out).mono ?_; rintro e w1 ⟨rfl, hb1⟩
      have HG1 := Lib.hid (HG.out.below hb1)
      generalize isErr f i = e1 at *
      generalize isWant f i = b1 at *
      go_upto_region 10 with fail
      go_cut [74] (fun s wx => s = .bool (decide (f < 0 ∨ 1000 < f ∨ n < 0 ∨ 10000 < n ∨ m < 0 ∨ 10000 < m)) ∧ wx = w1)
      case first =>
        by_cases o0 : f < 0
        · go_wp2
          go_meet
          exact ⟨by rw [decide_eq_true (by omega)], rfl⟩
        · skip
          by_cases o1 : 1000 < f
          · go_wp2
            go_meet
            exact ⟨by rw [decide_eq_true (by omega)], rfl⟩
          · skip
            by_cases o2 : n < 0
            · go_wp2
              go_meet
              exact ⟨by rw [decide_eq_true (by omega)], rfl⟩
            · skip
              by_cases o3 : 10000 < n
              · go_wp2
                go_meet
                exact ⟨by rw [decide_eq_true (by omega)], rfl⟩
              · skip
                by_cases o4 : m < 0
                · go_wp2
                  go_meet
                  exact ⟨by rw [decide_eq_true (by omega)], rfl⟩
                · skip
                  by_cases o5 : 10000 < m
                  · go_wp2
                    go_meet
                    exact ⟨by rw [decide_eq_true (by omega)], rfl⟩
                  · skip
                    go_wp2
                    go_meet
                    exact ⟨by rw [decide_eq_false (by omega)], rfl⟩
      case rest =>
        obtain ⟨rfl, hw⟩ := hcut; obtain rfl := hw.symm; clear hw
        go_upto_if 74 with fail
        go_cut [9] (fun s9 wx => s9 = .int .i64 (countErr f n m) ∧ wx = w1)
        case first =>
          by_cases hb : f < 0 ∨ 1000 < f ∨ n < 0 ∨ 10000 < n ∨ m < 0 ∨ 10000 < m
          · rw [decide_eq_true hb]
            go_wp2
            go_meet
            unfold countErr; rw [if_pos hb]
            exact ⟨rfl, rfl⟩
          · rw [decide_eq_false hb]
            go_wp2
            go_meet
            unfold countErr; rw [if_neg hb]
            exact ⟨rfl, rfl⟩
        case rest =>
          obtain ⟨rfl, hw⟩ := hcut; obtain rfl := hw.symm; clear hw
          go_upto_block 0 with fail
          go_cut [9, 14] (fun s9 s wx => s9 = .int .i64 (countErr f n m) ∧ s = .int .i64 (countN f n m) ∧ wx = w1)
          case first =>
            by_cases hb : f < 0 ∨ 1000 < f ∨ n < 0 ∨ 10000 < n ∨ m < 0 ∨ 10000 < m
            · have c1 : countErr f n m = 1 := by unfold countErr; rw [if_pos hb]
              have c2 : countN f n m = 0 := by unfold countN; rw [if_pos hb]
              rw [c1]
              have C2 := Lib.hid c2
              have C1 := Lib.hid c1
              clear c1 c2
              go_wp2_with fail
              go_loopw [14, 15] (fun sm k wr => sm = .int .i64 0 ∧ k = .int .i64 0 ∧ wr = w1) (fun _ _ _ => 0)
              case atStart => exact ⟨rfl, rfl, rfl⟩
              case round =>
                obtain ⟨rfl, rfl, hw⟩ := hrel
                obtain rfl := hw.symm
                by_cases h0 : 0 < m
                · go_wp2
                  go_meet
                  exact ⟨by rw [C1.out], by rw [C2.out], rfl⟩
                · go_wp2
                  go_meet
                  exact ⟨by rw [C1.out], by rw [C2.out], rfl⟩
            · have c1 : countErr f n m = 0 := by unfold countErr; rw [if_neg hb]
              have c2 : countN f n m = (n + m) * f / 1000 - n * f / 1000 := by unfold countN; rw [if_neg hb]
              rw [c1]
              have C2 := Lib.hid c2
              have C1 := Lib.hid c1
              clear c1 c2
              have a0 : 0 ≤ f := by omega
              have a1 : f ≤ 1000 := by omega
              have a2 : 0 ≤ n := by omega
              have a3 : n ≤ 10000 := by omega
              have a4 : 0 ≤ m := by omega
              have a5 : m ≤ 10000 := by omega
              clear hb
              go_wp2_with fail
              go_loopw [14, 15] (fun sm k wr => ∃ (j : Nat) (s : Int), (j : Int) ≤ m ∧ k = .int .i64 j ∧ sm = .int .i64 s ∧ Hid (s = (n + j) * f / 1000 - n * f / 1000) ∧ 0 ≤ s ∧ s ≤ j ∧ wr = w1) (fun _ k _ => m.toNat - (intOf k).toNat)
              case atStart => exact ⟨0, 0, a4, rfl, rfl, Lib.hid (by simp), Int.le_refl _, by simp, rfl⟩
              case round =>
                obtain ⟨j, s, hj, rfl, rfl, HS, hs0, hs1, hw⟩ := hrel
                obtain rfl := hw.symm
                by_cases hlt : (j : Int) < m
                · have HN := Lib.hid (countN_step f n j a0 a1)
                  go_wp2_with fail
                  refine (refMarked f (n + j) _ a0 a1 (by omega) (by omega)).mono ?_; rintro e w' ⟨rfl, rfl⟩
                  rw [← HS.out] at HN
                  cases hmk : marked f (n + j)
                  · rw [hmk] at HN
                    go_wp2
                    go_roundw
                    case rel => exact ⟨j + 1, s, by omega, by go_num, rfl, Lib.hid (by have := HN.out; simp at this; push_cast; omega), hs0, by omega, trivial⟩
                    case measure => simp [intOf]; omega
                  · rw [hmk] at HN
                    go_wp2
                    go_roundw
                    case rel => exact ⟨j + 1, s + 1, by omega, by go_num, by go_num, Lib.hid (by have := HN.out; simp at this; push_cast; omega), by omega, by omega, trivial⟩
                    case measure => simp [intOf]; omega
                · have hjm : (j : Int) = m := by omega
                  have hS := HS.out
                  rw [hjm] at hS
                  go_wp2
                  go_meet
                  exact ⟨by rw [C1.out], by rw [C2.out], rfl⟩
          case rest =>
            obtain ⟨rfl, rfl, hw⟩ := hcut; obtain rfl := hw.symm; clear hw
            go_wp2_with fail
            refine (count_all f n m _).mono ?_; rintro e w' ⟨rfl, rfl⟩
            go_wp2_with fail
            refine (same_yes (countErr f n m) _ HG1.out).mono ?_; rintro e w2 ⟨rfl, hb2⟩
            have HG2 := Lib.hid (HG1.out.below hb2)
            have hw2 := hb1.trans (hb2.mono hb1.size)
            generalize countErr f n m = e2 at *
            generalize countN f n m = b2 at *
            go_upto_region 21 with fail
            go_cut [120] (fun s wx => s = .bool (decide (f < 0 ∨ 1000 < f ∨ m < 0 ∨ 60 < m)) ∧ wx = w2)
            case first =>
              by_cases o0 : f < 0
              · go_wp2
                go_meet
                exact ⟨by rw [decide_eq_true (by omega)], rfl⟩
              · skip
                by_cases o1 : 1000 < f
                · go_wp2
                  go_meet
                  exact ⟨by rw [decide_eq_true (by omega)], rfl⟩
                · skip
                  by_cases o2 : m < 0
                  · go_wp2
                    go_meet
                    exact ⟨by rw [decide_eq_true (by omega)], rfl⟩
                  · skip
                    by_cases o3 : 60 < m
                    · go_wp2
                      go_meet
                      exact ⟨by rw [decide_eq_true (by omega)], rfl⟩
                    · skip
                      go_wp2
                      go_meet
                      exact ⟨by rw [decide_eq_false (by omega)], rfl⟩
            case rest =>
              obtain ⟨rfl, hw⟩ := hcut; obtain rfl := hw.symm; clear hw
              by_cases hb : f < 0 ∨ 1000 < f ∨ m < 0 ∨ 60 < m
              · rw [decide_eq_true hb]
                go_wp2_with fail
                refine (list_no f m _ hb).mono ?_; rintro e w' ⟨rfl, rfl⟩
                clear hb
                go_wp2_with fail
                refine (same_err 1 1 _ HG2.out).mono ?_; rintro e w3 ⟨rfl, hb3⟩
                have ee : ((1 : Int) == 1) = true := rfl
                rw [ee]
                go_wp2_with fail
                go_loopw [20, 21] (fun b k wr => b = .bool true ∧ k = .int .i64 0 ∧ wr = w3) (fun _ _ _ => 0)
                case atStart => exact ⟨rfl, rfl, rfl⟩
                case round =>
                  obtain ⟨rfl, rfl, hw⟩ := hrel
                  obtain rfl := hw.symm
                  go_wp2
                  go_ret
                  exact ⟨rfl, hw2.trans (hb3.mono hw2.size)⟩
              · rw [decide_eq_false hb]
                have a0 : 0 ≤ f := by omega
                have a1 : f ≤ 1000 := by omega
                have a4 : 0 ≤ m := by omega
                have a5 : m ≤ 60 := by omega
                clear hb
                obtain ⟨q, rfl⟩ := Int.eq_ofNat_of_zero_le a4
                go_wp2_with fail
                refine (list_yes f q _ a0 a1 a4 a5).mono ?_
                rintro e w3 ⟨v, rfl, ho, hb3⟩
                rw [Int.toNat_natCast] at ho
                have HO := Lib.hid ho; clear ho
                have hw3 := hw2.trans (hb3.mono hw2.size)
                have HG3 := Lib.hid (HG2.out.below hb3)
                go_wp2_with fail
                refine (same_nil 0 _).mono ?_; rintro e w4 ⟨rfl, hb4⟩
                have ee : ((0 : Int) == 0) = true := rfl
                rw [ee]
                obtain ⟨A, c, rfl, hAc⟩ : ∃ A c, v = .slice A q c ∧ (0 < q → ∃ g, A = some ⟨g, 0, none⟩ ∧ ∀ k : Nat, k < q → w4.cell? ⟨g, k, none⟩ = some (.bool (marked f k))) := by
                  by_cases hq : 0 < q
                  · obtain ⟨g, cap, rfl, _, _, _, _⟩ := own_form HO.out hq
                    refine ⟨_, _, rfl, fun _ => ⟨g, rfl, fun k hk => ?_⟩⟩
                    have := (own_below HO.out hb4).cellAt k (by omega)
                    rw [this]
                    simp [marks, hk]
                  · obtain rfl : q = 0 := by omega
                    rcases HO.out.2 with ⟨rfl, _⟩ | ⟨g, cap, cur, rfl, _⟩
                    · exact ⟨none, 0, rfl, fun h => absurd h (by omega)⟩
                    · exact ⟨_, _, rfl, fun h => absurd h (by omega)⟩
                have HA := Lib.hid hAc; clear hAc
                have hw4 := hw3.trans (hb4.mono hw3.size)
                go_wp2_with fail
                go_loopw [20, 21] (fun b k wr => ∃ j d : Nat, j ≤ q ∧ b = .bool true ∧ k = .int .i64 j ∧ wr = w4.drewN d) (fun _ k _ => q - (intOf k).toNat)
                case atStart => exact ⟨0, 0, Nat.zero_le _, rfl, rfl, rfl⟩
                case round =>
                  obtain ⟨j, d, hj, rfl, rfl, rfl⟩ := hrel
                  by_cases hlt : j < q
                  · obtain ⟨g, rfl, hc⟩ := HA.out (by omega)
                    have hcj := hc j hlt
                    have hjb : (j : Int) ≤ 60 := by omega
                    clear hc
                    go_wp2
                    go_quiet ((go_at_call 18; first | exact quiet_add_left (refMarked f j _ a0 a1 (by omega) (by omega)) | exact quiet_left (refMarked f j _ a0 a1 (by omega) (by omega))))
                    go_wp2
                    go_roundw
                    case rel => exact ⟨j + 1, _, by omega, by simp, by go_num, rfl⟩
                    case measure => simp [intOf]; omega
                  · go_wp2
                    go_ret
                    exact ⟨rfl, below_drewN hw4 _⟩
end Go.Proofs.YtkheobdkmmbjnaaDoor
