/- The walk of LogStops: it returns true for every input. -/
import Derived.Test.YtaijpiebjhhkjaaDoorLogStops1
import Derived.Test.YtaijpiebjhhkjaaDoorLogLaidS
import Derived.BigQuiet
namespace Go.Proofs.YtaijpiebjhhkjaaDoor
open Go.RowKit
attribute [local go_sem ↓] run_min_mn run_max_mx
set_option maxHeartbeats 8000000 in
set_option maxRecDepth 100000 in
theorem logStops_out (after many keep : Int) (w : World) (h : after < 0 ∨ 5 < after ∨ many < 0 ∨ 5 < many) :
    Calls Tryd.prog 4 #[.int .i64 after, .int .i64 many, .int .i64 keep] w fun e w' => e = .returned (.bool true) ∧ Below w.heap.size w w' := by
  obtain ⟨b0, hb0, hN⟩ := stops_new w
  have HN := Lib.hid hN
  have hbz : w.heap.size ≤ b0 := by rw [hb0]; simp
  have HB0 := Lib.hid ((Below.refl w.heap.size w).alloc (Nat.le_refl _) (.cells #[.int .i64 5, .int .i64 7] 3))
  clear hN hb0
  go_enter Tryd.func4, Tryd.ntmps4
  go_wp2_with fail
  refine HN.out.mono ?_; rintro e w1 ⟨g, C, cc, rfl, _, hb1⟩
  have HB1 := Lib.hid (HB0.out.trans (hb1.mono hbz))
  clear hb1
  have hd : after < 0 ∨ (decide (after < 0) = false ∧ 5 < after) ∨ (decide (after < 0) = false ∧ decide (5 < after) = false ∧ many < 0) ∨ (decide (after < 0) = false ∧ decide (5 < after) = false ∧ decide (many < 0) = false ∧ 5 < many) := by
    by_cases h1 : after < 0
    · exact .inl h1
    · by_cases h2 : 5 < after
      · exact .inr (.inl ⟨decide_eq_false h1, h2⟩)
      · by_cases h3 : many < 0
        · exact .inr (.inr (.inl ⟨decide_eq_false h1, decide_eq_false h2, h3⟩))
        · exact .inr (.inr (.inr ⟨decide_eq_false h1, decide_eq_false h2, decide_eq_false h3, by omega⟩))
  clear h
  rcases hd with h1 | ⟨h1, h2⟩ | ⟨h1, h2, h3⟩ | ⟨h1, h2, h3, h4⟩
  all_goals
    go_wp2
    go_ret
    exact ⟨rfl, HB1.out⟩
set_option maxHeartbeats 32000000 in
set_option maxRecDepth 1000000 in
theorem logStops_in (a mm : Nat) (keep : Int) (w : World) (ha : a ≤ 5) (hm : mm ≤ 5) (hg : Laid w) (hT : Lib.TabIs Tryd.prog w "strings.asciiSpace" .u8 Lib.asciiSpaceTab) (hv : 2 < w.heap.size) :
    Calls Tryd.prog 4 #[.int .i64 (a : Int), .int .i64 (mm : Int), .int .i64 keep] w fun e w' => e = .returned (.bool true) ∧ Below w.heap.size w w' := by
  obtain ⟨b0, hb0, hN⟩ := stops_new w
  have HN := Lib.hid hN
  have LAID := Lib.hid hg
  have HT := Lib.hid hT
  have hbz : w.heap.size ≤ b0 := by rw [hb0]; simp
  have HB0 := Lib.hid ((Below.refl w.heap.size w).alloc (Nat.le_refl _) (.cells #[.int .i64 5, .int .i64 7] 3))
  have hbs : b0 ≤ (w.alloc (.cells #[.int .i64 5, .int .i64 7] 3)).heap.size := by rw [hb0]; exact Nat.le_refl _
  clear hN hb0 hg hT
  have k1 : decide ((a : Int) < 0) = false := decide_eq_false (by omega)
  have k2 : decide ((5 : Int) < (a : Int)) = false := decide_eq_false (by omega)
  have k3 : decide (5 < a) = false := decide_eq_false (by omega)
  have k4 : decide ((mm : Int) < 0) = false := decide_eq_false (by omega)
  have k5 : decide ((5 : Int) < (mm : Int)) = false := decide_eq_false (by omega)
  have k6 : decide (5 < mm) = false := decide_eq_false (by omega)
  go_enter Tryd.func4, Tryd.ntmps4
  go_wp2_with fail
  refine HN.out.mono ?_; rintro e w1 ⟨g, C, cc, rfl, h1, hb1⟩
  have HB1 := Lib.hid (HB0.out.trans (hb1.mono hbz))
  have HF := Lib.hid (stops_fail w w1 b0 g cc C h1 HB1.out hbz (Nat.le_trans hbs hb1.size) a)
  clear hb1 h1 hbs HB0 HB1 HN
  go_wp2_with fail
  refine HF.out.mono ?_; rintro e w2 ⟨rfl, hS⟩
  have HS := Lib.hid hS
  clear hS HF k1 k2 k3 k4 k5 k6
  go_wp2
  go_loopw [9, 10] (fun sv iv wr => ∃ i : Nat, i ≤ mm ∧ sv = .int .i64 i ∧ iv = .int .i64 i ∧ Hid (StopI w b0 g C cc (min i a) i a wr)) (fun _ iv _ => mm - (intOf iv).toNat)
  case atStart => exact ⟨0, Nat.zero_le _, rfl, rfl, by rw [Nat.zero_min]; exact HS⟩
  case round =>
    clear HS
    obtain ⟨i, hi, rfl, rfl, HS⟩ := hrel
    by_cases hlt : i < mm
    · have hmin5 : min i a ≤ 5 := by omega
      rcases Nat.lt_trichotomy i a with hia | hia | hia
      · have n1 : decide ((a : Int) < (i : Int)) = false := decide_eq_false (by omega)
        have n2 : decide (a < i) = false := decide_eq_false (by omega)
        have n3 : (i : Int) ≤ (a : Int) := by omega
        have n3' : i ≤ a := by omega
        have n4 : ((i : Int) == (a : Int)) = false := beq_eq_false_iff_ne.2 (by omega)
        have n5 : (i : Int) < (a : Int) := by omega
        go_wp2_with fail
        refine (stop_nil5 HS.out hmin5 n3').mono ?_; rintro e w3 ⟨rfl, hb3⟩
        have HP := Lib.hid (Blk.new w3 3 #[.int .i64 0, .int .i64 1])
        have HS3 := Lib.hid ((HS.out.below hb3).below ((Below.refl _ _).alloc (Nat.le_refl _) (.cells #[.int .i64 0, .int .i64 1] 3)))
        clear hb3 HS
        go_wp2_with fail
        refine (stop_go HS3.out (by omega) hia ha hbz _ HP.out).mono ?_; rintro e w4 ⟨rfl, hS4⟩
        have HS4 := Lib.hid hS4
        clear hS4 HS3 HP
        go_wp2_with fail
        refine (err56 _ (LAID.out.below HS4.out.bel)).mono ?_; rintro e w5 ⟨rfl, hb5⟩
        have HS5 := Lib.hid (HS4.out.below hb5)
        clear hb5 HS4
        go_wp2_with fail
        refine (same_hit 5 _ (LAID.out.below HS5.out.bel)).mono ?_; rintro e w6 ⟨rfl, hb6⟩
        have HS6 := Lib.hid (HS5.out.below hb6)
        clear hb6 HS5
        go_wp2_with fail
        refine (errn6 _).mono ?_; rintro e w7 ⟨rfl, hb7⟩
        have HS7 := Lib.hid (HS6.out.below hb7)
        clear hb7 HS6
        go_wp2
        go_roundw
        case rel => exact ⟨i + 1, by omega, by go_num, by go_num, by rw [show min (i + 1) a = min i a + 1 by omega]; exact HS7⟩
        case measure => (simp [intOf] <;> omega)
      · have n1 : decide ((a : Int) < (i : Int)) = false := decide_eq_false (by omega)
        have n2 : decide (a < i) = false := decide_eq_false (by omega)
        have n3 : (i : Int) ≤ (a : Int) := by omega
        have n3' : i ≤ a := by omega
        have n4 : ((i : Int) == (a : Int)) = true := beq_iff_eq.2 (by omega)
        have n5 : decide ((i : Int) < (a : Int)) = false := decide_eq_false (by omega)
        have n6 : decide (i < a) = false := decide_eq_false (by omega)
        have HIA := Lib.hid hia
        clear hia
        go_wp2_with fail
        refine (stop_nil5 HS.out hmin5 n3').mono ?_; rintro e w3 ⟨rfl, hb3⟩
        have HP := Lib.hid (Blk.new w3 3 #[.int .i64 0, .int .i64 1])
        have HS3 := Lib.hid ((HS.out.below hb3).below ((Below.refl _ _).alloc (Nat.le_refl _) (.cells #[.int .i64 0, .int .i64 1] 3)))
        clear hb3 HS
        go_wp2_with fail
        refine (stop_at HS3.out hmin5 HIA.out hbz _ HP.out).mono ?_; rintro e w4 ⟨rfl, hS4⟩
        have HS4 := Lib.hid hS4
        clear hS4 HS3 HP
        go_wp2_with fail
        refine (err56 _ (LAID.out.below HS4.out.bel)).mono ?_; rintro e w5 ⟨rfl, hb5⟩
        have HS5 := Lib.hid (HS4.out.below hb5)
        clear hb5 HS4
        go_wp2_with fail
        refine (same_hit 5 _ (LAID.out.below HS5.out.bel)).mono ?_; rintro e w6 ⟨rfl, hb6⟩
        have HS6 := Lib.hid (HS5.out.below hb6)
        clear hb6 HS5
        go_wp2_with fail
        refine (same_hit 6 _ (LAID.out.below HS6.out.bel)).mono ?_; rintro e w7 ⟨rfl, hb7⟩
        have HS7 := Lib.hid (HS6.out.below hb7)
        clear hb7 HS6
        go_wp2
        go_roundw
        case rel => exact ⟨i + 1, by omega, by go_num, by go_num, by rw [show min (i + 1) a = min i a by have := HIA.out; omega]; exact HS7⟩
        case measure => (simp [intOf] <;> omega)
      · have n1 : (a : Int) < (i : Int) := by omega
        have n3 : decide ((i : Int) ≤ (a : Int)) = false := decide_eq_false (by omega)
        have n3' : decide (i ≤ a) = false := decide_eq_false (by omega)
        have n4 : ((i : Int) == (a : Int)) = false := beq_eq_false_iff_ne.2 (by omega)
        have n5 : decide ((i : Int) < (a : Int)) = false := decide_eq_false (by omega)
        have n6 : decide (i < a) = false := decide_eq_false (by omega)
        go_wp2_with fail
        refine (stop_nil6 HS.out hmin5 hia).mono ?_; rintro e w3 ⟨rfl, hb3⟩
        have HP := Lib.hid (Blk.new w3 3 #[.int .i64 0, .int .i64 1])
        have HS3 := Lib.hid ((HS.out.below hb3).below ((Below.refl _ _).alloc (Nat.le_refl _) (.cells #[.int .i64 0, .int .i64 1] 3)))
        clear hb3 HS
        go_wp2_with fail
        refine (stop_past HS3.out hmin5 hia _ HP.out).mono ?_; rintro e w4 ⟨rfl, hS4⟩
        have HS4 := Lib.hid hS4
        clear hS4 HS3 HP
        go_wp2_with fail
        refine (same_hit 6 _ (LAID.out.below HS4.out.bel)).mono ?_; rintro e w5 ⟨rfl, hb5⟩
        have HS5 := Lib.hid (HS4.out.below hb5)
        clear hb5 HS4
        go_wp2_with fail
        refine (err65 _ (LAID.out.below HS5.out.bel)).mono ?_; rintro e w6 ⟨rfl, hb6⟩
        have HS6 := Lib.hid (HS5.out.below hb6)
        clear hb6 HS5
        go_wp2_with fail
        refine (same_hit 6 _ (LAID.out.below HS6.out.bel)).mono ?_; rintro e w7 ⟨rfl, hb7⟩
        have HS7 := Lib.hid (HS6.out.below hb7)
        clear hb7 HS6
        go_wp2
        go_roundw
        case rel => exact ⟨i + 1, by omega, by go_num, by go_num, by rw [show min (i + 1) a = min i a by omega]; exact HS7⟩
        case measure => (simp [intOf] <;> omega)
    · obtain rfl : i = mm := by omega
      clear hlt hi
      obtain ⟨m, hm0⟩ : ∃ m, min i a = m := ⟨_, rfl⟩
      have hm5 : m ≤ 5 := by omega
      rw [hm0] at HS
      clear hm0
      go_wp2
      go_loopw [9] (fun sv wr => ∃ s : Nat, s ≤ 6 ∧ sv = .int .i64 s ∧ Hid (StopI w b0 g C cc m s a wr)) (fun sv _ => 6 - (intOf sv).toNat)
      case atStart => exact ⟨i, by omega, rfl, HS⟩
      case round =>
        clear HS
        obtain ⟨s, hs6, rfl, HS⟩ := hrel
        rcases Nat.lt_trichotomy s a with hsa | hsa | hsa
        · have n3 : (s : Int) ≤ (a : Int) := by omega
          have n4 : ((s : Int) == (a : Int)) = false := beq_eq_false_iff_ne.2 (by omega)
          have n3' : s ≤ a := by omega
          go_wp2_with fail
          refine (sync_go HS.out hm5 hsa ha hbz).mono ?_; rintro e w3 ⟨rfl, hS3⟩
          have HS3 := Lib.hid hS3
          clear hS3 HS
          go_wp2
          go_roundw
          case rel => exact ⟨s + 1, by omega, by go_num, HS3⟩
          case measure => (simp [intOf] <;> omega)
        · have n3 : (s : Int) ≤ (a : Int) := by omega
          have n4 : ((s : Int) == (a : Int)) = true := beq_iff_eq.2 (by omega)
          have n3' : s ≤ a := by omega
          have HSA := Lib.hid hsa
          clear hsa
          go_wp2_with fail
          refine (sync_at HS.out HSA.out hbz).mono ?_; rintro e w3 ⟨rfl, hS3⟩
          have HS3 := Lib.hid hS3
          clear hS3 HS
          go_wp2
          go_roundw
          case rel => exact ⟨s + 1, by omega, by go_num, HS3⟩
          case measure => (simp [intOf] <;> omega)
        · have n3 : decide ((s : Int) ≤ (a : Int)) = false := decide_eq_false (by omega)
          have n3' : decide (s ≤ a) = false := decide_eq_false (by omega)
          go_wp2_with fail
          refine (sync_past HS.out hsa).mono ?_; rintro e w3 ⟨rfl, hS3⟩
          have HS3 := Lib.hid hS3
          clear hS3 HS
          go_wp2_with fail
          refine (drop_past HS3.out hsa).mono ?_; rintro e w4 ⟨rfl, hS4⟩
          have HS4 := Lib.hid hS4
          clear hS4 HS3
          go_wp2_with fail
          refine (same_hit 6 _ (LAID.out.below HS4.out.bel)).mono ?_; rintro e w5 ⟨rfl, hb5⟩
          have HS5 := Lib.hid (HS4.out.below hb5)
          clear hb5 HS4
          go_wp2_with fail
          refine (same_hit 6 _ (LAID.out.below HS5.out.bel)).mono ?_; rintro e w6 ⟨rfl, hb6⟩
          have HS6 := Lib.hid (HS5.out.below hb6)
          clear hb6 HS5
          go_wp2_with fail
          refine (crash_past HS6.out hm5 hbz HT.out hv keep).mono ?_; rintro e w7 ⟨rfl, k, hk5, hK7⟩
          have HK7 := Lib.hid hK7
          clear hK7 HS6
          have hr1 : (repA k).length = k := repA_len k
          have hall : ∀ l ∈ repA k, l.length ≤ 1000 := fun l hl => by obtain ⟨_, rfl⟩ := List.mem_replicate.1 hl; decide
          have HPA := Lib.hid (kept_paths HK7.out (by omega) hall)
          rw [hr1] at HPA
          clear hall
          go_wp2_with fail
          refine HPA.out.mono ?_; rintro e w8 ⟨P', cp', rfl, _, hb8⟩
          have HP9 := Lib.hid (Blk.new w8 3 #[.int .i64 1])
          have HK8 := Lib.hid ((HK7.out.below hb8).below ((Below.refl _ _).alloc (Nat.le_refl _) (.cells #[.int .i64 1] 3)))
          clear hb8 HK7 HPA
          go_wp2_with fail
          refine (kept_add HK8.out hk5 hbz _ HP9.out).mono ?_; rintro e w9 ⟨rfl, hK9⟩
          have HK9 := Lib.hid hK9
          clear hK9 HK8 HP9
          have hlen : (repA k ++ [[1]]).length = k + 1 := by rw [List.length_append, hr1]; rfl
          go_wp2_with fail
          refine (kept_sync (by omega) HK9.out hbz).mono ?_; rintro e w10 ⟨rfl, n, hK10⟩
          have HK10 := Lib.hid hK10
          clear hK10 HK9
          have HPB := Lib.hid (kept_paths2 HK10.out (by omega) (fun l hl => by
            rcases List.mem_append.1 hl with h | h
            · obtain ⟨_, rfl⟩ := List.mem_replicate.1 h; decide
            · simp at h; subst h; decide))
          rw [hlen] at HPB
          go_wp2_with fail
          refine HPB.out.mono ?_; rintro e w11 ⟨P2, cp2, rfl, hr, hb11⟩
          have HK11 := Lib.hid (HK10.out.below hb11)
          obtain ⟨b, off, A', c', l, rfl, hbb, hcell, hi, hl⟩ := hr.elem (k := k) (by omega)
          have hl1 : l = [1] := by
            have := hl.out
            rw [List.getElem?_append_right (by omega), hr1, Nat.sub_self] at this
            simpa using this.symm
          subst hl1
          obtain ⟨b2, off2, rfl, hbb2, hc2⟩ := ints_at (q := [1]) hi (j := 0) (by decide)
          simp only [Nat.add_zero] at hc2
          have HBB := Lib.hid hb11
          clear hr hb11 hl hi HPB HK10 hlen hr1
          have q1 : IntKind.i64.wrap ((k : Int) + 1) = (k : Int) + 1 := IntWalk.i64_in _ (by omega)
          have q2 : (0 : Int) ≤ (k : Int) := by omega
          have q3 : (k : Int) < (k : Int) + 1 := by omega
          have q4 : k < k + 1 := by omega
          go_wp2_with fail
          refine (kept_safe HK11.out).mono ?_; rintro e w12 ⟨rfl, hb12⟩
          have HK12 := Lib.hid (HK11.out.below hb12)
          clear hb12 HK11 HBB
          go_wp2_with fail
          refine (kept_bytes HK12.out).mono ?_; rintro e w13 ⟨rfl, hb13⟩
          have HK13 := Lib.hid (HK12.out.below hb13)
          clear hb13 HK12
          go_wp2
          go_ret
          exact ⟨rfl, HK13.out.bel⟩
theorem logStops_walk (after : Int) (_ : (Lit.int .i64 after).wf = true) (many : Int) (_ : (Lit.int .i64 many).wf = true) (keep : Int) (_ : (Lit.int .i64 keep).wf = true) (w : World) (hg : LaidLog w) :
    Calls Tryd.prog 4 #[.int .i64 after, .int .i64 many, .int .i64 keep] w fun e w' => e = .returned (.bool true) ∧ Below w.heap.size w w' := by
  by_cases h : after < 0 ∨ 5 < after ∨ many < 0 ∨ 5 < many
  · exact logStops_out after many keep w h
  · obtain ⟨a, rfl⟩ := Int.eq_ofNat_of_zero_le (show 0 ≤ after by omega)
    obtain ⟨mm, rfl⟩ := Int.eq_ofNat_of_zero_le (show 0 ≤ many by omega)
    exact logStops_in a mm keep w (by omega) (by omega) hg.laid hg.tab hg.lt
end Go.Proofs.YtaijpiebjhhkjaaDoor
