/- The walk of ShuffleNone: it returns true for every input. -/
import Derived.Test.YtkheobdkmmbjnaaShufStep
import Derived.Test.YtkheobdkmmbjnaaGap
namespace Go.Proofs.Ytkheobdkmmbjnaa
open Go.RowKit
theorem shufErr_part (l : List Int) : shufErr l 0 = shufErr l 1000 := by
  unfold shufErr
  have h1 : PartOk 0 := by unfold PartOk; omega
  have h2 : PartOk 1000 := by unfold PartOk; omega
  rw [if_neg (show ¬ ¬ PartOk 0 from fun x => x h1), if_neg (show ¬ ¬ PartOk 1000 from fun x => x h2)]
theorem Ints.at' {w w' : World} {A : Option Addr} {c : Nat} {l : List Int} (h : Ints w w.heap.size A c l) (hb : Below w.heap.size w w') : Ints w' w'.heap.size A c l := (h.below hb (Nat.le_refl _)).more hb.size
set_option maxHeartbeats 2000000 in
theorem shuffleNone_bad (A : Option Addr) (c : Nat) (l : List Int) (w : World) (h : Ints w w.heap.size A c l) (er : Int) (he : shufErr l 0 = er) (hp : er ≠ 0) :
    Calls Try.prog 17 #[.slice A l.length c] w fun e w' => e = .returned (.bool true) ∧ Below w.heap.size w w' := by
  have HE := Lib.hid he
  have HE2 := Lib.hid ((shufErr_part l).symm.trans he)
  have HP := Lib.hid hp
  have H := Lib.hid h
  clear h he hp
  go_enter Try.func17, Try.ntmps17
  go_wp2_with fail
  refine (shufstep_no A c l 0 _ H.out er HE.out HP.out).mono ?_; rintro e w1 ⟨rfl, hb1⟩
  have HB1 := Lib.hid hb1
  clear hb1
  go_wp2_with fail
  refine (shufstep_no A c l 1000 _ (H.out.at' HB1.out) er HE2.out HP.out).mono ?_; rintro e w2 ⟨rfl, hb2⟩
  have HB2 := Lib.hid (HB1.out.trans (hb2.mono HB1.out.size))
  clear hb2
  go_wp2_with fail
  refine (takenAll_no A c l 1000 _ _ (H.out.at' HB2.out) er HE2.out HP.out).mono ?_; rintro e w' ⟨rfl, rfl⟩
  go_wp2
  go_ret
  exact ⟨rfl, HB2.out⟩
set_option maxHeartbeats 8000000 in
set_option maxRecDepth 100000 in
theorem shuffleNone_ok (A : Option Addr) (c : Nat) (l : List Int) (w : World) (h : Ints w w.heap.size A c l) (he : shufErr l 0 = 0) :
    Calls Try.prog 17 #[.slice A l.length c] w fun e w' => e = .returned (.bool true) ∧ Below w.heap.size w w' := by
  have HE := Lib.hid he
  have HE2 := Lib.hid ((shufErr_part l).symm.trans he)
  obtain ⟨⟨h0, h6, hbad⟩, _⟩ := shuf_ok he
  have hb := shares_in hbad
  obtain ⟨y, hy⟩ : ∃ y, tot l = y := ⟨_, rfl⟩
  have hy0 := tot_bound l 10000 hb
  rw [hy] at hy0
  obtain ⟨y0, y1⟩ := hy0
  have HY := Lib.hid hy
  have HB := Lib.hid hb
  have H := Lib.hid h
  obtain ⟨L1, hL1⟩ : ∃ L, PS.step l 1000 = L := ⟨_, rfl⟩
  have hll : L1.length = l.length := by rw [← hL1]; exact PS.step_len l 1000
  have HLL := Lib.hid hll
  have hval : ∀ i, i < l.length → (L1.getD i 0 = y / l.length ∨ L1.getD i 0 = y / l.length + 1) := fun i hi => by
    rw [← hL1, ← hy]; exact PS.step_whole l i hi
  have HV := Lib.hid hval
  have HL1 := Lib.hid hL1
  have q0 : 0 ≤ y / (l.length : Int) := Int.ediv_nonneg y0 (by omega)
  have q1 : y / (l.length : Int) ≤ y := Int.ediv_le_self _ y0
  have hz : ((l.length : Int) == 0) = false := beq_eq_false_iff_ne.2 (by omega)
  have hne : ¬ l = [] := by intro hl; subst hl; simp at h0
  clear h he hbad hb hy hll hval hL1
  go_enter Try.func17, Try.ntmps17
  go_wp2_with fail
  refine (shufstep_yes A c l 0 _ H.out HE.out).mono ?_; rintro e w1 ⟨v1, rfl, ho1, hb1⟩
  rw [PS.step_none] at ho1
  obtain ⟨A1, c1, rfl, _, hi1⟩ := owns_ints ho1
  have HI1 := Lib.hid hi1
  have HB1 := Lib.hid hb1
  clear hb1 ho1 hi1
  go_wp2_with fail
  refine (shufstep_yes A c l 1000 _ (H.out.at' HB1.out) HE2.out).mono ?_; rintro e w2 ⟨v2, rfl, ho2, hb2⟩
  rw [HL1.out, ← HLL.out] at ho2
  obtain ⟨A2, c2, rfl, _, hi2⟩ := owns_ints ho2
  have HI2 := Lib.hid hi2
  have HI1' := Lib.hid (HI1.out.at' hb2)
  have HB2 := Lib.hid (HB1.out.trans (hb2.mono HB1.out.size))
  clear hb2 ho2 hi2
  go_wp2_with fail
  refine (takenAll_yes A c l 1000 _ _ (H.out.at' HB2.out) HE2.out y ((PS.all_whole l).trans HY.out)).mono ?_; rintro e w' ⟨rfl, rfl⟩
  rw [HLL.out]
  have HI := Lib.hid (H.out.at' HB2.out)
  have hm := Nat.le_trans HI.out.le HI.out.cap
  unfold maxLen at hm
  have hm1 : l.length ≤ 9223372036854775807 := by omega
  go_wp2
  go_loop [9, 10] (fun s i => ∃ k : Nat, k ≤ l.length ∧ i = .int .i64 k ∧ s = .int .i64 (tot (l.take k))) (fun _ i => l.length - (intOf i).toNat)
  case atStart => exact ⟨0, Nat.zero_le _, rfl, rfl⟩
  case round =>
    obtain ⟨k, hk, rfl, rfl⟩ := hrel
    by_cases hlt : k < l.length
    · obtain ⟨b, off, x, rfl, _, hc, hx, HT, HX⟩ := HI.out.elem hlt
      have h1 := tot_bound_take l 10000 HB.out k
      have h2 := HB.out x hx
      have h3 : (l.take k).length ≤ k := List.length_take_le _ _
      have HS : Hid (tot (l.take (k + 1)) = tot (l.take k) + x) := Lib.hid (by rw [HT.out, tot_snoc])
      clear HT HX hx
      generalize tot (l.take k) = Q at *
      go_wp2
      go_round
      case rel => exact ⟨k + 1, by omega, by go_num, by rw [HS.out]⟩
      case measure => simp [intOf]; omega
    · obtain rfl : k = l.length := by omega
      have e1 : tot (l.take l.length) = y := by rw [List.take_length]; exact HY.out
      rw [e1]; clear e1
      go_wp2_with fail
      refine (sameInts_eq A1 A c1 c l w2.heap.size w2.heap.size w2 HI1'.out HI.out).mono ?_; rintro e w' ⟨rfl, d0, rfl⟩
      go_wp2
      go_loopw [11] (fun i wr => ∃ (k d : Nat), k ≤ l.length ∧ i = .int .i64 k ∧ wr = w2.drewN d) (fun i _ => l.length - (intOf i).toNat)
      case atStart => exact ⟨0, d0, Nat.zero_le _, rfl, rfl⟩
      case round =>
        obtain ⟨k, d, hk, rfl, rfl⟩ := hrel
        by_cases hlt : k < l.length
        · obtain ⟨b, off, x, rfl, _, hc, hx, HT, HX⟩ := HI2.out.elem (k := k) (by rw [HLL.out]; exact hlt)
          have hv := HV.out k hlt
          rw [HX.out] at hv
          clear HT HX hx
          have hj1 : (0 : Int) ≤ (k : Int) := by omega
          have hj2 : (k : Int) < l.length := by omega
          have wt : y.tdiv (l.length : Int) = y / (l.length : Int) := Int.tdiv_eq_ediv_of_nonneg y0
          have wq : IntKind.i64.wrap (y.tdiv (l.length : Int)) = y / (l.length : Int) := by rw [wt]; exact IntWalk.i64_in _ (by omega)
          have wq2 : IntKind.i64.wrap (y / (l.length : Int) + 1) = y / (l.length : Int) + 1 := IntWalk.i64_in _ (by omega)
          generalize y / (l.length : Int) = q at *
          rcases hv with rfl | rfl
          · go_wp2
            go_quiet (fail)
            go_wp2
            go_roundw
            case rel => exact ⟨k + 1, _, by omega, by go_num, rfl⟩
            case measure => simp [intOf]; omega
          · have hb1 : (q + 1 != q) = true := by rw [bne_iff_ne]; omega
            have hb2 : (q + 1 == q) = false := beq_eq_false_iff_ne.2 (by omega)
            go_wp2
            go_quiet (fail)
            go_wp2
            go_roundw
            case rel => exact ⟨k + 1, _, by omega, by go_num, rfl⟩
            case measure => simp [intOf]; omega
        · obtain rfl : k = l.length := by omega
          go_wp2
          go_ret
          exact ⟨rfl, below_drewN HB2.out d⟩
theorem shuffleNone_walk {w : World} (A : Option Addr) (c : Nat) (l : List Int) (hi : Ints w w.heap.size A c l) (_ : ∀ x ∈ l, (Lit.int .i64 x).wf = true) :
    Calls Try.prog 17 #[.slice A l.length c] w fun e w' => e = .returned (.bool true) ∧ Below w.heap.size w w' := by
  by_cases he : shufErr l 0 = 0
  · exact shuffleNone_ok A c l w hi he
  · exact shuffleNone_bad A c l w hi _ rfl he
end Go.Proofs.Ytkheobdkmmbjnaa
