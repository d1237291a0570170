/- give.Part; the reference's weights. -/
import Derived.Test.YtkheobdkmmbjnaaDoorGiveSplit
import Derived.Test.YtkheobdkmmbjnaaDoorRefFew
import Derived.Test.YtkheobdkmmbjnaaDoorTotal
namespace Go.Proofs.YtkheobdkmmbjnaaDoor
open Go.RowKit
attribute [local go_sem ↓] run_min_mn run_max_mx
set_option maxHeartbeats 1000000 in
theorem part_bad (m : Int) (A : Option Addr) (c : Nat) (l : List Int) (i : Int) (w : World) (h : Ints w w.heap.size A c l) (er : Int) (he : splitErr m l = er) (hp : er ≠ 0) :
    Calls Tryd.prog 75 #[.int .i64 m, .slice A l.length c, .int .i64 i] w fun e w' => e = .returned (.tuple #[.int .i64 0, .iface 124 (.int .i64 er)]) ∧ Below w.heap.size w w' := by
  have HC := Lib.hid (split_bad m A c l w h er he hp)
  clear h he hp
  go_enter Tryd.func75, Tryd.ntmps75
  go_wp2_with fail
  refine HC.out.mono ?_; rintro e w1 ⟨rfl, hb1⟩
  have HB := Lib.hid hb1
  clear hb1
  go_wp2
  go_ret2
  exact ⟨rfl, HB.out⟩
set_option maxHeartbeats 1000000 in
theorem part_range (m : Int) (A : Option Addr) (c : Nat) (l : List Int) (i : Int) (w : World) (h : Ints w w.heap.size A c l) (he : splitErr m l = 0) (hr : i < 0 ∨ (l.length : Int) ≤ i) :
    Calls Tryd.prog 75 #[.int .i64 m, .slice A l.length c, .int .i64 i] w fun e w' => e = .returned (.tuple #[.int .i64 0, .iface 124 (.int .i64 1)]) ∧ Below w.heap.size w w' := by
  have HC := Lib.hid (split_yes m A c l w h he)
  have h6 := (weighs_of (split_ok he).1).six
  have h0 := (weighs_of (split_ok he).1).pos
  clear h he
  have hr' : i < 0 ∨ (¬ i < 0 ∧ (l.length : Int) ≤ i) := by omega
  clear hr
  rcases hr' with hr | ⟨hr0, hr⟩
  all_goals
    go_enter Tryd.func75, Tryd.ntmps75
    go_wp2_with fail
    refine HC.out.mono ?_; rintro e w1 ⟨v, rfl, ho, hb1⟩
    obtain ⟨g, cap, rfl, hg0, hg1, hcap, hcm⟩ := own_form ho h0
    have HB := Lib.hid hb1
    clear hb1 ho
    go_wp2
    go_ret2
    exact ⟨rfl, HB.out⟩
set_option maxHeartbeats 1000000 in
theorem part_yes' (m : Int) (A : Option Addr) (c : Nat) (l : List Int) (i : Nat) (w : World) (h : Ints w w.heap.size A c l) (he : splitErr m l = 0) (hi : i < l.length) (y : Int) (hy : (splitL m l).getD i 0 = y) :
    Calls Tryd.prog 75 #[.int .i64 m, .slice A l.length c, .int .i64 i] w fun e w' => e = .returned (.tuple #[.int .i64 y, .nilIface]) ∧ Below w.heap.size w w' := by
  have HC := Lib.hid (split_yes m A c l w h he)
  have h6 := (weighs_of (split_ok he).1).six
  have h0 := (weighs_of (split_ok he).1).pos
  have hx : (splitL m l)[i]? = some y := by rw [← hy]; exact getD_some _ i (by rw [splitL_len]; exact hi)
  have HX := Lib.hid hx
  clear h he hy hx
  have hi0 : ¬ (i : Int) < 0 := by omega
  have hi1 : (i : Int) < l.length := by omega
  have hi2 : ¬ (l.length : Int) ≤ (i : Int) := by omega
  have hi3 : (0 : Int) ≤ (i : Int) := by omega
  go_enter Tryd.func75, Tryd.ntmps75
  go_wp2_with fail
  refine HC.out.mono ?_; rintro e w1 ⟨v, rfl, ho, hb1⟩
  obtain ⟨g, cap, rfl, hg0, hg1, hcap, hcm⟩ := own_form ho h0
  have hc := own_cell ho HX.out hi
  have HB := Lib.hid hb1
  clear hb1 ho
  go_wp2
  go_ret2
  exact ⟨rfl, HB.out⟩
set_option maxHeartbeats 1000000 in
theorem refWeights_is (A : Option Addr) (c : Nat) (l : List Int) (B : Nat) (w : World) (h : Ints w B A c l) (y : Int) (hy : idxErr l = y) :
    Calls Tryd.prog 73 #[.slice A l.length c] w fun e w' => e = .returned (.int .i64 y) ∧ w = w' := by
  have H := Lib.hid h
  by_cases hf : fewErr l 1000 = 0
  · obtain ⟨h0, h6, hbad⟩ := few_ok hf
    have hb := badTo_in hbad
    have HF := Lib.hid (refFew_is A c l 1000 B w h 0 hf)
    have HT := Lib.hid (total_any A c l B w h (fun a ha => by have := hb a ha; omega) (by omega))
    unfold idxErr at hy
    rw [if_neg (show ¬ fewErr l 1000 ≠ 0 from fun x => x hf)] at hy
    clear h hf hbad hb
    by_cases ht : tot l = 0
    · rw [if_pos ht] at hy
      subst hy
      rw [ht] at HT
      clear ht
      go_enter Tryd.func73, Tryd.ntmps73
      go_wp2_with fail
      refine HF.out.mono ?_; rintro e w' ⟨rfl, rfl⟩
      go_wp2_with fail
      refine HT.out.mono ?_; rintro e w' ⟨rfl, rfl⟩
      go_wp2
      go_ret
      exact ⟨rfl, rfl⟩
    · rw [if_neg ht] at hy
      subst hy
      generalize tot l = T at *
      have hb : (T == 0) = false := beq_eq_false_iff_ne.2 ht
      go_enter Tryd.func73, Tryd.ntmps73
      go_wp2_with fail
      refine HF.out.mono ?_; rintro e w' ⟨rfl, rfl⟩
      go_wp2_with fail
      refine HT.out.mono ?_; rintro e w' ⟨rfl, rfl⟩
      go_wp2
      go_ret
      exact ⟨rfl, rfl⟩
  · have e : fewErr l 1000 = y := by unfold idxErr at hy; rwa [if_pos hf] at hy
    have HF := Lib.hid (refFew_is A c l 1000 B w h y e)
    have hb : (y == 0) = false := beq_eq_false_iff_ne.2 (by rw [← e]; exact hf)
    clear h hf hy e
    go_enter Tryd.func73, Tryd.ntmps73
    go_wp2_with fail
    refine HF.out.mono ?_; rintro e w' ⟨rfl, rfl⟩
    go_wp2
    go_ret
    exact ⟨rfl, rfl⟩
theorem splitN (m : Int) (A : Option Addr) (c n : Nat) (l : List Int) (w : World) (h : Ints w w.heap.size A c l) (he : splitErr m l = 0) (hn : n = l.length) :
    Calls Tryd.prog 72 #[.int .i64 m, .slice A n c] w fun e w' => ∃ A' c', e = .returned (.tuple #[.slice A' n c', .nilIface]) ∧ Ints w' w'.heap.size A' c' (splitL m l) ∧ Below w.heap.size w w' := by
  subst hn
  refine (split_yes m A c l w h he).mono ?_
  rintro e w' ⟨v, rfl, ho, hb⟩
  obtain ⟨A', c', hv, hl, hi⟩ := owns_ints ho
  subst hv
  exact ⟨A', c', by rw [← hl], hi, hb⟩
end Go.Proofs.YtkheobdkmmbjnaaDoor
