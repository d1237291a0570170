/- rank.Sorted: the forms for laws. -/
import Derived.Test.YtaijpiebjhhkjaaGreatDoorRank1
import Derived.Test.YtaijpiebjhhkjaaGreatDoorLibL
namespace Go.Proofs.YtaijpiebjhhkjaaGreatDoor
open Go.RowKit
/-- what is wrong with some rates -/
def rkErr (S : List Fr) : Int := if 6 < S.length then 4 else ratesErr S
set_option maxHeartbeats 4000000 in
set_option maxRecDepth 100000 in
theorem rsort_er (A : Option Addr) (c n : Nat) (S : List Fr) (B : Nat) (w : World) (er : Int) (hB : B ≤ w.heap.size) (hr : Frs w B A c S) (hn : n = S.length) (he : rkErr S = er) (h0 : er ≠ 0) :
    Calls Tryz.prog 68 #[.slice A n c] w fun e w' => e = .returned (.tuple #[.slice none 0 0, .iface 74 (.int .i64 er)]) ∧ Below w.heap.size w w' := by
  subst hn
  have HR := Lib.hid hr
  have hm := hr.cap; have hml := hr.le
  unfold maxLen at hm
  clear hr
  unfold rkErr at he
  by_cases h6 : 6 < S.length
  · rw [if_pos h6] at he
    subst he
    have h6' : (6 : Int) < (S.length : Int) := by omega
    clear h0
    go_enter Tryz.func68, Tryz.ntmps68
    go_wp2
    go_ret2
    exact ⟨rfl, Below.refl _ _⟩
  · rw [if_neg h6] at he
    have h6' : decide ((6 : Int) < (S.length : Int)) = false := decide_eq_false (by omega)
    unfold ratesErr at he
    have HEV := Lib.hid he; have H0 := Lib.hid h0
    clear he h0
    go_enter Tryz.func68, Tryz.ntmps68
    go_wp2
    go_loopw [13] (fun i wr => ∃ k : Nat, k ≤ S.length ∧ i = .int .i64 k ∧ Hid (firstFrom (fun i => frErr (S.getD i ⟨0, 1⟩)) (S.length - k) k = er) ∧ Hid (Below w.heap.size w wr)) (fun i _ => S.length - (intOf i).toNat)
    case atStart => exact ⟨0, Nat.zero_le _, rfl, HEV, Lib.hid (Below.refl _ _)⟩
    case round =>
      clear HEV
      obtain ⟨k, hk, rfl, HEV, HB⟩ := hrel
      by_cases hlt : k < S.length
      · obtain ⟨b, off, s, rfl, hb, c0, c1, HX⟩ := (HR.out.below HB.out hB).elem hlt
        have k0 : (0 : Int) ≤ (k : Int) := by omega
        have hbz : b < wr.heap.size := by have := HB.out.size; omega
        have hs := HEV.out
        rw [firstFrom_step hlt] at hs
        have hg : S.getD k ⟨0, 1⟩ = s := by rw [List.getD_eq_getElem?_getD, HX.out]; rfl
        simp only [hg] at hs
        obtain ⟨t, d⟩ := s
        simp only at c0 c1
        by_cases hz : frErr ⟨t, d⟩ = 0
        · rw [if_pos hz] at hs
          have HS := Lib.hid hs
          have HZ := Lib.hid (show fracErr t d = 0 from hz)
          have hB1 := HB.out.size
          clear hs hz hg HX
          go_wp2_with fail
          refine (fcheck_yes t d _ HZ.out).mono ?_; rintro e w2 ⟨rfl, hb2⟩
          have HB2 := Lib.hid ((HB.out.alloc hB1 (.cells #[.int .i64 t, .int .i64 d] 37)).trans (hb2.mono (by simp; omega)))
          clear hb2
          go_wp2
          go_roundw
          case rel => exact ⟨k + 1, by omega, by go_num, HS, HB2⟩
          case measure => simp [intOf]; omega
        · rw [if_neg hz] at hs
          have HZ := Lib.hid (show fracErr t d = er from hs)
          have hB1 := HB.out.size
          clear hs hz hg HX
          go_wp2_with fail
          refine (fcheck_no t d er _ HZ.out H0.out).mono ?_; rintro e w2 ⟨rfl, hb2⟩
          have HB2 := Lib.hid ((HB.out.alloc hB1 (.cells #[.int .i64 t, .int .i64 d] 37)).trans (hb2.mono (by simp; omega)))
          clear hb2
          go_wp2
          go_ret2
          exact ⟨rfl, HB2.out⟩
      · obtain rfl : k = S.length := by omega
        have hs := HEV.out
        rw [firstFrom_end] at hs
        exact absurd hs.symm H0.out
set_option maxHeartbeats 4000000 in
set_option maxRecDepth 100000 in
theorem rsort_yes (A : Option Addr) (c n : Nat) (Q : List Rat) (B : Nat) (w : World) (hB : B ≤ w.heap.size) (hr : Frs w B A c (Q.map frQ)) (hn : n = Q.length) (h6 : Q.length ≤ 6) (hq : ∀ q ∈ Q, QIn q) :
    Calls Tryz.prog 68 #[.slice A n c] w fun e w' => ∃ A' c', e = .returned (.tuple #[.slice A' Q.length c', .nilIface]) ∧ Frs w' w'.heap.size A' c' ((MM.srt Q).map frQ) ∧ Below w.heap.size w w' := by
  subst hn
  have HR := Lib.hid hr; have HQ := Lib.hid hq
  have hm := hr.cap; have hml := hr.le
  rw [List.length_map] at hml
  unfold maxLen at hm
  clear hr hq
  have h6' : decide ((6 : Int) < (Q.length : Int)) = false := decide_eq_false (by omega)
  go_enter Tryz.func68, Tryz.ntmps68
  go_wp2
  go_loopw [13] (fun i wr => ∃ k : Nat, k ≤ Q.length ∧ i = .int .i64 k ∧ Hid (Below w.heap.size w wr)) (fun i _ => Q.length - (intOf i).toNat)
  case atStart => exact ⟨0, Nat.zero_le _, rfl, Lib.hid (Below.refl _ _)⟩
  case round =>
    obtain ⟨k, hk, rfl, HB⟩ := hrel
    have hB1 := HB.out.size
    by_cases hlt : k < Q.length
    · obtain ⟨b, off, rfl, hb, c0, c1⟩ := frs_q (HR.out.below HB.out hB) hlt
      have k0 : (0 : Int) ≤ (k : Int) := by omega
      have hbz : b < wr.heap.size := by omega
      obtain ⟨q, hqq⟩ : ∃ q, Q.getD k 0 = q := ⟨_, rfl⟩
      have HQK := Lib.hid (show QIn q from HQ.out q (by rw [← hqq, List.getD_eq_getElem?_getD, List.getElem?_eq_getElem hlt]; exact List.getElem_mem hlt))
      rw [hqq] at c0 c1
      clear hqq
      go_wp2_with fail
      refine (fcheck_q q _ HQK.out).mono ?_; rintro e w2 ⟨rfl, hb2⟩
      have HB2 := Lib.hid ((HB.out.alloc hB1 (.cells #[.int .i64 q.num, .int .i64 q.den] 37)).trans (hb2.mono (by simp; omega)))
      clear hb2
      go_wp2
      go_roundw
      case rel => exact ⟨k + 1, by omega, by go_num, HB2⟩
      case measure => simp [intOf]; omega
    · obtain rfl : k = Q.length := by omega
      have HR1 := Lib.hid ((HR.out.below HB.out hB).more (Nat.le_trans hB hB1))
      go_wp2_with fail
      refine (Go.callsIn_wide.1 (values_in Fence.wide 5 trivial rfl A Q.length c wr)).mono ?_; rintro e w2 ⟨rfl, rfl⟩
      go_wp2_with fail
      refine (sorted_fn A c Q wr.heap.size wr (Nat.le_refl _) HR1.out h6 HQ.out).mono ?_; rintro e w3 ⟨v, rfl, ho, hb3⟩
      have HB3 := Lib.hid (HB.out.trans (hb3.mono hB1))
      obtain ⟨A', c', rfl, hnn, hf⟩ := owns_frs (S := (MM.srt Q).map frQ) ho
      rw [List.length_map, QS.srt_len]
      have HF := Lib.hid hf
      clear ho hb3 hf hnn
      go_wp2
      go_ret2
      exact ⟨A', c', rfl, HF.out, HB3.out⟩
end Go.Proofs.YtaijpiebjhhkjaaGreatDoor
