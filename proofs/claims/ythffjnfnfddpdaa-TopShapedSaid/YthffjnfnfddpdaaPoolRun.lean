/- pool.Run: what went, was lost and waits behind so many ticks. -/
import Derived.Test.YthffjnfnfddpdaaPool
namespace Go.Proofs.Ythffjnfnfddpdaa
open Go.RowKit
attribute [local go_sem ↓] run_min_mn run_max_mx
set_option maxHeartbeats 4000000 in
theorem prun_yes (r c k : Int) (A : Option Addr) (cp : Nat) (l : List Int) (w : World) (h : PoolOk r c k) (hi : Ints w w.heap.size A cp l) (hl : l.length ≤ 60) (hok : l.any badRate = false) :
    Calls Try.prog 42 #[.agg #[.int .i64 r, .int .i64 c, .int .i64 k], .slice A l.length cp] w fun e w' =>
      e = .returned (.tuple #[.agg #[.int .i64 (PP.run r c k l).1, .int .i64 (PP.run r c k l).2.1, .int .i64 (PP.run r c k l).2.2], .nilIface]) ∧ Below w.heap.size w w' := by
  have hk := h
  obtain ⟨h1, h2, h3, h4, h5, h8⟩ := hk
  have H := Lib.hid h; clear h
  have HI := Lib.hid hi; clear hi
  have HO := Lib.hid hok; clear hok
  go_enter Try.func42, Try.ntmps42
  go_wp2_with fail
  refine (pcheck_yes r c k _ H.out).mono ?_; rintro e w1 ⟨rfl, rfl⟩
  go_wp2_with fail
  refine (ticks_ok A cp l w.heap.size _ (HI.out.below (((Below.refl _ _).alloc (Nat.le_refl _) _).alloc (by simp) _ |>.alloc (by simp <;> omega) _) (Nat.le_refl _)) hl HO.out).mono ?_; rintro e w1 ⟨rfl, rfl⟩
  go_wp2_with fail
  go_loopw [27] (fun i wr => ∃ (j : Nat) (a b d : Int), j ≤ l.length ∧ i = .int .i64 j ∧ Hid (PP.run r c k (l.take j) = (a, b, d)) ∧ 0 ≤ a ∧ a ≤ 20000 * j ∧ 0 ≤ b ∧ b ≤ 20000 * j ∧ 0 ≤ d ∧ d ≤ r ∧
      Hid (Blk wr w.heap.size 23 #[.int .i64 r, .int .i64 c, .int .i64 d]) ∧ Hid (Blk wr (w.heap.size + 1) 33 #[.int .i64 0, .int .i64 0, .int .i64 0]) ∧ Hid (Blk wr (w.heap.size + 1 + 1 + 1) 33 #[.int .i64 a, .int .i64 b, .int .i64 0]) ∧ Below w.heap.size w wr)
    (fun i _ => l.length - (intOf i).toNat)
  case atStart =>
    refine ⟨0, 0, 0, k, Nat.zero_le _, rfl, rfl, by omega, by omega, by omega, by omega, h5, h8, ?_, ?_, ?_, ?_⟩
    · exact (((Blk.new _ _ _).alloc _).alloc _).alloc _
    · exact ((Blk.new' _ _ _ (by simp)).alloc _).alloc _
    · exact Blk.new' _ _ _ (by simp)
    · exact (by repeat (first | exact Below.refl _ _ | apply Below.drew | refine Below.alloc ?_ (by simp <;> omega) _))
  case round =>
    obtain ⟨j, a, b, d, hj, rfl, HR, ha0, ha1, hb0, hb1, hd0, hd1, HP, HZ, HQ, hbel⟩ := hrel
    obtain ⟨p0, p1, p2, fp0, fp1, fp2, pl⟩ := HP.out.three
    obtain ⟨q0, q1, q2, fq0, fq1, fq2, ql⟩ := HQ.out.three
    by_cases hlt : j < l.length
    · obtain ⟨bb, off, x, rfl, _, hc, hx, HT, HX⟩ := (HI.out.below hbel (Nat.le_refl _)).elem hlt
      obtain ⟨x0, x1⟩ := ticks_in HO.out x hx
      obtain ⟨s1, s2, s3, s4, s5, s6⟩ := step_bd r c d x h1 (by omega) hd0 x0 (by omega) x1
      go_wp2_with fail
      refine (flow_any r c d x _ (by omega) (by omega) (by omega) (by omega) (by omega) (by omega) (by omega) (by omega)).mono ?_; rintro e w2 ⟨rfl, rfl⟩
      have pl1 : w.heap.size < wr.heap.size + 1 := by omega
      have pl2 : w.heap.size < wr.heap.size + 1 + 1 := by omega
      have pl3 : w.heap.size < wr.heap.size + 1 + 1 + 1 := by omega
      have pl4 : w.heap.size < wr.heap.size + 1 + 1 + 1 + 1 := by omega
      have pl5 : w.heap.size < wr.heap.size + 1 + 1 + 1 + 1 + 1 := by omega
      have ql1 : w.heap.size + 1 + 1 + 1 < wr.heap.size + 1 := by omega
      have ql2 : w.heap.size + 1 + 1 + 1 < wr.heap.size + 1 + 1 := by omega
      have ql3 : w.heap.size + 1 + 1 + 1 < wr.heap.size + 1 + 1 + 1 := by omega
      have ql4 : w.heap.size + 1 + 1 + 1 < wr.heap.size + 1 + 1 + 1 + 1 := by omega
      have ql5 : w.heap.size + 1 + 1 + 1 < wr.heap.size + 1 + 1 + 1 + 1 + 1 := by omega
      have HS := Lib.hid (PP.run_snoc r c (l.take j) k x)
      go_wp2
      go_roundw
      case rel =>
        refine ⟨j + 1, a + PP.went c d x, b + PP.lost r c d x, PP.left r c d x, by omega, by go_num, ?_, by omega, by omega, by omega, by omega, by omega, by omega, ?_, ?_, ?_, ?_⟩
        · show PP.run r c k (l.take (j + 1)) = _
          rw [HT.out, HS.out, HR.out]
        · exact ((((((((((HP.out.set_ 0 _).set_ 1 _).set_ 2 _).far (by simp <;> omega) _).far (by simp <;> omega) _).alloc _).alloc _).alloc _).alloc _).alloc _).drew
        · exact ((((((((((HZ.out.far (by simp <;> omega) _).far (by simp <;> omega) _).far (by simp <;> omega) _).far (by simp <;> omega) _).far (by simp <;> omega) _).alloc _).alloc _).alloc _).alloc _).alloc _).drew
        · exact ((((((((((HQ.out.far (by simp <;> omega) _).far (by simp <;> omega) _).far (by simp <;> omega) _).set_ 0 _).set_ 1 _).alloc _).alloc _).alloc _).alloc _).alloc _).drew
        · exact ((((((((((hbel.setCell (by simp) _).setCell (by simp) _).setCell (by simp) _).setCell (by simp <;> omega) _).setCell (by simp <;> omega) _).alloc (by simp <;> omega) _).alloc (by simp <;> omega) _).alloc (by simp <;> omega) _).alloc (by simp <;> omega) _).alloc (by simp <;> omega) _).drew
      case measure => simp [intOf]; omega
    · have hj' : j = l.length := by omega
      subst hj'
      have HE : Hid (PP.run r c k l = (a, b, d)) := Lib.hid (by have := HR.out; rwa [List.take_length] at this)
      obtain ⟨z0, z1, z2, fz0, fz1, fz2, zl⟩ := HZ.out.three
      go_wp2
      refine bodyPost_ret (v := .tuple #[.agg #[.int .i64 a, .int .i64 b, .int .i64 d], .nilIface]) (by simp [results, Try.results42, go_sem, *]) rfl ⟨by rw [HE.out], ?_⟩
      exact (by repeat (first | exact hbel | refine Below.setCell ?_ (by simp <;> omega) _))
set_option maxHeartbeats 1000000 in
theorem prun_no (r c k : Int) (A : Option Addr) (cp n : Nat) (w : World) (h : ¬ PoolOk r c k) :
    Calls Try.prog 42 #[.agg #[.int .i64 r, .int .i64 c, .int .i64 k], .slice A n cp] w fun e w' =>
      e = .returned (.tuple #[.agg #[.int .i64 0, .int .i64 0, .int .i64 0], .iface 103 (.int .i64 1)]) ∧ Below w.heap.size w w' := by
  have H := Lib.hid h; clear h
  go_enter Try.func42, Try.ntmps42
  go_wp2_with fail
  refine (pcheck_no r c k _ H.out).mono ?_; rintro e w1 ⟨rfl, rfl⟩
  go_wp2
  exact bodyPost_ret (v := .tuple #[.agg #[.int .i64 0, .int .i64 0, .int .i64 0], .iface 103 (.int .i64 1)]) (by simp [results, Try.results42, go_sem]) rfl ⟨rfl, (by repeat (first | exact Below.refl _ _ | apply Below.drew | refine Below.alloc ?_ (by simp <;> omega) _))⟩
set_option maxHeartbeats 1000000 in
theorem prun_full (r c k : Int) (A : Option Addr) (cp n : Nat) (w : World) (h : PoolOk r c k) (hn : 60 < n) (hm : n ≤ maxLen) :
    Calls Try.prog 42 #[.agg #[.int .i64 r, .int .i64 c, .int .i64 k], .slice A n cp] w fun e w' =>
      e = .returned (.tuple #[.agg #[.int .i64 0, .int .i64 0, .int .i64 0], .iface 103 (.int .i64 4)]) ∧ Below w.heap.size w w' := by
  have H := Lib.hid h; clear h
  go_enter Try.func42, Try.ntmps42
  go_wp2_with fail
  refine (pcheck_yes r c k _ H.out).mono ?_; rintro e w1 ⟨rfl, rfl⟩
  go_wp2_with fail
  refine (ticks_full A cp n _ hn hm).mono ?_; rintro e w1 ⟨rfl, rfl⟩
  go_wp2
  exact bodyPost_ret (v := .tuple #[.agg #[.int .i64 0, .int .i64 0, .int .i64 0], .iface 103 (.int .i64 4)]) (by simp [results, Try.results42, go_sem]) rfl ⟨rfl, (by repeat (first | exact Below.refl _ _ | apply Below.drew | refine Below.alloc ?_ (by simp <;> omega) _))⟩
set_option maxHeartbeats 1000000 in
theorem prun_bad (r c k : Int) (A : Option Addr) (cp : Nat) (l : List Int) (w : World) (h : PoolOk r c k) (hi : Ints w w.heap.size A cp l) (hl : l.length ≤ 60) (hbad : l.any badRate = true) :
    Calls Try.prog 42 #[.agg #[.int .i64 r, .int .i64 c, .int .i64 k], .slice A l.length cp] w fun e w' =>
      e = .returned (.tuple #[.agg #[.int .i64 0, .int .i64 0, .int .i64 0], .iface 103 (.int .i64 1)]) ∧ Below w.heap.size w w' := by
  have H := Lib.hid h; clear h
  have HI := Lib.hid hi; clear hi
  have HO := Lib.hid hbad; clear hbad
  go_enter Try.func42, Try.ntmps42
  go_wp2_with fail
  refine (pcheck_yes r c k _ H.out).mono ?_; rintro e w1 ⟨rfl, rfl⟩
  go_wp2_with fail
  refine (ticks_bad A cp l w.heap.size _ (HI.out.below (((Below.refl _ _).alloc (Nat.le_refl _) _).alloc (by simp) _ |>.alloc (by simp <;> omega) _) (Nat.le_refl _)) hl HO.out).mono ?_; rintro e w1 ⟨rfl, rfl⟩
  go_wp2
  exact bodyPost_ret (v := .tuple #[.agg #[.int .i64 0, .int .i64 0, .int .i64 0], .iface 103 (.int .i64 1)]) (by simp [results, Try.results42, go_sem]) rfl ⟨rfl, (by repeat (first | exact Below.refl _ _ | apply Below.drew | refine Below.alloc ?_ (by simp <;> omega) _))⟩
end Go.Proofs.Ythffjnfnfddpdaa
