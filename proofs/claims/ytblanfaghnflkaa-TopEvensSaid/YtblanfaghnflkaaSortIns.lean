/- slices.insertionSortCmpFunc over such a row. -/
import Derived.Test.YtblanfaghnflkaaLibA
namespace Go.Proofs.Ytblanfaghnflkaa
open Go.RowKit
set_option maxHeartbeats 8000000 in
set_option maxRecDepth 100000 in
theorem insertion_any (key : Nat → Int) (n g cap base : Nat) (f : FuncId) (cb : Array Value) (w : World) (hn : 0 < n) (hn6 : n ≤ 20) (hrow : Row base n g cap (List.range n) w)
    (hcf : ∀ (a : Array Value) (W : World), (callFunc f a).run Try.prog W = .ok (.enter f a) W) (cf : Nat → Nat → Int) (hcmp : Compares key cf n base f cb w) (hbg : base ≤ g) (hbw : base ≤ w.heap.size) :
    Calls Try.prog 100 #[.slice (some ⟨g, 0, none⟩) n cap, .int .i64 0, .int .i64 n, .func (Fn.func f) #[] cb] w fun e w' =>
      e = .returned (.tuple #[]) ∧ ∃ o, PR.Ord key n o ∧ Row base n g cap o w' ∧ w.grownBy w' (some g) := by
  have HC := Lib.hid hcmp; clear hcmp
  have HR := Lib.hid hrow; clear hrow
  have HK := Lib.hid (show base ≤ g ∧ base ≤ w.heap.size from ⟨hbg, hbw⟩); clear hbg hbw
  have H0 := Lib.hid (PR.Upto.start key n hn)
  have HL0 : Hid ((List.range n).length = n) := Lib.hid (by simp)
  go_enter Try.func100, Try.ntmps100
  go_wp2
  go_loopw [8] (fun vi wr => ∃ (i : Nat) (o : List Nat), vi = .int .i64 i ∧ 1 ≤ i ∧ i ≤ n ∧ Hid (o.length = n) ∧ Hid (PR.Upto key i o) ∧ Hid (Row base n g cap o wr) ∧ Hid (w.grownBy wr (some g))) (fun vi _ => n - (intOf vi).toNat)
  case atStart => exact ⟨1, _, rfl, by omega, by omega, HL0, H0, HR, Lib.hid (grown_refl _ _)⟩
  case round =>
    obtain ⟨i, o, rfl, hi1, hin, HL, HU, HW, HG⟩ := hrel
    clear H0 HL0 HR
    by_cases hlt : i < n
    · have HI := Lib.hid (HU.out.ins (by rw [HL.out]; exact hlt)); clear HU
      go_wp2
      go_loopg [9] i (fun g2 vj wq => ∃ (j : Nat) (p : List Nat), vj = .int .i64 j ∧ j ≤ i ∧ j ≤ g2 ∧ Hid (p.length = n) ∧ Hid (PR.Ins key i j p) ∧ Hid (Row base n g cap p wq) ∧ Hid (w.grownBy wq (some g)))
      case atStart => exact ⟨i, o, rfl, Nat.le_refl _, Nat.le_refl _, HL, HI, HW, HG⟩
      case round =>
        obtain ⟨j, p, rfl, hji, hg2, HL, HI, HW, HG⟩ := hrel
        by_cases hj : 0 < j
        · obtain ⟨jp, rfl⟩ : ∃ jp, j = jp + 1 := ⟨j - 1, by omega⟩
          have hpl : jp < p.length := by rw [HL.out]; omega
          obtain ⟨a, ha⟩ : ∃ a, p[jp]? = some a := ⟨p[jp], List.getElem?_eq_getElem hpl⟩
          obtain ⟨cj, fj⟩ := HW.out.cell HI.out.here HL.out
          obtain ⟨cp, fp⟩ := HW.out.cell ha HL.out
          have han : a < n := by
            have hm : a ∈ p.take (i + 1) := List.mem_of_getElem? (i := jp) (by rw [List.getElem?_take_of_lt (by omega)]; exact ha)
            have := List.mem_range.1 (HI.out.perm.mem_iff.1 hm)
            omega
          have HB := Lib.hid (below_of_grown HG.out HK.out.1 HK.out.2)
          have hcc := HC.out.less i a
          have hc : ∀ d, Calls Try.prog f (#[.int .i64 (i : Int), .int .i64 (a : Int)] ++ cb) (wr.drewN d) fun e w' => e = .returned (.int .i64 (cf i a)) ∧ ∃ q, w' = (wr.drewN d).drewN q :=
            fun d => HC.out.calls (wr.drewN d) i a hlt han (below_drewN HB.out d)
          generalize cf i a = c at hcc hc
          have HCC := Lib.hid hcc; clear hcc
          have hjz : (0 : Int) < (jp : Int) + 1 := by omega
          have hj1 : (jp : Int) + 1 < (n : Int) := by omega
          have hwp : IntKind.i64.wrap (jp : Int) = (jp : Int) := by rw [IntKind.wrap_i64]; omega
          have jz1 : (jp : Int) < (n : Int) := by omega
          have p0 : (0 : Int) ≤ (jp : Int) + 1 := by omega
          have e0 : ((jp : Int) + 1).toNat = jp + 1 := by omega
          have HA := Lib.hid ha
          clear ha
          by_cases hlv : c < 0
          · have HS := Lib.hid (HI.out.swap (by omega) HA.out (HCC.out.1 hlv))
            go_wp2_with fail
            go_quiet (with_reducible exact Calls.quiet_of (hc _))
            go_wp2_with fail
            have cj2 : (wr.drewN nq).cell? ⟨g, jp + 1, none⟩ = some (.int .i64 (i : Int)) := cj
            have cp2 : (wr.drewN nq).cell? ⟨g, jp, none⟩ = some (.int .i64 (a : Int)) := cp
            have fj2 : (wr.drewN nq).frozen? ⟨g, jp + 1, none⟩ = false := fj
            have fp2 : (wr.drewN nq).frozen? ⟨g, jp, none⟩ = false := fp
            have HW2 := Lib.hid (HW.out.drewN nq)
            have HG2 := Lib.hid (grown_drewN HG.out nq)
            clear cj cp fj fp hc HW HG HB
            generalize wr.drewN nq = wq at cj2 cp2 fj2 fp2 HW2 HG2 ⊢
            obtain ⟨j1, hj1'⟩ : ∃ j1, j1 = jp + 1 := ⟨_, rfl⟩
            rw [← hj1'] at cj2 fj2 e0
            have J1 := Lib.hid hj1'
            clear hj1'
            go_big_region
            all_goals go_wp2
            go_roundg jp
            case measure => omega
            case rel =>
              refine ⟨jp, PR.swap p (jp + 1) i a, by first | rfl | go_num | (congr 1; omega), by omega, Nat.le_refl _, Lib.hid (by rw [PR.swap_len]; exact HL.out), HS, ?_, ?_⟩
              · refine Lib.hid ?_
                rw [J1.out]
                exact ((HW2.out.set (jp + 1) a).set jp i).drewN 1
              · refine Lib.hid ?_
                exact grown_drewN (grown_set (grown_set HG2.out)) 1
          · have HD := Lib.hid (HI.out.done (.inr ⟨a, HA.out, fun h => hlv (HCC.out.2 h)⟩))
            go_wp2_with fail
            go_quiet (with_reducible exact Calls.quiet_of (hc _))
            go_wp2
            go_roundw
            case rel => exact ⟨i + 1, p, by go_num, by omega, by omega, HL, HD, Lib.hid (HW.out.drewN _), Lib.hid (grown_drewN HG.out _)⟩
            case measure => simp [intOf]; omega
        · obtain rfl : j = 0 := by omega
          have HD := Lib.hid (HI.out.done (.inl rfl))
          rw [show ((0 : Nat) : Int) = 0 from rfl]
          go_wp2_with fail
          go_region
          all_goals go_wp2
          go_roundw
          case rel => exact ⟨i + 1, p, by go_num, by omega, by omega, HL, HD, Lib.hid (HW.out.drewN 1), Lib.hid (grown_drewN HG.out 1)⟩
          case measure => simp [intOf]; omega
    · obtain rfl : i = n := by omega
      have HO := Lib.hid (HU.out.ord_all HL.out)
      go_wp2
      go_end0
      exact ⟨rfl, o, HO.out, HW.out, HG.out⟩
end Go.Proofs.Ytblanfaghnflkaa
