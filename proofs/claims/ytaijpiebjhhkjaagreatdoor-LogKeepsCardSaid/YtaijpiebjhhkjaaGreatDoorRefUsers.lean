/- The reference's users of a link. -/
import Derived.Test.YtaijpiebjhhkjaaGreatDoorRefNet
import Derived.Test.YtaijpiebjhhkjaaGreatDoorLibL
namespace Go.Proofs.YtaijpiebjhhkjaaGreatDoor
open Go.RowKit
set_option maxHeartbeats 4000000 in
set_option maxRecDepth 100000 in
theorem refUsers_any (x : Int) (Cv : Value) (P : Option Addr) (cp m : Nat) (paths : List (List Int)) (us : List Nat) (B : Nat) (w : World) (hB : B ≤ w.heap.size) (hp : Rows2 w B P cp paths) (hn : paths.length ≤ 1000) (hus : users paths x = us) (hm : m = paths.length) :
    Calls Tryz.prog 48 #[.agg #[Cv, .slice P m cp], .int .i64 x] w fun e w' => ∃ A c, e = .returned (.slice A us.length c) ∧ w'.ownsRow w.heap.size 3 1 (.slice A us.length c) us.length ((us.map fun (i : Nat) => (i : Int)).map (Value.int .i64)) ∧ us.length ≤ c ∧ c ≤ maxLen ∧ Below w.heap.size w w' := by
  subst hus hm
  have hpm := hp.cap; have hpl := hp.le
  unfold maxLen at hpm
  have HP := Lib.hid hp
  clear hp
  have HN0 := Lib.hid (Blk.new w 42 #[Cv, .slice P paths.length cp])
  have HB0 : Hid (Below w.heap.size w (w.alloc (.cells #[Cv, .slice P paths.length cp] 42))) := Lib.hid ((Below.refl _ _).alloc (Nat.le_refl _) _)
  go_enter Tryz.func48, Tryz.ntmps48
  go_wp2
  go_loopw [5, 6] (fun v i wr => ∃ k : Nat, k ≤ paths.length ∧ i = .int .i64 k ∧ Hid (wr.ownsRow w.heap.size 3 1 v (usersTo paths x k).length (idxs (usersTo paths x k))) ∧ Hid (Below w.heap.size w wr) ∧ Hid (Blk wr w.heap.size 42 #[Cv, .slice P paths.length cp])) (fun _ i _ => paths.length - (intOf i).toNat)
  case atStart => exact ⟨0, Nat.zero_le _, rfl, Lib.hid (World.ownsRow_nil _ _ _ _), HB0, HN0⟩
  case round =>
    clear HB0 HN0
    obtain ⟨k, hk, rfl, HO, HB, HN⟩ := hrel
    have hsz := HB.out.size
    obtain ⟨n0, n1, nf0, nf1, nz⟩ := HN.out.two
    by_cases hlt : k < paths.length
    · obtain ⟨b, off, A', c', l, rfl, hb, hcell, hi, HX⟩ := (HP.out.below HB.out hB).elem hlt
      have k0 : (0 : Int) ≤ (k : Int) := by omega
      have k1 : (k : Int) < (paths.length : Int) := by omega
      have hul := usersTo_le paths x k
      cases hin : inL l x
      · have HU := Lib.hid (usersTo_no HX.out hin)
        have HI := Lib.hid hi
        have HN2 := Lib.hid hin
        clear hi hin HX
        go_wp2_with fail
        refine (refIn_any _ _ _ _ _ _ HI.out rfl _ _ HN2.out).mono ?_; rintro e w' ⟨rfl, rfl⟩
        go_wp2
        go_roundw
        case rel => exact ⟨k + 1, by omega, by go_num, by rw [HU.out]; exact HO, HB, HN⟩
        case measure => simp [intOf]; omega
      · have HU := Lib.hid (usersTo_yes HX.out hin)
        have HI := Lib.hid hi
        have HN2 := Lib.hid hin
        clear hi hin HX
        go_wp2_with fail
        refine (refIn_any _ _ _ _ _ _ HI.out rfl _ _ HN2.out).mono ?_; rintro e w' ⟨rfl, rfl⟩
        go_wp2_with (at_builtin; refine wpList_push wr _ rfl (.tmp 23) (.tmp 25) 22 rfl w.heap.size 3 (.int .i64 0) 1 8 Tryz.underlying22 Tryz.info_int rfl (by omega) _ _ _ rfl HO.out rfl rfl (by simp [Value.oneCell']) (by omega) (by omega) hsz ?_; intro v' w1 hown1 hg1)
        have HO1 := Lib.hid hown1
        have HB1 := Lib.hid (below_push HB.out HO.out hg1 (Nat.le_refl _) hsz)
        have HN1 := Lib.hid (HN.out.grown hg1 fun e => own_blk_ne HO.out HN.out (by decide) e.symm)
        clear hown1 hg1
        go_wp2
        go_roundw
        case rel => exact ⟨k + 1, by omega, by go_num, by rw [HU.out]; exact Lib.hid (by simpa [idxs] using HO1.out), HB1, HN1⟩
        case measure => simp [intOf]; omega
    · obtain rfl : k = paths.length := by omega
      have hv := HO.out
      have e1 : usersTo paths x paths.length = users paths x := rfl
      rw [e1, idxs_mapL] at hv
      obtain ⟨A, c, rfl, hn2, hi⟩ := owns_ints hv
      have h1 := hi.le; have h2 := hi.cap
      rw [List.length_map] at h1 hv
      have HV := Lib.hid hv
      clear hv hi hn2
      rw [List.length_map]
      go_wp2
      go_ret
      exact ⟨A, c, rfl, HV.out, h1, h2, HB.out⟩
end Go.Proofs.YtaijpiebjhhkjaaGreatDoor
