/- plain.Told and fairsame.Error. -/
import Derived.Test.YtaijpiebjhhkjaaGreatDoorAs
import Derived.Test.YtaijpiebjhhkjaaGreatDoorLibA
namespace Go.Proofs.YtaijpiebjhhkjaaGreatDoor
open Go.RowKit
theorem told_nil (w : World) : Calls Tryz.prog 44 #[.nilIface] w fun e w' => e = .returned (.int .i64 0) ∧ Below w.heap.size w w' := by
  go_enter Tryz.func44, Tryz.ntmps44
  go_wp2
  go_ret
  exact ⟨rfl, Below.refl _ _⟩
set_option maxHeartbeats 1000000 in
theorem told_err (n : Int) (w : World) (hg : Laid w) : Calls Tryz.prog 44 #[.iface 74 (.int .i64 n)] w fun e w' => e = .returned (.int .i64 n) ∧ Below w.heap.size w w' := by
  have hp := hg.pos
  have HG := Lib.hid hg; clear hg
  go_enter Tryz.func44, Tryz.ntmps44
  go_wp2_with fail
  refine (as_hit n ⟨w.heap.size, 0, none⟩ (.int .i64 0) _ (HG.out.alloc _) (by simp) (by simp)).mono ?_
  rintro e w' ⟨rfl, rfl⟩
  go_wp2
  go_ret
  refine ⟨rfl, ?_⟩
  repeat (first | exact Below.refl _ _ | refine Below.alloc ?_ (by simp <;> omega) _)
theorem same_nil (x : Int) (w : World) : Calls Tryz.prog 17 #[.nilIface, .int .i64 x] w fun e w' => e = .returned (.bool (0 == x)) ∧ Below w.heap.size w w' := by
  go_enter Tryz.func17, Tryz.ntmps17
  go_wp2_with fail
  refine (told_nil _).mono ?_
  rintro e w' ⟨rfl, hb⟩
  go_wp2
  go_ret
  exact ⟨rfl, hb⟩
theorem same_err (n x : Int) (w : World) (hg : Laid w) : Calls Tryz.prog 17 #[.iface 74 (.int .i64 n), .int .i64 x] w fun e w' => e = .returned (.bool (n == x)) ∧ Below w.heap.size w w' := by
  have HG := Lib.hid hg; clear hg
  go_enter Tryz.func17, Tryz.ntmps17
  go_wp2_with fail
  refine (told_err n _ HG.out).mono ?_
  rintro e w' ⟨rfl, hb⟩
  go_wp2
  go_ret
  exact ⟨rfl, hb⟩
/-- the error told is the one asked for -/
theorem same_yes (n : Int) (w : World) (hg : Laid w) : Calls Tryz.prog 17 #[errVal n, .int .i64 n] w fun e w' => e = .returned (.bool true) ∧ Below w.heap.size w w' := by
  by_cases h : n = 0
  · subst h; exact (same_nil 0 w).mono fun _ _ h => h
  · rw [errVal_pos h]
    refine (same_err n n w hg).mono fun _ _ h => ?_
    simpa using h
theorem same_hit (n : Int) (w : World) (hg : Laid w) : Calls Tryz.prog 17 #[.iface 74 (.int .i64 n), .int .i64 n] w fun e w' => e = .returned (.bool true) ∧ Below w.heap.size w w' :=
  (same_err n n w hg).mono fun _ _ h => by simpa using h
theorem same_ok (w : World) : Calls Tryz.prog 17 #[.nilIface, .int .i64 0] w fun e w' => e = .returned (.bool true) ∧ Below w.heap.size w w' :=
  (same_nil 0 w).mono fun _ _ h => h
end Go.Proofs.YtaijpiebjhhkjaaGreatDoor
