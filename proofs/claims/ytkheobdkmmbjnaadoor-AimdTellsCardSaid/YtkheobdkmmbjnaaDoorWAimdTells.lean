/- The walk of AimdTells: it returns true for every input. -/
import Derived.Test.YtkheobdkmmbjnaaDoorRefSteps
import Derived.Test.YtkheobdkmmbjnaaDoorMeterRunNo
import Derived.Test.YtkheobdkmmbjnaaDoorTold
namespace Go.Proofs.YtkheobdkmmbjnaaDoor
open Go.RowKit
attribute [local go_sem ↓] run_min_mn run_max_mx
theorem refStep_ok (A : Option Addr) (c : Nat) (l : List Int) (limit up : Int) (w : World) (h : Ints w w.heap.size A c l) (m : List Int) (b : Bool) (hs : SRes l limit up = .ok (m, b)) :
    Calls Tryd.prog 52 #[.slice A l.length c, .int .i64 limit, .int .i64 up] w fun e w' => ∃ v, e = .returned (.tuple #[v, .bool b, .int .i64 0]) ∧ w'.ownsRow w.heap.size 3 1 v l.length (m.map (Value.int .i64)) ∧ Below w.heap.size w w' := by
  refine (refStep_all A c l limit up w h).mono ?_
  rintro e w' ⟨hb, ⟨m', b', hr, v, rfl, ho⟩ | ⟨er, hr, _, rfl⟩⟩
  · rw [hs] at hr; injection hr with hr; injection hr with e1 e2; subst e1 e2
    exact ⟨v, rfl, ho, hb⟩
  · rw [hs] at hr; cases hr
theorem refStep_err (A : Option Addr) (c : Nat) (l : List Int) (limit up : Int) (w : World) (h : Ints w w.heap.size A c l) (er : Int) (hs : SRes l limit up = .error er) :
    Calls Tryd.prog 52 #[.slice A l.length c, .int .i64 limit, .int .i64 up] w fun e w' => e = .returned (.tuple #[.slice none 0 0, .bool false, .int .i64 er]) ∧ Below w.heap.size w w' := by
  refine (refStep_all A c l limit up w h).mono ?_
  rintro e w' ⟨hb, ⟨m', b', hr, v, rfl, ho⟩ | ⟨er', hr, _, rfl⟩⟩
  · rw [hs] at hr; cases hr
  · rw [hs] at hr; injection hr with e1; subst e1
    exact ⟨rfl, hb⟩
theorem aStep_ok (A : Option Addr) (c : Nat) (l : List Int) (limit up : Int) (w : World) (h : Ints w w.heap.size A c l) (m : List Int) (b : Bool) (hs : SRes l limit up = .ok (m, b)) :
    Calls Tryd.prog 53 #[.slice A l.length c, .int .i64 limit, .int .i64 up] w fun e w' => ∃ v, e = .returned (.tuple #[v, .nilIface]) ∧ w'.ownsRow w.heap.size 3 1 v l.length (m.map (Value.int .i64)) ∧ Below w.heap.size w w' := by
  refine (aStep_all A c l limit up w h).mono ?_
  rintro e w' ⟨hb, ⟨m', b', hr, v, rfl, ho⟩ | ⟨er, hr, rfl⟩⟩
  · rw [hs] at hr; injection hr with hr; injection hr with e1 e2; subst e1 e2
    exact ⟨v, rfl, ho, hb⟩
  · rw [hs] at hr; cases hr
theorem aStep_err (A : Option Addr) (c : Nat) (l : List Int) (limit up : Int) (w : World) (h : Ints w w.heap.size A c l) (er : Int) (hs : SRes l limit up = .error er) :
    Calls Tryd.prog 53 #[.slice A l.length c, .int .i64 limit, .int .i64 up] w fun e w' => e = .returned (.tuple #[.slice none 0 0, .iface 124 (.int .i64 er)]) ∧ Below w.heap.size w w' := by
  refine (aStep_all A c l limit up w h).mono ?_
  rintro e w' ⟨hb, ⟨m', b', hr, v, rfl, ho⟩ | ⟨er', hr, rfl⟩⟩
  · rw [hs] at hr; cases hr
  · rw [hs] at hr; injection hr with e1; subst e1
    exact ⟨rfl, hb⟩
theorem refSteps_ok (A : Option Addr) (c : Nat) (l : List Int) (limit up t : Int) (w : World) (h : Ints w w.heap.size A c l) (m : List Int) (b : Nat) (hs : ARes l limit up t = .ok (m, b)) :
    Calls Tryd.prog 54 #[.slice A l.length c, .int .i64 limit, .int .i64 up, .int .i64 t] w fun e w' => ∃ v, e = .returned (.tuple #[v, .int .i64 b, .int .i64 0]) ∧ w'.ownsRow w.heap.size 3 1 v l.length (m.map (Value.int .i64)) ∧ Below w.heap.size w w' := by
  refine (refSteps_all A c l limit up t w h).mono ?_
  rintro e w' ⟨hb, ⟨m', b', hr, v, rfl, ho⟩ | ⟨er, hr, _, rfl⟩⟩
  · rw [hs] at hr; injection hr with hr; injection hr with e1 e2; subst e1 e2
    exact ⟨v, rfl, ho, hb⟩
  · rw [hs] at hr; cases hr
theorem refSteps_err (A : Option Addr) (c : Nat) (l : List Int) (limit up t : Int) (w : World) (h : Ints w w.heap.size A c l) (er : Int) (hs : ARes l limit up t = .error er) :
    Calls Tryd.prog 54 #[.slice A l.length c, .int .i64 limit, .int .i64 up, .int .i64 t] w fun e w' => e = .returned (.tuple #[.slice none 0 0, .int .i64 0, .int .i64 er]) ∧ Below w.heap.size w w' := by
  refine (refSteps_all A c l limit up t w h).mono ?_
  rintro e w' ⟨hb, ⟨m', b', hr, v, rfl, ho⟩ | ⟨er', hr, _, rfl⟩⟩
  · rw [hs] at hr; cases hr
  · rw [hs] at hr; injection hr with e1; subst e1
    exact ⟨rfl, hb⟩
theorem aRun_ok (A : Option Addr) (c : Nat) (l : List Int) (limit up t : Int) (w : World) (h : Ints w w.heap.size A c l) (m : List Int) (b : Nat) (hs : ARes l limit up t = .ok (m, b)) :
    Calls Tryd.prog 55 #[.slice A l.length c, .int .i64 limit, .int .i64 up, .int .i64 t] w fun e w' => ∃ v, e = .returned (.tuple #[v, .nilIface]) ∧ w'.ownsRow w.heap.size 3 1 v l.length (m.map (Value.int .i64)) ∧ Below w.heap.size w w' := by
  refine (aRun_all A c l limit up t w h).mono ?_
  rintro e w' ⟨hb, ⟨m', b', hr, v, rfl, ho⟩ | ⟨er, hr, rfl⟩⟩
  · rw [hs] at hr; injection hr with hr; injection hr with e1 e2; subst e1 e2
    exact ⟨v, rfl, ho, hb⟩
  · rw [hs] at hr; cases hr
theorem aRun_err (A : Option Addr) (c : Nat) (l : List Int) (limit up t : Int) (w : World) (h : Ints w w.heap.size A c l) (er : Int) (hs : ARes l limit up t = .error er) :
    Calls Tryd.prog 55 #[.slice A l.length c, .int .i64 limit, .int .i64 up, .int .i64 t] w fun e w' => e = .returned (.tuple #[.slice none 0 0, .iface 124 (.int .i64 er)]) ∧ Below w.heap.size w w' := by
  refine (aRun_all A c l limit up t w h).mono ?_
  rintro e w' ⟨hb, ⟨m', b', hr, v, rfl, ho⟩ | ⟨er', hr, rfl⟩⟩
  · rw [hs] at hr; cases hr
  · rw [hs] at hr; injection hr with e1; subst e1
    exact ⟨rfl, hb⟩
theorem cuts_ok (A : Option Addr) (c : Nat) (l : List Int) (limit up t : Int) (w : World) (h : Ints w w.heap.size A c l) (m : List Int) (b : Nat) (hs : ARes l limit up t = .ok (m, b)) :
    Calls Tryd.prog 56 #[.slice A l.length c, .int .i64 limit, .int .i64 up, .int .i64 t] w fun e w' => e = .returned (.tuple #[.int .i64 b, .nilIface]) ∧ Below w.heap.size w w' := by
  refine (cuts_all A c l limit up t w h).mono ?_
  rintro e w' ⟨hb, ⟨m', b', hr, rfl⟩ | ⟨er, hr, rfl⟩⟩
  · rw [hs] at hr; injection hr with hr; injection hr with e1 e2; subst e1 e2
    exact ⟨rfl, hb⟩
  · rw [hs] at hr; cases hr
theorem cuts_err (A : Option Addr) (c : Nat) (l : List Int) (limit up t : Int) (w : World) (h : Ints w w.heap.size A c l) (er : Int) (hs : ARes l limit up t = .error er) :
    Calls Tryd.prog 56 #[.slice A l.length c, .int .i64 limit, .int .i64 up, .int .i64 t] w fun e w' => e = .returned (.tuple #[.int .i64 0, .iface 124 (.int .i64 er)]) ∧ Below w.heap.size w w' := by
  refine (cuts_all A c l limit up t w h).mono ?_
  rintro e w' ⟨hb, ⟨m', b', hr, rfl⟩ | ⟨er', hr, rfl⟩⟩
  · rw [hs] at hr; cases hr
  · rw [hs] at hr; injection hr with e1; subst e1
    exact ⟨rfl, hb⟩
set_option maxHeartbeats 4000000 in
set_option maxRecDepth 100000 in
theorem aimdTells_ok_ok (A : Option Addr) (c : Nat) (l : List Int) (limit up t : Int) (w : World) (hi : Ints w w.heap.size A c l) (hg : Laid w) (m0 : List Int) (b0 : Bool) (hs0 : SRes l limit up = .ok (m0, b0)) (m1 : List Int) (b1 : Nat) (hs1 : ARes l limit up t = .ok (m1, b1)) :
    Calls Tryd.prog 11 #[.slice A l.length c, .int .i64 limit, .int .i64 up, .int .i64 t] w fun e w' => e = .returned (.bool true) ∧ Below w.heap.size w w' := by
  have LAID := Lib.hid hg; clear hg
  have HI := Lib.hid hi; clear hi
  have HS0 := Lib.hid hs0; clear hs0
  have HS1 := Lib.hid hs1; clear hs1
  have HLM0 : l.length = m0.length → l.length = m0.length := id
  have HLM1 : l.length = m1.length → l.length = m1.length := id
  have BEL : Hid (Below w.heap.size w w) := Lib.hid (Below.refl _ _)
  have yB : w.heap.size ≤ w.heap.size := Nat.le_refl _
  go_enter Tryd.func11, Tryd.ntmps11
  go_wp2_with fail
  refine (refStep_ok A c l limit up _ ((HI.out.below (by repeat (first | with_reducible exact BEL.out | with_reducible apply Below.alloc | with_reducible apply Below.setCell | with_reducible apply Below.drew | with_reducible apply below_drewN | (first | omega | (focus (simp; done)) | (focus (simp; omega)) | (focus (simp [World.setCell]; omega))))) (Nat.le_refl _)).more (by (first | omega | (focus (simp; done)) | (focus (simp; omega)) | (focus (simp [World.setCell]; omega))))) m0 b0 HS0.out).mono ?_; rintro e w1 ⟨u0, rfl, ho0, hb1⟩
  have HO0 := Lib.hid ho0; clear ho0
  have z_w1 : w.heap.size ≤ w1.heap.size := Nat.le_trans (by first | with_reducible exact Nat.le_refl _ | (simp; done) | (simp; omega) | (simp [World.setCell]; done)) hb1.size
  replace BEL : Hid (Below w.heap.size w w1) := Lib.hid (Below.trans (by repeat (first | with_reducible exact BEL.out | with_reducible apply Below.alloc | with_reducible apply Below.setCell | with_reducible apply Below.drew | with_reducible apply below_drewN | (first | omega | (focus (simp; done)) | (focus (simp; omega)) | (focus (simp [World.setCell]; omega))))) (hb1.mono (by (first | omega | (focus (simp; done)) | (focus (simp; omega)) | (focus (simp [World.setCell]; omega))))))
  have y_w1 : w.heap.size ≤ w1.heap.size := BEL.out.size
  clear hb1
  obtain ⟨A0, c0, rfl, hln0, hi0⟩ := owns_ints' HO0.out
  have HI0 := Lib.hid hi0
  have HLN0 := Lib.hid hln0
  clear hln0 hi0
  go_wp2_with fail
  refine (aStep_ok A c l limit up _ ((HI.out.below (by repeat (first | with_reducible exact BEL.out | with_reducible apply Below.alloc | with_reducible apply Below.setCell | with_reducible apply Below.drew | with_reducible apply below_drewN | (first | omega | (focus (simp; done)) | (focus (simp; omega)) | (focus (simp [World.setCell]; omega))))) (Nat.le_refl _)).more (by (first | omega | (focus (simp; done)) | (focus (simp; omega)) | (focus (simp [World.setCell]; omega))))) m0 b0 HS0.out).mono ?_; rintro e w2 ⟨u1, rfl, ho1, hb2⟩
  have HO1 := Lib.hid ho1; clear ho1
  have HI0 := Lib.hid (HI0.out.below (hb2.mono (by (first | omega | (focus (simp; done)) | (focus (simp; omega)) | (focus (simp [World.setCell]; omega))))) (Nat.le_refl _))
  have z_w2 : w1.heap.size ≤ w2.heap.size := Nat.le_trans (by first | with_reducible exact Nat.le_refl _ | (simp; done) | (simp; omega) | (simp [World.setCell]; done)) hb2.size
  replace BEL : Hid (Below w.heap.size w w2) := Lib.hid (Below.trans (by repeat (first | with_reducible exact BEL.out | with_reducible apply Below.alloc | with_reducible apply Below.setCell | with_reducible apply Below.drew | with_reducible apply below_drewN | (first | omega | (focus (simp; done)) | (focus (simp; omega)) | (focus (simp [World.setCell]; omega))))) (hb2.mono (by (first | omega | (focus (simp; done)) | (focus (simp; omega)) | (focus (simp [World.setCell]; omega))))))
  have y_w2 : w.heap.size ≤ w2.heap.size := BEL.out.size
  clear hb2
  obtain ⟨A1, c1, rfl, hln1, hi1⟩ := owns_ints' HO1.out
  have HI1 := Lib.hid hi1
  have HLN1 := Lib.hid hln1
  clear hln1 hi1
  go_wp2_with fail
  refine (same_ok _).mono ?_; rintro e w3 ⟨rfl, hb3⟩
  have HI0 := Lib.hid (HI0.out.below (hb3.mono (by (first | omega | (focus (simp; done)) | (focus (simp; omega)) | (focus (simp [World.setCell]; omega))))) (Nat.le_refl _))
  have HI1 := Lib.hid (HI1.out.below (hb3.mono (by (first | omega | (focus (simp; done)) | (focus (simp; omega)) | (focus (simp [World.setCell]; omega))))) (Nat.le_refl _))
  have z_w3 : w2.heap.size ≤ w3.heap.size := Nat.le_trans (by first | with_reducible exact Nat.le_refl _ | (simp; done) | (simp; omega) | (simp [World.setCell]; done)) hb3.size
  replace BEL : Hid (Below w.heap.size w w3) := Lib.hid (Below.trans (by repeat (first | with_reducible exact BEL.out | with_reducible apply Below.alloc | with_reducible apply Below.setCell | with_reducible apply Below.drew | with_reducible apply below_drewN | (first | omega | (focus (simp; done)) | (focus (simp; omega)) | (focus (simp [World.setCell]; omega))))) (hb3.mono (by (first | omega | (focus (simp; done)) | (focus (simp; omega)) | (focus (simp [World.setCell]; omega))))))
  have y_w3 : w.heap.size ≤ w3.heap.size := BEL.out.size
  clear hb3
  go_wp2_with fail
  refine (sameInts_b _ _ _ _ _ _ m0 _ _ _ HI1.out HI0.out (HLM0 HLN1.out) (HLM0 HLN0.out)).mono ?_; rintro e w4 ⟨rfl, hb4⟩
  have z_w4 : w3.heap.size ≤ w4.heap.size := Nat.le_trans (by first | with_reducible exact Nat.le_refl _ | (simp; done) | (simp; omega) | (simp [World.setCell]; done)) hb4.size
  replace BEL : Hid (Below w.heap.size w w4) := Lib.hid (Below.trans (by repeat (first | with_reducible exact BEL.out | with_reducible apply Below.alloc | with_reducible apply Below.setCell | with_reducible apply Below.drew | with_reducible apply below_drewN | (first | omega | (focus (simp; done)) | (focus (simp; omega)) | (focus (simp [World.setCell]; omega))))) (hb4.mono (by (first | omega | (focus (simp; done)) | (focus (simp; omega)) | (focus (simp [World.setCell]; omega))))))
  have y_w4 : w.heap.size ≤ w4.heap.size := BEL.out.size
  clear hb4
  go_wp2_with fail
  refine (refSteps_ok A c l limit up t _ ((HI.out.below (by repeat (first | with_reducible exact BEL.out | with_reducible apply Below.alloc | with_reducible apply Below.setCell | with_reducible apply Below.drew | with_reducible apply below_drewN | (first | omega | (focus (simp; done)) | (focus (simp; omega)) | (focus (simp [World.setCell]; omega))))) (Nat.le_refl _)).more (by (first | omega | (focus (simp; done)) | (focus (simp; omega)) | (focus (simp [World.setCell]; omega))))) m1 b1 HS1.out).mono ?_; rintro e w5 ⟨u2, rfl, ho2, hb5⟩
  have HO2 := Lib.hid ho2; clear ho2
  have z_w5 : w4.heap.size ≤ w5.heap.size := Nat.le_trans (by first | with_reducible exact Nat.le_refl _ | (simp; done) | (simp; omega) | (simp [World.setCell]; done)) hb5.size
  replace BEL : Hid (Below w.heap.size w w5) := Lib.hid (Below.trans (by repeat (first | with_reducible exact BEL.out | with_reducible apply Below.alloc | with_reducible apply Below.setCell | with_reducible apply Below.drew | with_reducible apply below_drewN | (first | omega | (focus (simp; done)) | (focus (simp; omega)) | (focus (simp [World.setCell]; omega))))) (hb5.mono (by (first | omega | (focus (simp; done)) | (focus (simp; omega)) | (focus (simp [World.setCell]; omega))))))
  have y_w5 : w.heap.size ≤ w5.heap.size := BEL.out.size
  clear hb5
  obtain ⟨A2, c2, rfl, hln2, hi2⟩ := owns_ints' HO2.out
  have HI2 := Lib.hid hi2
  have HLN2 := Lib.hid hln2
  clear hln2 hi2
  go_wp2_with fail
  refine (aRun_ok A c l limit up t _ ((HI.out.below (by repeat (first | with_reducible exact BEL.out | with_reducible apply Below.alloc | with_reducible apply Below.setCell | with_reducible apply Below.drew | with_reducible apply below_drewN | (first | omega | (focus (simp; done)) | (focus (simp; omega)) | (focus (simp [World.setCell]; omega))))) (Nat.le_refl _)).more (by (first | omega | (focus (simp; done)) | (focus (simp; omega)) | (focus (simp [World.setCell]; omega))))) m1 b1 HS1.out).mono ?_; rintro e w6 ⟨u3, rfl, ho3, hb6⟩
  have HO3 := Lib.hid ho3; clear ho3
  have HI2 := Lib.hid (HI2.out.below (hb6.mono (by (first | omega | (focus (simp; done)) | (focus (simp; omega)) | (focus (simp [World.setCell]; omega))))) (Nat.le_refl _))
  have z_w6 : w5.heap.size ≤ w6.heap.size := Nat.le_trans (by first | with_reducible exact Nat.le_refl _ | (simp; done) | (simp; omega) | (simp [World.setCell]; done)) hb6.size
  replace BEL : Hid (Below w.heap.size w w6) := Lib.hid (Below.trans (by repeat (first | with_reducible exact BEL.out | with_reducible apply Below.alloc | with_reducible apply Below.setCell | with_reducible apply Below.drew | with_reducible apply below_drewN | (first | omega | (focus (simp; done)) | (focus (simp; omega)) | (focus (simp [World.setCell]; omega))))) (hb6.mono (by (first | omega | (focus (simp; done)) | (focus (simp; omega)) | (focus (simp [World.setCell]; omega))))))
  have y_w6 : w.heap.size ≤ w6.heap.size := BEL.out.size
  clear hb6
  obtain ⟨A3, c3, rfl, hln3, hi3⟩ := owns_ints' HO3.out
  have HI3 := Lib.hid hi3
  have HLN3 := Lib.hid hln3
  clear hln3 hi3
  go_wp2_with fail
  refine (same_ok _).mono ?_; rintro e w7 ⟨rfl, hb7⟩
  have HI2 := Lib.hid (HI2.out.below (hb7.mono (by (first | omega | (focus (simp; done)) | (focus (simp; omega)) | (focus (simp [World.setCell]; omega))))) (Nat.le_refl _))
  have HI3 := Lib.hid (HI3.out.below (hb7.mono (by (first | omega | (focus (simp; done)) | (focus (simp; omega)) | (focus (simp [World.setCell]; omega))))) (Nat.le_refl _))
  have z_w7 : w6.heap.size ≤ w7.heap.size := Nat.le_trans (by first | with_reducible exact Nat.le_refl _ | (simp; done) | (simp; omega) | (simp [World.setCell]; done)) hb7.size
  replace BEL : Hid (Below w.heap.size w w7) := Lib.hid (Below.trans (by repeat (first | with_reducible exact BEL.out | with_reducible apply Below.alloc | with_reducible apply Below.setCell | with_reducible apply Below.drew | with_reducible apply below_drewN | (first | omega | (focus (simp; done)) | (focus (simp; omega)) | (focus (simp [World.setCell]; omega))))) (hb7.mono (by (first | omega | (focus (simp; done)) | (focus (simp; omega)) | (focus (simp [World.setCell]; omega))))))
  have y_w7 : w.heap.size ≤ w7.heap.size := BEL.out.size
  clear hb7
  go_wp2_with fail
  refine (sameInts_b _ _ _ _ _ _ m1 _ _ _ HI3.out HI2.out (HLM1 HLN3.out) (HLM1 HLN2.out)).mono ?_; rintro e w8 ⟨rfl, hb8⟩
  have z_w8 : w7.heap.size ≤ w8.heap.size := Nat.le_trans (by first | with_reducible exact Nat.le_refl _ | (simp; done) | (simp; omega) | (simp [World.setCell]; done)) hb8.size
  replace BEL : Hid (Below w.heap.size w w8) := Lib.hid (Below.trans (by repeat (first | with_reducible exact BEL.out | with_reducible apply Below.alloc | with_reducible apply Below.setCell | with_reducible apply Below.drew | with_reducible apply below_drewN | (first | omega | (focus (simp; done)) | (focus (simp; omega)) | (focus (simp [World.setCell]; omega))))) (hb8.mono (by (first | omega | (focus (simp; done)) | (focus (simp; omega)) | (focus (simp [World.setCell]; omega))))))
  have y_w8 : w.heap.size ≤ w8.heap.size := BEL.out.size
  clear hb8
  go_wp2_with fail
  refine (cuts_ok A c l limit up t _ ((HI.out.below (by repeat (first | with_reducible exact BEL.out | with_reducible apply Below.alloc | with_reducible apply Below.setCell | with_reducible apply Below.drew | with_reducible apply below_drewN | (first | omega | (focus (simp; done)) | (focus (simp; omega)) | (focus (simp [World.setCell]; omega))))) (Nat.le_refl _)).more (by (first | omega | (focus (simp; done)) | (focus (simp; omega)) | (focus (simp [World.setCell]; omega))))) m1 b1 HS1.out).mono ?_; rintro e w9 ⟨rfl, hb9⟩
  have z_w9 : w8.heap.size ≤ w9.heap.size := Nat.le_trans (by first | with_reducible exact Nat.le_refl _ | (simp; done) | (simp; omega) | (simp [World.setCell]; done)) hb9.size
  replace BEL : Hid (Below w.heap.size w w9) := Lib.hid (Below.trans (by repeat (first | with_reducible exact BEL.out | with_reducible apply Below.alloc | with_reducible apply Below.setCell | with_reducible apply Below.drew | with_reducible apply below_drewN | (first | omega | (focus (simp; done)) | (focus (simp; omega)) | (focus (simp [World.setCell]; omega))))) (hb9.mono (by (first | omega | (focus (simp; done)) | (focus (simp; omega)) | (focus (simp [World.setCell]; omega))))))
  have y_w9 : w.heap.size ≤ w9.heap.size := BEL.out.size
  clear hb9
  go_wp2_with fail
  refine (same_ok _).mono ?_; rintro e w10 ⟨rfl, hb10⟩
  have z_w10 : w9.heap.size ≤ w10.heap.size := Nat.le_trans (by first | with_reducible exact Nat.le_refl _ | (simp; done) | (simp; omega) | (simp [World.setCell]; done)) hb10.size
  replace BEL : Hid (Below w.heap.size w w10) := Lib.hid (Below.trans (by repeat (first | with_reducible exact BEL.out | with_reducible apply Below.alloc | with_reducible apply Below.setCell | with_reducible apply Below.drew | with_reducible apply below_drewN | (first | omega | (focus (simp; done)) | (focus (simp; omega)) | (focus (simp [World.setCell]; omega))))) (hb10.mono (by (first | omega | (focus (simp; done)) | (focus (simp; omega)) | (focus (simp [World.setCell]; omega))))))
  have y_w10 : w.heap.size ≤ w10.heap.size := BEL.out.size
  clear hb10
  go_wp2
  go_ret
  exact ⟨rfl, (by repeat (first | with_reducible exact BEL.out | with_reducible apply Below.alloc | with_reducible apply Below.setCell | with_reducible apply Below.drew | with_reducible apply below_drewN | (first | omega | (focus (simp; done)) | (focus (simp; omega)) | (focus (simp [World.setCell]; omega)))))⟩
set_option maxHeartbeats 4000000 in
set_option maxRecDepth 100000 in
theorem aimdTells_ok_err (A : Option Addr) (c : Nat) (l : List Int) (limit up t : Int) (w : World) (hi : Ints w w.heap.size A c l) (hg : Laid w) (m0 : List Int) (b0 : Bool) (hs0 : SRes l limit up = .ok (m0, b0)) (er1 : Int) (hs1 : ARes l limit up t = .error er1) :
    Calls Tryd.prog 11 #[.slice A l.length c, .int .i64 limit, .int .i64 up, .int .i64 t] w fun e w' => e = .returned (.bool true) ∧ Below w.heap.size w w' := by
  have LAID := Lib.hid hg; clear hg
  have HI := Lib.hid hi; clear hi
  have HS0 := Lib.hid hs0; clear hs0
  have HS1 := Lib.hid hs1; clear hs1
  have HLM0 : l.length = m0.length → l.length = m0.length := id
  have BEL : Hid (Below w.heap.size w w) := Lib.hid (Below.refl _ _)
  have yB : w.heap.size ≤ w.heap.size := Nat.le_refl _
  go_enter Tryd.func11, Tryd.ntmps11
  go_wp2_with fail
  refine (refStep_ok A c l limit up _ ((HI.out.below (by repeat (first | with_reducible exact BEL.out | with_reducible apply Below.alloc | with_reducible apply Below.setCell | with_reducible apply Below.drew | with_reducible apply below_drewN | (first | omega | (focus (simp; done)) | (focus (simp; omega)) | (focus (simp [World.setCell]; omega))))) (Nat.le_refl _)).more (by (first | omega | (focus (simp; done)) | (focus (simp; omega)) | (focus (simp [World.setCell]; omega))))) m0 b0 HS0.out).mono ?_; rintro e w1 ⟨u0, rfl, ho0, hb1⟩
  have HO0 := Lib.hid ho0; clear ho0
  have z_w1 : w.heap.size ≤ w1.heap.size := Nat.le_trans (by first | with_reducible exact Nat.le_refl _ | (simp; done) | (simp; omega) | (simp [World.setCell]; done)) hb1.size
  replace BEL : Hid (Below w.heap.size w w1) := Lib.hid (Below.trans (by repeat (first | with_reducible exact BEL.out | with_reducible apply Below.alloc | with_reducible apply Below.setCell | with_reducible apply Below.drew | with_reducible apply below_drewN | (first | omega | (focus (simp; done)) | (focus (simp; omega)) | (focus (simp [World.setCell]; omega))))) (hb1.mono (by (first | omega | (focus (simp; done)) | (focus (simp; omega)) | (focus (simp [World.setCell]; omega))))))
  have y_w1 : w.heap.size ≤ w1.heap.size := BEL.out.size
  clear hb1
  obtain ⟨A0, c0, rfl, hln0, hi0⟩ := owns_ints' HO0.out
  have HI0 := Lib.hid hi0
  have HLN0 := Lib.hid hln0
  clear hln0 hi0
  go_wp2_with fail
  refine (aStep_ok A c l limit up _ ((HI.out.below (by repeat (first | with_reducible exact BEL.out | with_reducible apply Below.alloc | with_reducible apply Below.setCell | with_reducible apply Below.drew | with_reducible apply below_drewN | (first | omega | (focus (simp; done)) | (focus (simp; omega)) | (focus (simp [World.setCell]; omega))))) (Nat.le_refl _)).more (by (first | omega | (focus (simp; done)) | (focus (simp; omega)) | (focus (simp [World.setCell]; omega))))) m0 b0 HS0.out).mono ?_; rintro e w2 ⟨u1, rfl, ho1, hb2⟩
  have HO1 := Lib.hid ho1; clear ho1
  have HI0 := Lib.hid (HI0.out.below (hb2.mono (by (first | omega | (focus (simp; done)) | (focus (simp; omega)) | (focus (simp [World.setCell]; omega))))) (Nat.le_refl _))
  have z_w2 : w1.heap.size ≤ w2.heap.size := Nat.le_trans (by first | with_reducible exact Nat.le_refl _ | (simp; done) | (simp; omega) | (simp [World.setCell]; done)) hb2.size
  replace BEL : Hid (Below w.heap.size w w2) := Lib.hid (Below.trans (by repeat (first | with_reducible exact BEL.out | with_reducible apply Below.alloc | with_reducible apply Below.setCell | with_reducible apply Below.drew | with_reducible apply below_drewN | (first | omega | (focus (simp; done)) | (focus (simp; omega)) | (focus (simp [World.setCell]; omega))))) (hb2.mono (by (first | omega | (focus (simp; done)) | (focus (simp; omega)) | (focus (simp [World.setCell]; omega))))))
  have y_w2 : w.heap.size ≤ w2.heap.size := BEL.out.size
  clear hb2
  obtain ⟨A1, c1, rfl, hln1, hi1⟩ := owns_ints' HO1.out
  have HI1 := Lib.hid hi1
  have HLN1 := Lib.hid hln1
  clear hln1 hi1
  go_wp2_with fail
  refine (same_ok _).mono ?_; rintro e w3 ⟨rfl, hb3⟩
  have HI0 := Lib.hid (HI0.out.below (hb3.mono (by (first | omega | (focus (simp; done)) | (focus (simp; omega)) | (focus (simp [World.setCell]; omega))))) (Nat.le_refl _))
  have HI1 := Lib.hid (HI1.out.below (hb3.mono (by (first | omega | (focus (simp; done)) | (focus (simp; omega)) | (focus (simp [World.setCell]; omega))))) (Nat.le_refl _))
  have z_w3 : w2.heap.size ≤ w3.heap.size := Nat.le_trans (by first | with_reducible exact Nat.le_refl _ | (simp; done) | (simp; omega) | (simp [World.setCell]; done)) hb3.size
  replace BEL : Hid (Below w.heap.size w w3) := Lib.hid (Below.trans (by repeat (first | with_reducible exact BEL.out | with_reducible apply Below.alloc | with_reducible apply Below.setCell | with_reducible apply Below.drew | with_reducible apply below_drewN | (first | omega | (focus (simp; done)) | (focus (simp; omega)) | (focus (simp [World.setCell]; omega))))) (hb3.mono (by (first | omega | (focus (simp; done)) | (focus (simp; omega)) | (focus (simp [World.setCell]; omega))))))
  have y_w3 : w.heap.size ≤ w3.heap.size := BEL.out.size
  clear hb3
  go_wp2_with fail
  refine (sameInts_b _ _ _ _ _ _ m0 _ _ _ HI1.out HI0.out (HLM0 HLN1.out) (HLM0 HLN0.out)).mono ?_; rintro e w4 ⟨rfl, hb4⟩
  have z_w4 : w3.heap.size ≤ w4.heap.size := Nat.le_trans (by first | with_reducible exact Nat.le_refl _ | (simp; done) | (simp; omega) | (simp [World.setCell]; done)) hb4.size
  replace BEL : Hid (Below w.heap.size w w4) := Lib.hid (Below.trans (by repeat (first | with_reducible exact BEL.out | with_reducible apply Below.alloc | with_reducible apply Below.setCell | with_reducible apply Below.drew | with_reducible apply below_drewN | (first | omega | (focus (simp; done)) | (focus (simp; omega)) | (focus (simp [World.setCell]; omega))))) (hb4.mono (by (first | omega | (focus (simp; done)) | (focus (simp; omega)) | (focus (simp [World.setCell]; omega))))))
  have y_w4 : w.heap.size ≤ w4.heap.size := BEL.out.size
  clear hb4
  go_wp2_with fail
  refine (refSteps_err A c l limit up t _ ((HI.out.below (by repeat (first | with_reducible exact BEL.out | with_reducible apply Below.alloc | with_reducible apply Below.setCell | with_reducible apply Below.drew | with_reducible apply below_drewN | (first | omega | (focus (simp; done)) | (focus (simp; omega)) | (focus (simp [World.setCell]; omega))))) (Nat.le_refl _)).more (by (first | omega | (focus (simp; done)) | (focus (simp; omega)) | (focus (simp [World.setCell]; omega))))) er1 HS1.out).mono ?_; rintro e w5 ⟨rfl, hb5⟩
  have z_w5 : w4.heap.size ≤ w5.heap.size := Nat.le_trans (by first | with_reducible exact Nat.le_refl _ | (simp; done) | (simp; omega) | (simp [World.setCell]; done)) hb5.size
  replace BEL : Hid (Below w.heap.size w w5) := Lib.hid (Below.trans (by repeat (first | with_reducible exact BEL.out | with_reducible apply Below.alloc | with_reducible apply Below.setCell | with_reducible apply Below.drew | with_reducible apply below_drewN | (first | omega | (focus (simp; done)) | (focus (simp; omega)) | (focus (simp [World.setCell]; omega))))) (hb5.mono (by (first | omega | (focus (simp; done)) | (focus (simp; omega)) | (focus (simp [World.setCell]; omega))))))
  have y_w5 : w.heap.size ≤ w5.heap.size := BEL.out.size
  clear hb5
  go_wp2_with fail
  refine (aRun_err A c l limit up t _ ((HI.out.below (by repeat (first | with_reducible exact BEL.out | with_reducible apply Below.alloc | with_reducible apply Below.setCell | with_reducible apply Below.drew | with_reducible apply below_drewN | (first | omega | (focus (simp; done)) | (focus (simp; omega)) | (focus (simp [World.setCell]; omega))))) (Nat.le_refl _)).more (by (first | omega | (focus (simp; done)) | (focus (simp; omega)) | (focus (simp [World.setCell]; omega))))) er1 HS1.out).mono ?_; rintro e w6 ⟨rfl, hb6⟩
  have z_w6 : w5.heap.size ≤ w6.heap.size := Nat.le_trans (by first | with_reducible exact Nat.le_refl _ | (simp; done) | (simp; omega) | (simp [World.setCell]; done)) hb6.size
  replace BEL : Hid (Below w.heap.size w w6) := Lib.hid (Below.trans (by repeat (first | with_reducible exact BEL.out | with_reducible apply Below.alloc | with_reducible apply Below.setCell | with_reducible apply Below.drew | with_reducible apply below_drewN | (first | omega | (focus (simp; done)) | (focus (simp; omega)) | (focus (simp [World.setCell]; omega))))) (hb6.mono (by (first | omega | (focus (simp; done)) | (focus (simp; omega)) | (focus (simp [World.setCell]; omega))))))
  have y_w6 : w.heap.size ≤ w6.heap.size := BEL.out.size
  clear hb6
  go_wp2_with fail
  refine (same_hit er1 _ (LAID.out.below (by repeat (first | with_reducible exact BEL.out | with_reducible apply Below.alloc | with_reducible apply Below.setCell | with_reducible apply Below.drew | with_reducible apply below_drewN | (first | omega | (focus (simp; done)) | (focus (simp; omega)) | (focus (simp [World.setCell]; omega))))))).mono ?_; rintro e w7 ⟨rfl, hb7⟩
  have z_w7 : w6.heap.size ≤ w7.heap.size := Nat.le_trans (by first | with_reducible exact Nat.le_refl _ | (simp; done) | (simp; omega) | (simp [World.setCell]; done)) hb7.size
  replace BEL : Hid (Below w.heap.size w w7) := Lib.hid (Below.trans (by repeat (first | with_reducible exact BEL.out | with_reducible apply Below.alloc | with_reducible apply Below.setCell | with_reducible apply Below.drew | with_reducible apply below_drewN | (first | omega | (focus (simp; done)) | (focus (simp; omega)) | (focus (simp [World.setCell]; omega))))) (hb7.mono (by (first | omega | (focus (simp; done)) | (focus (simp; omega)) | (focus (simp [World.setCell]; omega))))))
  have y_w7 : w.heap.size ≤ w7.heap.size := BEL.out.size
  clear hb7
  go_wp2_with fail
  refine (sameInts_nil _).mono ?_; rintro e w8 ⟨rfl, hb8⟩
  have z_w8 : w7.heap.size ≤ w8.heap.size := Nat.le_trans (by first | with_reducible exact Nat.le_refl _ | (simp; done) | (simp; omega) | (simp [World.setCell]; done)) hb8.size
  replace BEL : Hid (Below w.heap.size w w8) := Lib.hid (Below.trans (by repeat (first | with_reducible exact BEL.out | with_reducible apply Below.alloc | with_reducible apply Below.setCell | with_reducible apply Below.drew | with_reducible apply below_drewN | (first | omega | (focus (simp; done)) | (focus (simp; omega)) | (focus (simp [World.setCell]; omega))))) (hb8.mono (by (first | omega | (focus (simp; done)) | (focus (simp; omega)) | (focus (simp [World.setCell]; omega))))))
  have y_w8 : w.heap.size ≤ w8.heap.size := BEL.out.size
  clear hb8
  go_wp2_with fail
  refine (cuts_err A c l limit up t _ ((HI.out.below (by repeat (first | with_reducible exact BEL.out | with_reducible apply Below.alloc | with_reducible apply Below.setCell | with_reducible apply Below.drew | with_reducible apply below_drewN | (first | omega | (focus (simp; done)) | (focus (simp; omega)) | (focus (simp [World.setCell]; omega))))) (Nat.le_refl _)).more (by (first | omega | (focus (simp; done)) | (focus (simp; omega)) | (focus (simp [World.setCell]; omega))))) er1 HS1.out).mono ?_; rintro e w9 ⟨rfl, hb9⟩
  have z_w9 : w8.heap.size ≤ w9.heap.size := Nat.le_trans (by first | with_reducible exact Nat.le_refl _ | (simp; done) | (simp; omega) | (simp [World.setCell]; done)) hb9.size
  replace BEL : Hid (Below w.heap.size w w9) := Lib.hid (Below.trans (by repeat (first | with_reducible exact BEL.out | with_reducible apply Below.alloc | with_reducible apply Below.setCell | with_reducible apply Below.drew | with_reducible apply below_drewN | (first | omega | (focus (simp; done)) | (focus (simp; omega)) | (focus (simp [World.setCell]; omega))))) (hb9.mono (by (first | omega | (focus (simp; done)) | (focus (simp; omega)) | (focus (simp [World.setCell]; omega))))))
  have y_w9 : w.heap.size ≤ w9.heap.size := BEL.out.size
  clear hb9
  go_wp2_with fail
  refine (same_hit er1 _ (LAID.out.below (by repeat (first | with_reducible exact BEL.out | with_reducible apply Below.alloc | with_reducible apply Below.setCell | with_reducible apply Below.drew | with_reducible apply below_drewN | (first | omega | (focus (simp; done)) | (focus (simp; omega)) | (focus (simp [World.setCell]; omega))))))).mono ?_; rintro e w10 ⟨rfl, hb10⟩
  have z_w10 : w9.heap.size ≤ w10.heap.size := Nat.le_trans (by first | with_reducible exact Nat.le_refl _ | (simp; done) | (simp; omega) | (simp [World.setCell]; done)) hb10.size
  replace BEL : Hid (Below w.heap.size w w10) := Lib.hid (Below.trans (by repeat (first | with_reducible exact BEL.out | with_reducible apply Below.alloc | with_reducible apply Below.setCell | with_reducible apply Below.drew | with_reducible apply below_drewN | (first | omega | (focus (simp; done)) | (focus (simp; omega)) | (focus (simp [World.setCell]; omega))))) (hb10.mono (by (first | omega | (focus (simp; done)) | (focus (simp; omega)) | (focus (simp [World.setCell]; omega))))))
  have y_w10 : w.heap.size ≤ w10.heap.size := BEL.out.size
  clear hb10
  go_wp2
  go_ret
  exact ⟨rfl, (by repeat (first | with_reducible exact BEL.out | with_reducible apply Below.alloc | with_reducible apply Below.setCell | with_reducible apply Below.drew | with_reducible apply below_drewN | (first | omega | (focus (simp; done)) | (focus (simp; omega)) | (focus (simp [World.setCell]; omega)))))⟩
set_option maxHeartbeats 4000000 in
set_option maxRecDepth 100000 in
theorem aimdTells_err_ok (A : Option Addr) (c : Nat) (l : List Int) (limit up t : Int) (w : World) (hi : Ints w w.heap.size A c l) (hg : Laid w) (er0 : Int) (hs0 : SRes l limit up = .error er0) (m1 : List Int) (b1 : Nat) (hs1 : ARes l limit up t = .ok (m1, b1)) :
    Calls Tryd.prog 11 #[.slice A l.length c, .int .i64 limit, .int .i64 up, .int .i64 t] w fun e w' => e = .returned (.bool true) ∧ Below w.heap.size w w' := by
  have LAID := Lib.hid hg; clear hg
  have HI := Lib.hid hi; clear hi
  have HS0 := Lib.hid hs0; clear hs0
  have HS1 := Lib.hid hs1; clear hs1
  have HLM1 : l.length = m1.length → l.length = m1.length := id
  have BEL : Hid (Below w.heap.size w w) := Lib.hid (Below.refl _ _)
  have yB : w.heap.size ≤ w.heap.size := Nat.le_refl _
  go_enter Tryd.func11, Tryd.ntmps11
  go_wp2_with fail
  refine (refStep_err A c l limit up _ ((HI.out.below (by repeat (first | with_reducible exact BEL.out | with_reducible apply Below.alloc | with_reducible apply Below.setCell | with_reducible apply Below.drew | with_reducible apply below_drewN | (first | omega | (focus (simp; done)) | (focus (simp; omega)) | (focus (simp [World.setCell]; omega))))) (Nat.le_refl _)).more (by (first | omega | (focus (simp; done)) | (focus (simp; omega)) | (focus (simp [World.setCell]; omega))))) er0 HS0.out).mono ?_; rintro e w1 ⟨rfl, hb1⟩
  have z_w1 : w.heap.size ≤ w1.heap.size := Nat.le_trans (by first | with_reducible exact Nat.le_refl _ | (simp; done) | (simp; omega) | (simp [World.setCell]; done)) hb1.size
  replace BEL : Hid (Below w.heap.size w w1) := Lib.hid (Below.trans (by repeat (first | with_reducible exact BEL.out | with_reducible apply Below.alloc | with_reducible apply Below.setCell | with_reducible apply Below.drew | with_reducible apply below_drewN | (first | omega | (focus (simp; done)) | (focus (simp; omega)) | (focus (simp [World.setCell]; omega))))) (hb1.mono (by (first | omega | (focus (simp; done)) | (focus (simp; omega)) | (focus (simp [World.setCell]; omega))))))
  have y_w1 : w.heap.size ≤ w1.heap.size := BEL.out.size
  clear hb1
  go_wp2_with fail
  refine (aStep_err A c l limit up _ ((HI.out.below (by repeat (first | with_reducible exact BEL.out | with_reducible apply Below.alloc | with_reducible apply Below.setCell | with_reducible apply Below.drew | with_reducible apply below_drewN | (first | omega | (focus (simp; done)) | (focus (simp; omega)) | (focus (simp [World.setCell]; omega))))) (Nat.le_refl _)).more (by (first | omega | (focus (simp; done)) | (focus (simp; omega)) | (focus (simp [World.setCell]; omega))))) er0 HS0.out).mono ?_; rintro e w2 ⟨rfl, hb2⟩
  have z_w2 : w1.heap.size ≤ w2.heap.size := Nat.le_trans (by first | with_reducible exact Nat.le_refl _ | (simp; done) | (simp; omega) | (simp [World.setCell]; done)) hb2.size
  replace BEL : Hid (Below w.heap.size w w2) := Lib.hid (Below.trans (by repeat (first | with_reducible exact BEL.out | with_reducible apply Below.alloc | with_reducible apply Below.setCell | with_reducible apply Below.drew | with_reducible apply below_drewN | (first | omega | (focus (simp; done)) | (focus (simp; omega)) | (focus (simp [World.setCell]; omega))))) (hb2.mono (by (first | omega | (focus (simp; done)) | (focus (simp; omega)) | (focus (simp [World.setCell]; omega))))))
  have y_w2 : w.heap.size ≤ w2.heap.size := BEL.out.size
  clear hb2
  go_wp2_with fail
  refine (same_hit er0 _ (LAID.out.below (by repeat (first | with_reducible exact BEL.out | with_reducible apply Below.alloc | with_reducible apply Below.setCell | with_reducible apply Below.drew | with_reducible apply below_drewN | (first | omega | (focus (simp; done)) | (focus (simp; omega)) | (focus (simp [World.setCell]; omega))))))).mono ?_; rintro e w3 ⟨rfl, hb3⟩
  have z_w3 : w2.heap.size ≤ w3.heap.size := Nat.le_trans (by first | with_reducible exact Nat.le_refl _ | (simp; done) | (simp; omega) | (simp [World.setCell]; done)) hb3.size
  replace BEL : Hid (Below w.heap.size w w3) := Lib.hid (Below.trans (by repeat (first | with_reducible exact BEL.out | with_reducible apply Below.alloc | with_reducible apply Below.setCell | with_reducible apply Below.drew | with_reducible apply below_drewN | (first | omega | (focus (simp; done)) | (focus (simp; omega)) | (focus (simp [World.setCell]; omega))))) (hb3.mono (by (first | omega | (focus (simp; done)) | (focus (simp; omega)) | (focus (simp [World.setCell]; omega))))))
  have y_w3 : w.heap.size ≤ w3.heap.size := BEL.out.size
  clear hb3
  go_wp2_with fail
  refine (sameInts_nil _).mono ?_; rintro e w4 ⟨rfl, hb4⟩
  have z_w4 : w3.heap.size ≤ w4.heap.size := Nat.le_trans (by first | with_reducible exact Nat.le_refl _ | (simp; done) | (simp; omega) | (simp [World.setCell]; done)) hb4.size
  replace BEL : Hid (Below w.heap.size w w4) := Lib.hid (Below.trans (by repeat (first | with_reducible exact BEL.out | with_reducible apply Below.alloc | with_reducible apply Below.setCell | with_reducible apply Below.drew | with_reducible apply below_drewN | (first | omega | (focus (simp; done)) | (focus (simp; omega)) | (focus (simp [World.setCell]; omega))))) (hb4.mono (by (first | omega | (focus (simp; done)) | (focus (simp; omega)) | (focus (simp [World.setCell]; omega))))))
  have y_w4 : w.heap.size ≤ w4.heap.size := BEL.out.size
  clear hb4
  go_wp2_with fail
  refine (refSteps_ok A c l limit up t _ ((HI.out.below (by repeat (first | with_reducible exact BEL.out | with_reducible apply Below.alloc | with_reducible apply Below.setCell | with_reducible apply Below.drew | with_reducible apply below_drewN | (first | omega | (focus (simp; done)) | (focus (simp; omega)) | (focus (simp [World.setCell]; omega))))) (Nat.le_refl _)).more (by (first | omega | (focus (simp; done)) | (focus (simp; omega)) | (focus (simp [World.setCell]; omega))))) m1 b1 HS1.out).mono ?_; rintro e w5 ⟨u2, rfl, ho2, hb5⟩
  have HO2 := Lib.hid ho2; clear ho2
  have z_w5 : w4.heap.size ≤ w5.heap.size := Nat.le_trans (by first | with_reducible exact Nat.le_refl _ | (simp; done) | (simp; omega) | (simp [World.setCell]; done)) hb5.size
  replace BEL : Hid (Below w.heap.size w w5) := Lib.hid (Below.trans (by repeat (first | with_reducible exact BEL.out | with_reducible apply Below.alloc | with_reducible apply Below.setCell | with_reducible apply Below.drew | with_reducible apply below_drewN | (first | omega | (focus (simp; done)) | (focus (simp; omega)) | (focus (simp [World.setCell]; omega))))) (hb5.mono (by (first | omega | (focus (simp; done)) | (focus (simp; omega)) | (focus (simp [World.setCell]; omega))))))
  have y_w5 : w.heap.size ≤ w5.heap.size := BEL.out.size
  clear hb5
  obtain ⟨A2, c2, rfl, hln2, hi2⟩ := owns_ints' HO2.out
  have HI2 := Lib.hid hi2
  have HLN2 := Lib.hid hln2
  clear hln2 hi2
  go_wp2_with fail
  refine (aRun_ok A c l limit up t _ ((HI.out.below (by repeat (first | with_reducible exact BEL.out | with_reducible apply Below.alloc | with_reducible apply Below.setCell | with_reducible apply Below.drew | with_reducible apply below_drewN | (first | omega | (focus (simp; done)) | (focus (simp; omega)) | (focus (simp [World.setCell]; omega))))) (Nat.le_refl _)).more (by (first | omega | (focus (simp; done)) | (focus (simp; omega)) | (focus (simp [World.setCell]; omega))))) m1 b1 HS1.out).mono ?_; rintro e w6 ⟨u3, rfl, ho3, hb6⟩
  have HO3 := Lib.hid ho3; clear ho3
  have HI2 := Lib.hid (HI2.out.below (hb6.mono (by (first | omega | (focus (simp; done)) | (focus (simp; omega)) | (focus (simp [World.setCell]; omega))))) (Nat.le_refl _))
  have z_w6 : w5.heap.size ≤ w6.heap.size := Nat.le_trans (by first | with_reducible exact Nat.le_refl _ | (simp; done) | (simp; omega) | (simp [World.setCell]; done)) hb6.size
  replace BEL : Hid (Below w.heap.size w w6) := Lib.hid (Below.trans (by repeat (first | with_reducible exact BEL.out | with_reducible apply Below.alloc | with_reducible apply Below.setCell | with_reducible apply Below.drew | with_reducible apply below_drewN | (first | omega | (focus (simp; done)) | (focus (simp; omega)) | (focus (simp [World.setCell]; omega))))) (hb6.mono (by (first | omega | (focus (simp; done)) | (focus (simp; omega)) | (focus (simp [World.setCell]; omega))))))
  have y_w6 : w.heap.size ≤ w6.heap.size := BEL.out.size
  clear hb6
  obtain ⟨A3, c3, rfl, hln3, hi3⟩ := owns_ints' HO3.out
  have HI3 := Lib.hid hi3
  have HLN3 := Lib.hid hln3
  clear hln3 hi3
  go_wp2_with fail
  refine (same_ok _).mono ?_; rintro e w7 ⟨rfl, hb7⟩
  have HI2 := Lib.hid (HI2.out.below (hb7.mono (by (first | omega | (focus (simp; done)) | (focus (simp; omega)) | (focus (simp [World.setCell]; omega))))) (Nat.le_refl _))
  have HI3 := Lib.hid (HI3.out.below (hb7.mono (by (first | omega | (focus (simp; done)) | (focus (simp; omega)) | (focus (simp [World.setCell]; omega))))) (Nat.le_refl _))
  have z_w7 : w6.heap.size ≤ w7.heap.size := Nat.le_trans (by first | with_reducible exact Nat.le_refl _ | (simp; done) | (simp; omega) | (simp [World.setCell]; done)) hb7.size
  replace BEL : Hid (Below w.heap.size w w7) := Lib.hid (Below.trans (by repeat (first | with_reducible exact BEL.out | with_reducible apply Below.alloc | with_reducible apply Below.setCell | with_reducible apply Below.drew | with_reducible apply below_drewN | (first | omega | (focus (simp; done)) | (focus (simp; omega)) | (focus (simp [World.setCell]; omega))))) (hb7.mono (by (first | omega | (focus (simp; done)) | (focus (simp; omega)) | (focus (simp [World.setCell]; omega))))))
  have y_w7 : w.heap.size ≤ w7.heap.size := BEL.out.size
  clear hb7
  go_wp2_with fail
  refine (sameInts_b _ _ _ _ _ _ m1 _ _ _ HI3.out HI2.out (HLM1 HLN3.out) (HLM1 HLN2.out)).mono ?_; rintro e w8 ⟨rfl, hb8⟩
  have z_w8 : w7.heap.size ≤ w8.heap.size := Nat.le_trans (by first | with_reducible exact Nat.le_refl _ | (simp; done) | (simp; omega) | (simp [World.setCell]; done)) hb8.size
  replace BEL : Hid (Below w.heap.size w w8) := Lib.hid (Below.trans (by repeat (first | with_reducible exact BEL.out | with_reducible apply Below.alloc | with_reducible apply Below.setCell | with_reducible apply Below.drew | with_reducible apply below_drewN | (first | omega | (focus (simp; done)) | (focus (simp; omega)) | (focus (simp [World.setCell]; omega))))) (hb8.mono (by (first | omega | (focus (simp; done)) | (focus (simp; omega)) | (focus (simp [World.setCell]; omega))))))
  have y_w8 : w.heap.size ≤ w8.heap.size := BEL.out.size
  clear hb8
  go_wp2_with fail
  refine (cuts_ok A c l limit up t _ ((HI.out.below (by repeat (first | with_reducible exact BEL.out | with_reducible apply Below.alloc | with_reducible apply Below.setCell | with_reducible apply Below.drew | with_reducible apply below_drewN | (first | omega | (focus (simp; done)) | (focus (simp; omega)) | (focus (simp [World.setCell]; omega))))) (Nat.le_refl _)).more (by (first | omega | (focus (simp; done)) | (focus (simp; omega)) | (focus (simp [World.setCell]; omega))))) m1 b1 HS1.out).mono ?_; rintro e w9 ⟨rfl, hb9⟩
  have z_w9 : w8.heap.size ≤ w9.heap.size := Nat.le_trans (by first | with_reducible exact Nat.le_refl _ | (simp; done) | (simp; omega) | (simp [World.setCell]; done)) hb9.size
  replace BEL : Hid (Below w.heap.size w w9) := Lib.hid (Below.trans (by repeat (first | with_reducible exact BEL.out | with_reducible apply Below.alloc | with_reducible apply Below.setCell | with_reducible apply Below.drew | with_reducible apply below_drewN | (first | omega | (focus (simp; done)) | (focus (simp; omega)) | (focus (simp [World.setCell]; omega))))) (hb9.mono (by (first | omega | (focus (simp; done)) | (focus (simp; omega)) | (focus (simp [World.setCell]; omega))))))
  have y_w9 : w.heap.size ≤ w9.heap.size := BEL.out.size
  clear hb9
  go_wp2_with fail
  refine (same_ok _).mono ?_; rintro e w10 ⟨rfl, hb10⟩
  have z_w10 : w9.heap.size ≤ w10.heap.size := Nat.le_trans (by first | with_reducible exact Nat.le_refl _ | (simp; done) | (simp; omega) | (simp [World.setCell]; done)) hb10.size
  replace BEL : Hid (Below w.heap.size w w10) := Lib.hid (Below.trans (by repeat (first | with_reducible exact BEL.out | with_reducible apply Below.alloc | with_reducible apply Below.setCell | with_reducible apply Below.drew | with_reducible apply below_drewN | (first | omega | (focus (simp; done)) | (focus (simp; omega)) | (focus (simp [World.setCell]; omega))))) (hb10.mono (by (first | omega | (focus (simp; done)) | (focus (simp; omega)) | (focus (simp [World.setCell]; omega))))))
  have y_w10 : w.heap.size ≤ w10.heap.size := BEL.out.size
  clear hb10
  go_wp2
  go_ret
  exact ⟨rfl, (by repeat (first | with_reducible exact BEL.out | with_reducible apply Below.alloc | with_reducible apply Below.setCell | with_reducible apply Below.drew | with_reducible apply below_drewN | (first | omega | (focus (simp; done)) | (focus (simp; omega)) | (focus (simp [World.setCell]; omega)))))⟩
set_option maxHeartbeats 4000000 in
set_option maxRecDepth 100000 in
theorem aimdTells_err_err (A : Option Addr) (c : Nat) (l : List Int) (limit up t : Int) (w : World) (hi : Ints w w.heap.size A c l) (hg : Laid w) (er0 : Int) (hs0 : SRes l limit up = .error er0) (er1 : Int) (hs1 : ARes l limit up t = .error er1) :
    Calls Tryd.prog 11 #[.slice A l.length c, .int .i64 limit, .int .i64 up, .int .i64 t] w fun e w' => e = .returned (.bool true) ∧ Below w.heap.size w w' := by
  have LAID := Lib.hid hg; clear hg
  have HI := Lib.hid hi; clear hi
  have HS0 := Lib.hid hs0; clear hs0
  have HS1 := Lib.hid hs1; clear hs1
  have BEL : Hid (Below w.heap.size w w) := Lib.hid (Below.refl _ _)
  have yB : w.heap.size ≤ w.heap.size := Nat.le_refl _
  go_enter Tryd.func11, Tryd.ntmps11
  go_wp2_with fail
  refine (refStep_err A c l limit up _ ((HI.out.below (by repeat (first | with_reducible exact BEL.out | with_reducible apply Below.alloc | with_reducible apply Below.setCell | with_reducible apply Below.drew | with_reducible apply below_drewN | (first | omega | (focus (simp; done)) | (focus (simp; omega)) | (focus (simp [World.setCell]; omega))))) (Nat.le_refl _)).more (by (first | omega | (focus (simp; done)) | (focus (simp; omega)) | (focus (simp [World.setCell]; omega))))) er0 HS0.out).mono ?_; rintro e w1 ⟨rfl, hb1⟩
  have z_w1 : w.heap.size ≤ w1.heap.size := Nat.le_trans (by first | with_reducible exact Nat.le_refl _ | (simp; done) | (simp; omega) | (simp [World.setCell]; done)) hb1.size
  replace BEL : Hid (Below w.heap.size w w1) := Lib.hid (Below.trans (by repeat (first | with_reducible exact BEL.out | with_reducible apply Below.alloc | with_reducible apply Below.setCell | with_reducible apply Below.drew | with_reducible apply below_drewN | (first | omega | (focus (simp; done)) | (focus (simp; omega)) | (focus (simp [World.setCell]; omega))))) (hb1.mono (by (first | omega | (focus (simp; done)) | (focus (simp; omega)) | (focus (simp [World.setCell]; omega))))))
  have y_w1 : w.heap.size ≤ w1.heap.size := BEL.out.size
  clear hb1
  go_wp2_with fail
  refine (aStep_err A c l limit up _ ((HI.out.below (by repeat (first | with_reducible exact BEL.out | with_reducible apply Below.alloc | with_reducible apply Below.setCell | with_reducible apply Below.drew | with_reducible apply below_drewN | (first | omega | (focus (simp; done)) | (focus (simp; omega)) | (focus (simp [World.setCell]; omega))))) (Nat.le_refl _)).more (by (first | omega | (focus (simp; done)) | (focus (simp; omega)) | (focus (simp [World.setCell]; omega))))) er0 HS0.out).mono ?_; rintro e w2 ⟨rfl, hb2⟩
  have z_w2 : w1.heap.size ≤ w2.heap.size := Nat.le_trans (by first | with_reducible exact Nat.le_refl _ | (simp; done) | (simp; omega) | (simp [World.setCell]; done)) hb2.size
  replace BEL : Hid (Below w.heap.size w w2) := Lib.hid (Below.trans (by repeat (first | with_reducible exact BEL.out | with_reducible apply Below.alloc | with_reducible apply Below.setCell | with_reducible apply Below.drew | with_reducible apply below_drewN | (first | omega | (focus (simp; done)) | (focus (simp; omega)) | (focus (simp [World.setCell]; omega))))) (hb2.mono (by (first | omega | (focus (simp; done)) | (focus (simp; omega)) | (focus (simp [World.setCell]; omega))))))
  have y_w2 : w.heap.size ≤ w2.heap.size := BEL.out.size
  clear hb2
  go_wp2_with fail
  refine (same_hit er0 _ (LAID.out.below (by repeat (first | with_reducible exact BEL.out | with_reducible apply Below.alloc | with_reducible apply Below.setCell | with_reducible apply Below.drew | with_reducible apply below_drewN | (first | omega | (focus (simp; done)) | (focus (simp; omega)) | (focus (simp [World.setCell]; omega))))))).mono ?_; rintro e w3 ⟨rfl, hb3⟩
  have z_w3 : w2.heap.size ≤ w3.heap.size := Nat.le_trans (by first | with_reducible exact Nat.le_refl _ | (simp; done) | (simp; omega) | (simp [World.setCell]; done)) hb3.size
  replace BEL : Hid (Below w.heap.size w w3) := Lib.hid (Below.trans (by repeat (first | with_reducible exact BEL.out | with_reducible apply Below.alloc | with_reducible apply Below.setCell | with_reducible apply Below.drew | with_reducible apply below_drewN | (first | omega | (focus (simp; done)) | (focus (simp; omega)) | (focus (simp [World.setCell]; omega))))) (hb3.mono (by (first | omega | (focus (simp; done)) | (focus (simp; omega)) | (focus (simp [World.setCell]; omega))))))
  have y_w3 : w.heap.size ≤ w3.heap.size := BEL.out.size
  clear hb3
  go_wp2_with fail
  refine (sameInts_nil _).mono ?_; rintro e w4 ⟨rfl, hb4⟩
  have z_w4 : w3.heap.size ≤ w4.heap.size := Nat.le_trans (by first | with_reducible exact Nat.le_refl _ | (simp; done) | (simp; omega) | (simp [World.setCell]; done)) hb4.size
  replace BEL : Hid (Below w.heap.size w w4) := Lib.hid (Below.trans (by repeat (first | with_reducible exact BEL.out | with_reducible apply Below.alloc | with_reducible apply Below.setCell | with_reducible apply Below.drew | with_reducible apply below_drewN | (first | omega | (focus (simp; done)) | (focus (simp; omega)) | (focus (simp [World.setCell]; omega))))) (hb4.mono (by (first | omega | (focus (simp; done)) | (focus (simp; omega)) | (focus (simp [World.setCell]; omega))))))
  have y_w4 : w.heap.size ≤ w4.heap.size := BEL.out.size
  clear hb4
  go_wp2_with fail
  refine (refSteps_err A c l limit up t _ ((HI.out.below (by repeat (first | with_reducible exact BEL.out | with_reducible apply Below.alloc | with_reducible apply Below.setCell | with_reducible apply Below.drew | with_reducible apply below_drewN | (first | omega | (focus (simp; done)) | (focus (simp; omega)) | (focus (simp [World.setCell]; omega))))) (Nat.le_refl _)).more (by (first | omega | (focus (simp; done)) | (focus (simp; omega)) | (focus (simp [World.setCell]; omega))))) er1 HS1.out).mono ?_; rintro e w5 ⟨rfl, hb5⟩
  have z_w5 : w4.heap.size ≤ w5.heap.size := Nat.le_trans (by first | with_reducible exact Nat.le_refl _ | (simp; done) | (simp; omega) | (simp [World.setCell]; done)) hb5.size
  replace BEL : Hid (Below w.heap.size w w5) := Lib.hid (Below.trans (by repeat (first | with_reducible exact BEL.out | with_reducible apply Below.alloc | with_reducible apply Below.setCell | with_reducible apply Below.drew | with_reducible apply below_drewN | (first | omega | (focus (simp; done)) | (focus (simp; omega)) | (focus (simp [World.setCell]; omega))))) (hb5.mono (by (first | omega | (focus (simp; done)) | (focus (simp; omega)) | (focus (simp [World.setCell]; omega))))))
  have y_w5 : w.heap.size ≤ w5.heap.size := BEL.out.size
  clear hb5
  go_wp2_with fail
  refine (aRun_err A c l limit up t _ ((HI.out.below (by repeat (first | with_reducible exact BEL.out | with_reducible apply Below.alloc | with_reducible apply Below.setCell | with_reducible apply Below.drew | with_reducible apply below_drewN | (first | omega | (focus (simp; done)) | (focus (simp; omega)) | (focus (simp [World.setCell]; omega))))) (Nat.le_refl _)).more (by (first | omega | (focus (simp; done)) | (focus (simp; omega)) | (focus (simp [World.setCell]; omega))))) er1 HS1.out).mono ?_; rintro e w6 ⟨rfl, hb6⟩
  have z_w6 : w5.heap.size ≤ w6.heap.size := Nat.le_trans (by first | with_reducible exact Nat.le_refl _ | (simp; done) | (simp; omega) | (simp [World.setCell]; done)) hb6.size
  replace BEL : Hid (Below w.heap.size w w6) := Lib.hid (Below.trans (by repeat (first | with_reducible exact BEL.out | with_reducible apply Below.alloc | with_reducible apply Below.setCell | with_reducible apply Below.drew | with_reducible apply below_drewN | (first | omega | (focus (simp; done)) | (focus (simp; omega)) | (focus (simp [World.setCell]; omega))))) (hb6.mono (by (first | omega | (focus (simp; done)) | (focus (simp; omega)) | (focus (simp [World.setCell]; omega))))))
  have y_w6 : w.heap.size ≤ w6.heap.size := BEL.out.size
  clear hb6
  go_wp2_with fail
  refine (same_hit er1 _ (LAID.out.below (by repeat (first | with_reducible exact BEL.out | with_reducible apply Below.alloc | with_reducible apply Below.setCell | with_reducible apply Below.drew | with_reducible apply below_drewN | (first | omega | (focus (simp; done)) | (focus (simp; omega)) | (focus (simp [World.setCell]; omega))))))).mono ?_; rintro e w7 ⟨rfl, hb7⟩
  have z_w7 : w6.heap.size ≤ w7.heap.size := Nat.le_trans (by first | with_reducible exact Nat.le_refl _ | (simp; done) | (simp; omega) | (simp [World.setCell]; done)) hb7.size
  replace BEL : Hid (Below w.heap.size w w7) := Lib.hid (Below.trans (by repeat (first | with_reducible exact BEL.out | with_reducible apply Below.alloc | with_reducible apply Below.setCell | with_reducible apply Below.drew | with_reducible apply below_drewN | (first | omega | (focus (simp; done)) | (focus (simp; omega)) | (focus (simp [World.setCell]; omega))))) (hb7.mono (by (first | omega | (focus (simp; done)) | (focus (simp; omega)) | (focus (simp [World.setCell]; omega))))))
  have y_w7 : w.heap.size ≤ w7.heap.size := BEL.out.size
  clear hb7
  go_wp2_with fail
  refine (sameInts_nil _).mono ?_; rintro e w8 ⟨rfl, hb8⟩
  have z_w8 : w7.heap.size ≤ w8.heap.size := Nat.le_trans (by first | with_reducible exact Nat.le_refl _ | (simp; done) | (simp; omega) | (simp [World.setCell]; done)) hb8.size
  replace BEL : Hid (Below w.heap.size w w8) := Lib.hid (Below.trans (by repeat (first | with_reducible exact BEL.out | with_reducible apply Below.alloc | with_reducible apply Below.setCell | with_reducible apply Below.drew | with_reducible apply below_drewN | (first | omega | (focus (simp; done)) | (focus (simp; omega)) | (focus (simp [World.setCell]; omega))))) (hb8.mono (by (first | omega | (focus (simp; done)) | (focus (simp; omega)) | (focus (simp [World.setCell]; omega))))))
  have y_w8 : w.heap.size ≤ w8.heap.size := BEL.out.size
  clear hb8
  go_wp2_with fail
  refine (cuts_err A c l limit up t _ ((HI.out.below (by repeat (first | with_reducible exact BEL.out | with_reducible apply Below.alloc | with_reducible apply Below.setCell | with_reducible apply Below.drew | with_reducible apply below_drewN | (first | omega | (focus (simp; done)) | (focus (simp; omega)) | (focus (simp [World.setCell]; omega))))) (Nat.le_refl _)).more (by (first | omega | (focus (simp; done)) | (focus (simp; omega)) | (focus (simp [World.setCell]; omega))))) er1 HS1.out).mono ?_; rintro e w9 ⟨rfl, hb9⟩
  have z_w9 : w8.heap.size ≤ w9.heap.size := Nat.le_trans (by first | with_reducible exact Nat.le_refl _ | (simp; done) | (simp; omega) | (simp [World.setCell]; done)) hb9.size
  replace BEL : Hid (Below w.heap.size w w9) := Lib.hid (Below.trans (by repeat (first | with_reducible exact BEL.out | with_reducible apply Below.alloc | with_reducible apply Below.setCell | with_reducible apply Below.drew | with_reducible apply below_drewN | (first | omega | (focus (simp; done)) | (focus (simp; omega)) | (focus (simp [World.setCell]; omega))))) (hb9.mono (by (first | omega | (focus (simp; done)) | (focus (simp; omega)) | (focus (simp [World.setCell]; omega))))))
  have y_w9 : w.heap.size ≤ w9.heap.size := BEL.out.size
  clear hb9
  go_wp2_with fail
  refine (same_hit er1 _ (LAID.out.below (by repeat (first | with_reducible exact BEL.out | with_reducible apply Below.alloc | with_reducible apply Below.setCell | with_reducible apply Below.drew | with_reducible apply below_drewN | (first | omega | (focus (simp; done)) | (focus (simp; omega)) | (focus (simp [World.setCell]; omega))))))).mono ?_; rintro e w10 ⟨rfl, hb10⟩
  have z_w10 : w9.heap.size ≤ w10.heap.size := Nat.le_trans (by first | with_reducible exact Nat.le_refl _ | (simp; done) | (simp; omega) | (simp [World.setCell]; done)) hb10.size
  replace BEL : Hid (Below w.heap.size w w10) := Lib.hid (Below.trans (by repeat (first | with_reducible exact BEL.out | with_reducible apply Below.alloc | with_reducible apply Below.setCell | with_reducible apply Below.drew | with_reducible apply below_drewN | (first | omega | (focus (simp; done)) | (focus (simp; omega)) | (focus (simp [World.setCell]; omega))))) (hb10.mono (by (first | omega | (focus (simp; done)) | (focus (simp; omega)) | (focus (simp [World.setCell]; omega))))))
  have y_w10 : w.heap.size ≤ w10.heap.size := BEL.out.size
  clear hb10
  go_wp2
  go_ret
  exact ⟨rfl, (by repeat (first | with_reducible exact BEL.out | with_reducible apply Below.alloc | with_reducible apply Below.setCell | with_reducible apply Below.drew | with_reducible apply below_drewN | (first | omega | (focus (simp; done)) | (focus (simp; omega)) | (focus (simp [World.setCell]; omega)))))⟩
theorem aimdTells_walk {w : World} (A : Option Addr) (c : Nat) (l : List Int) (hi : Ints w w.heap.size A c l) (_ : ∀ x ∈ l, (Lit.int .i64 x).wf = true) (limit : Int) (_ : (Lit.int .i64 limit).wf = true) (up : Int) (_ : (Lit.int .i64 up).wf = true) (t : Int) (_ : (Lit.int .i64 t).wf = true) (hg : Laid w) :
    Calls Tryd.prog 11 #[.slice A l.length c, .int .i64 limit, .int .i64 up, .int .i64 t] w fun e w' => e = .returned (.bool true) ∧ Below w.heap.size w w' := by
  cases hs0 : SRes l limit up with
  | ok p =>
    obtain ⟨m0, b0⟩ := p
    cases hs1 : ARes l limit up t with
    | ok q => obtain ⟨m1, b1⟩ := q; exact aimdTells_ok_ok A c l limit up t w hi hg m0 b0 hs0 m1 b1 hs1
    | error e1 => exact aimdTells_ok_err A c l limit up t w hi hg m0 b0 hs0 e1 hs1
  | error e0 =>
    cases hs1 : ARes l limit up t with
    | ok q => obtain ⟨m1, b1⟩ := q; exact aimdTells_err_ok A c l limit up t w hi hg e0 hs0 m1 b1 hs1
    | error e1 => exact aimdTells_err_err A c l limit up t w hi hg e0 hs0 e1 hs1
end Go.Proofs.YtkheobdkmmbjnaaDoor
