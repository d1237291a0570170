/- aimd.Step, Run, Cuts: what they answer, whatever they are asked. -/
import Derived.Test.YtkheobdkmmbjnaaDoorAimdRun
namespace Go.Proofs.YtkheobdkmmbjnaaDoor
open Go.RowKit
attribute [local go_sem ↓] run_min_mn run_max_mx
instance (l : List Int) (limit up : Int) : Decidable (AimdOk l limit up) := by unfold AimdOk SharesOk; infer_instance
/-- the answer of so many steps -/
def ARes (l : List Int) (limit up t : Int) : Except Int (List Int × Nat) :=
  if t < 0 ∨ 60 < t then .error 1 else if ¬ AimdOk l limit up then .error (aimdErr l limit up) else match PA.steps limit up t.toNat l with
    | none => .error 4
    | some r => .ok r
/-- the answer of one step -/
def SRes (l : List Int) (limit up : Int) : Except Int (List Int × Bool) :=
  if ¬ AimdOk l limit up then .error (aimdErr l limit up) else match PA.step l limit up with
    | none => .error 4
    | some r => .ok r
theorem arun_ticks (A : Option Addr) (c n : Nat) (limit up t : Int) (w : World) (ht : t < 0 ∨ 60 < t) :
    Calls Tryd.prog 95 #[.slice A n c, .int .i64 limit, .int .i64 up, .int .i64 t] w fun e w' => e = .returned (.tuple #[.slice none 0 0, .int .i64 0, .iface 124 (.int .i64 1)]) ∧ w = w' := by
  rcases ht with h | h
  · go_enter Tryd.func95, Tryd.ntmps95
    go_wp2
    go_ret3
    exact ⟨rfl, rfl⟩
  · have h0 : ¬ t < 0 := by omega
    go_enter Tryd.func95, Tryd.ntmps95
    go_wp2
    go_ret3
    exact ⟨rfl, rfl⟩
theorem arun_no (A : Option Addr) (c : Nat) (l : List Int) (limit up t : Int) (w : World) (h : Ints w w.heap.size A c l) (no : ¬ AimdOk l limit up) (t0 : 0 ≤ t) (t1 : t ≤ 60) :
    Calls Tryd.prog 95 #[.slice A l.length c, .int .i64 limit, .int .i64 up, .int .i64 t] w fun e w' => e = .returned (.tuple #[.slice none 0 0, .int .i64 0, .iface 124 (.int .i64 (aimdErr l limit up))]) ∧ w = w' := by
  have HC := Lib.hid (acheck_no A c l limit up w.heap.size w h no)
  clear h no
  generalize aimdErr l limit up = er at *
  go_enter Tryd.func95, Tryd.ntmps95
  go_wp2_with fail
  refine HC.out.mono ?_; rintro e w' ⟨rfl, rfl⟩
  go_wp2
  go_ret3
  exact ⟨rfl, rfl⟩
theorem arun_all (A : Option Addr) (c : Nat) (l : List Int) (limit up t : Int) (w : World) (h : Ints w w.heap.size A c l) :
    Calls Tryd.prog 95 #[.slice A l.length c, .int .i64 limit, .int .i64 up, .int .i64 t] w fun e w' => Below w.heap.size w w' ∧
      ((∃ m b, ARes l limit up t = .ok (m, b) ∧ ∃ v, e = .returned (.tuple #[v, .int .i64 b, .nilIface]) ∧ w'.ownsRow w.heap.size 3 1 v l.length (m.map (Value.int .i64))) ∨
       (∃ er, ARes l limit up t = .error er ∧ e = .returned (.tuple #[.slice none 0 0, .int .i64 0, .iface 124 (.int .i64 er)]))) := by
  by_cases ht : t < 0 ∨ 60 < t
  · refine (arun_ticks A c l.length limit up t w ht).mono ?_
    rintro e w' ⟨rfl, rfl⟩
    exact ⟨Below.refl _ _, .inr ⟨1, by unfold ARes; rw [if_pos ht], rfl⟩⟩
  · by_cases ok : AimdOk l limit up
    · have e : t = (t.toNat : Int) := by omega
      have ea : ARes l limit up t = match PA.steps limit up t.toNat l with | none => .error 4 | some r => .ok r := by
        unfold ARes; rw [if_neg ht, if_neg (fun h => h ok)]
      rw [ea]
      generalize t.toNat = n at *
      subst e
      refine (arun_any A c l limit up n w h ok (by omega)).mono ?_
      rintro e w' ⟨hb, ⟨m, b, hs, v, rfl, ho⟩ | ⟨hs, rfl⟩⟩
      · exact ⟨hb, .inl ⟨m, b, by rw [hs], v, rfl, ho⟩⟩
      · exact ⟨hb, .inr ⟨4, by rw [hs], rfl⟩⟩
    · refine (arun_no A c l limit up t w h ok (by omega) (by omega)).mono ?_
      rintro e w' ⟨rfl, rfl⟩
      exact ⟨Below.refl _ _, .inr ⟨_, by unfold ARes; rw [if_neg ht, if_pos ok], rfl⟩⟩
/-- aimd.Run -/
theorem aRun_all (A : Option Addr) (c : Nat) (l : List Int) (limit up t : Int) (w : World) (h : Ints w w.heap.size A c l) :
    Calls Tryd.prog 55 #[.slice A l.length c, .int .i64 limit, .int .i64 up, .int .i64 t] w fun e w' => Below w.heap.size w w' ∧
      ((∃ m b, ARes l limit up t = .ok (m, b) ∧ ∃ v, e = .returned (.tuple #[v, .nilIface]) ∧ w'.ownsRow w.heap.size 3 1 v l.length (m.map (Value.int .i64))) ∨
       (∃ er, ARes l limit up t = .error er ∧ e = .returned (.tuple #[.slice none 0 0, .iface 124 (.int .i64 er)]))) := by
  have HC := Lib.hid (arun_all A c l limit up t w h); clear h
  go_enter Tryd.func55, Tryd.ntmps55
  go_wp2_with fail
  refine HC.out.mono ?_
  rintro e w' ⟨hb, ⟨m, b, hs, v, rfl, ho⟩ | ⟨er, hs, rfl⟩⟩
  · go_wp2
    go_ret2
    exact ⟨hb, .inl ⟨m, b, hs, _, rfl, ho⟩⟩
  · go_wp2
    go_ret2
    exact ⟨hb, .inr ⟨er, hs, rfl⟩⟩
/-- aimd.Cuts -/
theorem cuts_all (A : Option Addr) (c : Nat) (l : List Int) (limit up t : Int) (w : World) (h : Ints w w.heap.size A c l) :
    Calls Tryd.prog 56 #[.slice A l.length c, .int .i64 limit, .int .i64 up, .int .i64 t] w fun e w' => Below w.heap.size w w' ∧
      ((∃ m b, ARes l limit up t = .ok (m, b) ∧ e = .returned (.tuple #[.int .i64 b, .nilIface])) ∨
       (∃ er, ARes l limit up t = .error er ∧ e = .returned (.tuple #[.int .i64 0, .iface 124 (.int .i64 er)]))) := by
  have HC := Lib.hid (arun_all A c l limit up t w h); clear h
  go_enter Tryd.func56, Tryd.ntmps56
  go_wp2_with fail
  refine HC.out.mono ?_
  rintro e w' ⟨hb, ⟨m, b, hs, v, rfl, ho⟩ | ⟨er, hs, rfl⟩⟩
  · go_wp2
    go_ret2
    exact ⟨hb, .inl ⟨m, b, hs, rfl⟩⟩
  · go_wp2
    go_ret2
    exact ⟨hb, .inr ⟨er, hs, rfl⟩⟩
/-- aimd.Step -/
theorem aStep_all (A : Option Addr) (c : Nat) (l : List Int) (limit up : Int) (w : World) (h : Ints w w.heap.size A c l) :
    Calls Tryd.prog 53 #[.slice A l.length c, .int .i64 limit, .int .i64 up] w fun e w' => Below w.heap.size w w' ∧
      ((∃ m b, SRes l limit up = .ok (m, b) ∧ ∃ v, e = .returned (.tuple #[v, .nilIface]) ∧ w'.ownsRow w.heap.size 3 1 v l.length (m.map (Value.int .i64))) ∨
       (∃ er, SRes l limit up = .error er ∧ e = .returned (.tuple #[.slice none 0 0, .iface 124 (.int .i64 er)]))) := by
  by_cases ok : AimdOk l limit up
  · have ea : SRes l limit up = match PA.step l limit up with | none => .error 4 | some r => .ok r := by
      unfold SRes; rw [if_neg (fun h => h ok)]
    have HE := Lib.hid ea
    have HC := Lib.hid (acheck_yes A c l limit up w.heap.size w h ok)
    obtain ⟨⟨h0, hl, hbad⟩, g1, g2, g3, g4⟩ := ok
    have HS := Lib.hid (astep_any A c l limit up w h (shares_in hbad) hl h0 (by omega) g4)
    clear h hbad ea
    go_enter Tryd.func53, Tryd.ntmps53
    go_wp2_with fail
    refine HC.out.mono ?_; rintro e w' ⟨rfl, rfl⟩
    go_wp2_with fail
    refine HS.out.mono ?_
    rintro e w' ⟨hb, ⟨m, b, hs, v, rfl, ho⟩ | ⟨hs, rfl⟩⟩
    · go_wp2
      go_ret2
      exact ⟨hb, .inl ⟨m, b, by rw [HE.out, hs], _, rfl, ho⟩⟩
    · go_wp2
      go_ret2
      exact ⟨hb, .inr ⟨4, by rw [HE.out, hs], rfl⟩⟩
  · have ea : SRes l limit up = .error (aimdErr l limit up) := by
      unfold SRes; rw [if_pos ok]
    rw [ea]
    have HC := Lib.hid (acheck_no A c l limit up w.heap.size w h ok)
    clear h ok ea
    generalize aimdErr l limit up = er at *
    go_enter Tryd.func53, Tryd.ntmps53
    go_wp2_with fail
    refine HC.out.mono ?_; rintro e w' ⟨rfl, rfl⟩
    go_wp2
    go_ret2
    exact ⟨Below.refl _ _, .inr ⟨er, rfl, rfl⟩⟩
end Go.Proofs.YtkheobdkmmbjnaaDoor
