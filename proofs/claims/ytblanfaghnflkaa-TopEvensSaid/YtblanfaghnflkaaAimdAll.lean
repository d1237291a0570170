/- aimd.Step, Run, Cuts: what they answer, whatever they are asked. -/
import Derived.Test.YtblanfaghnflkaaAimdRun
namespace Go.Proofs.Ytblanfaghnflkaa
open Go.RowKit
attribute [local go_sem ↓] run_min_mn run_max_mx
instance (l : List Int) (limit up : Int) : Decidable (AimdOk l limit up) := by unfold AimdOk SharesOk; infer_instance
/-- the answer of so many steps -/
def ARes (l : List Int) (limit up t : Int) : Except Int (List Int × Nat) :=
  if t < 0 ∨ 60 < t then .error 1 else if ¬ AimdOk l limit up then .error (aimdErr l limit up) else match PA.steps limit up t.toNat l with
    | none => .error 4
    | some r => .ok r
/-- the answer of one step -/
def SRes (l : List Int) (limit up : Int) : Except Int (List Int × Bool) :=
  if ¬ AimdOk l limit up then .error (aimdErr l limit up) else match PA.step l limit up with
    | none => .error 4
    | some r => .ok r
/-- aimd.Step -/
theorem aStep_all (A : Option Addr) (c : Nat) (l : List Int) (limit up : Int) (w : World) (h : Ints w w.heap.size A c l) :
    Calls Try.prog 33 #[.slice A l.length c, .int .i64 limit, .int .i64 up] w fun e w' => Below w.heap.size w w' ∧
      ((∃ m b, SRes l limit up = .ok (m, b) ∧ ∃ v, e = .returned (.tuple #[v, .nilIface]) ∧ w'.ownsRow w.heap.size 3 1 v l.length (m.map (Value.int .i64))) ∨
       (∃ er, SRes l limit up = .error er ∧ e = .returned (.tuple #[.slice none 0 0, .iface 71 (.int .i64 er)]))) := by
  by_cases ok : AimdOk l limit up
  · have ea : SRes l limit up = match PA.step l limit up with | none => .error 4 | some r => .ok r := by
      unfold SRes; rw [if_neg (fun h => h ok)]
    have HE := Lib.hid ea
    have HC := Lib.hid (acheck_yes A c l limit up w.heap.size w h ok)
    obtain ⟨⟨h0, hl, hbad⟩, g1, g2, g3, g4⟩ := ok
    have HS := Lib.hid (astep_any A c l limit up w h (shares_in hbad) hl h0 (by omega) g4)
    clear h hbad ea
    go_enter Try.func33, Try.ntmps33
    go_wp2_with fail
    refine HC.out.mono ?_; rintro e w' ⟨rfl, rfl⟩
    go_wp2_with fail
    refine HS.out.mono ?_
    rintro e w' ⟨hb, ⟨m, b, hs, v, rfl, ho⟩ | ⟨hs, rfl⟩⟩
    · go_wp2
      go_ret2
      exact ⟨hb, .inl ⟨m, b, by rw [HE.out, hs], _, rfl, ho⟩⟩
    · go_wp2
      go_ret2
      exact ⟨hb, .inr ⟨4, by rw [HE.out, hs], rfl⟩⟩
  · have ea : SRes l limit up = .error (aimdErr l limit up) := by
      unfold SRes; rw [if_pos ok]
    rw [ea]
    have HC := Lib.hid (acheck_no A c l limit up w.heap.size w h ok)
    clear h ok ea
    generalize aimdErr l limit up = er at *
    go_enter Try.func33, Try.ntmps33
    go_wp2_with fail
    refine HC.out.mono ?_; rintro e w' ⟨rfl, rfl⟩
    go_wp2
    go_ret2
    exact ⟨Below.refl _ _, .inr ⟨er, rfl, rfl⟩⟩
end Go.Proofs.Ytblanfaghnflkaa
