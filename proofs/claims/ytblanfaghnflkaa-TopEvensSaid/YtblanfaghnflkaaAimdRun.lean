/- aimd.run, Run, Cuts, Step. -/
import Derived.Test.YtblanfaghnflkaaAimdStep
namespace Go.Proofs.Ytblanfaghnflkaa
open Go.RowKit
attribute [local go_sem ↓] run_min_mn run_max_mx
set_option maxHeartbeats 1000000 in
theorem astep_any (A : Option Addr) (c : Nat) (l : List Int) (limit up : Int) (w : World) (h : Ints w w.heap.size A c l) (hb : ∀ a ∈ l, 0 ≤ a ∧ a ≤ 10000) (hl : l.length ≤ 6) (h0 : 0 < l.length) (hu0 : 0 ≤ up) (hu1 : up ≤ 1000) :
    Calls Try.prog 68 #[.slice A l.length c, .int .i64 limit, .int .i64 up] w fun e w' => Below w.heap.size w w' ∧
      ((∃ m b, PA.step l limit up = some (m, b) ∧ ∃ v, e = .returned (.tuple #[v, .bool b, .nilIface]) ∧ w'.ownsRow w.heap.size 3 1 v l.length (m.map (Value.int .i64))) ∨
       PA.step l limit up = none ∧ e = .returned (.tuple #[.slice none 0 0, .bool false, .iface 71 (.int .i64 4)])) := by
  by_cases hlim : limit < tot l
  · refine (astep_cut A c l limit up w h hb hl h0 hlim).mono ?_
    rintro e w' ⟨v, rfl, ho, hbel⟩
    exact ⟨hbel, .inl ⟨_, true, by unfold PA.step; rw [if_pos hlim], v, rfl, ho⟩⟩
  · refine (astep_up A c l limit up w h hb hl h0 (by omega) hu0 hu1).mono ?_
    rintro e w' ⟨hbel, ⟨hall, v, rfl, ho⟩ | ⟨hall, rfl⟩⟩
    · exact ⟨hbel, .inl ⟨_, false, by unfold PA.step; rw [if_neg hlim, if_pos hall], v, rfl, ho⟩⟩
    · exact ⟨hbel, .inr ⟨by unfold PA.step; rw [if_neg hlim, if_neg (by rw [hall]; simp)], rfl⟩⟩
/-- what so many steps give -/
def RunsTo (l : List Int) (limit up : Int) (n : Nat) (r : Option (List Int × Nat)) : Prop := PA.steps limit up n l = r
theorem steps_none {l : List Int} {limit up : Int} : ∀ n k, PA.steps limit up n l = none → PA.steps limit up (n + k) l = none
  | n, 0, h => h
  | n, k + 1, h => by
    show (match PA.steps limit up (n + k) l with | none => none | some (m, c) => _) = none
    rw [steps_none n k h]
end Go.Proofs.Ytblanfaghnflkaa
