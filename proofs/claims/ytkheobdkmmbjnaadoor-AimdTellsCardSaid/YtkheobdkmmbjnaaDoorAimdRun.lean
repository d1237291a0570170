/- aimd.run, Run, Cuts, Step. -/
import Derived.Test.YtkheobdkmmbjnaaDoorAimdStep
namespace Go.Proofs.YtkheobdkmmbjnaaDoor
open Go.RowKit
attribute [local go_sem ↓] run_min_mn run_max_mx
set_option maxHeartbeats 1000000 in
theorem astep_any (A : Option Addr) (c : Nat) (l : List Int) (limit up : Int) (w : World) (h : Ints w w.heap.size A c l) (hb : ∀ a ∈ l, 0 ≤ a ∧ a ≤ 10000) (hl : l.length ≤ 6) (h0 : 0 < l.length) (hu0 : 0 ≤ up) (hu1 : up ≤ 1000) :
    Calls Tryd.prog 94 #[.slice A l.length c, .int .i64 limit, .int .i64 up] w fun e w' => Below w.heap.size w w' ∧
      ((∃ m b, PA.step l limit up = some (m, b) ∧ ∃ v, e = .returned (.tuple #[v, .bool b, .nilIface]) ∧ w'.ownsRow w.heap.size 3 1 v l.length (m.map (Value.int .i64))) ∨
       PA.step l limit up = none ∧ e = .returned (.tuple #[.slice none 0 0, .bool false, .iface 124 (.int .i64 4)])) := by
  by_cases hlim : limit < tot l
  · refine (astep_cut A c l limit up w h hb hl h0 hlim).mono ?_
    rintro e w' ⟨v, rfl, ho, hbel⟩
    exact ⟨hbel, .inl ⟨_, true, by unfold PA.step; rw [if_pos hlim], v, rfl, ho⟩⟩
  · refine (astep_up A c l limit up w h hb hl h0 (by omega) hu0 hu1).mono ?_
    rintro e w' ⟨hbel, ⟨hall, v, rfl, ho⟩ | ⟨hall, rfl⟩⟩
    · exact ⟨hbel, .inl ⟨_, false, by unfold PA.step; rw [if_neg hlim, if_pos hall], v, rfl, ho⟩⟩
    · exact ⟨hbel, .inr ⟨by unfold PA.step; rw [if_neg hlim, if_neg (by rw [hall]; simp)], rfl⟩⟩
/-- what so many steps give -/
def RunsTo (l : List Int) (limit up : Int) (n : Nat) (r : Option (List Int × Nat)) : Prop := PA.steps limit up n l = r
theorem steps_none {l : List Int} {limit up : Int} : ∀ n k, PA.steps limit up n l = none → PA.steps limit up (n + k) l = none
  | n, 0, h => h
  | n, k + 1, h => by
    show (match PA.steps limit up (n + k) l with | none => none | some (m, c) => _) = none
    rw [steps_none n k h]
set_option maxHeartbeats 2000000 in
theorem arun_any (A : Option Addr) (c : Nat) (l : List Int) (limit up : Int) (n : Nat) (w : World) (h : Ints w w.heap.size A c l) (ok : AimdOk l limit up) (hn : n ≤ 60) :
    Calls Tryd.prog 95 #[.slice A l.length c, .int .i64 limit, .int .i64 up, .int .i64 n] w fun e w' => Below w.heap.size w w' ∧
      ((∃ m b, PA.steps limit up n l = some (m, b) ∧ ∃ v, e = .returned (.tuple #[v, .int .i64 b, .nilIface]) ∧ w'.ownsRow w.heap.size 3 1 v l.length (m.map (Value.int .i64))) ∨
       PA.steps limit up n l = none ∧ e = .returned (.tuple #[.slice none 0 0, .int .i64 0, .iface 124 (.int .i64 4)])) := by
  have H := Lib.hid h; clear h
  have HK := Lib.hid ok
  obtain ⟨⟨h0, hl, hbad⟩, g1, g2, g3, g4⟩ := ok
  have HB := Lib.hid (shares_in hbad); clear hbad
  have HG := Lib.hid (PA.good_steps l limit up (fun a ha => (HB.out a ha).1) (fun a ha => (HB.out a ha).2) (by omega))
  go_enter Tryd.func95, Tryd.ntmps95
  go_wp2_with fail
  refine (acheck_yes A c l limit up w.heap.size w H.out HK.out).mono ?_; rintro e w' ⟨rfl, rfl⟩
  go_wp2_with fail
  refine (clone_any A c l w.heap.size w H.out (by omega) (Nat.le_refl _)).mono ?_
  rintro e w1 ⟨v, rfl, hown, hbel⟩
  have HO := Lib.hid hown; clear hown
  go_wp2_with fail
  go_loopw [12, 13, 34] (fun v cc i wr => ∃ (k : Nat) (m : List Int) (b : Nat), k ≤ n ∧ i = .int .i64 k ∧ cc = .int .i64 b ∧ b ≤ k ∧ Hid (PA.steps limit up k l = some (m, b)) ∧ Hid (wr.ownsRow w.heap.size 3 1 v l.length (m.map (Value.int .i64))) ∧ Below w.heap.size w wr)
    (fun _ _ i _ => n - (intOf i).toNat)
  case atStart => exact ⟨0, l, 0, Nat.zero_le _, rfl, rfl, Nat.zero_le _, rfl, HO, hbel⟩
  case round =>
    obtain ⟨k, m, b, hk, rfl, rfl, hbk, HS, HR, hbel⟩ := hrel
    by_cases hlt : k < n
    · obtain ⟨G, _⟩ := HG.out k m b HS.out
      obtain ⟨A', c', rfl, hlen, hi⟩ := owns_ints HR.out
      have HI := Lib.hid hi; clear hi
      have HN : Hid (∀ r, PA.step m limit up = r → PA.steps limit up (k + 1) l = (match r with | none => none | some (m', q) => some (m', if q then b + 1 else b))) := by
        refine Lib.hid fun r hr => ?_
        show (match PA.steps limit up k l with | none => none | some (m, c) => match PA.step m limit up with | none => none | some (m', b) => some (m', if b then c + 1 else c)) = _
        rw [HS.out]; simp only [hr]
      have HM := Lib.hid (fun (a : Int) (ha : a ∈ m) => (⟨G.nn a ha, G.le a ha⟩ : 0 ≤ a ∧ a ≤ 10000))
      have HL := Lib.hid G.len
      clear G HS hlen
      go_wp2_with fail
      refine (astep_any A' c' m limit up wr HI.out HM.out (by rw [HL.out]; omega) (by rw [HL.out]; omega) (by omega) (by omega)).mono ?_
      rintro e w2 ⟨hbel2, ⟨m', q, hst, v2, rfl, ho⟩ | ⟨hst, rfl⟩⟩
      · have HS := Lib.hid (HN.out _ hst); clear HN hst
        have hbel2' := hbel.trans (hbel2.mono hbel.size)
        have HO2 : Hid (w2.ownsRow w.heap.size 3 1 v2 l.length (m'.map (Value.int .i64))) := by
          have := own_base ho hbel.size
          rwa [HL.out] at this
        clear ho hbel2
        cases q
        · go_wp2
          go_roundw
          case rel => exact ⟨k + 1, m', b, by omega, by go_num, rfl, by omega, HS, HO2, hbel2'⟩
          case measure => simp [intOf]; omega
        · go_wp2
          go_roundw
          case rel => exact ⟨k + 1, m', b + 1, by omega, by go_num, by go_num, by omega, HS, HO2, hbel2'⟩
          case measure => simp [intOf]; omega
      · have hnone : PA.steps limit up n l = none := by
          have := steps_none (k + 1) (n - (k + 1)) (HN.out _ hst)
          rwa [show k + 1 + (n - (k + 1)) = n by omega] at this
        have hbel2' := hbel.trans (hbel2.mono hbel.size)
        clear HN hst
        go_wp2
        go_ret3
        exact ⟨hbel2', .inr ⟨hnone, rfl⟩⟩
    · have hk' : k = n := by omega
      subst hk'
      go_wp2
      go_ret3
      exact ⟨hbel, .inl ⟨m, b, HS.out, _, rfl, HR.out⟩⟩
end Go.Proofs.YtkheobdkmmbjnaaDoor
