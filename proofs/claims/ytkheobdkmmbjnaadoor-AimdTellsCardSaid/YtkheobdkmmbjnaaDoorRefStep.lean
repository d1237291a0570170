/- The reference's Step of one up, all down. -/
import Derived.Test.YtkheobdkmmbjnaaDoorRefFew
import Derived.Test.YtkheobdkmmbjnaaDoorAimdAll
import Derived.Test.YtkheobdkmmbjnaaDoorTotal
namespace Go.Proofs.YtkheobdkmmbjnaaDoor
open Go.RowKit
theorem fewErr_ok {l : List Int} (h : SharesOk l) : fewErr l 10000 = 0 := by
  have h3 : l.any (badTo 10000) = false := h.2.2
  have := h.1; have := h.2.1
  unfold fewErr; rw [if_neg (by omega), if_neg (by omega), h3]; rfl
theorem fewErr_no {l : List Int} (h : ¬ SharesOk l) : fewErr l 10000 = sharesErr l := by
  unfold fewErr sharesErr
  by_cases h0 : l.length = 0
  · rw [if_pos h0, if_pos h0]
  · rw [if_neg h0, if_neg h0]
    by_cases h6 : 6 < l.length
    · rw [if_pos h6, if_pos h6]
    · rw [if_neg h6, if_neg h6]
      cases hb : l.any (badTo 10000)
      · exact absurd ⟨by omega, by omega, hb⟩ h
      · rfl
theorem sharesErr_pos (l : List Int) : sharesErr l ≠ 0 := by unfold sharesErr; split <;> (try split) <;> simp
theorem refStep_no (A : Option Addr) (c : Nat) (l : List Int) (limit up : Int) (B : Nat) (w : World) (h : Ints w B A c l) (no : ¬ AimdOk l limit up) :
    Calls Tryd.prog 52 #[.slice A l.length c, .int .i64 limit, .int .i64 up] w fun e w' => e = .returned (.tuple #[.slice none 0 0, .bool false, .int .i64 (aimdErr l limit up)]) ∧ w = w' := by
  by_cases hs : SharesOk l
  · have hd : limit < 1 ∨ (1 ≤ limit ∧ 1000 < limit) ∨ (1 ≤ limit ∧ limit ≤ 1000 ∧ up < 1) ∨ (1 ≤ limit ∧ limit ≤ 1000 ∧ 1 ≤ up ∧ 1000 < up) := by
      by_cases a : 1 ≤ limit ∧ limit ≤ 1000 ∧ 1 ≤ up ∧ up ≤ 1000
      · exact absurd ⟨hs, a⟩ no
      · omega
    have e : aimdErr l limit up = 1 := by
      have := hs.1; have := hs.2.1
      unfold aimdErr; rw [if_neg (by omega), if_neg (by omega)]
    rw [e]
    have HC := Lib.hid (refFew_is A c l 10000 B w h 0 (fewErr_ok hs))
    clear h hs no e
    rcases hd with d | ⟨d1, d⟩ | ⟨d1, d2, d⟩ | ⟨d1, d2, d3, d⟩
    all_goals
      go_enter Tryd.func52, Tryd.ntmps52
      go_wp2_with fail
      refine HC.out.mono ?_; rintro e w' ⟨rfl, rfl⟩
      go_wp2
      go_ret3
      exact ⟨rfl, rfl⟩
  · have HC := Lib.hid (refFew_is A c l 10000 B w h (sharesErr l) (fewErr_no hs))
    have hp := sharesErr_pos l
    clear h hs no
    show Calls Tryd.prog 52 #[.slice A l.length c, .int .i64 limit, .int .i64 up] w fun e w' => e = .returned (.tuple #[.slice none 0 0, .bool false, .int .i64 (sharesErr l)]) ∧ w = w'
    generalize sharesErr l = er at *
    have h1 : (er == 0) = false := beq_eq_false_iff_ne.2 hp
    have h2 : (er != 0) = true := by rw [bne_iff_ne]; exact hp
    clear hp
    go_enter Tryd.func52, Tryd.ntmps52
    go_wp2_with fail
    refine HC.out.mono ?_; rintro e w' ⟨rfl, rfl⟩
    go_wp2
    go_ret3
    exact ⟨rfl, rfl⟩
set_option maxHeartbeats 1000000 in
theorem refStep_cut (A : Option Addr) (c : Nat) (l : List Int) (limit up : Int) (w : World) (h : Ints w w.heap.size A c l) (ok : AimdOk l limit up) (hlim : limit < tot l) :
    Calls Tryd.prog 52 #[.slice A l.length c, .int .i64 limit, .int .i64 up] w fun e w' =>
      ∃ v, e = .returned (.tuple #[v, .bool true, .int .i64 0]) ∧ w'.ownsRow w.heap.size 3 1 v l.length ((PA.halve l).map (Value.int .i64)) ∧ Below w.heap.size w w' := by
  obtain ⟨hs, g1, g2, g3, g4⟩ := ok
  have HB := Lib.hid (shares_in hs.2.2)
  have h6 := hs.2.1
  have HC := Lib.hid (refFew_is A c l 10000 w.heap.size w h 0 (fewErr_ok hs))
  have H := Lib.hid h; clear h hs
  go_enter Tryd.func52, Tryd.ntmps52
  go_wp2_with fail
  refine HC.out.mono ?_; rintro e w' ⟨rfl, rfl⟩
  go_wp2_with fail
  refine (total_any A c l w.heap.size w H.out (fun a ha => by have := HB.out a ha; omega) (by omega)).mono ?_; rintro e w' ⟨rfl, rfl⟩
  go_wp2_with fail
  go_loopw [11, 12] (fun v i wr => ∃ k : Nat, k ≤ l.length ∧ i = .int .i64 k ∧ Hid (wr.ownsRow w.heap.size 3 1 v k ((PA.halve (l.take k)).map (Value.int .i64))) ∧ Below w.heap.size w wr) (fun _ i _ => l.length - (intOf i).toNat)
  case atStart => exact ⟨0, Nat.zero_le _, rfl, World.ownsRow_nil _ _ _ _, Below.refl _ _⟩
  case round =>
    obtain ⟨k, hk, rfl, HOWN, hb⟩ := hrel
    by_cases hlt : k < l.length
    · obtain ⟨b, off, x, rfl, _, hc, hx, HT, HX⟩ := (H.out.below hb (Nat.le_refl _)).elem hlt
      obtain ⟨x0, x1⟩ := HB.out x hx
      have HM : Hid ((PA.halve (l.take (k + 1))).map (Value.int .i64) = (PA.halve (l.take k)).map (Value.int .i64) ++ [.int .i64 (x / 2)]) := Lib.hid (by rw [HT.out]; simp [PA.halve])
      clear HT HX hx
      go_wp2_with (at_builtin; refine wpList_push wr _ rfl (.tmp 62) (.tmp 64) 42 rfl w.heap.size 3 (.int .i64 0) 1 8 Tryd.underlying42 Tryd.info_int rfl (by omega) _ k _ rfl HOWN.out rfl rfl (by simp [Value.oneCell']) (by omega) (by omega) hb.size ?_; intro v' w1 hown1 hg1)
      go_roundw
      case rel => exact ⟨k + 1, by omega, by go_num, Lib.hid (by rw [HM.out]; exact hown1), below_push hb HOWN.out hg1 (Nat.le_refl _) hb.size⟩
      case measure => simp [intOf]; omega
    · obtain rfl : k = l.length := by omega
      go_wp2
      go_ret3
      exact ⟨_, rfl, by have := HOWN.out; rwa [List.take_length] at this, hb⟩
set_option maxHeartbeats 1000000 in
set_option maxRecDepth 100000 in
theorem refStep_up (A : Option Addr) (c : Nat) (l : List Int) (limit up : Int) (w : World) (h : Ints w w.heap.size A c l) (ok : AimdOk l limit up) (hlim : ¬ limit < tot l) :
    Calls Tryd.prog 52 #[.slice A l.length c, .int .i64 limit, .int .i64 up] w fun e w' => Below w.heap.size w w' ∧
      ((PA.raise up l).all (· ≤ 10000) = true ∧ (∃ v, e = .returned (.tuple #[v, .bool false, .int .i64 0]) ∧ w'.ownsRow w.heap.size 3 1 v l.length ((PA.raise up l).map (Value.int .i64))) ∨
       (PA.raise up l).all (· ≤ 10000) = false ∧ e = .returned (.tuple #[.slice none 0 0, .bool false, .int .i64 4])) := by
  obtain ⟨hs, g1, g2, g3, g4⟩ := ok
  have HB := Lib.hid (shares_in hs.2.2)
  have h6 := hs.2.1
  have HC := Lib.hid (refFew_is A c l 10000 w.heap.size w h 0 (fewErr_ok hs))
  have H := Lib.hid h; clear h hs
  have hd : decide (limit < tot l) = false := decide_eq_false hlim
  go_enter Tryd.func52, Tryd.ntmps52
  go_wp2_with fail
  refine HC.out.mono ?_; rintro e w' ⟨rfl, rfl⟩
  go_wp2_with fail
  refine (total_any A c l w.heap.size w H.out (fun a ha => by have := HB.out a ha; omega) (by omega)).mono ?_; rintro e w' ⟨rfl, rfl⟩
  go_wp2_with fail
  go_loopw [11, 12] (fun v i wr => ∃ k : Nat, k ≤ l.length ∧ i = .int .i64 k ∧ Hid (wr.ownsRow w.heap.size 3 1 v k ((PA.raise up (l.take k)).map (Value.int .i64))) ∧ Hid (∀ a ∈ l.take k, a + up ≤ 10000) ∧ Below w.heap.size w wr) (fun _ i _ => l.length - (intOf i).toNat)
  case atStart => exact ⟨0, Nat.zero_le _, rfl, World.ownsRow_nil _ _ _ _, Lib.hid (by simp), Below.refl _ _⟩
  case round =>
    obtain ⟨k, hk, rfl, HOWN, HLE, hb⟩ := hrel
    by_cases hlt : k < l.length
    · obtain ⟨b, off, x, rfl, _, hc, hx, HT, HX⟩ := (H.out.below hb (Nat.le_refl _)).elem hlt
      obtain ⟨x0, x1⟩ := HB.out x hx
      by_cases hle : 10000 < x + up
      · have hall : (PA.raise up l).all (· ≤ 10000) = false := by
          rw [← Bool.not_eq_true]
          intro h
          have := List.all_eq_true.1 h (x + up) (List.mem_map.2 ⟨x, hx, rfl⟩)
          simp at this; omega
        have HALL := Lib.hid hall
        clear hall HT HX hx
        go_wp2
        go_ret3
        exact ⟨hb, .inr ⟨HALL.out, rfl⟩⟩
      · have HM : Hid ((PA.raise up (l.take (k + 1))).map (Value.int .i64) = (PA.raise up (l.take k)).map (Value.int .i64) ++ [.int .i64 (x + up)]) := Lib.hid (by rw [HT.out]; simp [PA.raise])
        have HLE' : Hid (∀ a ∈ l.take (k + 1), a + up ≤ 10000) := by
          refine Lib.hid fun a ha => ?_
          rw [HT.out] at ha
          rcases List.mem_append.1 ha with ha | ha
          · exact HLE.out a ha
          · simp at ha; subst ha; omega
        clear HT HX hx HLE
        go_wp2_with (at_builtin; refine wpList_push wr _ rfl (.tmp 62) (.tmp 64) 42 rfl w.heap.size 3 (.int .i64 0) 1 8 Tryd.underlying42 Tryd.info_int rfl (by omega) _ k _ rfl HOWN.out rfl rfl (by simp [Value.oneCell']) (by omega) (by omega) hb.size ?_; intro v' w1 hown1 hg1)
        go_roundw
        case rel => exact ⟨k + 1, by omega, by go_num, Lib.hid (by rw [HM.out]; exact hown1), HLE', below_push hb HOWN.out hg1 (Nat.le_refl _) hb.size⟩
        case measure => simp [intOf]; omega
    · obtain rfl : k = l.length := by omega
      have hall : (PA.raise up l).all (· ≤ 10000) = true := by
        rw [List.all_eq_true]
        intro y hy
        obtain ⟨a, ha, rfl⟩ := List.mem_map.1 hy
        have := HLE.out a (by rw [List.take_length]; exact ha)
        simpa using this
      have HALL := Lib.hid hall
      clear hall HLE
      go_wp2
      go_ret3
      exact ⟨hb, .inl ⟨HALL.out, _, rfl, by have := HOWN.out; rwa [List.take_length] at this⟩⟩
/-- whatever it is asked -/
theorem refStep_all (A : Option Addr) (c : Nat) (l : List Int) (limit up : Int) (w : World) (h : Ints w w.heap.size A c l) :
    Calls Tryd.prog 52 #[.slice A l.length c, .int .i64 limit, .int .i64 up] w fun e w' => Below w.heap.size w w' ∧
      ((∃ m b, SRes l limit up = .ok (m, b) ∧ ∃ v, e = .returned (.tuple #[v, .bool b, .int .i64 0]) ∧ w'.ownsRow w.heap.size 3 1 v l.length (m.map (Value.int .i64))) ∨
       (∃ er, SRes l limit up = .error er ∧ er ≠ 0 ∧ e = .returned (.tuple #[.slice none 0 0, .bool false, .int .i64 er]))) := by
  by_cases ok : AimdOk l limit up
  · have ea : SRes l limit up = match PA.step l limit up with | none => .error 4 | some r => .ok r := by
      unfold SRes; rw [if_neg (fun h => h ok)]; cases PA.step l limit up <;> rfl
    by_cases hlim : limit < tot l
    · refine (refStep_cut A c l limit up w h ok hlim).mono ?_
      rintro e w' ⟨v, rfl, ho, hb⟩
      exact ⟨hb, .inl ⟨_, true, by rw [ea]; unfold PA.step; rw [if_pos hlim], v, rfl, ho⟩⟩
    · refine (refStep_up A c l limit up w h ok hlim).mono ?_
      rintro e w' ⟨hb, ⟨hall, v, rfl, ho⟩ | ⟨hall, rfl⟩⟩
      · exact ⟨hb, .inl ⟨_, false, by rw [ea]; unfold PA.step; rw [if_neg hlim, if_pos hall], v, rfl, ho⟩⟩
      · exact ⟨hb, .inr ⟨4, by rw [ea]; unfold PA.step; rw [if_neg hlim, if_neg (by rw [hall]; simp)], by omega, rfl⟩⟩
  · refine (refStep_no A c l limit up w.heap.size w h ok).mono ?_
    rintro e w' ⟨rfl, rfl⟩
    refine ⟨Below.refl _ _, .inr ⟨_, by unfold SRes; rw [if_pos ok], ?_, rfl⟩⟩
    unfold aimdErr; split <;> (try split) <;> simp
end Go.Proofs.YtkheobdkmmbjnaaDoor
