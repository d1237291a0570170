/- The reference's nets: In, Links. -/
import Derived.Test.YtaijpiebjhhkjaaGreatDoorLibM
namespace Go.Proofs.YtaijpiebjhhkjaaGreatDoor
open Go.RowKit
set_option maxHeartbeats 400000 in
theorem refIn_any (A : Option Addr) (c n : Nat) (l : List Int) (B : Nat) (w : World) (h : Ints w B A c l) (hn : n = l.length) (x : Int) (bb : Bool) (hb : inL l x = bb) :
    Calls Tryz.prog 45 #[.slice A n c, .int .i64 x] w fun e w' => e = .returned (.bool bb) ∧ w = w' := by
  subst hn
  have H := Lib.hid h
  have hm := h.cap
  have hl := h.le
  have HB := Lib.hid hb
  clear h hb
  unfold maxLen at hm
  go_enter Tryz.func45, Tryz.ntmps45
  go_wp2
  go_loop [5] (fun i => ∃ k : Nat, k ≤ l.length ∧ i = .int .i64 k ∧ Hid (inL (l.take k) x = false)) (fun i => l.length - (intOf i).toNat)
  case atStart => exact ⟨0, Nat.zero_le _, rfl, Lib.hid (by simp [inL])⟩
  case round =>
    obtain ⟨k, hk, rfl, HN⟩ := hrel
    by_cases hlt : k < l.length
    · obtain ⟨b, off, a, rfl, _, hc, _, HT, HX⟩ := H.out.elem hlt
      have k0 : (0 : Int) ≤ (k : Int) := by omega
      have HP := inL_take (x := x) HT.out
      rw [HN.out] at HP
      clear HT HX
      by_cases hax : a = x
      · subst hax
        have HQ : Hid (bb = true) := Lib.hid (by rw [← HB.out]; exact inL_of_take (k := k + 1) (by rw [HP]; simp))
        clear HP
        go_wp2
        go_ret
        exact ⟨by rw [HQ.out]; rfl, rfl⟩
      · have hb2 : (a == x) = false := beq_eq_false_iff_ne.2 hax
        rw [hb2] at HP
        have HQ : Hid (inL (l.take (k + 1)) x = false) := Lib.hid HP
        clear HP hax
        go_wp2
        go_round
        case rel => exact ⟨k + 1, by omega, by go_num, HQ⟩
        case measure => simp [intOf]; omega
    · have HQ : Hid (bb = false) := Lib.hid (by rw [← HB.out]; have := HN.out; rwa [List.take_of_length_le (by omega)] at this)
      go_wp2
      go_ret
      exact ⟨by rw [HQ.out]; rfl, rfl⟩
set_option maxHeartbeats 1000000 in
theorem refLinks_any (A : Option Addr) (c : Nat) (l : List Int) (B : Nat) (w : World) (h : Ints w B A c l) :
    Calls Tryz.prog 16 #[.slice A l.length c] w fun e w' => e = .returned (.int .i64 (linksErr l)) ∧ w = w' := by
  unfold linksErr
  have H := Lib.hid h
  have hm := h.cap
  have hle := h.le
  clear h
  unfold maxLen at hm
  by_cases h0 : l.length = 0
  · rw [if_pos h0, h0]
    go_enter Tryz.func16, Tryz.ntmps16
    go_wp2
    go_ret
    exact ⟨rfl, rfl⟩
  · rw [if_neg h0]
    have e1 : ((l.length : Int) == 0) = false := beq_eq_false_iff_ne.2 (by omega)
    by_cases h6 : 6 < l.length
    · rw [if_pos h6]
      have e2 : (6 : Int) < l.length := by omega
      clear h6 H
      generalize l.length = n at *
      go_enter Tryz.func16, Tryz.ntmps16
      go_wp2
      go_ret
      exact ⟨rfl, rfl⟩
    · rw [if_neg h6]
      have e2 : decide ((6 : Int) < (l.length : Int)) = false := decide_eq_false (by omega)
      obtain ⟨ev, hev⟩ : ∃ ev : Int, (if l.any badCap = true then 1 else 0) = ev := ⟨_, rfl⟩
      rw [hev]
      have HE := Lib.hid hev
      clear hev
      go_enter Tryz.func16, Tryz.ntmps16
      go_wp2
      go_loop [3] (fun i => ∃ k : Nat, k ≤ l.length ∧ i = .int .i64 k ∧ Hid ((l.take k).any badCap = false)) (fun i => l.length - (intOf i).toNat)
      case atStart => exact ⟨0, Nat.zero_le _, rfl, Lib.hid (by simp)⟩
      case round =>
        obtain ⟨k, hk, rfl, HN⟩ := hrel
        by_cases hlt : k < l.length
        · obtain ⟨b, off, a, rfl, _, hc, _, HT, HX⟩ := H.out.elem hlt
          have k0 : (0 : Int) ≤ (k : Int) := by omega
          have HP := any_take_succ l badCap k a HT.out
          rw [HN.out, Bool.false_or] at HP
          clear HT HX
          cases hb : badCap a
          · have HQ : Hid ((l.take (k + 1)).any badCap = false) := Lib.hid (HP.trans hb)
            have q : 1 ≤ a ∧ a ≤ 1000 := by simp only [badCap, Bool.or_eq_false_iff, decide_eq_false_iff_not] at hb; omega
            obtain ⟨q1, q2⟩ := q
            have q3 : decide (a < 1) = false := decide_eq_false (by omega)
            have q4 : decide (1000 < a) = false := decide_eq_false (by omega)
            clear HP hb
            go_wp2
            go_round
            case rel => exact ⟨k + 1, by omega, by go_num, HQ⟩
            case measure => simp [intOf]; omega
          · have HQ : Hid (ev = 1) := Lib.hid (by rw [← HE.out, if_pos (any_of_take l badCap (k + 1) (HP.trans hb))])
            have q : a < 1 ∨ (¬ a < 1 ∧ 1000 < a) := by simp only [badCap, Bool.or_eq_true, decide_eq_true_eq] at hb; omega
            clear HP hb
            rcases q with q | ⟨q, q2⟩
            all_goals
              go_wp2
              go_ret
              exact ⟨by rw [HQ.out]; rfl, rfl⟩
        · have HQ : Hid (ev = 0) := Lib.hid (by rw [← HE.out]; have := HN.out; rw [List.take_of_length_le (by omega)] at this; rw [this]; rfl)
          go_wp2
          go_ret
          exact ⟨by rw [HQ.out]; rfl, rfl⟩
set_option maxHeartbeats 2000000 in
theorem refPath_any (n : Int) (A : Option Addr) (c : Nat) (l : List Int) (B : Nat) (w : World) (h : Ints w B A c l) :
    Calls Tryz.prog 21 #[.int .i64 n, .slice A l.length c] w fun e w' => e = .returned (.int .i64 (pathErr n l)) ∧ ∃ d, w' = w.drewN d := by
  unfold pathErr
  have hm := h.cap
  have hle := h.le
  unfold maxLen at hm
  by_cases h0 : l.length = 0
  · rw [if_pos h0, h0]
    clear h
    go_enter Tryz.func21, Tryz.ntmps21
    go_wp2
    go_ret
    exact ⟨rfl, 0, rfl⟩
  · rw [if_neg h0]
    have e1 : ((l.length : Int) == 0) = false := beq_eq_false_iff_ne.2 (by omega)
    obtain ⟨ev, hev⟩ : ∃ ev, firstFrom (pathAt n l) (l.length - 0) 0 = ev := ⟨_, rfl⟩
    rw [hev]
    have HEV := Lib.hid hev
    have H0 := Lib.hid h
    clear hev h
    go_enter Tryz.func21, Tryz.ntmps21
    go_wp2
    go_loopw [5] (fun i wr => ∃ k d : Nat, k ≤ l.length ∧ i = .int .i64 k ∧ Hid (firstFrom (pathAt n l) (l.length - k) k = ev) ∧ Hid (wr = w.drewN d) ∧ Hid (Ints wr B A c l)) (fun i _ => l.length - (intOf i).toNat)
    case atStart => exact ⟨0, 0, Nat.zero_le _, rfl, HEV, Lib.hid rfl, H0⟩
    case round =>
      clear HEV H0
      obtain ⟨k, d, hk, rfl, HEV, HB, H⟩ := hrel
      by_cases hlt : k < l.length
      · obtain ⟨b, off, a, rfl, _, hc, _, HT, HX⟩ := H.out.elem hlt
        have k0 : (0 : Int) ≤ (k : Int) := by omega
        have k1 : (k : Int) ≤ (c : Int) := by omega
        have k2 : (k : Int) < l.length := by omega
        have hs := HEV.out
        rw [firstFrom_step hlt] at hs
        have hp : pathAt n l k = if a < 0 ∨ n ≤ a then 1 else if inL (l.take k) a then 7 else 0 := by unfold pathAt; rw [HX.out]
        clear HT HX
        by_cases ha : a < 0
        · rw [if_pos (.inl ha)] at hp
          rw [hp, if_neg (by decide)] at hs
          clear hp
          subst hs
          go_wp2
          go_ret
          exact ⟨rfl, d, HB.out⟩
        · by_cases hb : n ≤ a
          · rw [if_pos (.inr hb)] at hp
            rw [hp, if_neg (by decide)] at hs
            clear hp
            subst hs
            go_wp2
            go_ret
            exact ⟨rfl, d, HB.out⟩
          · rw [if_neg (by omega)] at hp
            have e5 : decide (n ≤ a) = false := decide_eq_false hb
            have HK := Lib.hid (H.out.take (Nat.le_of_lt hlt) (c' := c) (by omega) (by unfold maxLen; omega))
            cases hi : inL (l.take k) a
            · rw [hi, if_neg (by decide)] at hp
              rw [hp, if_pos rfl] at hs
              have HS := Lib.hid hs
              have HI := Lib.hid hi
              clear hs hi hp
              go_wp2_with fail
              go_quiet ((go_at_call 45; exact quiet_left (refIn_any _ _ _ _ _ _ (HK.out.below (below_drewN (Below.refl B _) _) (Nat.le_refl _)) (by rw [List.length_take]; omega) _ _ HI.out)))
              go_wp2
              go_roundw
              case rel => exact ⟨k + 1, d + nq, by omega, by go_num, HS, Lib.hid (by rw [HB.out, World.drewN_drewN]), Lib.hid (H.out.below (below_drewN (Below.refl B _) _) (Nat.le_refl _))⟩
              case measure => simp [intOf]; omega
            · rw [hi, if_pos rfl] at hp
              rw [hp, if_neg (by decide)] at hs
              clear hp
              subst hs
              have HI := Lib.hid hi
              clear hi
              go_wp2_with fail
              go_quiet ((go_at_call 45; exact quiet_left (refIn_any _ _ _ _ _ _ (HK.out.below (below_drewN (Below.refl B _) _) (Nat.le_refl _)) (by rw [List.length_take]; omega) _ _ HI.out)))
              go_wp2
              go_ret
              exact ⟨rfl, d + nq, by rw [HB.out, World.drewN_drewN]⟩
      · obtain rfl : k = l.length := by omega
        have hs := HEV.out
        rw [firstFrom_end] at hs
        subst hs
        go_wp2
        go_ret
        exact ⟨rfl, d, HB.out⟩
theorem refPath_quiet {n : Int} {A : Option Addr} {c : Nat} {l : List Int} {B : Nat} {w : World} {a : Nat} {ev : Int} (h : Ints w B A c l) (he : pathErr n l = ev) :
    Calls Tryz.prog 21 #[.int .i64 n, .slice A l.length c] (w.drewN a) fun e w' => e = .returned (.int .i64 ev) ∧ ∃ m, w' = w.drewN m :=
  (refPath_any n A c l B (w.drewN a) (h.below (below_drewN (Below.refl B _) _) (Nat.le_refl _))).mono fun _ _ ⟨h1, d, h2⟩ => ⟨by rw [h1, he], a + d, by rw [h2, World.drewN_drewN]⟩
end Go.Proofs.YtaijpiebjhhkjaaGreatDoor
