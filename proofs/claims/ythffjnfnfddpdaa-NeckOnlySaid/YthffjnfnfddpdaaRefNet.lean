/- The reference's nets: In, Links. -/
import Derived.Test.YthffjnfnfddpdaaLibM
namespace Go.Proofs.Ythffjnfnfddpdaa
open Go.RowKit
set_option maxHeartbeats 400000 in
theorem refIn_any (A : Option Addr) (c n : Nat) (l : List Int) (B : Nat) (w : World) (h : Ints w B A c l) (hn : n = l.length) (x : Int) (bb : Bool) (hb : inL l x = bb) :
    Calls Try.prog 59 #[.slice A n c, .int .i64 x] w fun e w' => e = .returned (.bool bb) ∧ w = w' := by
  subst hn
  have H := Lib.hid h
  have hm := h.cap
  have hl := h.le
  have HB := Lib.hid hb
  clear h hb
  unfold maxLen at hm
  go_enter Try.func59, Try.ntmps59
  go_wp2
  go_loop [5] (fun i => ∃ k : Nat, k ≤ l.length ∧ i = .int .i64 k ∧ Hid (inL (l.take k) x = false)) (fun i => l.length - (intOf i).toNat)
  case atStart => exact ⟨0, Nat.zero_le _, rfl, Lib.hid (by simp [inL])⟩
  case round =>
    obtain ⟨k, hk, rfl, HN⟩ := hrel
    by_cases hlt : k < l.length
    · obtain ⟨b, off, a, rfl, _, hc, _, HT, HX⟩ := H.out.elem hlt
      have k0 : (0 : Int) ≤ (k : Int) := by omega
      have HP := inL_take (x := x) HT.out
      rw [HN.out] at HP
      clear HT HX
      by_cases hax : a = x
      · subst hax
        have HQ : Hid (bb = true) := Lib.hid (by rw [← HB.out]; exact inL_of_take (k := k + 1) (by rw [HP]; simp))
        clear HP
        go_wp2
        go_ret
        exact ⟨by rw [HQ.out]; rfl, rfl⟩
      · have hb2 : (a == x) = false := beq_eq_false_iff_ne.2 hax
        rw [hb2] at HP
        have HQ : Hid (inL (l.take (k + 1)) x = false) := Lib.hid HP
        clear HP hax
        go_wp2
        go_round
        case rel => exact ⟨k + 1, by omega, by go_num, HQ⟩
        case measure => simp [intOf]; omega
    · have HQ : Hid (bb = false) := Lib.hid (by rw [← HB.out]; have := HN.out; rwa [List.take_of_length_le (by omega)] at this)
      go_wp2
      go_ret
      exact ⟨by rw [HQ.out]; rfl, rfl⟩
end Go.Proofs.Ythffjnfnfddpdaa
