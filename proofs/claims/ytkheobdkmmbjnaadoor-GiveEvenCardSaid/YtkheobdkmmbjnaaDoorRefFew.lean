/- The reference's Few: the fault of shares, up to a bound. -/
import Derived.Test.YtkheobdkmmbjnaaDoorFew
namespace Go.Proofs.YtkheobdkmmbjnaaDoor
open Go.RowKit
set_option maxHeartbeats 1000000 in
theorem refFew (A : Option Addr) (c : Nat) (l : List Int) (most : Int) (B : Nat) (w : World) (h : Ints w B A c l) :
    Calls Tryd.prog 57 #[.slice A l.length c, .int .i64 most] w fun e w' => e = .returned (.int .i64 (fewErr l most)) ∧ w = w' := by
  have hm := Nat.le_trans h.le h.cap
  unfold maxLen at hm
  have H := Lib.hid h; clear h
  by_cases h0 : l.length = 0
  · have e : fewErr l most = 5 := by unfold fewErr; rw [if_pos h0]
    have hl : ((l.length : Int) == 0) = true := by simp [h0]
    rw [e, h0]; clear e
    go_enter Tryd.func57, Tryd.ntmps57
    go_wp2
    go_ret
    exact ⟨rfl, rfl⟩
  · have hz : ((l.length : Int) == 0) = false := beq_eq_false_iff_ne.2 (by omega)
    by_cases hlen : 6 < l.length
    · have e : fewErr l most = 4 := by unfold fewErr; rw [if_neg h0, if_pos hlen]
      rw [e]; clear e
      go_enter Tryd.func57, Tryd.ntmps57
      go_wp2
      go_ret
      exact ⟨rfl, rfl⟩
    · have e : fewErr l most = if l.any (badTo most) then 1 else 0 := by unfold fewErr; rw [if_neg h0, if_neg hlen]
      have E := Lib.hid e; clear e
      go_enter Tryd.func57, Tryd.ntmps57
      go_wp2
      go_loop [5] (fun i => ∃ k : Nat, k ≤ l.length ∧ i = .int .i64 k ∧ Hid ((l.take k).any (badTo most) = false)) (fun i => l.length - (intOf i).toNat)
      case atStart => exact ⟨0, Nat.zero_le _, rfl, Lib.hid (by simp)⟩
      case round =>
        obtain ⟨k, hk, rfl, HN⟩ := hrel
        by_cases hlt : k < l.length
        · obtain ⟨b, off, x, rfl, _, hc, hx, HT, HX⟩ := H.out.elem hlt
          cases hbx : badTo most x
          · obtain ⟨x0, x1⟩ := (badTo_iff most x).1 hbx
            have HN' : Hid ((l.take (k + 1)).any (badTo most) = false) := Lib.hid (by rw [HT.out]; simp [HN.out, hbx])
            clear HN HT HX hbx
            go_wp2
            go_round
            case rel => exact ⟨k + 1, by omega, by go_num, HN'⟩
            case measure => simp [intOf]; omega
          · have hb : fewErr l most = 1 := by
              rw [E.out, List.any_eq_true.2 ⟨x, hx, hbx⟩]; rfl
            have hxx := badTo_true hbx
            have HB := Lib.hid hb
            clear HN HT HX hb hbx
            by_cases h1 : x < 0
            · go_wp2
              go_ret
              exact ⟨by rw [HB.out]; rfl, rfl⟩
            · have h2 : most < x := by omega
              go_wp2
              go_ret
              exact ⟨by rw [HB.out]; rfl, rfl⟩
        · have hk' : k = l.length := by omega
          subst hk'
          have hn := HN.out
          rw [List.take_length] at hn
          have hzz : fewErr l most = 0 := by rw [E.out, hn]; rfl
          have HZ := Lib.hid hzz
          clear hzz hn HN
          go_wp2
          go_ret
          exact ⟨by rw [HZ.out]; rfl, rfl⟩
theorem refFew_is (A : Option Addr) (c : Nat) (l : List Int) (most : Int) (B : Nat) (w : World) (h : Ints w B A c l) (y : Int) (hy : fewErr l most = y) :
    Calls Tryd.prog 57 #[.slice A l.length c, .int .i64 most] w fun e w' => e = .returned (.int .i64 y) ∧ w = w' := by
  subst hy; exact refFew A c l most B w h
end Go.Proofs.YtkheobdkmmbjnaaDoor
