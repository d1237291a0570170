/- The reference's Ticks. -/
import Derived.Test.YtkheobdkmmbjnaaDoorTicks
import Derived.Test.YtkheobdkmmbjnaaDoorOwn
namespace Go.Proofs.YtkheobdkmmbjnaaDoor
open Go.RowKit
def ticksErr (l : List Int) : Int := if 60 < l.length then 4 else if l.any badRate then 1 else 0
set_option maxHeartbeats 1000000 in
theorem refTicks (A : Option Addr) (c : Nat) (l : List Int) (B : Nat) (w : World) (h : Ints w B A c l) :
    Calls Tryd.prog 30 #[.slice A l.length c] w fun e w' => e = .returned (.int .i64 (ticksErr l)) ∧ w = w' := by
  have hm := Nat.le_trans h.le h.cap
  unfold maxLen at hm
  have H := Lib.hid h; clear h
  by_cases hlen : 60 < l.length
  · have e : ticksErr l = 4 := by unfold ticksErr; rw [if_pos hlen]
    rw [e]; clear e
    go_enter Tryd.func30, Tryd.ntmps30
    go_wp2
    go_ret
    exact ⟨rfl, rfl⟩
  · have e : ticksErr l = if l.any badRate then 1 else 0 := by unfold ticksErr; rw [if_neg hlen]
    have E := Lib.hid e; clear e
    go_enter Tryd.func30, Tryd.ntmps30
    go_wp2
    go_loop [3] (fun i => ∃ k : Nat, k ≤ l.length ∧ i = .int .i64 k ∧ Hid ((l.take k).any badRate = false)) (fun i => l.length - (intOf i).toNat)
    case atStart => exact ⟨0, Nat.zero_le _, rfl, Lib.hid (by simp)⟩
    case round =>
      obtain ⟨k, hk, rfl, HN⟩ := hrel
      by_cases hlt : k < l.length
      · obtain ⟨b, off, x, rfl, _, hc, hx, HT, HX⟩ := H.out.elem hlt
        cases hbx : badRate x
        · obtain ⟨x0, x1⟩ := badRate_false hbx
          have HN' : Hid ((l.take (k + 1)).any badRate = false) := Lib.hid (by rw [HT.out]; simp [HN.out, hbx])
          clear HN HT HX hbx
          go_wp2
          go_round
          case rel => exact ⟨k + 1, by omega, by go_num, HN'⟩
          case measure => simp [intOf]; omega
        · have hb : ticksErr l = 1 := by
            rw [E.out, List.any_eq_true.2 ⟨x, hx, hbx⟩]; rfl
          have hxx := badRate_true hbx
          have HB := Lib.hid hb
          clear HN HT HX hb hbx
          rcases hxx with h1 | h1
          · go_wp2
            go_ret
            exact ⟨by rw [HB.out]; rfl, rfl⟩
          · have h2 : ¬ x < 0 := by omega
            go_wp2
            go_ret
            exact ⟨by rw [HB.out]; rfl, rfl⟩
      · have hk' : k = l.length := by omega
        subst hk'
        have hn := HN.out
        rw [List.take_length] at hn
        have hz : ticksErr l = 0 := by rw [E.out, hn]; rfl
        have HZ := Lib.hid hz
        clear hz hn HN
        go_wp2
        go_ret
        exact ⟨by rw [HZ.out]; rfl, rfl⟩
theorem refTicks_is (A : Option Addr) (c : Nat) (l : List Int) (B : Nat) (w : World) (h : Ints w B A c l) (e : Int) (he : ticksErr l = e) :
    Calls Tryd.prog 30 #[.slice A l.length c] w fun x w' => x = .returned (.int .i64 e) ∧ w = w' := by
  rw [← he]; exact refTicks A c l B w h
end Go.Proofs.YtkheobdkmmbjnaaDoor
