/- slices.ContainsFunc over ints, at whatever predicate that only computes. -/
import Derived.Test.YthffjnfnfddpdaaBase
namespace Go.Proofs.Ythffjnfnfddpdaa
open Go.RowKit
theorem any_take_succ (l : List Int) (p : Int → Bool) (k : Nat) (x : Int) (ht : l.take (k + 1) = l.take k ++ [x]) : (l.take (k + 1)).any p = ((l.take k).any p || p x) := by rw [ht]; simp
theorem any_of_take (l : List Int) (p : Int → Bool) (k : Nat) (h : (l.take k).any p = true) : l.any p = true := by
  rw [List.any_eq_true] at *
  obtain ⟨x, hx, hp⟩ := h
  exact ⟨x, List.mem_of_mem_take hx, hp⟩
set_option maxHeartbeats 400000 in
set_option maxRecDepth 100000 in
theorem idx_any (A : Option Addr) (c : Nat) (l : List Int) (B : Nat) (w : World) (h : Ints w B A c l) (g : FuncId) (cap : Array Value) (p : Int → Bool) (hcf : ∀ (a : Array Value) (W : World), (callFunc g a).run Try.prog W = .ok (.enter g a) W)
    (hg : ∀ x ∈ l, Calls Try.prog g (#[.int .i64 x] ++ cap) w fun e w' => e = .returned (.bool (p x)) ∧ w = w') :
    Calls Try.prog 115 #[.slice A l.length c, .func (Fn.func g) #[] cap] w fun e w' => ∃ j : Int, e = .returned (.int .i64 j) ∧ Hid (decide (0 ≤ j) = l.any p) ∧ w = w' := by
  have H := Lib.hid h
  have hm := h.cap
  have hl := h.le
  clear h
  unfold maxLen at hm
  have HG := Lib.hid hg; clear hg
  go_enter Try.func115, Try.ntmps115
  go_wp2
  go_loop [8] (fun i => ∃ k : Nat, k ≤ l.length ∧ i = .int .i64 k ∧ Hid ((l.take k).any p = false)) (fun i => l.length - (intOf i).toNat)
  case atStart => exact ⟨0, Nat.zero_le _, rfl, Lib.hid (by simp)⟩
  case round =>
    obtain ⟨k, hk, rfl, HN⟩ := hrel
    by_cases hlt : k < l.length
    · obtain ⟨b, off, x, rfl, _, hc, hx, HT, HX⟩ := H.out.elem hlt
      go_wp2_with fail
      refine (HG.out x hx).mono ?_; rintro e w' ⟨rfl, rfl⟩
      have HP := any_take_succ l p k x HT.out
      rw [HN.out] at HP
      have HP := Lib.hid HP
      clear HT HX
      cases hpx : p x
      · have HQ : Hid ((l.take (k + 1)).any p = false) := Lib.hid (by rw [HP.out, hpx]; rfl)
        clear HP hpx
        go_wp2
        go_round
        case rel => exact ⟨k + 1, by omega, by go_num, HQ⟩
        case measure => simp [intOf]; omega
      · have HQ : Hid (l.any p = true) := Lib.hid (any_of_take l p (k + 1) (by rw [HP.out, hpx]; rfl))
        clear HP hpx
        go_wp2
        go_ret
        exact ⟨_, rfl, Lib.hid (by rw [HQ.out]; simp), rfl⟩
    · have HQ : Hid (l.any p = false) := Lib.hid (by have := HN.out; rwa [List.take_of_length_le (by omega)] at this)
      go_wp2
      go_ret
      exact ⟨_, rfl, Lib.hid (by rw [HQ.out]; rfl), rfl⟩
theorem contains_any (A : Option Addr) (c : Nat) (l : List Int) (B : Nat) (w : World) (h : Ints w B A c l) (g : FuncId) (cap : Array Value) (p : Int → Bool) (hcf : ∀ (a : Array Value) (W : World), (callFunc g a).run Try.prog W = .ok (.enter g a) W)
    (hg : ∀ x ∈ l, Calls Try.prog g (#[.int .i64 x] ++ cap) w fun e w' => e = .returned (.bool (p x)) ∧ w = w') :
    Calls Try.prog 102 #[.slice A l.length c, .func (Fn.func g) #[] cap] w fun e w' => e = .returned (.bool (l.any p)) ∧ w = w' := by
  have HI := Lib.hid (idx_any A c l B w h g cap p hcf hg)
  clear h hg hcf
  go_enter Try.func102, Try.ntmps102
  go_wp2_with fail
  refine HI.out.mono ?_; rintro e w' ⟨j, rfl, hj, rfl⟩
  go_wp2
  go_ret
  exact ⟨by rw [← hj.out]; rfl, rfl⟩
end Go.Proofs.Ythffjnfnfddpdaa
