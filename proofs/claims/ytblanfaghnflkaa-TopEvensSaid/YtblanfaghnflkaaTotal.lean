/- fairref1.Total: the sum of a list. -/
import Derived.Test.YtblanfaghnflkaaLibA
namespace Go.Proofs.Ytblanfaghnflkaa
open Go.RowKit
set_option maxHeartbeats 400000 in
theorem total_any (A : Option Addr) (c : Nat) (l : List Int) (B : Nat) (w : World) (h : Ints w B A c l) (hb : ∀ a ∈ l, -100000 ≤ a ∧ a ≤ 100000) (hlen : l.length ≤ 60) :
    Calls Try.prog 35 #[.slice A l.length c] w fun e w' => e = .returned (.int .i64 (tot l)) ∧ w = w' := by
  have H := Lib.hid h; clear h
  have HB := Lib.hid hb; clear hb
  go_enter Try.func35, Try.ntmps35
  go_wp2
  go_loop [3, 4] (fun s i => ∃ k : Nat, k ≤ l.length ∧ i = .int .i64 k ∧ s = .int .i64 (tot (l.take k))) (fun _ i => l.length - (intOf i).toNat)
  case atStart => exact ⟨0, Nat.zero_le _, rfl, rfl⟩
  case round =>
    obtain ⟨k, hk, rfl, rfl⟩ := hrel
    by_cases hlt : k < l.length
    · obtain ⟨b, off, x, rfl, _, hc, hx, HT, HX⟩ := H.out.elem hlt
      have h1 := tot_range_take l 100000 HB.out k
      have h2 := HB.out x hx
      have h3 : (l.take k).length ≤ k := List.length_take_le _ _
      go_wp2
      go_round
      case rel => exact ⟨k + 1, by omega, by go_num, by rw [HT.out, tot_snoc]⟩
      case measure => simp [intOf]; omega
    · go_wp2
      go_ret
      exact ⟨by rw [List.take_of_length_le (by omega)]; rfl, rfl⟩
end Go.Proofs.Ytblanfaghnflkaa
