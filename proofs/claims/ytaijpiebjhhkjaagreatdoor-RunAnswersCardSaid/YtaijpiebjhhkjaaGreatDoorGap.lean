/- fairref1.Gap, and fairsame.Ints. -/
import Derived.Test.YtaijpiebjhhkjaaGreatDoorLibA
namespace Go.Proofs.YtaijpiebjhhkjaaGreatDoor
open Go.RowKit
theorem Ints.drewN {w : World} {B : Nat} {A : Option Addr} {c : Nat} {l : List Int} (h : Ints w B A c l) (n : Nat) : Ints (w.drewN n) B A c l := h.below (below_drewN (Below.refl B _) n) (Nat.le_refl _)
/-- fairsame.Ints over alike lists -/
theorem sameInts_eq (A A' : Option Addr) (c c' : Nat) (l : List Int) (B B' : Nat) (w : World) (h : Ints w B A c l) (h' : Ints w B' A' c' l) :
    Calls Tryz.prog 46 #[.slice A l.length c, .slice A' l.length c'] w fun e w' => e = .returned (.bool true) ∧ ∃ n, w' = w.drewN n := by
  have hm := Nat.le_trans h.le h.cap
  unfold maxLen at hm
  have H := Lib.hid h; clear h
  have H' := Lib.hid h'; clear h'
  go_enter Tryz.func46, Tryz.ntmps46
  go_wp2
  go_loopw [5] (fun i wr => ∃ k n : Nat, k ≤ l.length ∧ i = .int .i64 k ∧ wr = w.drewN n) (fun i _ => l.length - (intOf i).toNat)
  case atStart => exact ⟨0, 0, Nat.zero_le _, rfl, rfl⟩
  case round =>
    obtain ⟨k, n, hk, rfl, rfl⟩ := hrel
    by_cases hlt : k < l.length
    · obtain ⟨b, off, x, rfl, _, hc, hx, HT, HX⟩ := H.out.elem hlt
      obtain ⟨b', off', x', rfl, _, hc', hx', HT', HX'⟩ := H'.out.elem hlt
      obtain rfl : x = x' := HX.out.symm.trans HX'.out
      clear HT HT' HX HX' hx hx'
      go_wp2
      go_region
      go_wp2
      go_roundw
      case rel => exact ⟨k + 1, n + 1, by omega, by go_num, rfl⟩
      case measure => simp [intOf]; omega
    · go_wp2
      go_ret
      exact ⟨rfl, n, rfl⟩
theorem sameInts_quiet {P : Program} {f : FuncId} {args : Array Value} {w : World} {n : Nat} {v : Value}
    (h : Calls P f args (w.drewN n) fun e w' => e = .returned v ∧ ∃ m, w' = (w.drewN n).drewN m) : Calls P f args (w.drewN n) fun e w'' => e = .returned v ∧ ∃ m, w'' = w.drewN m :=
  h.mono fun _ _ ⟨he, m, hm⟩ => ⟨he, n + m, by rw [hm, World.drewN_drewN]⟩
end Go.Proofs.YtaijpiebjhhkjaaGreatDoor
