/- fairref1.Gap, and fairsame.Ints. -/
import Derived.Test.YtkheobdkmmbjnaaDoorBlk
namespace Go.Proofs.YtkheobdkmmbjnaaDoor
open Go.RowKit
set_option maxHeartbeats 1000000 in
theorem rgap_any (A : Option Addr) (c : Nat) (l : List Int) (B : Nat) (w : World) (h : Ints w B A c l) (hb : ∀ a ∈ l, -100000 ≤ a ∧ a ≤ 100000) (h0 : 0 < l.length) :
    Calls Tryd.prog 60 #[.slice A l.length c] w fun e w' => ∃ lo hi : Int, e = .returned (.int .i64 (hi - lo)) ∧ lo ∈ l ∧ hi ∈ l ∧ (∀ a ∈ l, lo ≤ a ∧ a ≤ hi) ∧ w = w' := by
  have hm := Nat.le_trans h.le h.cap
  unfold maxLen at hm
  have H := Lib.hid h; clear h
  have HB := Lib.hid hb; clear hb
  obtain ⟨b, off, x0, rfl, _, hc0, hx0, _, _⟩ := H.out.elem h0
  obtain ⟨q0, q1⟩ := HB.out x0 hx0
  rw [Nat.add_zero] at hc0
  go_enter Tryd.func60, Tryd.ntmps60
  go_wp2
  go_loop [3, 4, 5] (fun u v i => ∃ (k : Nat) (lo hi : Int), k ≤ l.length ∧ i = .int .i64 k ∧ u = .int .i64 lo ∧ v = .int .i64 hi ∧ -100000 ≤ lo ∧ hi ≤ 100000 ∧ lo ≤ hi ∧ Hid (lo ∈ l ∧ hi ∈ l ∧ ∀ a ∈ l.take k, lo ≤ a ∧ a ≤ hi)) (fun _ _ i => l.length - (intOf i).toNat)
  case atStart => exact ⟨0, x0, x0, Nat.zero_le _, rfl, rfl, rfl, q0, q1, Int.le_refl _, Lib.hid ⟨hx0, hx0, by simp⟩⟩
  case round =>
    obtain ⟨k, lo, hi, hk, rfl, rfl, rfl, l0, l1, l2, HG⟩ := hrel
    by_cases hlt : k < l.length
    · obtain ⟨b', off', x, he, _, hc, hx, HT, HX⟩ := H.out.elem hlt
      obtain ⟨rfl, rfl⟩ : b = b' ∧ off = off' := by simpa using he
      obtain ⟨x1, x2⟩ := HB.out x hx
      have HI := Lib.hid hx
      clear he hx
      have HN : ∀ lo' hi' : Int, (lo' = lo ∨ lo' = x) → (hi' = hi ∨ hi' = x) → lo' ≤ lo → lo' ≤ x → hi ≤ hi' → x ≤ hi' → lo' ∈ l ∧ hi' ∈ l ∧ ∀ a ∈ l.take (k + 1), lo' ≤ a ∧ a ≤ hi' := by
        intro lo' hi' e1 e2 f1 f2 f3 f4
        obtain ⟨m1, m2, m3⟩ := HG.out
        refine ⟨by rcases e1 with rfl | rfl; exact m1; exact HI.out, by rcases e2 with rfl | rfl; exact m2; exact HI.out, fun a ha => ?_⟩
        rw [HT.out] at ha
        rcases List.mem_append.1 ha with ha | ha
        · have := m3 a ha; omega
        · simp at ha; subst ha; omega
      have HN := Lib.hid HN
      clear HG HT HX HI
      by_cases c1 : x < lo
      · have c2 : ¬ hi < x := by omega
        go_wp2
        go_round
        case rel => exact ⟨k + 1, x, hi, by omega, by go_num, rfl, rfl, by omega, by omega, by omega, Lib.hid (HN.out x hi (.inr rfl) (.inl rfl) (by omega) (by omega) (by omega) (by omega))⟩
        case measure => simp [intOf]; omega
      · by_cases c2 : hi < x
        · go_wp2
          go_round
          case rel => exact ⟨k + 1, lo, x, by omega, by go_num, rfl, rfl, by omega, by omega, by omega, Lib.hid (HN.out lo x (.inl rfl) (.inr rfl) (by omega) (by omega) (by omega) (by omega))⟩
          case measure => simp [intOf]; omega
        · go_wp2
          go_round
          case rel => exact ⟨k + 1, lo, hi, by omega, by go_num, rfl, rfl, by omega, by omega, by omega, Lib.hid (HN.out lo hi (.inl rfl) (.inl rfl) (by omega) (by omega) (by omega) (by omega))⟩
          case measure => simp [intOf]; omega
    · have hk' : k = l.length := by omega
      subst hk'
      obtain ⟨m1, m2, m3⟩ := HG.out
      rw [List.take_length] at m3
      go_wp2
      go_ret
      exact ⟨lo, hi, rfl, m1, m2, m3, rfl⟩
theorem Ints.drewN {w : World} {B : Nat} {A : Option Addr} {c : Nat} {l : List Int} (h : Ints w B A c l) (n : Nat) : Ints (w.drewN n) B A c l := h.below (below_drewN (Below.refl B _) n) (Nat.le_refl _)
/-- fairsame.Ints over alike lists -/
theorem sameInts_eq (A A' : Option Addr) (c c' : Nat) (l : List Int) (B B' : Nat) (w : World) (h : Ints w B A c l) (h' : Ints w B' A' c' l) :
    Calls Tryd.prog 44 #[.slice A l.length c, .slice A' l.length c'] w fun e w' => e = .returned (.bool true) ∧ ∃ n, w' = w.drewN n := by
  have hm := Nat.le_trans h.le h.cap
  unfold maxLen at hm
  have H := Lib.hid h; clear h
  have H' := Lib.hid h'; clear h'
  go_enter Tryd.func44, Tryd.ntmps44
  go_wp2
  go_loopw [5] (fun i wr => ∃ k n : Nat, k ≤ l.length ∧ i = .int .i64 k ∧ wr = w.drewN n) (fun i _ => l.length - (intOf i).toNat)
  case atStart => exact ⟨0, 0, Nat.zero_le _, rfl, rfl⟩
  case round =>
    obtain ⟨k, n, hk, rfl, rfl⟩ := hrel
    by_cases hlt : k < l.length
    · obtain ⟨b, off, x, rfl, _, hc, hx, HT, HX⟩ := H.out.elem hlt
      obtain ⟨b', off', x', rfl, _, hc', hx', HT', HX'⟩ := H'.out.elem hlt
      obtain rfl : x = x' := HX.out.symm.trans HX'.out
      clear HT HT' HX HX' hx hx'
      go_wp2
      go_region
      go_wp2
      go_roundw
      case rel => exact ⟨k + 1, n + 1, by omega, by go_num, rfl⟩
      case measure => simp [intOf]; omega
    · go_wp2
      go_ret
      exact ⟨rfl, n, rfl⟩
theorem sameInts_quiet {P : Program} {f : FuncId} {args : Array Value} {w : World} {n : Nat} {v : Value}
    (h : Calls P f args (w.drewN n) fun e w' => e = .returned v ∧ ∃ m, w' = (w.drewN n).drewN m) : Calls P f args (w.drewN n) fun e w'' => e = .returned v ∧ ∃ m, w'' = w.drewN m :=
  h.mono fun _ _ ⟨he, m, hm⟩ => ⟨he, n + m, by rw [hm, World.drewN_drewN]⟩
end Go.Proofs.YtkheobdkmmbjnaaDoor
