/- Package aimd: what its functions compute. -/
import Derived.Test.YtblanfaghnflkaaLibA
import Derived.Test.YtblanfaghnflkaaPlAimd
namespace Go.Proofs.Ytblanfaghnflkaa
open Go.RowKit
attribute [local go_sem ↓] run_min_mn run_max_mx
def badShare (n : Int) : Bool := decide (n < 0) || decide (10000 < n)
theorem badShare_iff (n : Int) : badShare n = false ↔ 0 ≤ n ∧ n ≤ 10000 := by
  simp only [badShare, Bool.or_eq_false_iff, decide_eq_false_iff_not]; omega
theorem shares1_any (n : Int) (w : World) : Calls Try.prog 102 (#[.int .i64 n] ++ #[]) w fun e w' => e = .returned (.bool (badShare n)) ∧ w = w' := by
  show Calls Try.prog 102 #[.int .i64 n] w _
  by_cases h : n < 0
  · have hb : badShare n = true := by simp [badShare, h]
    rw [hb]; clear hb
    go_enter Try.func102, Try.ntmps102
    go_wp2
    go_ret
    exact ⟨rfl, rfl⟩
  · have hd : decide (n < 0) = false := decide_eq_false h
    have hb : badShare n = decide (10000 < n) := by simp [badShare, hd]
    rw [hb]; clear hb
    go_enter Try.func102, Try.ntmps102
    go_wp2
    go_ret
    exact ⟨rfl, rfl⟩
theorem shares1_cf (a : Array Value) (W : World) : (callFunc 102 a).run Try.prog W = .ok (.enter 102 a) W := by kernel_rfl
theorem shares_none (A : Option Addr) (c : Nat) (w : World) : Calls Try.prog 90 #[.slice A 0 c] w fun e w' => e = .returned (.iface 71 (.int .i64 5)) ∧ w = w' := by
  go_enter Try.func90, Try.ntmps90
  go_wp2
  go_ret
  exact ⟨rfl, rfl⟩
theorem shares_full (A : Option Addr) (c n : Nat) (w : World) (h : 6 < n) (hm : n ≤ maxLen) : Calls Try.prog 90 #[.slice A n c] w fun e w' => e = .returned (.iface 71 (.int .i64 4)) ∧ w = w' := by
  unfold maxLen at hm
  have hz : ((n : Int) == 0) = false := beq_eq_false_iff_ne.2 (by omega)
  go_enter Try.func90, Try.ntmps90
  go_wp2
  go_ret
  exact ⟨rfl, rfl⟩
theorem shares_bad (A : Option Addr) (c : Nat) (l : List Int) (B : Nat) (w : World) (h : Ints w B A c l) (h0 : 0 < l.length) (hl : l.length ≤ 6) (hbad : l.any badShare = true) :
    Calls Try.prog 90 #[.slice A l.length c] w fun e w' => e = .returned (.iface 71 (.int .i64 1)) ∧ w = w' := by
  have HC := Lib.hid (contains_any A c l B w h 102 #[] badShare shares1_cf fun x _ => shares1_any x w)
  have HB := Lib.hid hbad
  clear h hbad
  have hz : ((l.length : Int) == 0) = false := beq_eq_false_iff_ne.2 (by omega)
  go_enter Try.func90, Try.ntmps90
  go_wp2_with fail
  refine HC.out.mono ?_; rintro e w' ⟨rfl, rfl⟩
  rw [HB.out]
  go_wp2
  go_ret
  exact ⟨rfl, rfl⟩
theorem shares_ok (A : Option Addr) (c : Nat) (l : List Int) (B : Nat) (w : World) (h : Ints w B A c l) (h0 : 0 < l.length) (hl : l.length ≤ 6) (hok : l.any badShare = false) :
    Calls Try.prog 90 #[.slice A l.length c] w fun e w' => e = .returned .nilIface ∧ w = w' := by
  have HC := Lib.hid (contains_any A c l B w h 102 #[] badShare shares1_cf fun x _ => shares1_any x w)
  have HB := Lib.hid hok
  clear h hok
  have hz : ((l.length : Int) == 0) = false := beq_eq_false_iff_ne.2 (by omega)
  go_enter Try.func90, Try.ntmps90
  go_wp2_with fail
  refine HC.out.mono ?_; rintro e w' ⟨rfl, rfl⟩
  rw [HB.out]
  go_wp2
  go_ret
  exact ⟨rfl, rfl⟩
def SharesOk (l : List Int) : Prop := 0 < l.length ∧ l.length ≤ 6 ∧ l.any badShare = false
theorem shares_in {l : List Int} (h : l.any badShare = false) : ∀ n ∈ l, 0 ≤ n ∧ n ≤ 10000 := fun n hn => by
  rw [← badShare_iff]
  cases e : badShare n
  · rfl
  · rw [List.any_eq_true.2 ⟨n, hn, e⟩] at h; cases h
/-- the fault of shares -/
def sharesErr (l : List Int) : Int := if l.length = 0 then 5 else if 6 < l.length then 4 else 1
theorem shares_no (A : Option Addr) (c : Nat) (l : List Int) (B : Nat) (w : World) (h : Ints w B A c l) (no : ¬ SharesOk l) :
    Calls Try.prog 90 #[.slice A l.length c] w fun e w' => e = .returned (.iface 71 (.int .i64 (sharesErr l))) ∧ w = w' := by
  by_cases h0 : l.length = 0
  · have e : sharesErr l = 5 := by simp [sharesErr, h0]
    rw [e, h0]; exact shares_none A c w
  · by_cases h6 : 6 < l.length
    · have e : sharesErr l = 4 := by unfold sharesErr; rw [if_neg h0, if_pos h6]
      rw [e]; exact shares_full A c l.length w h6 (Nat.le_trans h.le h.cap)
    · have e : sharesErr l = 1 := by unfold sharesErr; rw [if_neg h0, if_neg h6]
      rw [e]
      refine shares_bad A c l B w h (by omega) (by omega) ?_
      cases hb : l.any badShare
      · exact absurd ⟨by omega, by omega, hb⟩ no
      · rfl
set_option maxHeartbeats 400000 in
theorem asum_any (A : Option Addr) (c : Nat) (l : List Int) (B : Nat) (w : World) (h : Ints w B A c l) (hb : ∀ a ∈ l, 0 ≤ a ∧ a ≤ 10000) (hlen : l.length ≤ 60) :
    Calls Try.prog 91 #[.slice A l.length c] w fun e w' => e = .returned (.int .i64 (tot l)) ∧ w = w' := by
  have H := Lib.hid h; clear h
  have HB := Lib.hid hb; clear hb
  go_enter Try.func91, Try.ntmps91
  go_wp2
  go_loop [3, 8] (fun s i => ∃ k : Nat, k ≤ l.length ∧ i = .int .i64 k ∧ s = .int .i64 (tot (l.take k))) (fun _ i => l.length - (intOf i).toNat)
  case atStart => exact ⟨0, Nat.zero_le _, rfl, rfl⟩
  case round =>
    obtain ⟨k, hk, rfl, rfl⟩ := hrel
    by_cases hlt : k < l.length
    · obtain ⟨b, off, x, rfl, _, hc, hx, HT, HX⟩ := H.out.elem hlt
      have h1 := tot_bound_take l 10000 HB.out k
      have h2 := HB.out x hx
      have h3 : (l.take k).length ≤ k := List.length_take_le _ _
      go_wp2
      go_round
      case rel => exact ⟨k + 1, by omega, by go_num, by rw [HT.out, tot_snoc]⟩
      case measure => simp [intOf]; omega
    · go_wp2
      go_ret
      exact ⟨by rw [List.take_of_length_le (by omega)]; rfl, rfl⟩
def AimdOk (l : List Int) (limit up : Int) : Prop := SharesOk l ∧ 1 ≤ limit ∧ limit ≤ 1000 ∧ 1 ≤ up ∧ up ≤ 1000
theorem acheck_yes (A : Option Addr) (c : Nat) (l : List Int) (limit up : Int) (B : Nat) (w : World) (h : Ints w B A c l) (ok : AimdOk l limit up) :
    Calls Try.prog 67 #[.slice A l.length c, .int .i64 limit, .int .i64 up] w fun e w' => e = .returned .nilIface ∧ w = w' := by
  obtain ⟨hs, g1, g2, g3, g4⟩ := ok
  have HC := Lib.hid (shares_ok A c l B w h hs.1 hs.2.1 hs.2.2)
  clear h hs
  go_enter Try.func67, Try.ntmps67
  go_wp2_with fail
  refine HC.out.mono ?_; rintro e w' ⟨rfl, rfl⟩
  go_wp2
  go_ret
  exact ⟨rfl, rfl⟩
/-- the fault -/
def aimdErr (l : List Int) (_limit _up : Int) : Int := if l.length = 0 then 5 else if 6 < l.length then 4 else 1
theorem acheck_no (A : Option Addr) (c : Nat) (l : List Int) (limit up : Int) (B : Nat) (w : World) (h : Ints w B A c l) (no : ¬ AimdOk l limit up) :
    Calls Try.prog 67 #[.slice A l.length c, .int .i64 limit, .int .i64 up] w fun e w' => e = .returned (.iface 71 (.int .i64 (aimdErr l limit up))) ∧ w = w' := by
  by_cases hs : SharesOk l
  · have hd : limit < 1 ∨ (1 ≤ limit ∧ 1000 < limit) ∨ (1 ≤ limit ∧ limit ≤ 1000 ∧ up < 1) ∨ (1 ≤ limit ∧ limit ≤ 1000 ∧ 1 ≤ up ∧ 1000 < up) := by
      by_cases a : 1 ≤ limit ∧ limit ≤ 1000 ∧ 1 ≤ up ∧ up ≤ 1000
      · exact absurd ⟨hs, a⟩ no
      · omega
    have e : aimdErr l limit up = 1 := by
      have := hs.1; have := hs.2.1
      unfold aimdErr; rw [if_neg (by omega), if_neg (by omega)]
    rw [e]
    have HC := Lib.hid (shares_ok A c l B w h hs.1 hs.2.1 hs.2.2)
    clear h hs no e
    rcases hd with d | ⟨d1, d⟩ | ⟨d1, d2, d⟩ | ⟨d1, d2, d3, d⟩
    all_goals
      go_enter Try.func67, Try.ntmps67
      go_wp2_with fail
      refine HC.out.mono ?_; rintro e w' ⟨rfl, rfl⟩
      go_wp2
      go_ret
      exact ⟨rfl, rfl⟩
  · have HC := Lib.hid (shares_no A c l B w h hs)
    clear h hs no
    show Calls Try.prog 67 #[.slice A l.length c, .int .i64 limit, .int .i64 up] w fun e w' => e = .returned (.iface 71 (.int .i64 (sharesErr l))) ∧ w = w'
    generalize sharesErr l = er at *
    go_enter Try.func67, Try.ntmps67
    go_wp2_with fail
    refine HC.out.mono ?_; rintro e w' ⟨rfl, rfl⟩
    go_wp2
    go_ret
    exact ⟨rfl, rfl⟩
end Go.Proofs.Ytblanfaghnflkaa
