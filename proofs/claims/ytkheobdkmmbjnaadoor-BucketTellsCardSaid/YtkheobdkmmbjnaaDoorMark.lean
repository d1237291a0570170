/- Package mark: what its functions compute. -/
import Derived.Test.YtkheobdkmmbjnaaDoorPush
namespace Go.Proofs.YtkheobdkmmbjnaaDoor
open Go.RowKit
attribute [local go_sem ↓] run_min_mn run_max_mx

theorem rate_yes (n : Int) (w : World) (h0 : 0 ≤ n) (h1 : n ≤ 10000) : Calls Tryd.prog 79 #[.int .i64 n] w fun e w' => e = .returned (.bool true) ∧ w = w' := by
  go_enter Tryd.func79, Tryd.ntmps79
  go_wp2
  go_ret
  exact ⟨rfl, rfl⟩
theorem rate_no (n : Int) (w : World) (h : n < 0 ∨ 10000 < n) : Calls Tryd.prog 79 #[.int .i64 n] w fun e w' => e = .returned (.bool false) ∧ w = w' := by
  rcases h with h | h
  · go_enter Tryd.func79, Tryd.ntmps79
    go_wp2
    go_ret
    exact ⟨rfl, rfl⟩
  · have h' : 0 ≤ n := by omega
    have hd : decide (n ≤ 10000) = false := by simpa using h
    go_enter Tryd.func79, Tryd.ntmps79
    go_wp2
    go_ret
    exact ⟨rfl, rfl⟩
theorem part_yes (n : Int) (w : World) (h0 : 0 ≤ n) (h1 : n ≤ 1000) : Calls Tryd.prog 76 #[.int .i64 n] w fun e w' => e = .returned (.bool true) ∧ w = w' := by
  go_enter Tryd.func76, Tryd.ntmps76
  go_wp2
  go_ret
  exact ⟨rfl, rfl⟩
theorem part_no (n : Int) (w : World) (h : n < 0 ∨ 1000 < n) : Calls Tryd.prog 76 #[.int .i64 n] w fun e w' => e = .returned (.bool false) ∧ w = w' := by
  rcases h with h | h
  · go_enter Tryd.func76, Tryd.ntmps76
    go_wp2
    go_ret
    exact ⟨rfl, rfl⟩
  · have h' : 0 ≤ n := by omega
    have hd : decide (n ≤ 1000) = false := by simpa using h
    go_enter Tryd.func76, Tryd.ntmps76
    go_wp2
    go_ret
    exact ⟨rfl, rfl⟩
theorem first_any (f many : Int) (w : World) (h0 : 0 ≤ f) (h1 : f ≤ 1000) (h2 : 0 ≤ many) (h3 : many ≤ 1000000001) : Calls Tryd.prog 77 #[.int .i64 f, .int .i64 many] w fun e w' => e = .returned (.int .i64 (many * f / 1000)) ∧ w = w' := by
  have b1 : 0 ≤ many * f := Int.mul_nonneg h2 h0
  have b2 : many * f ≤ 1000000001 * 1000 := Int.mul_le_mul h3 h1 h0 (by omega)
  go_enter Tryd.func77, Tryd.ntmps77
  go_wp2
  go_ret
  exact ⟨rfl, rfl⟩
theorem first_bd (f many : Int) (h0 : 0 ≤ f) (h1 : f ≤ 1000) (h2 : 0 ≤ many) (h3 : many ≤ 1000000001) : 0 ≤ many * f / 1000 ∧ many * f / 1000 ≤ 1000000001 := by
  have b1 : 0 ≤ many * f := Int.mul_nonneg h2 h0
  have b2 : many * f ≤ 1000000001 * 1000 := Int.mul_le_mul h3 h1 h0 (by omega)
  omega

theorem count_yes (f n m : Int) (w : World) (h0 : 0 ≤ f) (h1 : f ≤ 1000) (h2 : 0 ≤ n) (h3 : n ≤ 10000) (h4 : 0 ≤ m) (h5 : m ≤ 10000) :
    Calls Tryd.prog 21 #[.int .i64 f, .int .i64 n, .int .i64 m] w fun e w' => e = .returned (.tuple #[.int .i64 ((n + m) * f / 1000 - n * f / 1000), .nilIface]) ∧ w = w' := by
  have b1 := first_bd f (n + m) h0 h1 (by omega) (by omega)
  have b2 := first_bd f n h0 h1 (by omega) (by omega)
  go_enter Tryd.func21, Tryd.ntmps21
  go_wp2_with (first | (go_at_call 76; refine (part_yes _ _ h0 h1).mono ?_; rintro e w' ⟨rfl, rfl⟩) | (go_at_call 79; refine (rate_yes _ _ (by omega) (by omega)).mono ?_; rintro e w' ⟨rfl, rfl⟩) | (go_at_call 77; refine (first_any _ _ _ h0 h1 (by omega) (by omega)).mono ?_; rintro e w' ⟨rfl, rfl⟩))
  go_ret2
  exact ⟨rfl, rfl⟩
theorem count_no (f n m : Int) (w : World) (h : f < 0 ∨ 1000 < f ∨ n < 0 ∨ 10000 < n ∨ m < 0 ∨ 10000 < m) :
    Calls Tryd.prog 21 #[.int .i64 f, .int .i64 n, .int .i64 m] w fun e w' => e = .returned (.tuple #[.int .i64 0, .iface 124 (.int .i64 1)]) ∧ w = w' := by
  by_cases a : f < 0 ∨ 1000 < f
  · go_enter Tryd.func21, Tryd.ntmps21
    go_wp2_with (go_at_call 76; refine (part_no _ _ a).mono ?_; rintro e w' ⟨rfl, rfl⟩)
    go_ret2
    exact ⟨rfl, rfl⟩
  · by_cases b : n < 0 ∨ 10000 < n
    · go_enter Tryd.func21, Tryd.ntmps21
      go_wp2_with (first | (go_at_call 76; refine (part_yes _ _ (by omega) (by omega)).mono ?_; rintro e w' ⟨rfl, rfl⟩) | (go_at_call 79; refine (rate_no _ _ b).mono ?_; rintro e w' ⟨rfl, rfl⟩))
      go_ret2
      exact ⟨rfl, rfl⟩
    · have c : m < 0 ∨ 10000 < m := by omega
      go_enter Tryd.func21, Tryd.ntmps21
      go_wp2_with fail
      refine (part_yes _ _ (by omega) (by omega)).mono ?_; rintro e w' ⟨rfl, rfl⟩
      go_wp2_with fail
      refine (rate_yes _ _ (by omega) (by omega)).mono ?_; rintro e w' ⟨rfl, rfl⟩
      go_wp2_with fail
      refine (rate_no _ _ c).mono ?_; rintro e w' ⟨rfl, rfl⟩
      go_wp2
      go_ret2
      exact ⟨rfl, rfl⟩
/-- is the i-th marked? -/
def marked (f : Int) (i : Int) : Bool := decide (i * f / 1000 < (i + 1) * f / 1000)
theorem is_yes (f i : Int) (w : World) (h0 : 0 ≤ f) (h1 : f ≤ 1000) (h2 : 0 ≤ i) (h3 : i ≤ 1000000000) :
    Calls Tryd.prog 19 #[.int .i64 f, .int .i64 i] w fun e w' => e = .returned (.tuple #[.bool (marked f i), .nilIface]) ∧ w = w' := by
  have b1 := first_bd f (i + 1) h0 h1 (by omega) (by omega)
  have b2 := first_bd f i h0 h1 (by omega) (by omega)
  go_enter Tryd.func19, Tryd.ntmps19
  go_wp2_with (first | (go_at_call 76; refine (part_yes _ _ h0 h1).mono ?_; rintro e w' ⟨rfl, rfl⟩) | (go_at_call 77; refine (first_any _ _ _ h0 h1 (by omega) (by omega)).mono ?_; rintro e w' ⟨rfl, rfl⟩))
  go_ret2
  exact ⟨rfl, rfl⟩
theorem is_no (f i : Int) (w : World) (h : f < 0 ∨ 1000 < f ∨ i < 0 ∨ 1000000000 < i) :
    Calls Tryd.prog 19 #[.int .i64 f, .int .i64 i] w fun e w' => e = .returned (.tuple #[.bool false, .iface 124 (.int .i64 1)]) ∧ w = w' := by
  by_cases a : f < 0 ∨ 1000 < f
  · go_enter Tryd.func19, Tryd.ntmps19
    go_wp2_with (go_at_call 76; refine (part_no _ _ a).mono ?_; rintro e w' ⟨rfl, rfl⟩)
    go_ret2
    exact ⟨rfl, rfl⟩
  · by_cases b : i < 0
    · go_enter Tryd.func19, Tryd.ntmps19
      go_wp2_with (go_at_call 76; refine (part_yes _ _ (by omega) (by omega)).mono ?_; rintro e w' ⟨rfl, rfl⟩)
      go_ret2
      exact ⟨rfl, rfl⟩
    · have c : 1000000000 < i := by omega
      go_enter Tryd.func19, Tryd.ntmps19
      go_wp2_with (go_at_call 76; refine (part_yes _ _ (by omega) (by omega)).mono ?_; rintro e w' ⟨rfl, rfl⟩)
      go_ret2
      exact ⟨rfl, rfl⟩
/-- the first so many -/
def marks (f : Int) (k : Nat) : List Value := (List.range k).map fun (i : Nat) => Value.bool (marked f i)
theorem marks_succ (f : Int) (k : Nat) : marks f (k + 1) = marks f k ++ [.bool (marked f k)] := by simp [marks, List.range_succ]
theorem Tryd.info_bool : (Tryd.prog.info? 4).map (fun i => (i.zero, i.size, i.bytes)) = some (some (.bool false), 1, 1) := by kernel_rfl
set_option maxHeartbeats 800000 in
theorem list_yes (f m : Int) (w : World) (h0 : 0 ≤ f) (h1 : f ≤ 1000) (h2 : 0 ≤ m) (h3 : m ≤ 60) :
    Calls Tryd.prog 22 #[.int .i64 f, .int .i64 m] w fun e w' => ∃ v, e = .returned (.tuple #[v, .nilIface]) ∧ w'.ownsRow w.heap.size 4 1 v m.toNat (marks f m.toNat) ∧ Below w.heap.size w w' := by
  obtain ⟨n, rfl⟩ := Int.eq_ofNat_of_zero_le h2
  rw [Int.toNat_natCast]
  go_enter Tryd.func22, Tryd.ntmps22
  go_wp2_with (go_at_call 76; refine (part_yes _ _ h0 h1).mono ?_; rintro e w' ⟨rfl, rfl⟩)
  go_loopw [6, 21] (fun v i wr => ∃ k : Nat, k ≤ n ∧ i = .int .i64 k ∧ wr.ownsRow w.heap.size 4 1 v k (marks f k) ∧ Below w.heap.size w wr) (fun _ i _ => n - (intOf i).toNat)
  case atStart => exact ⟨0, Nat.zero_le _, rfl, World.ownsRow_nil _ _ _ _, Below.refl _ _⟩
  case round =>
    obtain ⟨k, hk, rfl, hown, hb⟩ := hrel
    by_cases hlt : k < n
    · have b1 := first_bd f (k + 1) h0 h1 (by omega) (by omega)
      have b2 := first_bd f k h0 h1 (by omega) (by omega)
      have HM := Lib.hid (marks_succ f k)
      go_wp2_with (first | (go_at_call 77; refine (first_any _ _ _ h0 h1 (by omega) (by omega)).mono ?_; rintro e w' ⟨rfl, rfl⟩) | (at_builtin; refine wpList_push wr _ rfl (.tmp 24) (.tmp 33) 30 rfl w.heap.size 4 (.bool false) 1 1 Tryd.underlying30 Tryd.info_bool rfl (by omega) _ k _ rfl hown rfl rfl (by simp [Value.oneCell']) (by omega) (by omega) hb.size ?_; intro v' w1 hown1 hg1))
      go_roundw
      case rel => exact ⟨k + 1, by omega, by go_num, by rw [HM.out]; exact hown1, below_push hb hown hg1 (Nat.le_refl _) hb.size⟩
      case measure => simp [intOf]; omega
    · have e : k = n := by omega
      subst e
      go_wp2
      go_ret2
      exact ⟨_, rfl, hown, hb⟩
theorem list_no (f m : Int) (w : World) (h : f < 0 ∨ 1000 < f ∨ m < 0 ∨ 60 < m) :
    Calls Tryd.prog 22 #[.int .i64 f, .int .i64 m] w fun e w' => e = .returned (.tuple #[.slice none 0 0, .iface 124 (.int .i64 1)]) ∧ w = w' := by
  by_cases a : f < 0 ∨ 1000 < f
  · go_enter Tryd.func22, Tryd.ntmps22
    go_wp2_with (go_at_call 76; refine (part_no _ _ a).mono ?_; rintro e w' ⟨rfl, rfl⟩)
    go_ret2
    exact ⟨rfl, rfl⟩
  · by_cases b : m < 0
    · go_enter Tryd.func22, Tryd.ntmps22
      go_wp2_with (go_at_call 76; refine (part_yes _ _ (by omega) (by omega)).mono ?_; rintro e w' ⟨rfl, rfl⟩)
      go_ret2
      exact ⟨rfl, rfl⟩
    · have c : 60 < m := by omega
      go_enter Tryd.func22, Tryd.ntmps22
      go_wp2_with (go_at_call 76; refine (part_yes _ _ (by omega) (by omega)).mono ?_; rintro e w' ⟨rfl, rfl⟩)
      go_ret2
      exact ⟨rfl, rfl⟩
end Go.Proofs.YtkheobdkmmbjnaaDoor
