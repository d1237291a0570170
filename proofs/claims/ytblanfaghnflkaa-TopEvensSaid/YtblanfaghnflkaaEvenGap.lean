/- slices.Max, slices.Min over ints, even.Gap. -/
import Derived.Test.YtblanfaghnflkaaEven
namespace Go.Proofs.Ytblanfaghnflkaa
open Go.RowKit
attribute [local go_sem ↓] run_min_mn run_max_mx
/-- the greatest, the least of a list that is not empty -/
def lmax (l : List Int) : Int := l.foldl max (l.headD 0)
def lmin (l : List Int) : Int := l.foldl min (l.headD 0)
theorem lmax_snoc (l : List Int) (x : Int) (h : l ≠ []) : lmax (l ++ [x]) = max (lmax l) x := by
  cases l with
  | nil => exact absurd rfl h
  | cons a l => simp [lmax]
theorem lmin_snoc (l : List Int) (x : Int) (h : l ≠ []) : lmin (l ++ [x]) = min (lmin l) x := by
  cases l with
  | nil => exact absurd rfl h
  | cons a l => simp [lmin]
theorem foldl_max (l : List Int) (a : Int) : (l.foldl max a = a ∨ l.foldl max a ∈ l) ∧ a ≤ l.foldl max a ∧ ∀ x ∈ l, x ≤ l.foldl max a := by
  induction l generalizing a with
  | nil => simp
  | cons b l ih =>
    obtain ⟨h1, h2, h3⟩ := ih (max a b)
    simp only [List.foldl_cons]
    refine ⟨?_, by omega, fun x hx => ?_⟩
    · rcases h1 with h | h
      · rcases Int.le_total a b with hab | hab
        · exact .inr (by rw [h, show max a b = b by omega]; exact List.mem_cons_self)
        · exact .inl (by rw [h]; omega)
      · exact .inr (List.mem_cons_of_mem _ h)
    · rcases List.mem_cons.1 hx with rfl | hx
      · omega
      · exact h3 x hx
theorem foldl_min (l : List Int) (a : Int) : (l.foldl min a = a ∨ l.foldl min a ∈ l) ∧ l.foldl min a ≤ a ∧ ∀ x ∈ l, l.foldl min a ≤ x := by
  induction l generalizing a with
  | nil => simp
  | cons b l ih =>
    obtain ⟨h1, h2, h3⟩ := ih (min a b)
    simp only [List.foldl_cons]
    refine ⟨?_, by omega, fun x hx => ?_⟩
    · rcases h1 with h | h
      · rcases Int.le_total a b with hab | hab
        · exact .inl (by rw [h]; omega)
        · exact .inr (by rw [h, show min a b = b by omega]; exact List.mem_cons_self)
      · exact .inr (List.mem_cons_of_mem _ h)
    · rcases List.mem_cons.1 hx with rfl | hx
      · omega
      · exact h3 x hx
theorem lmax_spec (l : List Int) (h : l ≠ []) : lmax l ∈ l ∧ ∀ x ∈ l, x ≤ lmax l := by
  cases l with
  | nil => exact absurd rfl h
  | cons a l =>
    obtain ⟨h1, h2, h3⟩ := foldl_max (a :: l) a
    refine ⟨?_, h3⟩
    show (a :: l).foldl max a ∈ a :: l
    rcases h1 with h | h
    · rw [h]; exact List.mem_cons_self
    · exact h
theorem lmin_spec (l : List Int) (h : l ≠ []) : lmin l ∈ l ∧ ∀ x ∈ l, lmin l ≤ x := by
  cases l with
  | nil => exact absurd rfl h
  | cons a l =>
    obtain ⟨h1, h2, h3⟩ := foldl_min (a :: l) a
    refine ⟨?_, h3⟩
    show (a :: l).foldl min a ∈ a :: l
    rcases h1 with h | h
    · rw [h]; exact List.mem_cons_self
    · exact h
def gapL (l : List Int) : Int := lmax l - lmin l
theorem gapL_of {l : List Int} {lo hi : Int} (h1 : lo ∈ l) (h2 : hi ∈ l) (h3 : ∀ a ∈ l, lo ≤ a ∧ a ≤ hi) : hi - lo = gapL l := by
  have hne : l ≠ [] := List.ne_nil_of_mem h1
  obtain ⟨m1, m2⟩ := lmax_spec l hne
  obtain ⟨n1, n2⟩ := lmin_spec l hne
  have := m2 hi h2; have := (h3 _ m1).2; have := n2 lo h1; have := (h3 _ n1).1
  unfold gapL; omega
set_option maxHeartbeats 1000000 in
theorem smax_any (A : Option Addr) (c : Nat) (l : List Int) (B : Nat) (w : World) (h : Ints w B A c l) (h0 : 0 < l.length) (h6 : l.length ≤ 1000) :
    Calls Try.prog 65 #[.slice A l.length c] w fun e w' => e = .returned (.int .i64 (lmax l)) ∧ w = w' := by
  have H := Lib.hid h; clear h
  have hlt1 : ¬ ((l.length : Int) < 1) := by omega
  obtain ⟨b0, off0, x0, rfl, _, hc0, hx0, HT0, HX0⟩ := H.out.elem h0
  have hh : lmax (l.take 1) = x0 := by
    have := HT0.out
    rw [this]; simp [lmax]
  have HH := Lib.hid hh
  have hc00 : w.cell? ⟨b0, off0, none⟩ = some (.int .i64 x0) := by simpa using hc0
  clear hh HT0 HX0 hx0 hc0
  go_enter Try.func65, Try.ntmps65
  go_wp2
  go_loop [3, 4] (fun m i => ∃ k : Nat, 1 ≤ k ∧ k ≤ l.length ∧ i = .int .i64 k ∧ m = .int .i64 (lmax (l.take k))) (fun _ i => l.length - (intOf i).toNat)
  case atStart => exact ⟨1, Nat.le_refl _, h0, rfl, by rw [HH.out]⟩
  case round =>
    obtain ⟨k, hk1, hk, rfl, rfl⟩ := hrel
    by_cases hlt : k < l.length
    · obtain ⟨x, hc, hx, HX⟩ := H.out.here hlt
      have HS : Hid (lmax (l.take (k + 1)) = max (lmax (l.take k)) x) := Lib.hid (by
        rw [take_snoc' l k x HX.out, lmax_snoc _ _ (by intro hn; have := congrArg List.length hn; rw [List.length_take, List.length_nil] at this; omega)])
      clear HX hx
      generalize lmax (l.take k) = m at *
      go_wp2
      go_round
      case rel => exact ⟨k + 1, by omega, by omega, by go_num, by rw [HS.out]⟩
      case measure => simp [intOf]; omega
    · obtain rfl : k = l.length := by omega
      have e1 : l.take l.length = l := List.take_length
      rw [e1]
      go_wp2
      go_ret
      exact ⟨rfl, rfl⟩
set_option maxHeartbeats 1000000 in
theorem smin_any (A : Option Addr) (c : Nat) (l : List Int) (B : Nat) (w : World) (h : Ints w B A c l) (h0 : 0 < l.length) (h6 : l.length ≤ 1000) :
    Calls Try.prog 66 #[.slice A l.length c] w fun e w' => e = .returned (.int .i64 (lmin l)) ∧ w = w' := by
  have H := Lib.hid h; clear h
  have hlt1 : ¬ ((l.length : Int) < 1) := by omega
  obtain ⟨b0, off0, x0, rfl, _, hc0, hx0, HT0, HX0⟩ := H.out.elem h0
  have hh : lmin (l.take 1) = x0 := by
    have := HT0.out
    rw [this]; simp [lmin]
  have HH := Lib.hid hh
  have hc00 : w.cell? ⟨b0, off0, none⟩ = some (.int .i64 x0) := by simpa using hc0
  clear hh HT0 HX0 hx0 hc0
  go_enter Try.func66, Try.ntmps66
  go_wp2
  go_loop [3, 4] (fun m i => ∃ k : Nat, 1 ≤ k ∧ k ≤ l.length ∧ i = .int .i64 k ∧ m = .int .i64 (lmin (l.take k))) (fun _ i => l.length - (intOf i).toNat)
  case atStart => exact ⟨1, Nat.le_refl _, h0, rfl, by rw [HH.out]⟩
  case round =>
    obtain ⟨k, hk1, hk, rfl, rfl⟩ := hrel
    by_cases hlt : k < l.length
    · obtain ⟨x, hc, hx, HX⟩ := H.out.here hlt
      have HS : Hid (lmin (l.take (k + 1)) = min (lmin (l.take k)) x) := Lib.hid (by
        rw [take_snoc' l k x HX.out, lmin_snoc _ _ (by intro hn; have := congrArg List.length hn; rw [List.length_take, List.length_nil] at this; omega)])
      clear HX hx
      generalize lmin (l.take k) = m at *
      go_wp2
      go_round
      case rel => exact ⟨k + 1, by omega, by omega, by go_num, by rw [HS.out]⟩
      case measure => simp [intOf]; omega
    · obtain rfl : k = l.length := by omega
      have e1 : l.take l.length = l := List.take_length
      rw [e1]
      go_wp2
      go_ret
      exact ⟨rfl, rfl⟩
theorem egap_err (A : Option Addr) (c : Nat) (l : List Int) (B : Nat) (w : World) (h : Ints w B A c l) (er : Int) (he : fewErr l 1000 = er) (hp : er ≠ 0) :
    Calls Try.prog 32 #[.slice A l.length c] w fun e w' => e = .returned (.tuple #[.int .i64 0, .iface 71 (.int .i64 er)]) ∧ w = w' := by
  have HC := Lib.hid (echeck_no A c l B w h er he hp)
  clear h he hp
  go_enter Try.func32, Try.ntmps32
  go_wp2_with fail
  refine HC.out.mono ?_; rintro e w1 ⟨rfl, rfl⟩
  go_wp2
  go_ret2
  exact ⟨rfl, rfl⟩
theorem egap_in (A : Option Addr) (c : Nat) (l : List Int) (B : Nat) (w : World) (h : Ints w B A c l) (he : fewErr l 1000 = 0) :
    Calls Try.prog 32 #[.slice A l.length c] w fun e w' => e = .returned (.tuple #[.int .i64 (gapL l), .nilIface]) ∧ w = w' := by
  obtain ⟨h0, h6, hbad⟩ := few_ok he
  have hne : l ≠ [] := by intro h; rw [h] at h0; simp at h0
  have hb := badTo_in hbad
  have m1 := hb _ (lmax_spec l hne).1
  have m2 := hb _ (lmin_spec l hne).1
  obtain ⟨m1, m3⟩ := m1
  obtain ⟨m2, m4⟩ := m2
  have HC := Lib.hid (echeck_yes A c l B w h he)
  have HMX := Lib.hid (smax_any A c l B w h h0 (by omega))
  have HMN := Lib.hid (smin_any A c l B w h h0 (by omega))
  unfold gapL
  clear h he hbad hne hb
  generalize lmax l = x at *
  generalize lmin l = y at *
  go_enter Try.func32, Try.ntmps32
  go_wp2_with fail
  refine HC.out.mono ?_; rintro e w1 ⟨rfl, rfl⟩
  go_wp2_with fail
  refine HMX.out.mono ?_; rintro e w1 ⟨rfl, rfl⟩
  go_wp2_with fail
  refine HMN.out.mono ?_; rintro e w1 ⟨rfl, rfl⟩
  go_wp2
  go_ret2
  exact ⟨rfl, rfl⟩
end Go.Proofs.Ytblanfaghnflkaa
