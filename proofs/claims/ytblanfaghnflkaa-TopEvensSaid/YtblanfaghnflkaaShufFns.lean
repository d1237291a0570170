/- Package shuffle: what its functions compute (first part). -/
import Derived.Test.YtblanfaghnflkaaAimdFns
import Derived.Test.YtblanfaghnflkaaMark
import Derived.Test.YtblanfaghnflkaaPlShuf
import Derived.Test.YtblanfaghnflkaaSortAll
import Derived.Test.YtblanfaghnflkaaLibA
namespace Go.Proofs.Ytblanfaghnflkaa
open Go.RowKit
theorem taken1_any (n p : Int) (w : World) (h0 : 0 ≤ n) (h1 : n ≤ 10000) (p0 : 0 ≤ p) (p1 : p ≤ 1000) : Calls Try.prog 60 #[.int .i64 n, .int .i64 p] w fun e w' => e = .returned (.int .i64 (n * p / 1000)) ∧ w = w' := by
  have m0 : 0 ≤ n * p := Int.mul_nonneg h0 p0
  have m1 : n * p ≤ 10000 * 1000 := Int.mul_le_mul h1 p1 p0 (by omega)
  go_enter Try.func60, Try.ntmps60
  go_wp2
  go_ret
  exact ⟨rfl, rfl⟩
def PartOk (p : Int) : Prop := 0 ≤ p ∧ p ≤ 1000
instance (p : Int) : Decidable (PartOk p) := by unfold PartOk; infer_instance
instance (l : List Int) : Decidable (SharesOk l) := by unfold SharesOk; infer_instance
def shufErr (l : List Int) (p : Int) : Int := if ¬ SharesOk l then sharesErr l else if ¬ PartOk p then 1 else 0
theorem shuf_ok {l : List Int} {p : Int} (h : shufErr l p = 0) : SharesOk l ∧ PartOk p := by
  unfold shufErr at h
  split at h
  · unfold sharesErr at h; split at h
    · omega
    · split at h <;> omega
  · split at h
    · omega
    · rename_i h1 h2
      exact ⟨Decidable.not_not.1 h1, Decidable.not_not.1 h2⟩
theorem shufcheck_yes (A : Option Addr) (c : Nat) (l : List Int) (p : Int) (B : Nat) (w : World) (h : Ints w B A c l) (he : shufErr l p = 0) :
    Calls Try.prog 86 #[.slice A l.length c, .int .i64 p] w fun e w' => e = .returned .nilIface ∧ w = w' := by
  obtain ⟨hs, p0, p1⟩ := shuf_ok he
  have HC := Lib.hid (shares_ok A c l B w h hs.1 hs.2.1 hs.2.2)
  clear h hs he
  go_enter Try.func86, Try.ntmps86
  go_wp2_with fail
  refine HC.out.mono ?_; rintro e w' ⟨rfl, rfl⟩
  go_wp2_with fail
  refine (part_yes p _ p0 p1).mono ?_; rintro e w' ⟨rfl, rfl⟩
  go_wp2
  go_ret
  exact ⟨rfl, rfl⟩
theorem shufcheck_no (A : Option Addr) (c : Nat) (l : List Int) (p : Int) (B : Nat) (w : World) (h : Ints w B A c l) (er : Int) (he : shufErr l p = er) (hp : er ≠ 0) :
    Calls Try.prog 86 #[.slice A l.length c, .int .i64 p] w fun e w' => e = .returned (.iface 71 (.int .i64 er)) ∧ w = w' := by
  subst he
  by_cases hs : SharesOk l
  · have e : shufErr l p = 1 := by
      unfold shufErr at *
      rw [if_neg (fun x => x hs)] at *
      by_cases hq : PartOk p
      · rw [if_neg (fun x => x hq)] at hp; exact absurd rfl hp
      · rw [if_pos hq]
    have hq : p < 0 ∨ 1000 < p := by
      unfold shufErr at e
      rw [if_neg (fun x => x hs)] at e
      by_cases hq : PartOk p
      · rw [if_neg (fun x => x hq)] at e; omega
      · unfold PartOk at hq; omega
    rw [e]
    have HC := Lib.hid (shares_ok A c l B w h hs.1 hs.2.1 hs.2.2)
    clear h hs hp e
    go_enter Try.func86, Try.ntmps86
    go_wp2_with fail
    refine HC.out.mono ?_; rintro e w' ⟨rfl, rfl⟩
    go_wp2_with fail
    refine (part_no p _ hq).mono ?_; rintro e w' ⟨rfl, rfl⟩
    clear hq
    go_wp2
    go_ret
    exact ⟨rfl, rfl⟩
  · have e : shufErr l p = sharesErr l := by unfold shufErr; rw [if_pos hs]
    rw [e]
    have HC := Lib.hid (shares_no A c l B w h hs)
    clear h hs hp e
    generalize sharesErr l = er at *
    go_enter Try.func86, Try.ntmps86
    go_wp2_with fail
    refine HC.out.mono ?_; rintro e w' ⟨rfl, rfl⟩
    go_wp2
    go_ret
    exact ⟨rfl, rfl⟩
theorem all_snoc (l : List Int) (x p : Int) : PS.all (l ++ [x]) p = PS.all l p + x * p / 1000 := by unfold PS.all; rw [List.map_append, tot_append]; simp [tot]
theorem all_bd {l : List Int} {p : Int} (h : ∀ a ∈ l, 0 ≤ a ∧ a ≤ 10000) (hl : l.length ≤ 6) (p0 : 0 ≤ p) (p1 : p ≤ 1000) : 0 ≤ PS.all l p ∧ PS.all l p ≤ 60000 := by
  obtain ⟨h1, h2⟩ := PS.all_bounds l p 10000 h p0
  have h3 : 10000 * p / 1000 ≤ 10000 := by omega
  have h4 : 0 ≤ 10000 * p / 1000 := by omega
  have : (l.length : Int) * (10000 * p / 1000) ≤ 6 * 10000 := Int.mul_le_mul (by omega) h3 h4 (by omega)
  omega
set_option maxHeartbeats 1000000 in
theorem takenAll_yes (A : Option Addr) (c : Nat) (l : List Int) (p : Int) (B : Nat) (w : World) (h : Ints w B A c l) (he : shufErr l p = 0) (y : Int) (hy : PS.all l p = y) :
    Calls Try.prog 59 #[.slice A l.length c, .int .i64 p] w fun e w' => e = .returned (.tuple #[.int .i64 y, .nilIface]) ∧ w = w' := by
  have HC := Lib.hid (shufcheck_yes A c l p B w h he)
  obtain ⟨⟨h0, h6, hbad⟩, p0, p1⟩ := shuf_ok he
  have HB := Lib.hid (shares_in hbad)
  have H := Lib.hid h
  have HY := Lib.hid hy
  clear h he hbad hy
  go_enter Try.func59, Try.ntmps59
  go_wp2_with fail
  refine HC.out.mono ?_; rintro e w' ⟨rfl, rfl⟩
  go_wp2
  go_loop [7, 18] (fun s i => ∃ k : Nat, k ≤ l.length ∧ i = .int .i64 k ∧ s = .int .i64 (PS.all (l.take k) p)) (fun _ i => l.length - (intOf i).toNat)
  case atStart => exact ⟨0, Nat.zero_le _, rfl, rfl⟩
  case round =>
    obtain ⟨k, hk, rfl, rfl⟩ := hrel
    by_cases hlt : k < l.length
    · obtain ⟨b, off, x, rfl, _, hc, hx, HT, HX⟩ := H.out.elem hlt
      have h2 := HB.out x hx
      have h3 : (l.take k).length ≤ k := List.length_take_le _ _
      have h4 := all_bd (l := l.take k) (fun a ha => HB.out a (List.mem_of_mem_take ha)) (by omega) p0 p1
      have HS : Hid (PS.all (l.take (k + 1)) p = PS.all (l.take k) p + x * p / 1000) := Lib.hid (by rw [HT.out, all_snoc])
      have m0 : 0 ≤ x * p := Int.mul_nonneg h2.1 p0
      have m1 : x * p ≤ 10000 * 1000 := Int.mul_le_mul h2.2 p1 p0 (by omega)
      clear HT HX hx
      generalize PS.all (l.take k) p = Q at *
      go_wp2_with fail
      refine (taken1_any x p _ h2.1 h2.2 p0 p1).mono ?_; rintro e w' ⟨rfl, rfl⟩
      have q0 : 0 ≤ x * p / 1000 ∧ x * p / 1000 ≤ 10000 := by omega
      generalize x * p / 1000 = q at *
      obtain ⟨q0, q1⟩ := q0
      go_wp2
      go_round
      case rel => exact ⟨k + 1, by omega, by go_num, by rw [HS.out]⟩
      case measure => simp [intOf]; omega
    · obtain rfl : k = l.length := by omega
      have e1 : PS.all (l.take l.length) p = y := by rw [List.take_length]; exact HY.out
      rw [e1]; clear e1
      go_wp2
      go_ret2
      exact ⟨rfl, rfl⟩
theorem takenAll_no (A : Option Addr) (c : Nat) (l : List Int) (p : Int) (B : Nat) (w : World) (h : Ints w B A c l) (er : Int) (he : shufErr l p = er) (hp : er ≠ 0) :
    Calls Try.prog 59 #[.slice A l.length c, .int .i64 p] w fun e w' => e = .returned (.tuple #[.int .i64 0, .iface 71 (.int .i64 er)]) ∧ w = w' := by
  have HC := Lib.hid (shufcheck_no A c l p B w h er he hp)
  clear h he hp
  go_enter Try.func59, Try.ntmps59
  go_wp2_with fail
  refine HC.out.mono ?_; rintro e w' ⟨rfl, rfl⟩
  go_wp2
  go_ret2
  exact ⟨rfl, rfl⟩
set_option maxHeartbeats 1000000 in
theorem shufstep_no (A : Option Addr) (c : Nat) (l : List Int) (p : Int) (w : World) (h : Ints w w.heap.size A c l) (er : Int) (he : shufErr l p = er) (hp : er ≠ 0) :
    Calls Try.prog 31 #[.slice A l.length c, .int .i64 p] w fun e w' => e = .returned (.tuple #[.slice none 0 0, .iface 71 (.int .i64 er)]) ∧ Below w.heap.size w w' := by
  have b0 : Below w.heap.size w (w.alloc (.cells #[.slice A l.length c] 22)) := (Below.refl _ _).alloc (Nat.le_refl _) _
  have HC := Lib.hid (takenAll_no A c l p w.heap.size _ (h.below b0 (Nat.le_refl _)) er he hp)
  clear h he hp
  go_enter Try.func31, Try.ntmps31
  go_wp2_with fail
  refine HC.out.mono ?_; rintro e w' ⟨rfl, rfl⟩
  go_wp2
  go_ret2
  exact ⟨rfl, b0⟩
end Go.Proofs.Ytblanfaghnflkaa
