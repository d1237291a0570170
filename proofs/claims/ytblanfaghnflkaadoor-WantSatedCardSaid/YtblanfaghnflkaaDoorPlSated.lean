/- Sated, or held back: plain. -/
import Derived.Test.YtblanfaghnflkaaDoorPlWant
import Derived.Test.YtblanfaghnflkaaDoorTopOne
namespace Go.Proofs.YtblanfaghnflkaaDoor
theorem loads_of {caps' : List Int} {paths paths' : List (List Int)} {K : Nat} {R : List Rat} (h : FillEnds caps' paths' K R) (ok : NetOk caps' paths') (h6 : paths.length ≤ 6) (n : Nat) : ∃ L, loadsTo paths R n = some L := by
  obtain ⟨D, h1, h2, h3⟩ := h.ints ok
  induction n with
  | zero => exact ⟨[], rfl⟩
  | succ n ih =>
    obtain ⟨L, hL⟩ := ih
    obtain ⟨s, hs⟩ := addUp_ok h1 h2 h3 (users paths (n : Int)) 0 0 (by have := users_len paths (n : Int); omega) Rat.le_refl (by rw [show ((0 : Nat) : Rat) = 0 from rfl, Rat.mul_zero]; exact Rat.le_refl) ⟨0, by rw [Rat.zero_mul]; rfl⟩
    exact ⟨_, loadsTo_yes hL hs⟩
theorem sated_pl {caps : List Int} {paths : List (List Int)} {want : List Int} {K : Nat} {R : List Rat} (h : wantsErr caps paths want = 0) (hK : FillEnds (caps ++ want) (wideP paths caps.length) K R) :
    R.length = paths.length ∧ (∀ q ∈ R, QIn q) ∧ ∃ L, loadsTo paths R caps.length = some L ∧ fitsB caps R L = true ∧ ∀ f, f < paths.length → R.getD f 0 ≤ capQ want f ∧ (R.getD f 0 ≠ capQ want f → neckOf paths R ((fulls caps L).map fun (i : Nat) => (i : Int)) f ≠ -1) := by
  have ok := wide_netOk h
  have hl := hK.len ok
  rw [wideP_len] at hl
  have hn := (wants_ok h).1
  obtain ⟨L, hL⟩ := loads_of (paths := paths) hK ok (netErr_ok hn).2.2.2.1 caps.length
  obtain ⟨h1, h2⟩ := wide_fair h (hK.fair ok)
  refine ⟨hl, fun q hq => (hK.rates ok q hq).1, L, hL, (fitsB_iff hL hl).2 h1, fun f hf => ⟨(h2 f hf).1, fun hne hneg => ?_⟩⟩
  have hlt : R.getD f 0 < capQ want f := by have := (h2 f hf).1; grind
  rcases neck_iff (netOk_of hn) hL hf with ⟨_, h4⟩ | ⟨l, h4, _⟩
  · exact h4 ((h2 f hf).2 hlt)
  · rw [h4] at hneg; omega
theorem want_fact : FillEnds ([10] ++ [2, 100]) (wideP [[0], [0]] ([10] : List Int).length) 2 [2, 8] := ends_dec (by decide +kernel) (by decide +kernel) (by decide +kernel)
end Go.Proofs.YtblanfaghnflkaaDoor
