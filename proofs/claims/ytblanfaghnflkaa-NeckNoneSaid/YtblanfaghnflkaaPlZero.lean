/- Rates of 0: plain. -/
import Derived.Test.YtblanfaghnflkaaLibJ
namespace Go.Proofs.Ytblanfaghnflkaa
def zerosQ (n : Nat) : List Rat := List.replicate n 0
theorem zerosQ_len (n : Nat) : (zerosQ n).length = n := by simp [zerosQ]
theorem zerosQ_succ (n : Nat) : zerosQ (n + 1) = zerosQ n ++ [0] := by unfold zerosQ; exact List.replicate_succ'
theorem zerosQ_at (n u : Nat) : (zerosQ n).getD u 0 = 0 := by
  unfold zerosQ
  rw [List.getD_eq_getElem?_getD, List.getElem?_replicate]
  split <;> rfl
theorem zerosQ_in (n : Nat) : ∀ q ∈ zerosQ n, QIn q := fun q hq => by
  rw [List.eq_of_mem_replicate hq]; exact zero_in
theorem addUp_zeros (n : Nat) (us : List Nat) : addUp (zerosQ n) us = some 0 := by
  unfold addUp
  induction us with
  | nil => rfl
  | cons u us ih =>
    have e : addQ (zerosQ n) (some 0) u = some 0 := by
      show (if QIn (0 + (zerosQ n).getD u 0) then some (0 + (zerosQ n).getD u 0) else none) = _
      rw [zerosQ_at, Rat.add_zero, if_pos zero_in]
    rw [List.foldl_cons, e]; exact ih
theorem loads_zeros (paths : List (List Int)) (n : Nat) : ∀ m, loadsTo paths (zerosQ n) m = some (zerosQ m)
  | 0 => rfl
  | m + 1 => by rw [zerosQ_succ]; exact loadsTo_yes (loads_zeros paths n m) (addUp_zeros n _)
theorem fits_zeros {caps : List Int} {paths : List (List Int)} (h : netErr caps paths = 0) (n : Nat) : fitsB caps (zerosQ n) (zerosQ caps.length) = true := by
  unfold fitsB negB
  rw [Bool.and_eq_true, Bool.not_eq_true', Bool.not_eq_true', List.any_eq_false, List.any_eq_false]
  refine ⟨fun q hq => ?_, fun l hl => ?_⟩
  · rw [List.eq_of_mem_replicate hq]; decide
  · have hl := List.mem_range.1 hl
    have hc := (netErr_ok h).2.2.2.2.1 caps[l] (List.getElem_mem hl)
    unfold overB capQ
    rw [zerosQ_at]
    have e : caps.getD l 0 = caps[l] := by rw [List.getD_eq_getElem?_getD, List.getElem?_eq_getElem hl]; rfl
    rw [e]
    have : (0 : Rat) ≤ ((caps[l] : Int) : Rat) := by exact_mod_cast (by omega : (0 : Int) ≤ caps[l])
    simp only [decide_eq_true_eq]
    grind
theorem fulls_zeros {caps : List Int} {paths : List (List Int)} (h : netErr caps paths = 0) : fulls caps (zerosQ caps.length) = [] := by
  unfold fulls fullTo
  rw [List.filter_eq_nil_iff]
  intro l hl
  have hl := List.mem_range.1 hl
  have hc := (netErr_ok h).2.2.2.2.1 caps[l] (List.getElem_mem hl)
  unfold fullB capQ
  rw [zerosQ_at]
  have e : caps.getD l 0 = caps[l] := by rw [List.getD_eq_getElem?_getD, List.getElem?_eq_getElem hl]; rfl
  rw [e]
  have : (1 : Rat) ≤ ((caps[l] : Int) : Rat) := by exact_mod_cast (by omega : (1 : Int) ≤ caps[l])
  simp only [decide_eq_true_eq]
  grind
theorem neck_zeros {caps : List Int} {paths : List (List Int)} (h : netErr caps paths = 0) (Q : List Rat) (f : Nat) : neckOf paths Q ((fulls caps (zerosQ caps.length)).map fun (i : Nat) => (i : Int)) f = -1 := by
  rw [fulls_zeros h]
  unfold neckOf
  rw [find_none fun y _ => by unfold narrow; rfl]; rfl
theorem necks_zeros {caps : List Int} {paths : List (List Int)} (h : netErr caps paths = 0) (Q : List Rat) (n : Nat) : necks paths Q ((fulls caps (zerosQ caps.length)).map fun (i : Nat) => (i : Int)) n = List.replicate n (-1) := by
  unfold necks
  rw [List.eq_replicate_iff]
  refine ⟨by simp, fun x hx => ?_⟩
  obtain ⟨f, _, rfl⟩ := List.mem_map.1 hx
  exact neck_zeros h Q f
theorem fair_zeros {caps : List Int} {paths : List (List Int)} (h : netErr caps paths = 0) : fairP caps paths (zerosQ paths.length) (zerosQ caps.length) = false := by
  unfold fairP
  rw [necks_zeros h]
  have : inL (List.replicate paths.length (-1)) (-1) = true := by
    rw [inL_iff, List.mem_replicate]
    have := (netErr_ok h).2.2.1
    exact ⟨by omega, rfl⟩
  rw [this]; simp
end Go.Proofs.Ytblanfaghnflkaa
