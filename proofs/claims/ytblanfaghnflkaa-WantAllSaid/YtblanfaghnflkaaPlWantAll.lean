/- Who wants all gets what it would (plain). -/
import Derived.Test.YtblanfaghnflkaaPlWant
import Derived.Test.YtblanfaghnflkaaTopOne
namespace Go.Proofs.Ytblanfaghnflkaa
def allW (n : Nat) : List Int := List.replicate n 1000
theorem allW_len (n : Nat) : (allW n).length = n := by simp [allW]
theorem allW_succ (n : Nat) : allW (n + 1) = allW n ++ [1000] := List.replicate_succ'
theorem allW_at {n k : Nat} (h : k < n) : (allW n).getD k 0 = 1000 := by simp [allW, List.getD_eq_getElem?_getD, h]
theorem allW_err (caps : List Int) (paths : List (List Int)) : wantsErr caps paths (allW paths.length) = netErr caps paths := by
  unfold wantsErr
  by_cases h : netErr caps paths = 0
  · rw [if_pos h, if_pos (allW_len _), if_neg, h]
    intro hc
    obtain ⟨x, hx, hb⟩ := List.any_eq_true.1 hc
    rw [(List.mem_replicate.1 hx).2] at hb
    exact absurd hb (by decide)
  · rw [if_neg h]
theorem list_ext_getD {R S : List Rat} (hl : R.length = S.length) (h : ∀ f, f < R.length → R.getD f 0 = S.getD f 0) : R = S := by
  apply List.ext_getElem hl
  intro i h1 h2
  have := h i h1
  rw [List.getD_eq_getElem?_getD, List.getElem?_eq_getElem h1, List.getD_eq_getElem?_getD, List.getElem?_eq_getElem h2] at this
  exact this
theorem want_all {caps : List Int} {paths : List (List Int)} {K K' : Nat} {R R' : List Rat} (he : netErr caps paths = 0) (h : FillEnds caps paths K R) (h' : FillEnds (caps ++ allW paths.length) (wideP paths caps.length) K' R') : R' = R := by
  have ok := netOk_of he
  have hw : wantsErr caps paths (allW paths.length) = 0 := by rw [allW_err]; exact he
  have ok' := wide_netOk hw
  have hl := h.len ok
  have hl' := h'.len ok'
  rw [wideP_len] at hl'
  have hf := fair_wide hw (h.fair ok) (fun f hf => by
    have h1 : capQ (allW paths.length) f = 1000 := by unfold capQ; rw [allW_at hf]; rfl
    rw [h1]
    exact (h.rates ok _ (by rw [List.getD_eq_getElem?_getD, List.getElem?_eq_getElem (by omega)]; exact List.getElem_mem (by omega))).2.2)
  refine list_ext_getD (by omega) fun f hlt => ?_
  exact MM.only (h'.fair ok') hf f (by show f < (wideP paths caps.length).length; rw [wideP_len]; omega)
theorem want_one : FillEnds ([4] ++ [3]) (wideP [[0]] ([4] : List Int).length) 1 [3] := ends_dec (by decide +kernel) (by decide +kernel) (by decide +kernel)
end Go.Proofs.Ytblanfaghnflkaa
