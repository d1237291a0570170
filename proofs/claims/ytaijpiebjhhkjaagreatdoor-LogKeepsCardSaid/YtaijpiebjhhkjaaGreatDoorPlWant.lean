/- Wants in plain words: a link more for each. -/
import Derived.Test.YtaijpiebjhhkjaaGreatDoorPlRounds
namespace Go.Proofs.YtaijpiebjhhkjaaGreatDoor
def wideP (paths : List (List Int)) (n : Nat) : List (List Int) := (List.range paths.length).map fun f => paths.getD f [] ++ [((n + f : Nat) : Int)]
theorem wideP_len (paths : List (List Int)) (n : Nat) : (wideP paths n).length = paths.length := by simp [wideP]
theorem wideP_at {paths : List (List Int)} {n f : Nat} (h : f < paths.length) : (wideP paths n).getD f [] = paths.getD f [] ++ [((n + f : Nat) : Int)] := by
  unfold wideP; simp [List.getD_eq_getElem?_getD, h]
def wantsErr (caps : List Int) (paths : List (List Int)) (want : List Int) : Int := if netErr caps paths = 0 then (if want.length = paths.length then (if want.any badCap then 1 else 0) else 3) else netErr caps paths
theorem wants_ok {caps : List Int} {paths : List (List Int)} {want : List Int} (h : wantsErr caps paths want = 0) : netErr caps paths = 0 ∧ want.length = paths.length ∧ ∀ x ∈ want, 1 ≤ x ∧ x ≤ 1000 := by
  unfold wantsErr at h
  split at h
  · rename_i h1
    split at h
    · rename_i h2
      split at h
      · omega
      · rename_i h3
        refine ⟨h1, h2, fun x hx => ?_⟩
        cases hb : badCap x
        · simp only [badCap, Bool.or_eq_false_iff, decide_eq_false_iff_not] at hb; omega
        · exact absurd (List.any_eq_true.2 ⟨x, hx, hb⟩) h3
    · omega
  · rename_i h1; exact absurd h h1
theorem wants_of {caps : List Int} {paths : List (List Int)} {want : List Int} (h : netErr caps paths = 0) (hl : want.length = paths.length) (hx : ∀ x ∈ want, 1 ≤ x ∧ x ≤ 1000) : wantsErr caps paths want = 0 := by
  unfold wantsErr
  rw [if_pos h, if_pos hl, if_neg]
  intro hc
  obtain ⟨x, h1, h2⟩ := List.any_eq_true.1 hc
  have := hx x h1
  simp only [badCap, Bool.or_eq_true, decide_eq_true_eq] at h2; omega
section
variable {caps : List Int} {paths : List (List Int)} {want : List Int}
theorem wide_netOk (h : wantsErr caps paths want = 0) : NetOk (caps ++ want) (wideP paths caps.length) := by
  obtain ⟨h1, h2, h3⟩ := wants_ok h
  obtain ⟨a1, a2, a3, a4, a5, a6⟩ := netErr_ok h1
  refine ⟨by rw [List.length_append]; omega, by rw [List.length_append]; omega, by rw [wideP_len]; exact a3, by rw [wideP_len]; exact a4, fun c hc => ?_, fun p hp => ?_⟩
  · rcases List.mem_append.1 hc with hc | hc
    · exact a5 c hc
    · exact h3 c hc
  · obtain ⟨f, hf, rfl⟩ := List.mem_map.1 hp
    have hf := List.mem_range.1 hf
    refine ⟨by simp, fun l hl => ?_⟩
    rw [List.length_append]
    rcases List.mem_append.1 hl with hl | hl
    · have hm : paths.getD f [] ∈ paths := by rw [List.getD_eq_getElem?_getD, List.getElem?_eq_getElem hf]; exact List.getElem_mem hf
      have := (pathErr_ok (a6 _ hm)).2 l hl
      omega
    · have : l = ((caps.length + f : Nat) : Int) := by simpa using hl
      omega
theorem path_bd (h : wantsErr caps paths want = 0) {f : Nat} (hf : f < paths.length) {l : Int} (hl : l ∈ paths.getD f []) : 0 ≤ l ∧ l < (caps.length : Int) := by
  have hm : paths.getD f [] ∈ paths := by rw [List.getD_eq_getElem?_getD, List.getElem?_eq_getElem hf]; exact List.getElem_mem hf
  exact (pathErr_ok ((netErr_ok (wants_ok h).1).2.2.2.2.2 _ hm)).2 l hl
theorem on_old {f l : Nat} (hf : f < paths.length) (hl : l < caps.length) : inL ((wideP paths caps.length).getD f []) (l : Int) = inL (paths.getD f []) (l : Int) := by
  rw [wideP_at hf, Bool.eq_iff_iff, inL_iff, inL_iff, List.mem_append]
  constructor
  · rintro (h | h)
    · exact h
    · have : (l : Int) = ((caps.length + f : Nat) : Int) := by simpa using h
      omega
  · exact Or.inl
theorem on_new (h : wantsErr caps paths want = 0) {f k : Nat} (hf : f < paths.length) : inL ((wideP paths caps.length).getD f []) ((caps.length + k : Nat) : Int) = decide (f = k) := by
  rw [wideP_at hf, Bool.eq_iff_iff, inL_iff, decide_eq_true_eq, List.mem_append]
  constructor
  · rintro (h1 | h1)
    · have := path_bd h hf h1; omega
    · have : ((caps.length + k : Nat) : Int) = ((caps.length + f : Nat) : Int) := by simpa using h1
      omega
  · rintro rfl; exact Or.inr (by simp)
theorem wcap_old {l : Nat} (hl : l < caps.length) : capQ (caps ++ want) l = capQ caps l := by
  unfold capQ; rw [List.getD_eq_getElem?_getD, List.getD_eq_getElem?_getD, List.getElem?_append_left hl]
theorem wcap_new (k : Nat) : capQ (caps ++ want) (caps.length + k) = capQ want k := by
  unfold capQ; rw [List.getD_eq_getElem?_getD, List.getD_eq_getElem?_getD, List.getElem?_append_right (by omega), Nat.add_sub_cancel_left]
theorem wload_old (x : Nat → Rat) {l : Nat} (hl : l < caps.length) : (netOf (caps ++ want) (wideP paths caps.length)).load x l = (netOf caps paths).load x l := by
  show MM.sm (fun f => if inL ((wideP paths caps.length).getD f []) (l : Int) = true then x f else 0) (wideP paths caps.length).length = MM.sm (fun f => if inL (paths.getD f []) (l : Int) = true then x f else 0) paths.length
  rw [wideP_len]
  refine MM.sm_congr _ fun f hf => ?_
  rw [on_old hf hl]
theorem sm_one (x : Nat → Rat) (k : Nat) : ∀ n, MM.sm (fun f => if f = k then x f else 0) n = if k < n then x k else 0
  | 0 => by simp [MM.sm]
  | n + 1 => by
    simp only [MM.sm]
    rw [sm_one x k n]
    by_cases e : n = k
    · subst e; simp [Rat.zero_add]
    · by_cases h : k < n
      · rw [if_neg e, if_pos h, if_pos (by omega), Rat.add_zero]
      · rw [if_neg e, if_neg h, if_neg (by omega), Rat.add_zero]
theorem wload_new (h : wantsErr caps paths want = 0) (x : Nat → Rat) {k : Nat} (hk : k < paths.length) : (netOf (caps ++ want) (wideP paths caps.length)).load x (caps.length + k) = x k := by
  show MM.sm (fun f => if inL ((wideP paths caps.length).getD f []) ((caps.length + k : Nat) : Int) = true then x f else 0) (wideP paths caps.length).length = x k
  rw [wideP_len]
  have e : ∀ f, f < paths.length → (if inL ((wideP paths caps.length).getD f []) ((caps.length + k : Nat) : Int) = true then x f else 0) = if f = k then x f else 0 := fun f hf => by
    rw [on_new h hf]; simp
  rw [MM.sm_congr _ e, sm_one, if_pos hk]
/-- rates that rise together in the wider net -/
theorem wide_fair (h : wantsErr caps paths want = 0) {x : Nat → Rat} (hx : (netOf (caps ++ want) (wideP paths caps.length)).Fair x) :
    (netOf caps paths).Fits x ∧ ∀ f, f < paths.length → x f ≤ capQ want f ∧ (x f < capQ want f → ∃ l, (netOf caps paths).Neck x f l) := by
  obtain ⟨_, h2, _⟩ := wants_ok h
  obtain ⟨⟨f1, f2⟩, f3⟩ := hx
  have hF : (netOf (caps ++ want) (wideP paths caps.length)).F = paths.length := wideP_len _ _
  have hL : (netOf (caps ++ want) (wideP paths caps.length)).L = caps.length + paths.length := by show (caps ++ want).length = _; rw [List.length_append, h2]
  refine ⟨⟨fun f hf => f1 f (by rw [hF]; exact hf), fun l hl => ?_⟩, fun f hf => ⟨?_, fun hlt => ?_⟩⟩
  · have hl : l < caps.length := hl
    have := f2 l (by rw [hL]; omega)
    rw [wload_old x hl] at this
    have e : (netOf (caps ++ want) (wideP paths caps.length)).cap l = (netOf caps paths).cap l := wcap_old hl
    rwa [e] at this
  · have := f2 (caps.length + f) (by rw [hL]; omega)
    rw [wload_new h x hf] at this
    have e : (netOf (caps ++ want) (wideP paths caps.length)).cap (caps.length + f) = capQ want f := wcap_new f
    rwa [e] at this
  · obtain ⟨l, n1, n2, n3, n4⟩ := f3 f (by rw [hF]; exact hf)
    rw [hL] at n1
    by_cases hl : l < caps.length
    · refine ⟨l, hl, ?_, ?_, fun u hu hon => ?_⟩
      · have n2 : inL ((wideP paths caps.length).getD f []) (l : Int) = true := n2
        rw [on_old hf hl] at n2; exact n2
      · rw [wload_old x hl] at n3
        have e : (netOf (caps ++ want) (wideP paths caps.length)).cap l = (netOf caps paths).cap l := wcap_old hl
        rwa [e] at n3
      · refine n4 u (by rw [hF]; exact hu) ?_
        show inL ((wideP paths caps.length).getD u []) (l : Int) = true
        rw [on_old hu hl]; exact hon
    · obtain ⟨k, rfl⟩ : ∃ k, l = caps.length + k := ⟨l - caps.length, by omega⟩
      have n2 : inL ((wideP paths caps.length).getD f []) ((caps.length + k : Nat) : Int) = true := n2
      rw [on_new h hf] at n2
      have e : f = k := of_decide_eq_true n2
      subst e
      rw [wload_new h x hf] at n3
      have e : (netOf (caps ++ want) (wideP paths caps.length)).cap (caps.length + f) = capQ want f := wcap_new f
      rw [e] at n3
      grind
/-- wants that are great enough change nothing -/
theorem fair_wide (h : wantsErr caps paths want = 0) {x : Nat → Rat} (hx : (netOf caps paths).Fair x) (hw : ∀ f, f < paths.length → x f ≤ capQ want f) : (netOf (caps ++ want) (wideP paths caps.length)).Fair x := by
  obtain ⟨_, h2, _⟩ := wants_ok h
  obtain ⟨⟨f1, f2⟩, f3⟩ := hx
  have hF : (netOf (caps ++ want) (wideP paths caps.length)).F = paths.length := wideP_len _ _
  have hL : (netOf (caps ++ want) (wideP paths caps.length)).L = caps.length + paths.length := by show (caps ++ want).length = _; rw [List.length_append, h2]
  refine ⟨⟨fun f hf => f1 f (by rw [hF] at hf; exact hf), fun l hl => ?_⟩, fun f hf => ?_⟩
  · rw [hL] at hl
    by_cases hlc : l < caps.length
    · rw [wload_old x hlc]
      have e : (netOf (caps ++ want) (wideP paths caps.length)).cap l = (netOf caps paths).cap l := wcap_old hlc
      rw [e]; exact f2 l hlc
    · obtain ⟨k, rfl⟩ : ∃ k, l = caps.length + k := ⟨l - caps.length, by omega⟩
      rw [wload_new h x (by omega)]
      have e : (netOf (caps ++ want) (wideP paths caps.length)).cap (caps.length + k) = capQ want k := wcap_new k
      rw [e]; exact hw k (by omega)
  · rw [hF] at hf
    obtain ⟨l, n1, n2, n3, n4⟩ := f3 f hf
    have n1 : l < caps.length := n1
    refine ⟨l, by rw [hL]; omega, ?_, ?_, fun u hu hon => ?_⟩
    · show inL ((wideP paths caps.length).getD f []) (l : Int) = true
      rw [on_old hf n1]; exact n2
    · rw [wload_old x n1]
      have e : (netOf (caps ++ want) (wideP paths caps.length)).cap l = (netOf caps paths).cap l := wcap_old n1
      rw [e]; exact n3
    · rw [hF] at hu
      refine n4 u hu ?_
      have hon : inL ((wideP paths caps.length).getD u []) (l : Int) = true := hon
      rw [on_old hu n1] at hon; exact hon
theorem pathErr_of {k : Int} {p : List Int} (h0 : 0 < p.length) (h1 : ∀ l ∈ p, 0 ≤ l ∧ l < k) (h2 : p.Nodup) : pathErr k p = 0 := by
  unfold pathErr
  rw [if_neg (by omega)]
  refine firstFrom_all fun j _ hj => ?_
  have hj : j < p.length := by omega
  have hg : p.getD j 0 = p[j] := by simp [hj]
  unfold pathAt
  rw [hg]
  have := h1 p[j] (List.getElem_mem hj)
  rw [if_neg (by omega), if_neg]
  intro hc
  rw [inL_iff, List.mem_take_iff_getElem] at hc
  obtain ⟨i, hi, e⟩ := hc
  rw [List.nodup_iff_pairwise_ne, List.pairwise_iff_getElem] at h2
  exact h2 i j (by omega) hj (by omega) e
theorem netErr_of (h1 : 0 < caps.length) (h2 : caps.length ≤ 6) (h3 : 0 < paths.length) (h4 : paths.length ≤ 6) (h5 : ∀ c ∈ caps, 1 ≤ c ∧ c ≤ 1000) (h6 : ∀ p ∈ paths, pathErr caps.length p = 0) : netErr caps paths = 0 := by
  unfold netErr
  have hl : linksErr caps = 0 := by
    unfold linksErr
    rw [if_neg (by omega), if_neg (by omega), if_neg]
    intro hc
    obtain ⟨x, hx, hb⟩ := List.any_eq_true.1 hc
    have := h5 x hx
    simp only [badCap, Bool.or_eq_true, decide_eq_true_eq] at hb; omega
  rw [if_neg (by omega), if_neg (by omega), if_pos hl]
  refine firstFrom_all fun j _ hj => ?_
  have hj : j < paths.length := by omega
  rw [List.getD_eq_getElem?_getD, List.getElem?_eq_getElem hj]
  exact h6 _ (List.getElem_mem hj)
theorem wide_netErr (h : wantsErr caps paths want = 0) (h6 : caps.length + want.length ≤ 6) : netErr (caps ++ want) (wideP paths caps.length) = 0 := by
  have ok := wide_netOk h
  obtain ⟨h1, _, _⟩ := wants_ok h
  refine netErr_of ok.L0 (by rw [List.length_append]; exact h6) ok.F0 ok.F1 ok.cap fun p hp => ?_
  obtain ⟨a, b⟩ := ok.path p hp
  refine pathErr_of a b ?_
  obtain ⟨f, hf, rfl⟩ := List.mem_map.1 hp
  have hf := List.mem_range.1 hf
  have hm : paths.getD f [] ∈ paths := by rw [List.getD_eq_getElem?_getD, List.getElem?_eq_getElem hf]; exact List.getElem_mem hf
  have hn := path_nodup ((netErr_ok h1).2.2.2.2.2 _ hm)
  rw [List.nodup_append]
  refine ⟨hn, by simp, fun x hx y hy => ?_⟩
  have := path_bd h hf hx
  have : y = ((caps.length + f : Nat) : Int) := by simpa using hy
  omega
end
end Go.Proofs.YtaijpiebjhhkjaaGreatDoor
