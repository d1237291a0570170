/- Nets in plain words: paths are short. -/
import Derived.Test.YthffjnfnfddpdaaPlNet
namespace Go.Proofs.Ythffjnfnfddpdaa
theorem nodup_short : ∀ (k : Nat) (l : List Int), l.Nodup → (∀ x ∈ l, 0 ≤ x ∧ x < (k : Int)) → l.length ≤ k := by
  intro k
  induction k with
  | zero =>
    intro l _ h
    cases l with
    | nil => simp
    | cons a l => have := h a List.mem_cons_self; omega
  | succ k ih =>
    intro l hn h
    have h1 := ih (l.filter fun x => x != (k : Int)) (hn.filter _) fun x hx => by
      rw [List.mem_filter] at hx
      have := h x hx.1
      have : x ≠ (k : Int) := by simpa using hx.2
      omega
    have h2 : l.length = (l.filter fun x => x != (k : Int)).length + l.count (k : Int) := by
      clear h hn h1 ih
      induction l with
      | nil => rfl
      | cons a l ih =>
        rw [List.count_cons, List.length_cons, ih]
        by_cases e : a = (k : Int)
        · subst e; simp; omega
        · simp [e]; omega
    have h3 : l.count (k : Int) ≤ 1 := List.nodup_iff_count.1 hn _
    omega
theorem path_nodup {k : Int} {p : List Int} (h : pathErr k p = 0) : p.Nodup := by
  unfold pathErr at h
  split at h
  · omega
  · rw [List.nodup_iff_pairwise_ne, List.pairwise_iff_getElem]
    intro i j hi hj hij e
    have hz := firstFrom_zero h j (Nat.zero_le _) (by omega)
    unfold pathAt at hz
    have hg : p.getD j 0 = p[j] := by simp [hj]
    rw [hg] at hz
    split at hz
    · omega
    · split at hz
      · omega
      · rename_i h2
        refine h2 (inL_iff.2 ?_)
        rw [List.mem_take_iff_getElem]
        exact ⟨i, by omega, e⟩
theorem path_short {k : Nat} {p : List Int} (h : pathErr (k : Int) p = 0) : p.length ≤ k := nodup_short k p (path_nodup h) (pathErr_ok h).2
theorem netErr_short {caps : List Int} {paths : List (List Int)} (h : netErr caps paths = 0) : ∀ l ∈ paths, l.length ≤ 6 := fun l hl => by
  obtain ⟨_, h1, _, _, _, h2⟩ := netErr_ok h
  have := path_short (h2 l hl)
  omega
def addErr (caps : List Int) (paths : List (List Int)) (path : List Int) : Int := if netErr caps paths = 0 then (if paths.length = 6 then 4 else pathErr caps.length path) else netErr caps paths
def dropErr (caps : List Int) (paths : List (List Int)) (flow : Int) : Int := if netErr caps paths = 0 then (if flow < 0 ∨ (paths.length : Int) ≤ flow then 1 else if paths.length = 1 then 5 else 0) else netErr caps paths
end Go.Proofs.Ythffjnfnfddpdaa
