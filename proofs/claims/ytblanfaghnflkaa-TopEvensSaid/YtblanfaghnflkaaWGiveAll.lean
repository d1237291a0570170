/- The walk of GiveAll: it returns true for every input. -/
import Derived.Test.YtblanfaghnflkaaGiveSplit
import Derived.Test.YtblanfaghnflkaaTotal
namespace Go.Proofs.Ytblanfaghnflkaa
open Go.RowKit
theorem le_tot {l : List Int} (h : ∀ a ∈ l, 0 ≤ a) {a : Int} (ha : a ∈ l) : a ≤ tot l := by
  induction l with
  | nil => cases ha
  | cons b l ih =>
    have h1 := h b List.mem_cons_self
    have h2 := PG.tot_nonneg l fun c hc => h c (List.mem_cons_of_mem _ hc)
    rcases List.mem_cons.1 ha with rfl | ha
    · simp only [tot]; omega
    · have := ih (fun c hc => h c (List.mem_cons_of_mem _ hc)) ha
      simp only [tot]; omega
theorem tot_neg (l : List Int) : tot (l.map fun x => -x) = - tot l := by
  induction l with
  | nil => rfl
  | cons a l ih => simp only [List.map_cons, tot, ih]; omega
theorem splitL_tot {m : Int} {l : List Int} (h : Weighs l) : tot (splitL m l) = m := by
  unfold splitL
  split
  · rw [tot_neg, PG.parts_tot _ _ h.sum]; omega
  · rw [PG.parts_tot _ _ h.sum]; omega
theorem splitL_bd {m : Int} {l : List Int} (h : Weighs l) (m0 : -10000 ≤ m) (m1 : m ≤ 10000) : ∀ a ∈ splitL m l, -10000 ≤ a ∧ a ≤ 10000 := fun a ha => by
  have hn := parts_bd h (m := max m (-m)) (by omega) (by omega)
  have ht := PG.parts_tot (max m (-m)) l h.sum
  unfold splitL at ha
  split at ha
  · obtain ⟨b, hb, rfl⟩ := List.mem_map.1 ha
    have := le_tot (fun c hc => (hn c hc).1) hb
    have := (hn b hb).1
    omega
  · have := le_tot (fun c hc => (hn c hc).1) ha
    have := (hn a ha).1
    omega
/-- what one gets: its own, or one more; nothing of nothing -/
theorem splitL_one {m : Int} {l : List Int} (h : Weighs l) (i : Nat) (hi : i < l.length) :
    ∃ p : Int, (splitL m l).getD i 0 = (if m < 0 then -p else p) ∧ PG.base (max m (-m)) l i ≤ p ∧ p ≤ PG.base (max m (-m)) l i + 1 ∧ (l.getD i 0 = 0 → p = 0) := by
  refine ⟨(PG.parts (max m (-m)) l).getD i 0, ?_, ?_⟩
  · unfold splitL
    have hi' : i < (PG.parts (max m (-m)) l).length := by rw [PG.parts_len]; exact hi
    split
    · simp [hi']
    · rfl
  · have e : (PG.parts (max m (-m)) l).getD i 0 = PG.base (max m (-m)) l i + if PR.rank (PG.rest (max m (-m)) l) l.length i < (PG.left (max m (-m)) l).toNat then 1 else 0 := by
      unfold PG.parts; simp [hi]
    rw [e]
    refine ⟨by split <;> omega, by split <;> omega, fun h0 => ?_⟩
    obtain ⟨b0, r0⟩ := PG.base_zero (max m (-m)) l i h0
    rw [b0, if_neg (PG.none_more (max m (-m)) l h.sum i hi r0)]
    rfl
theorem giveFact : splitErr (-7) [1, 2, 0] = 0 ∧ splitL (-7) [1, 2, 0] = [-2, -5, 0] := by decide
end Go.Proofs.Ytblanfaghnflkaa
