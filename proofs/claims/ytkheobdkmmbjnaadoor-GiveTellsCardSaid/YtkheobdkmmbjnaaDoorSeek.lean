/- The search for the best of those not taken; rows under way. -/
import Derived.Test.YtkheobdkmmbjnaaDoorMake
import Derived.Test.YtkheobdkmmbjnaaDoorSortAll
namespace Go.Proofs.YtkheobdkmmbjnaaDoor
open Go.RowKit
theorem Tryd.info_bool' : (Tryd.prog.info? 4).map (fun i => (i.zero, i.size, i.bytes)) = some (some (.bool false), 1, 1) := by kernel_rfl
theorem gots_zero (key : Nat → Int) (n : Nat) : (PR.takens key n 0).map Value.bool = List.replicate n (.bool false) := by rw [PR.takens_zero]; simp
/-- how far the search for the best has come: the first k looked at, none or the best of them -/
def Seek (key : Nat → Int) (n t k : Nat) (v : Int) : Prop := (v = -1 ∧ ∀ j, j < k → PR.taken key n t j = true) ∨ ∃ b : Nat, v = b ∧ PR.Best key (PR.taken key n t) k b
theorem Seek.zero (key : Nat → Int) (n t : Nat) : Seek key n t 0 (-1) := .inl ⟨rfl, fun _ h => by omega⟩
theorem Seek.done {key : Nat → Int} {n t : Nat} {v : Int} (h : Seek key n t n v) (ht : t < n) : ∃ b : Nat, v = b ∧ b < n ∧ PR.rank key n b = t := by
  rcases h with ⟨_, h⟩ | ⟨b, rfl, h⟩
  · exact absurd h (PR.some_free ht)
  · exact ⟨b, rfl, h.1, h.rank ht⟩
theorem Seek.skip {key : Nat → Int} {n t k : Nat} {v : Int} (h : Seek key n t k v) (hk : PR.taken key n t k = true) : Seek key n t (k + 1) v := by
  rcases h with ⟨rfl, h⟩ | ⟨b, rfl, h⟩
  · refine .inl ⟨rfl, fun j hj => ?_⟩
    rcases Nat.lt_or_ge j k with h1 | h1
    · exact h j h1
    · obtain rfl : j = k := by omega
      exact hk
  · exact .inr ⟨b, rfl, h.skip hk⟩
theorem Seek.take {key : Nat → Int} {n t k : Nat} (h : Seek key n t k (-1)) (hk : PR.taken key n t k = false) : Seek key n t (k + 1) k := by
  rcases h with ⟨_, h⟩ | ⟨b, hb, _⟩
  · exact .inr ⟨k, rfl, PR.Best.first h hk⟩
  · omega
theorem Seek.turn {key : Nat → Int} {n t k b : Nat} (h : Seek key n t k (b : Int)) (hk : PR.taken key n t k = false) (hlt : key b < key k) : Seek key n t (k + 1) k := by
  rcases h with ⟨hb, _⟩ | ⟨b', hb, h⟩
  · omega
  · obtain rfl : b = b' := by omega
    exact .inr ⟨k, rfl, h.turn hk hlt⟩
theorem Seek.stay {key : Nat → Int} {n t k b : Nat} (h : Seek key n t k (b : Int)) (hlt : ¬ key b < key k) : Seek key n t (k + 1) b := by
  rcases h with ⟨hb, _⟩ | ⟨b', hb, h⟩
  · omega
  · obtain rfl : b = b' := by omega
    exact .inr ⟨b, rfl, h.stay hlt⟩
theorem Seek.lt {key : Nat → Int} {n t k b : Nat} (h : Seek key n t k (b : Int)) : b < k := by
  rcases h with ⟨hb, _⟩ | ⟨b', hb, h⟩
  · omega
  · obtain rfl : b = b' := by omega
    exact h.1
theorem Seek.form {key : Nat → Int} {n t k : Nat} {v : Int} (h : Seek key n t k v) : v = -1 ∨ ∃ b : Nat, v = b := by
  rcases h with ⟨hb, _⟩ | ⟨b', hb, _⟩
  · exact .inl hb
  · exact .inr ⟨b', hb⟩
/-- so much more for the first k -/
def addTo (f : Nat → Int) (q : Int) (n k : Nat) : List Int := (List.range n).map fun i => if i < k then f i + q else f i
theorem addTo_zero (f : Nat → Int) (q : Int) (n : Nat) : addTo f q n 0 = (List.range n).map f := by simp [addTo]
theorem addTo_at (f : Nat → Int) (q : Int) (n k : Nat) (h : k < n) : (addTo f q n k)[k]? = some (f k) := by simp [addTo, h]
theorem addTo_set (f : Nat → Int) (q : Int) (n k : Nat) (_ : k < n) : (addTo f q n k).set k (f k + q) = addTo f q n (k + 1) := by
  apply List.ext_getElem
  · simp [addTo]
  · intro i h1 h2
    rw [List.getElem_set]
    by_cases e : k = i
    · subst e; rw [if_pos rfl]; simp [addTo]
    · rw [if_neg e]
      simp only [addTo, List.getElem_map, List.getElem_range]
      by_cases h3 : i < k
      · rw [if_pos h3, if_pos (by omega)]
      · rw [if_neg h3, if_neg (by omega)]
theorem addTo_all (f : Nat → Int) (q : Int) (n : Nat) : addTo f q n n = (List.range n).map fun i => f i + q := by
  apply List.ext_getElem
  · simp [addTo]
  · intro i h1 h2
    have : i < n := by simpa [addTo] using h1
    simp [addTo, this]
theorem add_cell {w : World} {base g cap n k : Nat} {f : Nat → Int} {q : Int} (h : w.ownsRow base 3 1 (.slice (some ⟨g, 0, none⟩) n cap) n ((addTo f q n k).map (Value.int .i64))) (hk : k < n) :
    w.cell? ⟨g, k, none⟩ = some (.int .i64 (f k)) ∧ w.frozen? ⟨g, k, none⟩ = false ∧ (w.setCell ⟨g, k, none⟩ (.int .i64 (f k + q))).ownsRow base 3 1 (.slice (some ⟨g, 0, none⟩) n cap) n ((addTo f q n (k + 1)).map (Value.int .i64)) := by
  have h1 := h.cellAt k (by omega)
  rw [List.getElem?_map, addTo_at f q n k hk] at h1
  have h2 := (h.stored k (.int .i64 (f k + q))).1
  rw [← List.map_set, addTo_set f q n k hk] at h2
  exact ⟨h1, h.frozenAt k, h2⟩
theorem taken_cell {w : World} {base g cap n t k : Nat} {key : Nat → Int} (h : w.ownsRow base 4 1 (.slice (some ⟨g, 0, none⟩) n cap) n ((PR.takens key n t).map Value.bool)) (hk : k < n) :
    w.cell? ⟨g, k, none⟩ = some (.bool (PR.taken key n t k)) ∧ w.frozen? ⟨g, k, none⟩ = false := by
  have h1 := h.cellAt k (by omega)
  rw [List.getElem?_map, PR.takens_at hk] at h1
  exact ⟨h1, h.frozenAt k⟩
theorem taken_set {w : World} {base g cap n t b : Nat} {key : Nat → Int} (h : w.ownsRow base 4 1 (.slice (some ⟨g, 0, none⟩) n cap) n ((PR.takens key n t).map Value.bool)) (hb : b < n) (hr : PR.rank key n b = t) :
    (w.setCell ⟨g, b, none⟩ (.bool true)).ownsRow base 4 1 (.slice (some ⟨g, 0, none⟩) n cap) n ((PR.takens key n (t + 1)).map Value.bool) := by
  have h2 := (h.stored b (.bool true)).1
  rw [← List.map_set, PR.takens_set hb hr] at h2
  exact h2
end Go.Proofs.YtkheobdkmmbjnaaDoor
