/- make of a row of so many zeros. -/
import Derived.Test.YthffjnfnfddpdaaOwn
import Derived.Laws.OwnMore
namespace Go.Proofs.Ythffjnfnfddpdaa
open Go.RowKit
theorem wpList_makeN {P : Program} (w : World) {ops : Array Oper} {rest : List Oper} {o : Oper} {a : Act} {Q : Exit → Act → World → Prop}
    (hg : o.guard = none) (l c : Operand) (t : TypeId) (hop : o.op = Op.makeSlice t l c)
    (base : Nat) (e : TypeId) (z : Value) (bytes : Nat) (ht : P.underlying t = some (.slice e)) (hinfo : (P.info? e).map (fun i => (i.zero, i.size, i.bytes)) = some (some z, 1, bytes)) (hz : z.cells = #[z])
    (n : Nat) (hl : a.eval l = .int .i64 n) (hc : a.eval c = .int .i64 n) (hn : n ≤ 1000000) (hb : bytes ≤ 64) (hbase : base ≤ w.heap.size)
    (hK : ∀ w', w'.ownsRow base e 1 (.slice (some ⟨w.heap.size, 0, none⟩) n n) n (List.replicate n z) → w.grownBy w' none → w.heap.size < w'.heap.size → wpList P ops Q rest (a.put o.dst (.slice (some ⟨w.heap.size, 0, none⟩) n n)) w') :
    wpList P ops Q (o :: rest) a w := by
  obtain ⟨i, hi, h2, h3, h4⟩ := info_parts hinfo
  have hbb : i.bytes * n ≤ 64 * 1000000 := Nat.mul_le_mul (by omega) hn
  refine wpList_make_full w hg l c t hop base e i z 1 ht hi h2 h3 .i64 .i64 n n n hl hc rfl rfl (by omega) (by simp only [maxLen]; omega) hbase ?_
  intro w' r1 r2
  rw [hz, Nat.mul_one, toList_madeCells_one] at r1
  refine hK w' r1 r2 ?_
  rcases r1.2 with ⟨h, _⟩ | ⟨g, cap, cur, h, _, hg', _⟩
  · cases h
  · injection h with h _ _
    injection h with h
    injection h with h _
    subst h
    exact (Array.getElem?_eq_some_iff.1 hg').1
theorem below_none {B : Nat} {w wr w' : World} (h : Below B w wr) (hg : wr.grownBy w' none) (hw : B ≤ wr.heap.size) : Below B w w' := h.grown hg hw fun k hk => by cases hk
/-- the first k filled -/
def fillTo (f : Nat → Int) (n k : Nat) : List Int := (List.range n).map fun i => if i < k then f i else 0
theorem fillTo_zero (f : Nat → Int) (n : Nat) : (fillTo f n 0).map (Value.int .i64) = List.replicate n (Value.int .i64 0) := by
  apply List.ext_getElem
  · simp [fillTo]
  · intro i h1 h2; simp [fillTo]
theorem fillTo_len (f : Nat → Int) (n k : Nat) : (fillTo f n k).length = n := by simp [fillTo]
theorem fillTo_at (f : Nat → Int) (n k : Nat) (h : k < n) : (fillTo f n k)[k]? = some 0 := by simp [fillTo, h]
theorem fillTo_set (f : Nat → Int) (n k : Nat) (_ : k < n) : (fillTo f n k).set k (f k) = fillTo f n (k + 1) := by
  apply List.ext_getElem
  · simp [fillTo]
  · intro i h1 h2
    rw [List.getElem_set]
    by_cases e : k = i
    · subst e; rw [if_pos rfl]; simp [fillTo]
    · rw [if_neg e]
      simp only [fillTo, List.getElem_map, List.getElem_range]
      by_cases h3 : i < k
      · rw [if_pos h3, if_pos (by omega)]
      · rw [if_neg h3, if_neg (by omega)]
theorem fillTo_all (f : Nat → Int) (n : Nat) : fillTo f n n = (List.range n).map f := by
  apply List.ext_getElem
  · simp [fillTo]
  · intro i h1 h2
    have : i < n := by simpa [fillTo] using h1
    simp [fillTo, this]
theorem fill_cell {w : World} {base g cap n k : Nat} {f : Nat → Int} (h : w.ownsRow base 3 1 (.slice (some ⟨g, 0, none⟩) n cap) n ((fillTo f n k).map (Value.int .i64))) (hk : k < n) :
    w.cell? ⟨g, k, none⟩ = some (.int .i64 0) ∧ w.frozen? ⟨g, k, none⟩ = false ∧ (w.setCell ⟨g, k, none⟩ (.int .i64 (f k))).ownsRow base 3 1 (.slice (some ⟨g, 0, none⟩) n cap) n ((fillTo f n (k + 1)).map (Value.int .i64)) := by
  have h1 := h.cellAt k (by omega)
  rw [List.getElem?_map, fillTo_at f n k hk] at h1
  have h2 := (h.stored k (.int .i64 (f k))).1
  rw [← List.map_set, fillTo_set f n k hk] at h2
  exact ⟨h1, h.frozenAt k, h2⟩
theorem own_far {w : World} {base e size n : Nat} {v : Value} {xs : List Value} (h : w.ownsRow base e size v n xs) {g k : Nat} (hg : v.ownBlock ≠ some g) (u : Value) : (w.setCell ⟨g, k, none⟩ u).ownsRow base e size v n xs :=
  h.kept (row := some g) ⟨rfl, rfl, rfl, by simp [World.setCell], fun i hi hne => Below.heap_setCell w _ u i (fun e => hne (by rw [e]))⟩ (.inr hg)
end Go.Proofs.Ythffjnfnfddpdaa
