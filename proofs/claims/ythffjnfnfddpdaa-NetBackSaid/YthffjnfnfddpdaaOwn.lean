/- Rows of ints that the call itself made. -/
import Derived.Test.YthffjnfnfddpdaaBlk
namespace Go.Proofs.Ythffjnfnfddpdaa
open Go.RowKit
theorem Try.info_int : (Try.prog.info? 3).map (fun i => (i.zero, i.size, i.bytes)) = some (some (.int .i64 0), 1, 8) := by kernel_rfl
theorem own_below {w w' : World} {base e size : Nat} {v : Value} {n : Nat} {xs : List Value} (h : w.ownsRow base e size v n xs) (hb : Below w.heap.size w w') : w'.ownsRow base e size v n xs :=
  h.kept (row := none) ⟨hb.os, hb.tape, hb.output, hb.size, fun i hi _ => hb.block i hi⟩ (by cases v.ownBlock <;> simp)
theorem own_set {w : World} {base e size : Nat} {v : Value} {n : Nat} {xs : List Value} (h : w.ownsRow base e size v n xs) {g i : Nat} (hg : g < base) (u : Value) : (w.setCell ⟨g, i, none⟩ u).ownsRow base e size v n xs := ownsRow_setCell_below h hg u
theorem owns_ints {w : World} {base n : Nat} {v : Value} {l : List Int} (h : w.ownsRow base 3 1 v n (l.map (Value.int .i64))) : ∃ A c, v = .slice A l.length c ∧ n = l.length ∧ Ints w w.heap.size A c l := by
  obtain ⟨A, c, rfl, h1, h2, h3⟩ := owns_reads h
  have hn : n = l.length := by have := h3.1; simpa using this.symm
  subst hn
  exact ⟨A, c, rfl, rfl, ⟨h3, h1, h2⟩⟩
theorem own_form {w : World} {base e size n : Nat} {v : Value} {xs : List Value} (h : w.ownsRow base e size v n xs) (hn : 0 < n) : ∃ g cap, v = .slice (some ⟨g, 0, none⟩) n cap ∧ base ≤ g ∧ g < w.heap.size ∧ n ≤ cap ∧ cap ≤ maxLen := by
  rcases h.2 with ⟨_, h0⟩ | ⟨g, cap, cur, rfl, hb, hg, h1, h2, _⟩
  · omega
  · exact ⟨g, cap, rfl, hb, (Array.getElem?_eq_some_iff.1 hg).1, h1, h2⟩
/-- f done to the first so many -/
def upd (f : Int → Int) (l : List Int) (k : Nat) : List Int := (l.take k).map f ++ l.drop k
theorem upd_len (f : Int → Int) (l : List Int) (k : Nat) : (upd f l k).length = l.length := by simp [upd]; omega
theorem upd_zero (f : Int → Int) (l : List Int) : upd f l 0 = l := by simp [upd]
theorem upd_all (f : Int → Int) (l : List Int) : upd f l l.length = l.map f := by simp [upd]
theorem upd_get (f : Int → Int) (l : List Int) (k : Nat) (x : Int) (h : l[k]? = some x) : (upd f l k)[k]? = some x := by
  have hk : k < l.length := (List.getElem?_eq_some_iff.1 h).1
  unfold upd
  rw [List.getElem?_append_right (by simp; omega)]
  simp only [List.length_map, List.length_take]
  rw [List.getElem?_drop, ← h]
  congr 1; omega
theorem upd_set (f : Int → Int) (l : List Int) (k : Nat) (x : Int) (h : l[k]? = some x) : (upd f l k).set k (f x) = upd f l (k + 1) := by
  have hk : k < l.length := (List.getElem?_eq_some_iff.1 h).1
  have hx : l[k] = x := by rw [List.getElem?_eq_getElem hk] at h; exact Option.some.inj h
  unfold upd
  rw [List.set_append_right _ _ (by simp; omega), List.take_add_one, h]
  simp only [List.length_map, List.length_take, Option.toList_some, List.map_append, List.map_cons, List.map_nil, List.append_assoc]
  congr 1
  rw [show k - min k l.length = 0 by omega, List.drop_eq_getElem_cons hk]
  rfl
theorem upd_cells (f : Int → Int) (l : List Int) (k : Nat) (x : Int) (h : l[k]? = some x) : ((upd f l k).map (Value.int .i64)).set k (.int .i64 (f x)) = (upd f l (k + 1)).map (Value.int .i64) := by
  rw [← upd_set f l k x h, List.map_set]
/-- the cell of such a row -/
theorem own_cell {w : World} {base n g cap : Nat} {l : List Int} (h : w.ownsRow base 3 1 (.slice (some ⟨g, 0, none⟩) n cap) n (l.map (Value.int .i64))) {k : Nat} {x : Int} (hx : l[k]? = some x) (hk : k < n) : w.cell? ⟨g, k, none⟩ = some (.int .i64 x) := by
  rw [h.cellAt k (by omega), List.getElem?_map, hx]; rfl
end Go.Proofs.Ythffjnfnfddpdaa
