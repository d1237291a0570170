/- slices.SortStableFunc over a row of indexes that the call itself made, at most twenty. -/
import Derived.Test.YthffjnfnfddpdaaOwn
import Derived.Test.YthffjnfnfddpdaaPlRank
import Derived.Test.YthffjnfnfddpdaaCmp
import Derived.Deep.LoopGhost
import Derived.BigRegion
namespace Go.Proofs.Ythffjnfnfddpdaa
open Go.RowKit
def idxs (o : List Nat) : List Value := o.map fun (i : Nat) => Value.int .i64 (i : Int)
theorem idxs_len (o : List Nat) : (idxs o).length = o.length := by simp [idxs]
theorem idxs_at {o : List Nat} {k i : Nat} (h : o[k]? = some i) : (idxs o)[k]? = some (.int .i64 (i : Int)) := by simp [idxs, h]
theorem idxs_set (o : List Nat) (k i : Nat) : (idxs o).set k (.int .i64 (i : Int)) = idxs (o.set k i) := by simp [idxs]
/-- what is asked of the function that compares -/
structure Compares (key : Nat → Int) (cf : Nat → Nat → Int) (n base : Nat) (g : FuncId) (cb : Array Value) (w : World) : Prop where
  less : ∀ x y : Nat, cf x y < 0 ↔ key y < key x
  calls : ∀ (W : World) (x y : Nat), x < n → y < n → Below base w W → Calls Try.prog g (#[.int .i64 x, .int .i64 y] ++ cb) W fun e w' => e = .returned (.int .i64 (cf x y)) ∧ ∃ q, w' = W.drewN q
def Row (base n g cap : Nat) (o : List Nat) (w : World) : Prop := w.ownsRow base 3 1 (.slice (some ⟨g, 0, none⟩) n cap) n (idxs o)
theorem Row.cell {base n g cap : Nat} {o : List Nat} {w : World} (h : Row base n g cap o w) {k i : Nat} (hk : o[k]? = some i) (hn : o.length = n) : w.cell? ⟨g, k, none⟩ = some (.int .i64 (i : Int)) ∧ w.frozen? ⟨g, k, none⟩ = false := by
  have hkl : k < o.length := (List.getElem?_eq_some_iff.1 hk).1
  have h1 := h.cellAt k (by omega)
  rw [idxs_at hk] at h1
  exact ⟨h1, h.frozenAt k⟩
theorem Row.set {base n g cap : Nat} {o : List Nat} {w : World} (h : Row base n g cap o w) (k i : Nat) : Row base n g cap (o.set k i) (w.setCell ⟨g, k, none⟩ (.int .i64 (i : Int))) := by
  have := (h.stored k (.int .i64 (i : Int))).1
  rw [idxs_set] at this
  exact this
theorem Row.drewN {base n g cap : Nat} {o : List Nat} {w : World} (h : Row base n g cap o w) (d : Nat) : Row base n g cap o (w.drewN d) := own_below h (below_drewN (Below.refl _ _) d)
theorem grown_drewN {w wr : World} {row : Option Nat} (h : w.grownBy wr row) (d : Nat) : w.grownBy (wr.drewN d) row := ⟨h.os, h.tape, h.output, h.size, h.block⟩
theorem grown_set {w wr : World} {g k : Nat} {u : Value} (h : w.grownBy wr (some g)) : w.grownBy (wr.setCell ⟨g, k, none⟩ u) (some g) :=
  ⟨h.os, h.tape, h.output, by have := h.size; simpa [World.setCell] using this, fun i hi hne => (Below.heap_setCell wr _ u i (fun e => hne (by rw [e]))).trans (h.block i hi hne)⟩
theorem grown_refl (w : World) (row : Option Nat) : w.grownBy w row := ⟨rfl, rfl, rfl, Nat.le_refl _, fun _ _ _ => rfl⟩
theorem below_of_grown {base : Nat} {w wr : World} {g : Nat} (h : w.grownBy wr (some g)) (hb : base ≤ g) (hw : base ≤ w.heap.size) : Below base w wr :=
  (Below.refl _ _).grown h hw fun k hk => by
    obtain rfl : g = k := Option.some.inj hk
    exact hb
end Go.Proofs.Ythffjnfnfddpdaa
