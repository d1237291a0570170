/- Rows of ints that the call itself made. -/
import Derived.Test.YtkheobdkmmbjnaaBlk
namespace Go.Proofs.Ytkheobdkmmbjnaa
open Go.RowKit
theorem Try.info_int : (Try.prog.info? 3).map (fun i => (i.zero, i.size, i.bytes)) = some (some (.int .i64 0), 1, 8) := by kernel_rfl
theorem own_below {w w' : World} {base e size : Nat} {v : Value} {n : Nat} {xs : List Value} (h : w.ownsRow base e size v n xs) (hb : Below w.heap.size w w') : w'.ownsRow base e size v n xs :=
  h.kept (row := none) ⟨hb.os, hb.tape, hb.output, hb.size, fun i hi _ => hb.block i hi⟩ (by cases v.ownBlock <;> simp)
theorem own_set {w : World} {base e size : Nat} {v : Value} {n : Nat} {xs : List Value} (h : w.ownsRow base e size v n xs) {g i : Nat} (hg : g < base) (u : Value) : (w.setCell ⟨g, i, none⟩ u).ownsRow base e size v n xs := ownsRow_setCell_below h hg u
theorem owns_ints {w : World} {base n : Nat} {v : Value} {l : List Int} (h : w.ownsRow base 3 1 v n (l.map (Value.int .i64))) : ∃ A c, v = .slice A l.length c ∧ n = l.length ∧ Ints w w.heap.size A c l := by
  obtain ⟨A, c, rfl, h1, h2, h3⟩ := owns_reads h
  have hn : n = l.length := by have := h3.1; simpa using this.symm
  subst hn
  exact ⟨A, c, rfl, rfl, ⟨h3, h1, h2⟩⟩
end Go.Proofs.Ytkheobdkmmbjnaa
