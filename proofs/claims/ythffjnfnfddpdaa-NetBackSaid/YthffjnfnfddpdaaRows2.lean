/- Slices of slices of ints: how they lie. -/
import Derived.Test.YthffjnfnfddpdaaOwn
import Derived.WalkSpells
namespace Go.Proofs.Ythffjnfnfddpdaa
open Go.RowKit
/-- a slice of slices of ints that reads as the list of lists -/
structure Rows2 (w : World) (B : Nat) (A : Option Addr) (c : Nat) (L : List (List Int)) : Prop where
  rd : 0 < L.length → ∃ b off, A = some ⟨b, off, none⟩ ∧ b < B ∧ ∀ j l, L[j]? = some l → ∃ A' c', w.cell? ⟨b, off + j, none⟩ = some (.slice A' l.length c') ∧ Ints w B A' c' l
  le : L.length ≤ c
  cap : c ≤ maxLen
section
variable {w w' : World} {B C : Nat} {A : Option Addr} {c : Nat} {L : List (List Int)}
theorem Rows2.more (h : Rows2 w B A c L) (hC : B ≤ C) : Rows2 w C A c L :=
  ⟨fun hn => by
    obtain ⟨b, off, e, hb, hc⟩ := h.rd hn
    exact ⟨b, off, e, by omega, fun j l hl => by obtain ⟨A', c', h1, h2⟩ := hc j l hl; exact ⟨A', c', h1, h2.more hC⟩⟩, h.le, h.cap⟩
theorem Rows2.below (h : Rows2 w B A c L) (hb : Below C w w') (hC : B ≤ C) : Rows2 w' B A c L :=
  ⟨fun hn => by
    obtain ⟨b, off, e, hbb, hc⟩ := h.rd hn
    exact ⟨b, off, e, hbb, fun j l hl => by
      obtain ⟨A', c', h1, h2⟩ := hc j l hl
      exact ⟨A', c', (hb.cell (p := ⟨b, off + j, none⟩) (Nat.lt_of_lt_of_le hbb hC)).trans h1, h2.below hb hC⟩⟩, h.le, h.cap⟩
theorem Rows2.at' (h : Rows2 w w.heap.size A c L) (hb : Below w.heap.size w w') : Rows2 w' w'.heap.size A c L := (h.below hb (Nat.le_refl _)).more hb.size
theorem Rows2.elem (h : Rows2 w B A c L) {k : Nat} (hk : k < L.length) :
    ∃ b off A' c' l, A = some ⟨b, off, none⟩ ∧ b < B ∧ w.cell? ⟨b, off + k, none⟩ = some (.slice A' l.length c') ∧ Ints w B A' c' l ∧ Hid (L[k]? = some l) := by
  obtain ⟨b, off, e, hb, hc⟩ := h.rd (by omega)
  have hs := List.getElem?_eq_getElem hk
  obtain ⟨A', c', h1, h2⟩ := hc k _ hs
  exact ⟨b, off, A', c', L[k], e, hb, h1, h2, hs⟩
end
theorem Ints.at' {w w' : World} {A : Option Addr} {c : Nat} {l : List Int} (h : Ints w w.heap.size A c l) (hb : Below w.heap.size w w') : Ints w' w'.heap.size A c l := (h.below hb (Nat.le_refl _)).more hb.size
end Go.Proofs.Ythffjnfnfddpdaa
