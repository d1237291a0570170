/- Slices of bools; fairsame.Bools. -/
import Derived.Test.YtblanfaghnflkaaLibA
namespace Go.Proofs.Ytblanfaghnflkaa
open Go.RowKit
/-- a slice of bools that reads as the list l -/
structure Bls (w : World) (B : Nat) (A : Option Addr) (c : Nat) (l : List Bool) : Prop where
  rd : Reads w B 1 A l.length (l.map Value.bool)
  le : l.length ≤ c
  cap : c ≤ maxLen
theorem Bls.more {w : World} {B C : Nat} {A : Option Addr} {c : Nat} {l : List Bool} (h : Bls w B A c l) (hC : B ≤ C) : Bls w C A c l := ⟨h.rd.more hC, h.le, h.cap⟩
theorem Bls.below {w w' : World} {B C : Nat} {A : Option Addr} {c : Nat} {l : List Bool} (h : Bls w B A c l) (hb : Below C w w') (hC : B ≤ C) : Bls w' B A c l := ⟨h.rd.below' hb hC, h.le, h.cap⟩
theorem Bls.at' {w w' : World} {A : Option Addr} {c : Nat} {l : List Bool} (h : Bls w w.heap.size A c l) (hb : Below w.heap.size w w') : Bls w' w'.heap.size A c l := (h.below hb (Nat.le_refl _)).more hb.size
theorem bls_none (w : World) (B : Nat) : Bls w B none 0 [] := ⟨Reads.none_, Nat.le_refl _, by simp [maxLen]⟩
theorem Bls.elem {w : World} {B : Nat} {A : Option Addr} {c : Nat} {l : List Bool} (h : Bls w B A c l) {k : Nat} (hk : k < l.length) :
    ∃ b off x, A = some ⟨b, off, none⟩ ∧ b < B ∧ w.cell? ⟨b, off + k, none⟩ = some (.bool x) ∧ Hid (l[k]? = some x) := by
  obtain ⟨b, off, e, hb, hc⟩ := h.rd.2 (by omega)
  exact ⟨b, off, l[k], e, hb, hc k _ (by simp [hk]), List.getElem?_eq_getElem hk⟩
theorem owns_bls {w : World} {base n : Nat} {v : Value} {l : List Bool} (h : w.ownsRow base 4 1 v n (l.map Value.bool)) : ∃ A c, v = .slice A l.length c ∧ n = l.length ∧ Bls w w.heap.size A c l := by
  obtain ⟨A, c, rfl, h1, h2, h3⟩ := owns_reads h
  have hn : n = l.length := by have := h3.1; simp at this; omega
  subst hn
  exact ⟨A, c, rfl, rfl, ⟨h3, h1, h2⟩⟩
theorem take_bool {S T : List Bool} {k : Nat} (h1 : S.take k = T.take k) {a b : Bool} (ha : S[k]? = some a) (hb : T[k]? = some b) (hab : a = b) : S.take (k + 1) = T.take (k + 1) := by
  rw [List.take_add_one, List.take_add_one, h1, ha, hb, hab]
end Go.Proofs.Ytblanfaghnflkaa
