/- Slices of fractions: how they lie. -/
import Derived.Test.YthffjnfnfddpdaaOwn
import Derived.WalkSpells
namespace Go.Proofs.Ythffjnfnfddpdaa
open Go.RowKit
structure Fr where
  t : Int
  b : Int
def Fr.cells (s : Fr) : List Value := [.int .i64 s.t, .int .i64 s.b]
def Fr.val (s : Fr) : Value := .agg #[.int .i64 s.t, .int .i64 s.b]
def frCells : List Fr → List Value
  | [] => []
  | s :: S => s.cells ++ frCells S
theorem frCells_len (S : List Fr) : (frCells S).length = S.length * 2 := by
  induction S with
  | nil => rfl
  | cons s S ih => simp only [frCells, List.length_append, ih, List.length_cons]; simp [Fr.cells]; omega
theorem frCells_at (S : List Fr) (k : Nat) (s : Fr) (h : S[k]? = some s) : (frCells S)[k * 2]? = some (.int .i64 s.t) ∧ (frCells S)[k * 2 + 1]? = some (.int .i64 s.b) := by
  induction S generalizing k with
  | nil => simp at h
  | cons t S ih =>
    cases k with
    | zero =>
      simp at h; subst h
      simp [frCells, Fr.cells]
    | succ k =>
      have := ih k (by simpa using h)
      have e : ∀ j, (frCells (t :: S))[(k + 1) * 2 + j]? = (frCells S)[k * 2 + j]? := fun j => by
        have h2 : (k + 1) * 2 + j = k * 2 + j + 1 + 1 := by omega
        rw [h2]; rfl
      exact ⟨(e 0).trans this.1, (e 1).trans this.2⟩
theorem frCells_set (S : List Fr) (k : Nat) (s : Fr) (h : k < S.length) : ((frCells S).set (k * 2) (.int .i64 s.t)).set (k * 2 + 1) (.int .i64 s.b) = frCells (S.set k s) := by
  induction S generalizing k with
  | nil => simp at h
  | cons t S ih =>
    cases k with
    | zero => simp [frCells, Fr.cells]
    | succ k =>
      have := ih k (by simpa using h)
      have e : ∀ (L : List Value) j u, (t.cells ++ L).set ((k + 1) * 2 + j) u = t.cells ++ L.set (k * 2 + j) u := fun L j u => by
        rw [List.set_append_right _ _ (by simp [Fr.cells]; omega)]
        congr 2
        simp [Fr.cells]; omega
      have e0 := fun L u => e L 0 u
      simp only [Nat.add_zero] at e0
      simp only [frCells, List.set_cons_succ]
      rw [e0, e, this]
theorem frCells_append (S T : List Fr) : frCells (S ++ T) = frCells S ++ frCells T := by
  induction S with
  | nil => rfl
  | cons s S ih => simp only [List.cons_append, frCells, ih, List.append_assoc]
theorem frCells_one (S : List Fr) : ∀ u ∈ frCells S, u.oneCell' = true := by
  induction S with
  | nil => simp [frCells]
  | cons s S ih =>
    intro u hu
    rcases List.mem_append.1 hu with hu | hu
    · simp [Fr.cells] at hu
      rcases hu with rfl | rfl <;> rfl
    · exact ih u hu
structure Frs (w : World) (B : Nat) (A : Option Addr) (c : Nat) (S : List Fr) : Prop where
  rd : Reads w B 2 A S.length (frCells S)
  le : S.length ≤ c
  cap : c ≤ maxLen
theorem Frs.more {w : World} {B C : Nat} {A : Option Addr} {c : Nat} {S : List Fr} (h : Frs w B A c S) (hC : B ≤ C) : Frs w C A c S := ⟨h.rd.more hC, h.le, h.cap⟩
theorem Frs.below {w w' : World} {B C : Nat} {A : Option Addr} {c : Nat} {S : List Fr} (h : Frs w B A c S) (hb : Below C w w') (hC : B ≤ C) : Frs w' B A c S := ⟨h.rd.below' hb hC, h.le, h.cap⟩
theorem Frs.at' {w w' : World} {A : Option Addr} {c : Nat} {S : List Fr} (h : Frs w w.heap.size A c S) (hb : Below w.heap.size w w') : Frs w' w'.heap.size A c S := (h.below hb (Nat.le_refl _)).more hb.size
theorem Frs.elem {w : World} {B : Nat} {A : Option Addr} {c : Nat} {S : List Fr} (h : Frs w B A c S) {k : Nat} (hk : k < S.length) :
    ∃ b off s, A = some ⟨b, off, none⟩ ∧ b < B ∧ w.cell? ⟨b, off + k * 2, none⟩ = some (.int .i64 s.t) ∧ w.cell? ⟨b, off + k * 2 + 1, none⟩ = some (.int .i64 s.b) ∧ Hid (S[k]? = some s) := by
  obtain ⟨b, off, e, hb, hc⟩ := h.rd.2 (by omega)
  have hs := List.getElem?_eq_getElem hk
  obtain ⟨h0, h1⟩ := frCells_at S k _ hs
  exact ⟨b, off, S[k], e, hb, hc _ _ h0, hc _ _ h1, hs⟩
theorem Try.info_fr : (Try.prog.info? 44).map (fun i => (i.zero, i.size, i.bytes)) = some (some (.agg #[.int .i64 0, .int .i64 0]), 2, 16) := by kernel_rfl
theorem owns_frs {w : World} {base n : Nat} {v : Value} {S : List Fr} (h : w.ownsRow base 44 2 v n (frCells S)) : ∃ A c, v = .slice A S.length c ∧ n = S.length ∧ Frs w w.heap.size A c S := by
  obtain ⟨A, c, rfl, h1, h2, h3⟩ := owns_reads h
  have hn : n = S.length := by have := h3.1; rw [frCells_len] at this; omega
  subst hn
  exact ⟨A, c, rfl, rfl, ⟨h3, h1, h2⟩⟩
end Go.Proofs.Ythffjnfnfddpdaa
