/- Slices of sources: how they lie; slices.Clone of them. -/
import Derived.Test.YtaijpiebjhhkjaaGreatDoorLibA
import Derived.WalkSpells
namespace Go.Proofs.YtaijpiebjhhkjaaGreatDoor
open Go.RowKit
structure Src where
  W : Int
  a : Int
  l : Int
  c : Int
def Src.cells (s : Src) : List Value := [.int .i64 s.W, .int .i64 s.a, .int .i64 s.l, .int .i64 s.c]
def Src.val (s : Src) : Value := .agg #[.int .i64 s.W, .int .i64 s.a, .int .i64 s.l, .int .i64 s.c]
def srcCells : List Src → List Value
  | [] => []
  | s :: S => s.cells ++ srcCells S
theorem srcCells_len (S : List Src) : (srcCells S).length = S.length * 4 := by
  induction S with
  | nil => rfl
  | cons s S ih => simp only [srcCells, List.length_append, ih, List.length_cons]; simp [Src.cells]; omega
theorem srcCells_at (S : List Src) (k : Nat) (s : Src) (h : S[k]? = some s) : (srcCells S)[k * 4]? = some (.int .i64 s.W) ∧ (srcCells S)[k * 4 + 1]? = some (.int .i64 s.a) ∧ (srcCells S)[k * 4 + 2]? = some (.int .i64 s.l) ∧ (srcCells S)[k * 4 + 3]? = some (.int .i64 s.c) := by
  induction S generalizing k with
  | nil => simp at h
  | cons t S ih =>
    cases k with
    | zero =>
      simp at h; subst h
      simp [srcCells, Src.cells]
    | succ k =>
      have := ih k (by simpa using h)
      have e : ∀ j, (srcCells (t :: S))[(k + 1) * 4 + j]? = (srcCells S)[k * 4 + j]? := fun j => by
        have h2 : (k + 1) * 4 + j = k * 4 + j + 1 + 1 + 1 + 1 := by omega
        rw [h2]; rfl
      exact ⟨(e 0).trans this.1, (e 1).trans this.2.1, (e 2).trans this.2.2.1, (e 3).trans this.2.2.2⟩
theorem srcCells_set (S : List Src) (k : Nat) (s : Src) (h : k < S.length) : ((((srcCells S).set (k * 4) (.int .i64 s.W)).set (k * 4 + 1) (.int .i64 s.a)).set (k * 4 + 2) (.int .i64 s.l)).set (k * 4 + 3) (.int .i64 s.c) = srcCells (S.set k s) := by
  induction S generalizing k with
  | nil => simp at h
  | cons t S ih =>
    cases k with
    | zero => simp [srcCells, Src.cells]
    | succ k =>
      have := ih k (by simpa using h)
      have e : ∀ (L : List Value) j u, (t.cells ++ L).set ((k + 1) * 4 + j) u = t.cells ++ L.set (k * 4 + j) u := fun L j u => by
        rw [List.set_append_right _ _ (by simp [Src.cells]; omega)]
        congr 2
        simp [Src.cells]; omega
      have e0 := fun L u => e L 0 u
      simp only [Nat.add_zero] at e0
      simp only [srcCells, List.set_cons_succ]
      rw [e0, e, e, e, this]
theorem srcCells_one (S : List Src) : ∀ u ∈ srcCells S, u.oneCell' = true := by
  induction S with
  | nil => simp [srcCells]
  | cons s S ih =>
    intro u hu
    rcases List.mem_append.1 hu with hu | hu
    · simp [Src.cells] at hu
      rcases hu with rfl | rfl | rfl | rfl <;> rfl
    · exact ih u hu
structure Srcs (w : World) (B : Nat) (A : Option Addr) (c : Nat) (S : List Src) : Prop where
  rd : Reads w B 4 A S.length (srcCells S)
  le : S.length ≤ c
  cap : c ≤ maxLen
theorem Srcs.more {w : World} {B C : Nat} {A : Option Addr} {c : Nat} {S : List Src} (h : Srcs w B A c S) (hC : B ≤ C) : Srcs w C A c S := ⟨h.rd.more hC, h.le, h.cap⟩
theorem Srcs.below {w w' : World} {B C : Nat} {A : Option Addr} {c : Nat} {S : List Src} (h : Srcs w B A c S) (hb : Below C w w') (hC : B ≤ C) : Srcs w' B A c S := ⟨h.rd.below' hb hC, h.le, h.cap⟩
theorem Srcs.at' {w w' : World} {A : Option Addr} {c : Nat} {S : List Src} (h : Srcs w w.heap.size A c S) (hb : Below w.heap.size w w') : Srcs w' w'.heap.size A c S := (h.below hb (Nat.le_refl _)).more hb.size
theorem Srcs.elem {w : World} {B : Nat} {A : Option Addr} {c : Nat} {S : List Src} (h : Srcs w B A c S) {k : Nat} (hk : k < S.length) :
    ∃ b off s, A = some ⟨b, off, none⟩ ∧ b < B ∧ w.cell? ⟨b, off + k * 4, none⟩ = some (.int .i64 s.W) ∧ w.cell? ⟨b, off + k * 4 + 1, none⟩ = some (.int .i64 s.a) ∧ w.cell? ⟨b, off + k * 4 + 2, none⟩ = some (.int .i64 s.l) ∧ w.cell? ⟨b, off + k * 4 + 3, none⟩ = some (.int .i64 s.c) ∧ Hid (S[k]? = some s) := by
  obtain ⟨b, off, e, hb, hc⟩ := h.rd.2 (by omega)
  have hs := List.getElem?_eq_getElem hk
  obtain ⟨h0, h1, h2, h3⟩ := srcCells_at S k _ hs
  exact ⟨b, off, S[k], e, hb, hc _ _ h0, hc _ _ h1, hc _ _ h2, hc _ _ h3, hs⟩
end Go.Proofs.YtaijpiebjhhkjaaGreatDoor
