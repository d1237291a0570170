/- Slices of sources: how they lie; slices.Clone of them. -/
import Derived.Test.YtblanfaghnflkaaDoorLibA
import Derived.WalkSpells
namespace Go.Proofs.YtblanfaghnflkaaDoor
open Go.RowKit
structure Src where
  W : Int
  a : Int
  l : Int
  c : Int
def Src.cells (s : Src) : List Value := [.int .i64 s.W, .int .i64 s.a, .int .i64 s.l, .int .i64 s.c]
def Src.val (s : Src) : Value := .agg #[.int .i64 s.W, .int .i64 s.a, .int .i64 s.l, .int .i64 s.c]
def srcCells : List Src → List Value
  | [] => []
  | s :: S => s.cells ++ srcCells S
theorem srcCells_len (S : List Src) : (srcCells S).length = S.length * 4 := by
  induction S with
  | nil => rfl
  | cons s S ih => simp only [srcCells, List.length_append, ih, List.length_cons]; simp [Src.cells]; omega
theorem srcCells_at (S : List Src) (k : Nat) (s : Src) (h : S[k]? = some s) : (srcCells S)[k * 4]? = some (.int .i64 s.W) ∧ (srcCells S)[k * 4 + 1]? = some (.int .i64 s.a) ∧ (srcCells S)[k * 4 + 2]? = some (.int .i64 s.l) ∧ (srcCells S)[k * 4 + 3]? = some (.int .i64 s.c) := by
  induction S generalizing k with
  | nil => simp at h
  | cons t S ih =>
    cases k with
    | zero =>
      simp at h; subst h
      simp [srcCells, Src.cells]
    | succ k =>
      have := ih k (by simpa using h)
      have e : ∀ j, (srcCells (t :: S))[(k + 1) * 4 + j]? = (srcCells S)[k * 4 + j]? := fun j => by
        have h2 : (k + 1) * 4 + j = k * 4 + j + 1 + 1 + 1 + 1 := by omega
        rw [h2]; rfl
      exact ⟨(e 0).trans this.1, (e 1).trans this.2.1, (e 2).trans this.2.2.1, (e 3).trans this.2.2.2⟩
theorem srcCells_set (S : List Src) (k : Nat) (s : Src) (h : k < S.length) : ((((srcCells S).set (k * 4) (.int .i64 s.W)).set (k * 4 + 1) (.int .i64 s.a)).set (k * 4 + 2) (.int .i64 s.l)).set (k * 4 + 3) (.int .i64 s.c) = srcCells (S.set k s) := by
  induction S generalizing k with
  | nil => simp at h
  | cons t S ih =>
    cases k with
    | zero => simp [srcCells, Src.cells]
    | succ k =>
      have := ih k (by simpa using h)
      have e : ∀ (L : List Value) j u, (t.cells ++ L).set ((k + 1) * 4 + j) u = t.cells ++ L.set (k * 4 + j) u := fun L j u => by
        rw [List.set_append_right _ _ (by simp [Src.cells]; omega)]
        congr 2
        simp [Src.cells]; omega
      have e0 := fun L u => e L 0 u
      simp only [Nat.add_zero] at e0
      simp only [srcCells, List.set_cons_succ]
      rw [e0, e, e, e, this]
theorem srcCells_one (S : List Src) : ∀ u ∈ srcCells S, u.oneCell' = true := by
  induction S with
  | nil => simp [srcCells]
  | cons s S ih =>
    intro u hu
    rcases List.mem_append.1 hu with hu | hu
    · simp [Src.cells] at hu
      rcases hu with rfl | rfl | rfl | rfl <;> rfl
    · exact ih u hu
structure Srcs (w : World) (B : Nat) (A : Option Addr) (c : Nat) (S : List Src) : Prop where
  rd : Reads w B 4 A S.length (srcCells S)
  le : S.length ≤ c
  cap : c ≤ maxLen
theorem Srcs.more {w : World} {B C : Nat} {A : Option Addr} {c : Nat} {S : List Src} (h : Srcs w B A c S) (hC : B ≤ C) : Srcs w C A c S := ⟨h.rd.more hC, h.le, h.cap⟩
theorem Srcs.below {w w' : World} {B C : Nat} {A : Option Addr} {c : Nat} {S : List Src} (h : Srcs w B A c S) (hb : Below C w w') (hC : B ≤ C) : Srcs w' B A c S := ⟨h.rd.below' hb hC, h.le, h.cap⟩
theorem Srcs.at' {w w' : World} {A : Option Addr} {c : Nat} {S : List Src} (h : Srcs w w.heap.size A c S) (hb : Below w.heap.size w w') : Srcs w' w'.heap.size A c S := (h.below hb (Nat.le_refl _)).more hb.size
theorem Srcs.elem {w : World} {B : Nat} {A : Option Addr} {c : Nat} {S : List Src} (h : Srcs w B A c S) {k : Nat} (hk : k < S.length) :
    ∃ b off s, A = some ⟨b, off, none⟩ ∧ b < B ∧ w.cell? ⟨b, off + k * 4, none⟩ = some (.int .i64 s.W) ∧ w.cell? ⟨b, off + k * 4 + 1, none⟩ = some (.int .i64 s.a) ∧ w.cell? ⟨b, off + k * 4 + 2, none⟩ = some (.int .i64 s.l) ∧ w.cell? ⟨b, off + k * 4 + 3, none⟩ = some (.int .i64 s.c) ∧ Hid (S[k]? = some s) := by
  obtain ⟨b, off, e, hb, hc⟩ := h.rd.2 (by omega)
  have hs := List.getElem?_eq_getElem hk
  obtain ⟨h0, h1, h2, h3⟩ := srcCells_at S k _ hs
  exact ⟨b, off, S[k], e, hb, hc _ _ h0, hc _ _ h1, hc _ _ h2, hc _ _ h3, hs⟩
theorem Tryd.info_src : (Tryd.prog.info? 74).map (fun i => (i.zero, i.size, i.bytes)) = some (some (.agg #[.int .i64 0, .int .i64 0, .int .i64 0, .int .i64 0]), 4, 32) := by kernel_rfl
theorem owns_srcs {w : World} {base n : Nat} {v : Value} {S : List Src} (h : w.ownsRow base 74 4 v n (srcCells S)) : ∃ A c, v = .slice A S.length c ∧ n = S.length ∧ Srcs w w.heap.size A c S := by
  obtain ⟨A, c, rfl, h1, h2, h3⟩ := owns_reads h
  have hn : n = S.length := by have := h3.1; rw [srcCells_len] at this; omega
  subst hn
  exact ⟨A, c, rfl, rfl, ⟨h3, h1, h2⟩⟩
set_option maxHeartbeats 400000 in
set_option maxRecDepth 100000 in
theorem cloneSrc_any (A : Option Addr) (c : Nat) (S : List Src) (w : World) (h : Srcs w w.heap.size A c S) (h0 : 0 < S.length) (hl : S.length ≤ 1000) :
    Calls Tryd.prog 96 #[.slice A S.length c] w fun e w' => ∃ v, e = .returned v ∧ w'.ownsRow w.heap.size 74 4 v S.length (srcCells S) ∧ Below w.heap.size w w' := by
  obtain ⟨b, off, hA, _, _⟩ := h.rd.2 h0
  subst hA
  have H := Lib.hid h; clear h
  obtain ⟨i0, hi0, hz0, hz1, hz2⟩ := info_parts Tryd.info_src
  have hcell : ∀ W : World, Below w.heap.size w W → ∀ j u, (srcCells S)[j]? = some u → W.cell? ((⟨b, off, none⟩ : Addr).add j) = some u := fun W hW j u hu => by
    have hr := (H.out.rd).below' hW (Nat.le_refl _)
    obtain ⟨b', off', e, _, hc⟩ := hr.2 h0
    injection e with e
    injection e with e1 e2
    subst e1 e2
    have hadd : (⟨b, off, none⟩ : Addr).add j = ⟨b, off + j, none⟩ := by unfold Addr.add; split <;> simp_all
    rw [hadd]; exact hc j u hu
  have HC := Lib.hid hcell; clear hcell
  have hbel : Below w.heap.size w (w.alloc (.cells #[] 74)) := (Below.refl _ _).alloc (Nat.le_refl _) _
  have hown := World.ownsRow_made (base := w.heap.size) (e := 74) (size := 4) w #[] 0 (Nat.le_refl _) (by simp [maxLen]) (by simp)
  have HO := Lib.hid hown; clear hown
  have one1 : Hid (∀ u ∈ srcCells S, u.oneCell' = true) := Lib.hid (srcCells_one S)
  have hE : ∀ W : World, (binOp .eql 58 (.slice (some ⟨b, off, none⟩) S.length c) (.slice none 0 0)).run Tryd.prog W = .ok (.bool false) W := fun W => Lib.run_eql_slice_nil (P := Tryd.prog) W 58 74 (some ⟨b, off, none⟩) S.length c 0 0 Tryd.underlying58
  go_enter Tryd.func96, Tryd.ntmps96
  go_wp2_with (at_builtin; refine wpList_append_own _ rfl (.tmp 5) (.tmp 6) 58 rfl w.heap.size 74 i0 (.agg #[.int .i64 0, .int .i64 0, .int .i64 0, .int .i64 0]) 4 32 Tryd.underlying58 hi0 hz0 hz1 hz2 rfl (by omega) _ 0 [] rfl HO.out ⟨b, off, none⟩ S.length c (srcCells S) rfl (by rw [srcCells_len]) (HC.out _ hbel) one1.out (by simp only [maxLen]; omega) (by omega) (by simp) ?_)
  intro v' w' hown hgrow _
  go_wp2
  go_ret
  refine ⟨_, rfl, by simpa using hown, hbel.grown hgrow (by simp) (fun k hk => ?_)⟩
  simp [Value.ownBlock] at hk
  omega
end Go.Proofs.YtblanfaghnflkaaDoor
