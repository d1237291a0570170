/- Facts on roads for the laws (plain). -/
import Derived.Test.YtblanfaghnflkaaDoorRoadInv
namespace Go.Proofs.YtblanfaghnflkaaDoor
open Go.RowKit
theorem Srcs.one' {w : World} {b B : Nat} {s : Src} (h : Blk w b 74 #[.int .i64 s.W, .int .i64 s.a, .int .i64 s.l, .int .i64 s.c]) (hB : b < B) : Srcs w B (some ⟨b, 0, none⟩) 1 [s] :=
  ⟨⟨rfl, fun _ => ⟨b, 0, rfl, hB, fun j u hu => by rw [Nat.zero_add, h.cell j]; simpa [srcCells, Src.cells] using hu⟩⟩, Nat.le_refl _, by simp [maxLen]⟩
theorem sumC_take {S : List Src} {i : Nat} {s : Src} (h : S[i]? = some s) : sumC (S.take (i + 1)) = sumC (S.take i) + s.c := by
  induction S generalizing i with
  | nil => simp at h
  | cons t S ih =>
    cases i with
    | zero => simp at h; subst h; simp [sumC]
    | succ i =>
      have := ih (i := i) (by simpa using h)
      simp only [List.take_succ_cons, sumC, this]; omega
theorem sumL_take {S : List Src} {i : Nat} {s : Src} (h : S[i]? = some s) : sumL ((S.map Src.l).take (i + 1)) = sumL ((S.map Src.l).take i) + s.l := by
  induction S generalizing i with
  | nil => simp at h
  | cons t S ih =>
    cases i with
    | zero => simp at h; subst h; simp [sumL]
    | succ i =>
      have := ih (i := i) (by simpa using h)
      simp only [List.map_cons, List.take_succ_cons, sumL, this]; omega
theorem sumL_bd (S : List Src) (h : ∀ s ∈ S, 0 ≤ s.l ∧ s.l ≤ 10000) : 0 ≤ sumL (S.map Src.l) ∧ sumL (S.map Src.l) ≤ S.length * 10000 := by
  induction S with
  | nil => simp [sumL]
  | cons s S ih =>
    have := ih fun t ht => h t (List.mem_cons_of_mem _ ht)
    have := h s List.mem_cons_self
    simp only [List.map_cons, sumL, List.length_cons]; omega
theorem AllIs.sumC_bd {L : List Int} {way : Nat → Nat} {S : List Src} (h : AllIs L way S) (i : Nat) : 0 ≤ sumC (S.take i) ∧ sumC (S.take i) ≤ i * 10000 := by
  induction i with
  | zero => simp [sumC]
  | succ i ih =>
    cases hs : S[i]? with
    | none => rw [List.take_of_length_le (by have := List.getElem?_eq_none_iff.1 hs; omega)]; rw [List.take_of_length_le (List.getElem?_eq_none_iff.1 hs)] at ih; omega
    | some s =>
      rw [sumC_take hs]
      have hh := h.2 i s hs
      have := hh.way; have := hh.all; have := hh.top; have := hh.c0; have := hh.l0
      omega
theorem firstErr_ok : ∀ (S : List Src), firstErr S = 0 → ∀ s ∈ S, SourceOk s.W s.a s.l s.c ∧ s.a = 0 ∧ s.c = 0 := by
  intro S
  induction S with
  | nil => intro _ s hs; simp at hs
  | cons t S ih =>
    intro hf s hs
    unfold firstErr at hf
    split at hf
    · rename_i ht
      rcases List.mem_cons.1 hs with e | hs
      · subst e
        unfold srcErr at ht
        split at ht
        · split at ht
          · omega
          · rename_i a b
            exact ⟨a, by omega, by omega⟩
        · omega
      · exact ih hf s hs
    · rename_i ht; exact absurd hf ht
theorem roadErr_c {S : List Src} (he : roadErr S = 0) : sumC S = 0 := by
  obtain ⟨h0, h6⟩ := roadErr_len he
  have hf : firstErr S = 0 := by
    unfold roadErr at he
    rw [if_neg (by omega), if_neg (by omega)] at he; exact he
  have h := firstErr_ok S hf
  clear he h0 h6 hf
  induction S with
  | nil => rfl
  | cons t S ih =>
    have := h t List.mem_cons_self
    have := ih fun s hs => h s (List.mem_cons_of_mem _ hs)
    simp only [sumC]; omega
/-- the lefts of sources that are right -/
theorem roadErr_l {S : List Src} (h : roadErr S = 0) : ∀ s ∈ S, 0 ≤ s.l ∧ s.l ≤ 10000 := fun s hs => by
  have hi := (RInv.start (r := 0) (p := 1) h ⟨by omega, by omega, by omega, by omega, by omega, by omega⟩).all
  obtain ⟨i, hi', e⟩ := List.getElem_of_mem hs
  have := hi.2 i s (by rw [← e]; exact List.getElem?_eq_getElem hi')
  have h1 := this.l0
  have h2 := this.way; have h3 := this.all; have h4 := this.top; have h5 := this.c0
  omega
theorem count_take {l : List Nat} {k x : Nat} (h : l[k]? = some x) (i : Nat) : (l.take (k + 1)).count i = (l.take k).count i + if x = i then 1 else 0 := by
  rw [List.take_add_one, h, Option.toList_some, List.count_append, List.count_singleton]; simp
/-- a tick of a road, with its invariant -/
theorem tick_inv (w : World) (base g gs cs n : Nat) (vr : Value) (L : List Int) (S : List Src) (r p k : Int) (row : List Nat) (h : RoadAt w base g gs cs n vr S r p k row) (hb : base ≤ w.heap.size) (hi : RInv L S r p k row) :
    Calls Tryd.prog 39 #[.pointer (some ⟨g, 0, none⟩)] w fun e w' => ∃ (vr' : Value) (S' : List Src) (row' : List Nat) (wt lo lf : Int), e = .returned (.agg #[.int .i64 wt, .int .i64 lo, .int .i64 lf]) ∧
      RoadAt w' base g gs cs n vr' S' r p lf row' ∧ RInv L S' r p lf row' ∧ 0 ≤ wt ∧ wt ≤ p ∧ 0 ≤ lo ∧ lo ≤ 20000 ∧ sumC S' = sumC S + wt ∧ (sumC S < sumL L → 1 ≤ wt) ∧ Below base w w' := by
  have hn : n = S.length := h.len.symm
  subst hn
  refine (tick_any w base g gs cs _ vr S r p k row h hb hi.tick).mono ?_
  rintro e w' ⟨vr', he, hr, hbw, _⟩
  obtain ⟨e0, e1, e2, e3, e4, e5⟩ := hi.pl
  have hc := hi.came
  obtain ⟨q0, q1, q2, q3, q4, q5⟩ := hi.pool
  exact ⟨vr', _, _, _, _, _, he, hr, hi.next, e0, e1, e4, by unfold PP.lost; omega, hi.sumNext, hi.goes, hbw⟩
theorem field_pool (a b c : Int) (W : World) : (Instr.field 60 (.agg #[.int .i64 a, .int .i64 b, .int .i64 c]) 2).run Tryd.prog W = .ok (.int .i64 c) W := by kernel_rfl
end Go.Proofs.YtblanfaghnflkaaDoor
