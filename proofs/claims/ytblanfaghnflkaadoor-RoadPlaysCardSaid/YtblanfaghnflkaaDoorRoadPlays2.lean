/- RoadPlays where the road is right: the two roads beside each other. -/
import Derived.Test.YtblanfaghnflkaaDoorRoadPlays1
import Derived.Deep.RegionHeld3
namespace Go.Proofs.YtblanfaghnflkaaDoor.RF
open Go.RowKit
/-- the two roads beside each other -/
structure Two (w : World) (base g gs cs g' gs' cs' n : Nat) (vr vr' : Value) (r p : Int) (S : List Src) (k : Int) (row : List Nat) (S' : List Src) (k' : Int) (row' : List Nat) : Prop where
  a : RdT 136 w base g gs cs n vr S r p k row
  b : RdT 67 w base g' gs' cs' n vr' S' r p k' row'
  ap : Apart gs gs' vr vr'
section
variable {w w' : World} {base g gs cs g' gs' cs' n : Nat} {vr vr' : Value} {r p : Int} {S : List Src} {k : Int} {row : List Nat} {S' : List Src} {k' : Int} {row' : List Nat} {L : List Int}
theorem Two.below (h : Two w base g gs cs g' gs' cs' n vr vr' r p S k row S' k' row') (hb : Below w.heap.size w w') : Two w' base g gs cs g' gs' cs' n vr vr' r p S k row S' k' row' :=
  ⟨h.a.below hb, h.b.below hb, h.ap⟩
theorem Two.drew (h : Two w base g gs cs g' gs' cs' n vr vr' r p S k row S' k' row') : Two w.drew base g gs cs g' gs' cs' n vr vr' r p S k row S' k' row' := h.below (Below.refl _ _).drew
theorem Two.alloc (h : Two w base g gs cs g' gs' cs' n vr vr' r p S k row S' k' row') (o : Obj) : Two (w.alloc o) base g gs cs g' gs' cs' n vr vr' r p S k row S' k' row' := h.below ((Below.refl _ _).alloc (Nat.le_refl _) o)
/-- blocks of other types stay -/
def Kept (w w' : World) : Prop := ∀ i t cs, Blk w i t cs → t ≠ 136 → t ≠ 67 → t ≠ 74 → t ≠ 3 → Blk w' i t cs
/-- the reference's tick -/
theorem two_m (h : Two w base g gs cs g' gs' cs' n vr vr' r p S k row S k row) (hb : base ≤ w.heap.size) (hi : RInv L S r p k row) (wt lo lf : Int) (S2 : List Src) (row2 : List Nat) (h1 : PP.went p k (cameOf S) = wt) (h2 : PP.lost r p k (cameOf S) = lo) (h3 : PP.left r p k (cameOf S) = lf) (h4 : tickS S r p k row = S2) (h5 : tickRow S r p k row = row2) :
    Calls Tryd.prog 38 #[.pointer (some ⟨g', 0, none⟩)] w fun e w' => ∃ v2, e = .returned (.agg #[.int .i64 wt, .int .i64 lo, .int .i64 lf]) ∧
      Two w' base g gs cs g' gs' cs' n vr v2 r p S k row S2 lf row2 ∧ Below base w w' ∧ Kept w w' := by
  have hn := h.b.len
  subst hn; subst h1; subst h2; subst h3; subst h4; subst h5
  refine (mtick_any (Not w g' gs' vr') w base g' gs' cs' _ vr' S r p k row (h.b.with (by decide) (by decide)) hb hi.tick hi.pool).mono ?_
  rintro e w' ⟨v2, he, hr, hbw, ho⟩
  have ha := h.ap.symm
  exact ⟨v2, he, ⟨h.b.stays h.a (by decide) (by decide) (by decide) (by decide) (by decide) ha ho.far, hr.rd, Apart.symm ⟨ha.ss, fun i h1 h2 => hr.nrow i h1 (h.b.row_not h.a (by decide) ha i h2)⟩⟩, hbw, fun i t cs hB _ h2 h3 h4 => ho.oth i t cs hB h2 h3 h4⟩
/-- the program's tick -/
theorem two_r (h : Two w base g gs cs g' gs' cs' n vr vr' r p S k row S' k' row') (hb : base ≤ w.heap.size) (hi : RInv L S r p k row) (wt lo lf : Int) (S2 : List Src) (row2 : List Nat) (h1 : PP.went p k (cameOf S) = wt) (h2 : PP.lost r p k (cameOf S) = lo) (h3 : PP.left r p k (cameOf S) = lf) (h4 : tickS S r p k row = S2) (h5 : tickRow S r p k row = row2) :
    Calls Tryd.prog 39 #[.pointer (some ⟨g, 0, none⟩)] w fun e w' => ∃ v2, e = .returned (.agg #[.int .i64 wt, .int .i64 lo, .int .i64 lf]) ∧
      Two w' base g gs cs g' gs' cs' n v2 vr' r p S2 lf row2 S' k' row' ∧ Below base w w' ∧ Kept w w' := by
  have hn := h.a.len
  subst hn; subst h1; subst h2; subst h3; subst h4; subst h5
  refine (tick_any (Not w g gs vr) w base g gs cs _ vr S r p k row (h.a.with (by decide) (by decide)) hb hi.tick).mono ?_
  rintro e w' ⟨v2, he, hr, hbw, ho⟩
  have ha := h.ap
  exact ⟨v2, he, ⟨hr.rd, h.a.stays h.b (by decide) (by decide) (by decide) (by decide) (by decide) ha ho.far, ⟨ha.ss, fun i h1 h2 => hr.nrow i h1 (h.a.row_not h.b (by decide) ha i h2)⟩⟩, hbw, fun i t cs hB h1 _ h3 h4 => ho.oth i t cs hB h1 h3 h4⟩
/-- the cells of a road -/
theorem RdT.cells {T : TypeId} (h : RdT T w base g gs cs n vr S r p k row) : w.cell? ⟨g, 0, none⟩ = some (.slice (some ⟨gs, 0, none⟩) n cs) ∧ w.cell? ⟨g, 1, none⟩ = some (.int .i64 r) ∧ w.cell? ⟨g, 2, none⟩ = some (.int .i64 p) ∧ w.cell? ⟨g, 3, none⟩ = some (.int .i64 k) ∧ w.cell? ⟨g, 4, none⟩ = some vr ∧ g < w.heap.size :=
  ⟨h.blk.cell 0, h.blk.cell 1, h.blk.cell 2, h.blk.cell 3, h.blk.cell 4, h.blk.lt⟩
theorem RdT.src {T : TypeId} (h : RdT T w base g gs cs n vr S r p k row) {i : Nat} {s : Src} (hi : S[i]? = some s) :
    w.cell? ⟨gs, i * 4, none⟩ = some (.int .i64 s.W) ∧ w.cell? ⟨gs, i * 4 + 1, none⟩ = some (.int .i64 s.a) ∧ w.cell? ⟨gs, i * 4 + 2, none⟩ = some (.int .i64 s.l) ∧ w.cell? ⟨gs, i * 4 + 3, none⟩ = some (.int .i64 s.c) ∧ gs < w.heap.size := by
  have hl : i < S.length := (List.getElem?_eq_some_iff.1 hi).1
  obtain ⟨h0, h1, h2, h3⟩ := srcCells_at S i s hi
  have hc := fun j (hj : j < n * 4) => h.srcs.cellAt j hj
  have hl : i < n := by rw [← h.len]; exact hl
  exact ⟨(hc _ (by omega)).trans h0, (hc _ (by omega)).trans h1, (hc _ (by omega)).trans h2, (hc _ (by omega)).trans h3, (h.srcs.lt gs rfl).2⟩
/-- the rows beside each other -/
theorem two_ints {A A' : Option Addr} {c c' : Nat} {w0 : World} (h : Two w0 base g gs cs g' gs' cs' n vr (.slice A' row.length c') r p S k row S k row) (hi : Ints w0 w0.heap.size A c (row.map fun (i : Nat) => (i : Int))) (w : World) (hw : Below w0.heap.size w0 w) :
    Calls Tryd.prog 29 #[.slice A row.length c, .slice A' row.length c'] w fun e w' => e = .returned (.bool true) ∧ Below w.heap.size w w' := by
  obtain ⟨A3, c3, hv, h3⟩ := idxs_ints h.b.row
  injection hv with e1 _ e3
  subst e1 e3
  exact sameInts_b A A' c c' _ _ _ w0.heap.size w0.heap.size w (hi.below hw (Nat.le_refl _)) (h3.below hw (Nat.le_refl _)) (by simp) (by simp)
end
end Go.Proofs.YtblanfaghnflkaaDoor.RF
