/- FracTells: what its walk uses. -/
import Derived.Test.YtblanfaghnflkaaDoorRefFrac
import Derived.Test.YtblanfaghnflkaaDoorTold
import Derived.Deep.DeepCutAuto
namespace Go.Proofs.YtblanfaghnflkaaDoor
open Go.RowKit
attribute [local go_sem ↓] run_min_mn run_max_mx
structure FT (w wr : World) (gX : Nat) (a1 a2 b1 b2 w1 w2 x1 x2 : Int) : Prop where
  A : Blk wr w.heap.size 23 #[.int .i64 a1, .int .i64 a2]
  B : Blk wr (w.heap.size + 1) 23 #[.int .i64 b1, .int .i64 b2]
  W : Blk wr (w.heap.size + 1 + 1) 23 #[.int .i64 w1, .int .i64 w2]
  X : Blk wr gX 23 #[.int .i64 x1, .int .i64 x2]
  bel : Below w.heap.size w wr
  laid : Laid wr
  lt : w.heap.size + 1 + 1 < gX
theorem laid_setCell {w : World} (h : Laid w) {g : Nat} (hg : 0 < g) (k : Nat) (u : Value) : Laid (w.setCell ⟨g, k, none⟩ u) :=
  ((((Below.refl 1 w).setCell (p := ⟨g, k, none⟩) hg u)).cell (p := ⟨0, 0, none⟩) Nat.one_pos).trans h
section
variable {w wr w' : World} {gX : Nat} {a1 a2 b1 b2 w1 w2 x1 x2 : Int}
theorem FT.below (h : FT w wr gX a1 a2 b1 b2 w1 w2 x1 x2) (hb : Below wr.heap.size wr w') : FT w w' gX a1 a2 b1 b2 w1 w2 x1 x2 :=
  ⟨h.A.go hb, h.B.go hb, h.W.go hb, h.X.go hb, h.bel.trans (hb.mono h.bel.size), h.laid.below hb, h.lt⟩
theorem FT.setW (h : FT w wr gX a1 a2 b1 b2 w1 w2 x1 x2) (u v : Int) : FT w ((wr.setCell ⟨w.heap.size + 1 + 1, 0, none⟩ (.int .i64 u)).setCell ⟨w.heap.size + 1 + 1, 1, none⟩ (.int .i64 v)) gX a1 a2 b1 b2 u v x1 x2 := by
  have h1 : w.heap.size ≠ w.heap.size + 1 + 1 := by omega
  have h2 : w.heap.size + 1 ≠ w.heap.size + 1 + 1 := by omega
  have h3 : gX ≠ w.heap.size + 1 + 1 := by have := h.lt; omega
  exact ⟨(h.A.far (p := ⟨_, 0, none⟩) h1 _).far (p := ⟨_, 1, none⟩) h1 _, (h.B.far (p := ⟨_, 0, none⟩) h2 _).far (p := ⟨_, 1, none⟩) h2 _, (h.W.s2_0 _).s2_1 _, (h.X.far (p := ⟨_, 0, none⟩) h3 _).far (p := ⟨_, 1, none⟩) h3 _,
    (h.bel.setCell (p := ⟨_, 0, none⟩) (by show w.heap.size ≤ w.heap.size + 1 + 1; omega) _).setCell (p := ⟨_, 1, none⟩) (by show w.heap.size ≤ w.heap.size + 1 + 1; omega) _, laid_setCell (laid_setCell h.laid (by omega) _ _) (by omega) _ _, h.lt⟩
theorem FT.setX (h : FT w wr gX a1 a2 b1 b2 w1 w2 x1 x2) (u v : Int) : FT w ((wr.setCell ⟨gX, 0, none⟩ (.int .i64 u)).setCell ⟨gX, 1, none⟩ (.int .i64 v)) gX a1 a2 b1 b2 w1 w2 u v := by
  have hl := h.lt
  have h1 : w.heap.size ≠ gX := by omega
  have h2 : w.heap.size + 1 ≠ gX := by omega
  have h3 : w.heap.size + 1 + 1 ≠ gX := by omega
  exact ⟨(h.A.far (p := ⟨_, 0, none⟩) h1 _).far (p := ⟨_, 1, none⟩) h1 _, (h.B.far (p := ⟨_, 0, none⟩) h2 _).far (p := ⟨_, 1, none⟩) h2 _, (h.W.far (p := ⟨_, 0, none⟩) h3 _).far (p := ⟨_, 1, none⟩) h3 _, (h.X.s2_0 _).s2_1 _,
    (h.bel.setCell (p := ⟨_, 0, none⟩) (by show w.heap.size ≤ gX; omega) _).setCell (p := ⟨_, 1, none⟩) (by show w.heap.size ≤ gX; omega) _, laid_setCell (laid_setCell h.laid (by omega) _ _) (by omega) _ _, h.lt⟩
theorem FT.open (h : FT w wr gX a1 a2 b1 b2 w1 w2 x1 x2) :
    wr.cell? ⟨w.heap.size, 0, none⟩ = some (.int .i64 a1) ∧ wr.cell? ⟨w.heap.size, 1, none⟩ = some (.int .i64 a2) ∧ wr.cell? ⟨w.heap.size + 1, 0, none⟩ = some (.int .i64 b1) ∧ wr.cell? ⟨w.heap.size + 1, 1, none⟩ = some (.int .i64 b2) ∧
    wr.cell? ⟨w.heap.size + 1 + 1, 0, none⟩ = some (.int .i64 w1) ∧ wr.cell? ⟨w.heap.size + 1 + 1, 1, none⟩ = some (.int .i64 w2) ∧ wr.cell? ⟨gX, 0, none⟩ = some (.int .i64 x1) ∧ wr.cell? ⟨gX, 1, none⟩ = some (.int .i64 x2) ∧
    wr.frozen? ⟨w.heap.size + 1 + 1, 0, none⟩ = false ∧ wr.frozen? ⟨w.heap.size + 1 + 1, 1, none⟩ = false ∧ wr.frozen? ⟨gX, 0, none⟩ = false ∧ wr.frozen? ⟨gX, 1, none⟩ = false ∧
    w.heap.size < wr.heap.size ∧ w.heap.size + 1 < wr.heap.size ∧ w.heap.size + 1 + 1 < wr.heap.size ∧ gX < wr.heap.size ∧ ¬ gX = w.heap.size + 1 + 1 ∧ ¬ w.heap.size + 1 + 1 = gX ∧ ¬ w.heap.size = w.heap.size + 1 + 1 ∧ ¬ w.heap.size = gX ∧ ¬ w.heap.size + 1 = gX :=
  ⟨h.A.cell 0, h.A.cell 1, h.B.cell 0, h.B.cell 1, h.W.cell 0, h.W.cell 1, h.X.cell 0, h.X.cell 1, h.W.frozen 0, h.W.frozen 1, h.X.frozen 0, h.X.frozen 1, h.A.lt, h.B.lt, h.W.lt, h.X.lt, by have := h.lt; omega, by have := h.lt; omega, by omega, by have := h.lt; omega, by have := h.lt; omega⟩
end
theorem of_out (t b : Int) (w : World) (h : ¬ FracIn t b) :
    Calls Tryd.prog 14 #[.int .i64 t, .int .i64 b] w fun e w' => e = .returned (.tuple #[.agg #[.int .i64 0, .int .i64 0], .iface 119 (.int .i64 1)]) ∧ Below w.heap.size w w' := by
  unfold FracIn at h
  by_cases hb : b < 1 ∨ 100000000 < b
  · clear h
    go_enter Tryd.func14, Tryd.ntmps14
    go_wp2_with fail
    refine (bottom_no b _ hb).mono ?_; rintro e w' ⟨rfl, rfl⟩
    clear hb
    go_wp2
    exact bodyPost_ret (v := .tuple #[.agg #[.int .i64 0, .int .i64 0], .iface 119 (.int .i64 1)]) (by simp [results, Tryd.results14, go_sem]) rfl ⟨rfl, (Below.refl _ _).alloc (Nat.le_refl _) _⟩
  · have h0 : 1 ≤ b := by omega
    have h1 : b ≤ 100000000 := by omega
    have ht : t < -1000000000 ∨ 1000000000 < t := by omega
    clear h hb
    go_enter Tryd.func14, Tryd.ntmps14
    go_wp2_with fail
    refine (bottom_yes b _ h0 h1).mono ?_; rintro e w' ⟨rfl, rfl⟩
    go_wp2_with fail
    refine (top_no t _ ht).mono ?_; rintro e w' ⟨rfl, rfl⟩
    clear ht
    go_wp2
    exact bodyPost_ret (v := .tuple #[.agg #[.int .i64 0, .int .i64 0], .iface 119 (.int .i64 1)]) (by simp [results, Tryd.results14, go_sem]) rfl ⟨rfl, (Below.refl _ _).alloc (Nat.le_refl _) _⟩
theorem fitV_eq (t b : Int) : ∃ v1 v2 er : Int, fitV t b = .tuple #[.agg #[.int .i64 v1, .int .i64 v2], errVal er] ∧ ((FracIn t b ∧ v1 = t ∧ v2 = b ∧ er = 0) ∨ (¬ FracIn t b ∧ v1 = 0 ∧ v2 = 0 ∧ er = 4)) := by
  unfold fitV
  by_cases h : FracIn t b
  · exact ⟨t, b, 0, by rw [if_pos h]; rfl, .inl ⟨h, rfl, rfl, rfl⟩⟩
  · exact ⟨0, 0, 4, by rw [if_neg h]; rfl, .inr ⟨h, rfl, rfl, rfl⟩⟩
theorem lowB_pos (t b : Int) (hb : 0 < b) : 1 ≤ lowB t b := by
  rw [low_den t b hb]; have := (mkRat t b.toNat).den_pos; omega
theorem of_tell (t b : Int) : ∃ (v1 v2 er : Int) (bb : Bool), (∀ W : World, Calls Tryd.prog 14 #[.int .i64 t, .int .i64 b] W fun e w' => e = .returned (.tuple #[.agg #[.int .i64 v1, .int .i64 v2], errVal er]) ∧ Below W.heap.size W w') ∧ ((¬ FracIn t b ∧ v1 = 0 ∧ v2 = 0 ∧ er = 1 ∧ bb = true) ∨ (FracIn t b ∧ lowT t b = v1 ∧ lowB t b = v2 ∧ er = 0 ∧ bb = false)) := by
  by_cases h : FracIn t b
  · exact ⟨_, _, 0, false, fun W => of_in t b _ _ W h rfl rfl, .inr ⟨h, rfl, rfl, rfl, rfl⟩⟩
  · exact ⟨0, 0, 1, true, fun W => of_out t b W h, .inl ⟨h, rfl, rfl, rfl, rfl⟩⟩
theorem times_tell (t b n fa : Int) (hf : fracErr t b = fa) : ∃ (v1 v2 er : Int) (bb : Bool), (∀ W : World, Calls Tryd.prog 19 #[.agg #[.int .i64 t, .int .i64 b], .int .i64 n] W fun e w' => e = .returned (.tuple #[.agg #[.int .i64 v1, .int .i64 v2], errVal er]) ∧ Below W.heap.size W w') ∧ ((fa ≠ 0 ∧ v1 = 0 ∧ v2 = 0 ∧ er = fa ∧ bb = false) ∨ (fa = 0 ∧ n < -1000 ∧ v1 = 0 ∧ v2 = 0 ∧ er = 1 ∧ bb = true) ∨ (fa = 0 ∧ ¬ n < -1000 ∧ 1000 < n ∧ v1 = 0 ∧ v2 = 0 ∧ er = 1 ∧ bb = true) ∨ (fa = 0 ∧ -1000 ≤ n ∧ n ≤ 1000 ∧ ¬ FracIn (lowT (t * n) b) (lowB (t * n) b) ∧ v1 = 0 ∧ v2 = 0 ∧ er = 4 ∧ bb = false) ∨ (fa = 0 ∧ -1000 ≤ n ∧ n ≤ 1000 ∧ FracIn (lowT (t * n) b) (lowB (t * n) b) ∧ lowT (t * n) b = v1 ∧ lowB (t * n) b = v2 ∧ er = 0 ∧ bb = false)) := by
  by_cases h : fa = 0
  · rw [h] at hf
    by_cases n0 : n < -1000
    · exact ⟨0, 0, 1, true, fun W => times_out0 t b n W hf n0, .inr (.inl ⟨h, n0, rfl, rfl, rfl, rfl⟩)⟩
    · by_cases n1 : 1000 < n
      · exact ⟨0, 0, 1, true, fun W => times_out1 t b n W hf n1, .inr (.inr (.inl ⟨h, n0, n1, rfl, rfl, rfl, rfl⟩))⟩
      · obtain ⟨v1, v2, er, hv, hc⟩ := fitV_eq (lowT (t * n) b) (lowB (t * n) b)
        refine ⟨v1, v2, er, false, fun W => times_yes t b n v1 v2 er W hf (by omega) (by omega) hv, ?_⟩
        rcases hc with ⟨h1, h2, h3, h4⟩ | ⟨h1, h2, h3, h4⟩
        · exact .inr (.inr (.inr (.inr ⟨h, by omega, by omega, h1, h2.symm, h3.symm, h4, rfl⟩)))
        · exact .inr (.inr (.inr (.inl ⟨h, by omega, by omega, h1, h2, h3, h4, rfl⟩)))
  · exact ⟨0, 0, fa, false, fun W => by rw [errVal_pos h]; exact times_bad t b n fa W hf h, .inl ⟨h, rfl, rfl, rfl, rfl⟩⟩
theorem by_tell (t b n fa : Int) (hf : fracErr t b = fa) : ∃ (v1 v2 er : Int) (bb : Bool), (∀ W : World, Calls Tryd.prog 20 #[.agg #[.int .i64 t, .int .i64 b], .int .i64 n] W fun e w' => e = .returned (.tuple #[.agg #[.int .i64 v1, .int .i64 v2], errVal er]) ∧ Below W.heap.size W w') ∧ ((fa ≠ 0 ∧ v1 = 0 ∧ v2 = 0 ∧ er = fa ∧ bb = false) ∨ (fa = 0 ∧ n < 1 ∧ v1 = 0 ∧ v2 = 0 ∧ er = 1 ∧ bb = true) ∨ (fa = 0 ∧ ¬ n < 1 ∧ 1000 < n ∧ v1 = 0 ∧ v2 = 0 ∧ er = 1 ∧ bb = true) ∨ (fa = 0 ∧ 1 ≤ n ∧ n ≤ 1000 ∧ ¬ FracIn (lowT t (b * n)) (lowB t (b * n)) ∧ v1 = 0 ∧ v2 = 0 ∧ er = 4 ∧ bb = false) ∨ (fa = 0 ∧ 1 ≤ n ∧ n ≤ 1000 ∧ FracIn (lowT t (b * n)) (lowB t (b * n)) ∧ lowT t (b * n) = v1 ∧ lowB t (b * n) = v2 ∧ er = 0 ∧ bb = false)) := by
  by_cases h : fa = 0
  · rw [h] at hf
    by_cases n0 : n < 1
    · exact ⟨0, 0, 1, true, fun W => by_out0 t b n W hf n0, .inr (.inl ⟨h, n0, rfl, rfl, rfl, rfl⟩)⟩
    · by_cases n1 : 1000 < n
      · exact ⟨0, 0, 1, true, fun W => by_out1 t b n W hf n1, .inr (.inr (.inl ⟨h, n0, n1, rfl, rfl, rfl, rfl⟩))⟩
      · obtain ⟨v1, v2, er, hv, hc⟩ := fitV_eq (lowT t (b * n)) (lowB t (b * n))
        refine ⟨v1, v2, er, false, fun W => by_yes t b n v1 v2 er W hf (by omega) (by omega) hv, ?_⟩
        rcases hc with ⟨h1, h2, h3, h4⟩ | ⟨h1, h2, h3, h4⟩
        · exact .inr (.inr (.inr (.inr ⟨h, by omega, by omega, h1, h2.symm, h3.symm, h4, rfl⟩)))
        · exact .inr (.inr (.inr (.inl ⟨h, by omega, by omega, h1, h2, h3, h4, rfl⟩)))
  · exact ⟨0, 0, fa, false, fun W => by rw [errVal_pos h]; exact by_bad t b n fa W hf h, .inl ⟨h, rfl, rfl, rfl, rfl⟩⟩
theorem add_tell (t b u c f : Int) (hf : fracs2 t b u c = f) : ∃ v1 v2 er : Int, (∀ W : World, Calls Tryd.prog 24 #[.agg #[.int .i64 t, .int .i64 b], .agg #[.int .i64 u, .int .i64 c]] W fun e w' => e = .returned (.tuple #[.agg #[.int .i64 v1, .int .i64 v2], errVal er]) ∧ Below W.heap.size W w') ∧ ((f ≠ 0 ∧ v1 = 0 ∧ v2 = 0 ∧ er = f) ∨ (f = 0 ∧ ¬ FracIn (sumT t b u c) (sumB t b u c) ∧ v1 = 0 ∧ v2 = 0 ∧ er = 4) ∨ (f = 0 ∧ FracIn (sumT t b u c) (sumB t b u c) ∧ sumT t b u c = v1 ∧ sumB t b u c = v2 ∧ er = 0)) := by
  by_cases h : f = 0
  · subst h
    have h1 : fracErr t b = 0 := by
      apply Decidable.byContradiction; intro hc
      unfold fracs2 at hf; rw [if_pos hc] at hf; exact hc hf
    have h2 : fracErr u c = 0 := by unfold fracs2 at hf; rw [if_neg (fun x => x h1)] at hf; exact hf
    obtain ⟨v1, v2, er, hv, hc⟩ := fitV_eq (sumT t b u c) (sumB t b u c)
    refine ⟨v1, v2, er, fun W => fadd_yes t b u c v1 v2 er W h1 h2 hv, ?_⟩
    rcases hc with ⟨h1, h2, h3, h4⟩ | ⟨h1, h2, h3, h4⟩
    · exact .inr (.inr ⟨rfl, h1, h2.symm, h3.symm, h4⟩)
    · exact .inr (.inl ⟨rfl, h1, h2, h3, h4⟩)
  · exact ⟨0, 0, f, fun W => by rw [errVal_pos h]; exact fadd_no t b u c f W hf h, .inl ⟨h, rfl, rfl, rfl⟩⟩
theorem cmp_tell (t b u c f : Int) (hf : fracs2 t b u c = f) : ∃ o : Int, (∀ W : World, Calls Tryd.prog 22 #[.agg #[.int .i64 t, .int .i64 b], .agg #[.int .i64 u, .int .i64 c]] W fun e w' => e = .returned (.tuple #[.int .i64 o, errVal f]) ∧ Below W.heap.size W w') ∧ ((f ≠ 0 ∧ o = 0) ∨ (f = 0 ∧ fracErr t b = 0 ∧ fracErr u c = 0 ∧ cmpI (t * c) (u * b) = o)) := by
  by_cases h : f = 0
  · subst h
    have h1 : fracErr t b = 0 := by
      apply Decidable.byContradiction; intro hc
      unfold fracs2 at hf; rw [if_pos hc] at hf; exact hc hf
    have h2 : fracErr u c = 0 := by unfold fracs2 at hf; rw [if_neg (fun x => x h1)] at hf; exact hf
    exact ⟨_, fun W => fcompare_yes t b u c _ W h1 h2 rfl, .inr ⟨rfl, h1, h2, rfl⟩⟩
  · exact ⟨0, fun W => by rw [errVal_pos h]; exact fcompare_no t b u c f W hf h, .inl ⟨h, rfl⟩⟩
end Go.Proofs.YtblanfaghnflkaaDoor
