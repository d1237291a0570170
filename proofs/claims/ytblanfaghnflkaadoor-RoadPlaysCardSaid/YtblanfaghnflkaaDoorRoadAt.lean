/- A road in memory; what only reads it. -/
import Derived.Test.YtblanfaghnflkaaDoorSrcs
import Derived.Test.YtblanfaghnflkaaDoorLibA
import Derived.BigRegion
import Derived.Deep.RegionLaw
namespace Go.Proofs.YtblanfaghnflkaaDoor
open Go.RowKit
theorem idxs_map (o : List Nat) : idxs o = (o.map fun (i : Nat) => (i : Int)).map (Value.int .i64) := by simp [idxs]
theorem idxs_ints {w : World} {base n : Nat} {v : Value} {o : List Nat} (h : w.ownsRow base 3 1 v n (idxs o)) : ∃ A c, v = .slice A n c ∧ Ints w w.heap.size A c (o.map fun (i : Nat) => (i : Int)) := by
  rw [idxs_map] at h
  obtain ⟨A, c, hv, hn, hi⟩ := owns_ints h
  exact ⟨A, c, by rw [hv, ← hn], hi⟩
theorem cloneN (A : Option Addr) (c n : Nat) (l : List Int) (B : Nat) (w : World) (h : Ints w B A c l) (hn : n = l.length) (hl : n ≤ 1000000) (hB : B ≤ w.heap.size) :
    Calls Tryd.prog 90 #[.slice A n c] w fun e w' => ∃ v, e = .returned v ∧ w'.ownsRow w.heap.size 3 1 v n (l.map (Value.int .i64)) ∧ Below w.heap.size w w' := by
  subst hn; exact clone_any A c l B w h hl hB
theorem own_far' {w : World} {base e size n : Nat} {v : Value} {xs : List Value} (h : w.ownsRow base e size v n xs) {g k : Nat} (hg : v.ownBlock ≠ some g) (u : Value) : (w.setCell ⟨g, k, none⟩ u).ownsRow base e size v n xs :=
  h.kept (row := some g) ⟨rfl, rfl, rfl, by simp [World.setCell], fun i hi hne => Below.heap_setCell w _ u i (fun e => hne (by rw [e]))⟩ (.inr hg)
structure RoadAt (w : World) (base g gs cs n : Nat) (vr : Value) (S : List Src) (r p k : Int) (row : List Nat) : Prop where
  blk : Blk w g 136 #[.slice (some ⟨gs, 0, none⟩) n cs, .int .i64 r, .int .i64 p, .int .i64 k, vr]
  srcs : w.ownsRow base 74 4 (.slice (some ⟨gs, 0, none⟩) n cs) n (srcCells S)
  row : w.ownsRow base 3 1 vr row.length (idxs row)
  lo : base ≤ g
  len : S.length = n
section
variable {w w' : World} {base g gs cs n : Nat} {vr : Value} {S : List Src} {r p k : Int} {row : List Nat}
theorem RoadAt.below (h : RoadAt w base g gs cs n vr S r p k row) (hb : Below w.heap.size w w') : RoadAt w' base g gs cs n vr S r p k row :=
  ⟨h.blk.below hb h.blk.lt, own_below h.srcs hb, own_below h.row hb, h.lo, h.len⟩
theorem RoadAt.gs_lo (h : RoadAt w base g gs cs n vr S r p k row) : base ≤ gs ∧ gs < w.heap.size := h.srcs.lt gs rfl
theorem RoadAt.ne_gs (h : RoadAt w base g gs cs n vr S r p k row) : gs ≠ g := by
  have := own_blk_ne h.srcs h.blk (by decide)
  simpa [Value.ownBlock] using this
theorem RoadAt.ne_row (h : RoadAt w base g gs cs n vr S r p k row) : vr.ownBlock ≠ some g := own_blk_ne h.row h.blk (by decide)
theorem RoadAt.apart (h : RoadAt w base g gs cs n vr S r p k row) : vr.ownBlock ≠ some gs := by
  rcases h.srcs.2 with ⟨h1, _⟩ | ⟨g', cap, cur, he, _, hh, _⟩
  · cases h1
  · injection he with he _ _
    injection he with he
    injection he with he _
    subst he
    exact own_blk_ne (t := 74) (cs := cur) h.row hh (by decide)
theorem RoadAt.cells (h : RoadAt w base g gs cs n vr S r p k row) : w.cell? ⟨g, 0, none⟩ = some (.slice (some ⟨gs, 0, none⟩) n cs) ∧ w.cell? ⟨g, 1, none⟩ = some (.int .i64 r) ∧ w.cell? ⟨g, 2, none⟩ = some (.int .i64 p) ∧ w.cell? ⟨g, 3, none⟩ = some (.int .i64 k) ∧ w.cell? ⟨g, 4, none⟩ = some vr ∧
    w.frozen? ⟨g, 0, none⟩ = false ∧ w.frozen? ⟨g, 1, none⟩ = false ∧ w.frozen? ⟨g, 2, none⟩ = false ∧ w.frozen? ⟨g, 3, none⟩ = false ∧ w.frozen? ⟨g, 4, none⟩ = false ∧ g < w.heap.size :=
  ⟨h.blk.cell 0, h.blk.cell 1, h.blk.cell 2, h.blk.cell 3, h.blk.cell 4, h.blk.frozen 0, h.blk.frozen 1, h.blk.frozen 2, h.blk.frozen 3, h.blk.frozen 4, h.blk.lt⟩
/-- one source's cells -/
theorem RoadAt.src (h : RoadAt w base g gs cs n vr S r p k row) {i : Nat} {s : Src} (hi : S[i]? = some s) :
    w.cell? ⟨gs, i * 4, none⟩ = some (.int .i64 s.W) ∧ w.cell? ⟨gs, i * 4 + 1, none⟩ = some (.int .i64 s.a) ∧ w.cell? ⟨gs, i * 4 + 2, none⟩ = some (.int .i64 s.l) ∧ w.cell? ⟨gs, i * 4 + 3, none⟩ = some (.int .i64 s.c) ∧
    (∀ j, w.frozen? ⟨gs, j, none⟩ = false) := by
  have hl : i < S.length := (List.getElem?_eq_some_iff.1 hi).1
  obtain ⟨h0, h1, h2, h3⟩ := srcCells_at S i s hi
  have hc := fun j (hj : j < n * 4) => h.srcs.cellAt j hj
  have hl : i < n := by rw [← h.len]; exact hl
  exact ⟨(hc _ (by omega)).trans h0, (hc _ (by omega)).trans h1, (hc _ (by omega)).trans h2, (hc _ (by omega)).trans h3, fun j => h.srcs.frozenAt j⟩
end
/-- blocks of other types than a road's, its sources', its row's are as they were -/
def Others (w w' : World) : Prop := w.heap.size ≤ w'.heap.size ∧ ∀ i t cs, Blk w i t cs → t ≠ 136 → t ≠ 74 → t ≠ 3 → Blk w' i t cs
theorem Others.refl (w : World) : Others w w := ⟨Nat.le_refl _, fun _ _ _ h _ _ _ => h⟩
theorem Others.trans {w w' w'' : World} (h : Others w w') (h' : Others w' w'') : Others w w'' := ⟨Nat.le_trans h.1 h'.1, fun i t cs hb a b c => h'.2 i t cs (h.2 i t cs hb a b c) a b c⟩
theorem Others.of_below {w w' : World} (h : Below w.heap.size w w') : Others w w' := ⟨h.size, fun _ _ _ hb _ _ _ => hb.below h hb.lt⟩
theorem Others.below {w w' w'' : World} (h : Others w w') (hb : Below w'.heap.size w' w'') : Others w w'' := h.trans (Others.of_below hb)
theorem Others.alloc {w w' : World} (h : Others w w') (o : Obj) : Others w (w'.alloc o) := h.below ((Below.refl _ _).alloc (Nat.le_refl _) o)
theorem Others.drew {w w' : World} (h : Others w w') : Others w w'.drew := h.below (Below.refl _ _).drew
theorem Others.drewN {w w' : World} (h : Others w w') (n : Nat) : Others w (w'.drewN n) := h.below (below_drewN (Below.refl _ _) n)
theorem Others.set {w w' : World} (h : Others w w') {g : Nat} {t : TypeId} {cs : Array Value} (hg : Blk w' g t cs) (ht : t = 136 ∨ t = 74 ∨ t = 3) (k : Nat) (u : Value) : Others w (w'.setCell ⟨g, k, none⟩ u) :=
  ⟨by have := h.1; simpa [World.setCell] using this, fun i t' cs' hb a b c => by
    have hb' := h.2 i t' cs' hb a b c
    refine hb'.far (fun e => ?_) u
    have hb2 : Blk w' g t' cs' := by have e' : i = g := e; rw [← e']; exact hb'
    by_cases ett : t' = t
    · subst ett
      rcases ht with h1 | h1 | h1
      · exact a h1
      · exact b h1
      · exact c h1
    · exact Blk.ne_ hb2 hg ett rfl⟩
theorem own_kind {w : World} {base e size n : Nat} {v : Value} {xs : List Value} (h : w.ownsRow base e size v n xs) {g : Nat} (hg : v.ownBlock = some g) : ∃ cs, Blk w g e cs := by
  rcases h.2 with ⟨rfl, _⟩ | ⟨g', cap, cur, rfl, _, hh, _⟩
  · simp [Value.ownBlock] at hg
  · have : g' = g := by simpa [Value.ownBlock] using hg
    subst this
    exact ⟨cur, hh⟩
theorem Others.grown {w w' w'' : World} (h : Others w w') {base size n : Nat} {v : Value} {xs : List Value} (ho : w'.ownsRow base 3 size v n xs) (hg : w'.grownBy w'' v.ownBlock) : Others w w'' :=
  ⟨Nat.le_trans h.1 hg.size, fun i t' cs' hb a b c => by
    have hb' := h.2 i t' cs' hb a b c
    refine hb'.grown hg fun e => ?_
    obtain ⟨cs, hk⟩ := own_kind ho e.symm
    exact Blk.ne_ hb' hk c rfl⟩
theorem RoadAt.gsBlk {w : World} {base g gs cs n : Nat} {vr : Value} {S : List Src} {r p k : Int} {row : List Nat} (h : RoadAt w base g gs cs n vr S r p k row) : ∃ c, Blk w gs 74 c := own_kind h.srcs rfl
theorem Others.store {w w' : World} (ho : Others w w') {base g gs cs n : Nat} {vr : Value} {S : List Src} {r p k : Int} {row : List Nat} (h : RoadAt w' base g gs cs n vr S r p k row) (k0 k1 k2 k3 : Nat) (u0 u1 u2 u3 : Value) :
    Others w ((((w'.setCell ⟨gs, k0, none⟩ u0).setCell ⟨gs, k1, none⟩ u1).setCell ⟨gs, k2, none⟩ u2).setCell ⟨gs, k3, none⟩ u3) := by
  obtain ⟨c, hc⟩ := h.gsBlk
  have h1 := hc.set_ k0 u0
  have h2 := h1.set_ k1 u1
  have h3 := h2.set_ k2 u2
  exact (((ho.set hc (.inr (.inl rfl)) k0 u0).set h1 (.inr (.inl rfl)) k1 u1).set h2 (.inr (.inl rfl)) k2 u2).set h3 (.inr (.inl rfl)) k3 u3
set_option maxHeartbeats 1000000 in
theorem rpool_any (w : World) (base g gs cs n : Nat) (vr : Value) (S : List Src) (r p k : Int) (row : List Nat) (h : RoadAt w base g gs cs n vr S r p k row) :
    Calls Tryd.prog 40 #[.pointer (some ⟨g, 0, none⟩)] w fun e w' => e = .returned (.agg #[.int .i64 r, .int .i64 p, .int .i64 k]) ∧ Below w.heap.size w w' := by
  obtain ⟨c0, c1, c2, c3, c4, f0, f1, f2, f3, f4, z⟩ := h.cells
  clear h
  go_enter Tryd.func40, Tryd.ntmps40
  go_wp2
  exact bodyPost_ret (v := .agg #[.int .i64 r, .int .i64 p, .int .i64 k]) (by simp [results, Tryd.results40, go_sem]) rfl ⟨rfl, (Below.refl _ _).alloc (Nat.le_refl _) _⟩
set_option maxHeartbeats 1000000 in
theorem rwaits_any (w : World) (base g gs cs n : Nat) (vr : Value) (S : List Src) (r p k : Int) (row : List Nat) (h : RoadAt w base g gs cs n vr S r p k row) (hl : row.length ≤ 1000000) :
    Calls Tryd.prog 41 #[.pointer (some ⟨g, 0, none⟩)] w fun e w' => ∃ v, e = .returned v ∧ w'.ownsRow w.heap.size 3 1 v row.length (idxs row) ∧ Below w.heap.size w w' := by
  obtain ⟨c0, c1, c2, c3, c4, f0, f1, f2, f3, f4, z⟩ := h.cells
  obtain ⟨A, c, hv, HI⟩ := idxs_ints h.row
  subst hv
  have HI := Lib.hid HI
  clear h
  go_enter Tryd.func41, Tryd.ntmps41
  go_wp2_with fail
  refine (cloneN A c row.length _ w.heap.size w HI.out (by simp) (by simpa using hl) (Nat.le_refl _)).mono ?_
  rintro e w1 ⟨v, rfl, ho, hb⟩
  have HO := Lib.hid ho
  have HB := Lib.hid hb
  clear ho hb
  go_wp2
  go_ret
  exact ⟨v, rfl, by rw [idxs_map]; exact HO.out, HB.out⟩
set_option maxHeartbeats 2000000 in
theorem rsource_in (w : World) (base g gs cs n : Nat) (vr : Value) (S : List Src) (r p k : Int) (row : List Nat) (h : RoadAt w base g gs cs n vr S r p k row) (i : Nat) (s : Src) (hi : S[i]? = some s) (_ : n ≤ 6) :
    Calls Tryd.prog 42 #[.pointer (some ⟨g, 0, none⟩), .int .i64 i] w fun e w' => e = .returned (.tuple #[s.val, .nilIface]) ∧ Below w.heap.size w w' := by
  obtain ⟨c0, c1, c2, c3, c4, f0, f1, f2, f3, f4, z⟩ := h.cells
  obtain ⟨s0, s1, s2, s3, sf⟩ := h.src hi
  have hl : i < n := by rw [← h.len]; exact (List.getElem?_eq_some_iff.1 hi).1
  obtain ⟨_, hz⟩ := h.gs_lo
  clear h hi sf
  have i0 : ¬ (i : Int) < 0 := by omega
  have i1 : ¬ (n : Int) ≤ (i : Int) := by omega
  have i2 : (0 : Int) ≤ (i : Int) := by omega
  have i3 : (i : Int) < n := by omega
  obtain ⟨W, a, l, c⟩ := s
  simp only at s0 s1 s2 s3
  go_enter Tryd.func42, Tryd.ntmps42
  go_wp2
  exact bodyPost_ret (v := .tuple #[.agg #[.int .i64 W, .int .i64 a, .int .i64 l, .int .i64 c], .nilIface]) (by simp [results, Tryd.results42, go_sem]) rfl ⟨rfl, (Below.refl _ _).alloc (Nat.le_refl _) _⟩
set_option maxHeartbeats 2000000 in
theorem rsource_out (w : World) (base g gs cs n : Nat) (vr : Value) (S : List Src) (r p k : Int) (row : List Nat) (h : RoadAt w base g gs cs n vr S r p k row) (i : Int) (hi : i < 0 ∨ (n : Int) ≤ i) (_ : n ≤ 6) :
    Calls Tryd.prog 42 #[.pointer (some ⟨g, 0, none⟩), .int .i64 i] w fun e w' => e = .returned (.tuple #[.agg #[.int .i64 0, .int .i64 0, .int .i64 0, .int .i64 0], .iface 119 (.int .i64 1)]) ∧ Below w.heap.size w w' := by
  obtain ⟨c0, c1, c2, c3, c4, f0, f1, f2, f3, f4, z⟩ := h.cells
  clear h
  have hi' : i < 0 ∨ (¬ i < 0 ∧ (n : Int) ≤ i) := by omega
  clear hi
  rcases hi' with hi | ⟨h0, hi⟩
  all_goals
    go_enter Tryd.func42, Tryd.ntmps42
    go_wp2
    exact bodyPost_ret (v := .tuple #[.agg #[.int .i64 0, .int .i64 0, .int .i64 0, .int .i64 0], .iface 119 (.int .i64 1)]) (by simp [results, Tryd.results42, go_sem]) rfl ⟨rfl, (Below.refl _ _).alloc (Nat.le_refl _) _⟩
end Go.Proofs.YtblanfaghnflkaaDoor
