/- The reference's Fill: rates, and rounds. -/
import Derived.Test.YtaijpiebjhhkjaaGreatDoorRefUsers
import Derived.Test.YtaijpiebjhhkjaaGreatDoorRefFrac
import Derived.Test.YtaijpiebjhhkjaaGreatDoorLibK
namespace Go.Proofs.YtaijpiebjhhkjaaGreatDoor
open Go.RowKit
theorem refLow_q (q s : Rat) (n : Int) (w : World) (hq : QIn q) (n0 : 1 ≤ n) (n1 : n ≤ 1000) (hs : q / (n : Rat) = s) :
    Calls Tryz.prog 30 #[.int .i64 q.num, .int .i64 ((q.den : Int) * n)] w fun e w' => e = .returned (.agg #[.int .i64 s.num, .int .i64 s.den]) ∧ Below w.heap.size w w' := by
  obtain ⟨h0, h1, h2, h3⟩ := hq
  have hd : (0 : Int) < (q.den : Int) * n := Int.mul_pos (by omega) (by omega)
  have hd2 : (q.den : Int) * n ≤ 100000000 * 1000 := Int.mul_le_mul h1 n1 (by omega) (by omega)
  refine (refLow_any q.num ((q.den : Int) * n) w (by omega) (by omega) hd (by omega)).mono fun _ _ ⟨e1, e2⟩ => ⟨?_, e2⟩
  rw [e1, by_num q n (by omega), by_den q n (by omega), hs]
/-- which links are narrow -/
def nrw (L : Nat) (us : List Nat) : List Value := (List.range L).map fun l => .bool (us.contains l)
theorem nrw_len (L : Nat) (us : List Nat) : (nrw L us).length = L := by simp [nrw]
theorem nrw_at {L l : Nat} (us : List Nat) (h : l < L) : (nrw L us)[l]? = some (.bool (us.contains l)) := by simp [nrw, h]
theorem nrw_set {L k : Nat} (us : List Nat) (_ : k < L) : (nrw L us).set k (.bool true) = nrw L (us ++ [k]) := by
  apply List.ext_getElem
  · simp [nrw]
  · intro i h1 h2
    rw [List.getElem_set]
    by_cases e : k = i
    · subst e; simp [nrw]
    · rw [if_neg e]
      have e' : ¬ i = k := fun x => e x.symm
      simp [nrw, e']
theorem nrw_nil (L : Nat) : nrw L [] = List.replicate L (.bool false) := by
  unfold nrw
  rw [List.eq_replicate_iff]
  exact ⟨by simp, fun x hx => by obtain ⟨l, _, rfl⟩ := List.mem_map.1 hx; rfl⟩
theorem madeN (n : Nat) (h : n ≤ 12) : madeCells #[Value.bool false] (n * 1) = (nrw n []).toArray := by
  rw [nrw_nil]
  have : n = 0 ∨ n = 1 ∨ n = 2 ∨ n = 3 ∨ n = 4 ∨ n = 5 ∨ n = 6 ∨ n = 7 ∨ n = 8 ∨ n = 9 ∨ n = 10 ∨ n = 11 ∨ n = 12 := by omega
  rcases this with rfl | rfl | rfl | rfl | rfl | rfl | rfl | rfl | rfl | rfl | rfl | rfl | rfl <;> (clear h; show _ = _; kernel_rfl)
theorem makeN (n : Nat) (h : n ≤ 12) (W : World) : (Instr.makeSlice 84 (.int .i64 n) (.int .i64 n)).run Tryz.prog W = .ok (.slice (some ⟨W.heap.size, 0, none⟩) n n) (W.alloc (.cells (nrw n []).toArray 4)) := by
  obtain ⟨i, hi, h2, h3, h4⟩ := info_parts Tryz.info_boolF
  have := run_make (P := Tryz.prog) W 84 4 i _ Tryz.underlying84 hi h2 .i64 .i64 n n (by omega) (Int.le_refl _) (by rw [h4]; omega) (by omega)
  rw [Int.toNat_natCast, h3, show Value.cells (.bool false) = #[Value.bool false] from rfl, madeN n h] at this
  exact this
structure RFill (w : World) (gN gr gd : Nat) (Cv Pv : Value) (st : St) : Prop where
  net : Blk w gN 42 #[Cv, Pv]
  rate : Blk w gr 37 (rateCells st).toArray
  done : Blk w gd 4 (doneCells st).toArray
section
variable {w w' : World} {gN gr gd : Nat} {Cv Pv : Value} {st : St}
theorem RFill.go (h : RFill w gN gr gd Cv Pv st) (hb : Below w.heap.size w w') : RFill w' gN gr gd Cv Pv st := ⟨h.net.go hb, h.rate.go hb, h.done.go hb⟩
theorem RFill.grown (h : RFill w gN gr gd Cv Pv st) {base n : Nat} {v : Value} {xs : List Value} {e : TypeId} {s : Nat} (ho : w.ownsRow base e s v n xs) (h1 : e ≠ 42) (h2 : e ≠ 37) (h3 : e ≠ 4) (hg : w.grownBy w' v.ownBlock) : RFill w' gN gr gd Cv Pv st :=
  ⟨h.net.grown hg fun x => own_blk_ne ho h.net h1 x.symm, h.rate.grown hg fun x => own_blk_ne ho h.rate h2 x.symm, h.done.grown hg fun x => own_blk_ne ho h.done h3 x.symm⟩
theorem RFill.rcell (h : RFill w gN gr gd Cv Pv st) {u : Nat} (hu : u < st.length) : w.cell? ⟨gr, u * 2, none⟩ = some (.int .i64 (optFr (st.at_ u)).t) ∧ w.cell? ⟨gr, u * 2 + 1, none⟩ = some (.int .i64 (optFr (st.at_ u)).b) := by
  have hs : (st.map optFr)[u]? = some (optFr (st.at_ u)) := by rw [List.getElem?_map, at_get hu]; rfl
  obtain ⟨h1, h2⟩ := frCells_at _ _ _ hs
  exact ⟨by rw [h.rate.cell, List.getElem?_toArray]; exact h1, by rw [h.rate.cell, List.getElem?_toArray]; exact h2⟩
theorem RFill.dcell (h : RFill w gN gr gd Cv Pv st) {u : Nat} (hu : u < st.length) : w.cell? ⟨gd, u, none⟩ = some (.bool (st.at_ u).isSome) := by
  rw [h.done.cell, List.getElem?_toArray]
  unfold doneCells
  rw [List.getElem?_map, at_get hu]; rfl
theorem RFill.put (h : RFill w gN gr gd Cv Pv st) {u : Nat} (hu : u < st.length) (b : Rat) :
    RFill (((w.setCell ⟨gd, u, none⟩ (.bool true)).setCell ⟨gr, u * 2, none⟩ (.int .i64 b.num)).setCell ⟨gr, u * 2 + 1, none⟩ (.int .i64 b.den)) gN gr gd Cv Pv (st.set u (some b)) := by
  have n1 : gN ≠ gd := h.net.ne_ h.done (by decide)
  have n2 : gN ≠ gr := h.net.ne_ h.rate (by decide)
  have n3 : gr ≠ gd := h.rate.ne_ h.done (by decide)
  refine ⟨((h.net.far (p := ⟨gd, u, none⟩) n1 _).far (p := ⟨gr, u * 2, none⟩) n2 _).far (p := ⟨gr, u * 2 + 1, none⟩) n2 _, ?_, ?_⟩
  · have := ((h.rate.far (p := ⟨gd, u, none⟩) n3 (.bool true)).set_ (u * 2) (.int .i64 b.num)).set_ (u * 2 + 1) (.int .i64 b.den)
    rw [List.setIfInBounds_toArray, List.setIfInBounds_toArray] at this
    have e : ((rateCells st).set (u * 2) (.int .i64 b.num)).set (u * 2 + 1) (.int .i64 b.den) = rateCells (st.set u (some b)) := by
      unfold rateCells
      have := frCells_set (st.map optFr) u (frQ b) (by simpa using hu)
      rw [List.map_set]
      exact this
    rw [e] at this
    exact this
  · have := h.done.set_ u (.bool true)
    rw [List.setIfInBounds_toArray] at this
    have e : (doneCells st).set u (.bool true) = doneCells (st.set u (some b)) := by unfold doneCells; rw [List.map_set]; rfl
    rw [e] at this
    exact (this.far (p := ⟨gr, u * 2, none⟩) n3.symm _).far (p := ⟨gr, u * 2 + 1, none⟩) n3.symm _
end
def bestFr : Option Rat → Fr
  | none => ⟨-1, 1⟩
  | some q => frQ q
theorem bestFr_none : bestFr none = ⟨-1, 1⟩ := rfl
theorem meets_take {us : List Nat} {p : List Int} {j l : Nat} (hp : p.take (j + 1) = p.take j ++ [(l : Int)]) : meets us (p.take (j + 1)) = (meets us (p.take j) || us.contains l) := by
  unfold meets
  rw [hp, List.any_append]
  congr 1
  simp only [List.any_cons, List.any_nil, Bool.or_false]
  rw [Bool.eq_iff_iff, inL_iff, List.contains_iff_mem, List.mem_map]
  constructor
  · rintro ⟨x, h1, h2⟩
    have : x = l := by omega
    rwa [← this]
  · intro h; exact ⟨l, h, rfl⟩
theorem count_step {caps : List Int} {paths : List (List Int)} {st : St} {b : Rat} (h : FInv caps paths st) (hb : bestTo (share caps paths st) caps.length = some b) : (roundSt caps paths st).countP Option.isSome = st.countP Option.isSome + (roundOut caps paths st).length := by
  have hr : roundSt caps paths st = setAll st b (roundOut caps paths st) := by unfold roundSt; rw [hb]
  rw [hr]
  refine count_setAll b _ st (out_nodup caps paths st) fun u hu => ?_
  obtain ⟨h1, h2, _⟩ := (out_iff hb).1 hu
  exact ⟨by rw [h.len]; exact h1, h2⟩
theorem count_lt {st : St} (h : allDone st = false) : st.countP Option.isSome < st.length := by
  obtain ⟨u, hu, hn⟩ := at_none_of h
  apply Classical.byContradiction
  intro hc
  have h1 : st.countP Option.isSome ≤ st.length := List.countP_le_length
  have h2 := (List.countP_eq_length (p := Option.isSome) (l := st)).1 (by omega) st[u] (List.getElem_mem hu)
  unfold St.at_ at hn
  rw [List.getD_eq_getElem?_getD, List.getElem?_eq_getElem hu] at hn
  have hn : st[u] = none := hn
  rw [hn] at h2; cases h2
end Go.Proofs.YtaijpiebjhhkjaaGreatDoor
