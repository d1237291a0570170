/- Two roads in one world: the tick of either keeps the other one. -/
import Derived.Test.YtblanfaghnflkaaDoorRfTick
import Derived.Test.YtblanfaghnflkaaDoorRfRef
import Derived.Test.YtblanfaghnflkaaDoorRoadLaw
namespace Go.Proofs.YtblanfaghnflkaaDoor.RF
open Go.RowKit
/-- a road, of either type -/
structure RdT (T : TypeId) (w : World) (base g gs cs n : Nat) (vr : Value) (S : List Src) (r p k : Int) (row : List Nat) : Prop where
  blk : Blk w g T #[.slice (some ⟨gs, 0, none⟩) n cs, .int .i64 r, .int .i64 p, .int .i64 k, vr]
  srcs : w.ownsRow base 74 4 (.slice (some ⟨gs, 0, none⟩) n cs) n (srcCells S)
  row : w.ownsRow base 3 1 vr row.length (idxs row)
  lo : base ≤ g
  len : S.length = n
/-- blocks that are no road's own -/
def Not (w : World) (g gs : Nat) (vr : Value) : Nat → Prop := fun i => i < w.heap.size ∧ i ≠ g ∧ i ≠ gs ∧ vr.ownBlock ≠ some i
section
variable {T T' : TypeId} {w w' : World} {base g gs cs n : Nat} {vr : Value} {S : List Src} {r p k : Int} {row : List Nat} {base' g' gs' cs' n' : Nat} {vr' : Value} {S' : List Src} {r' p' k' : Int} {row' : List Nat}
theorem RdT.with (h : RdT T w base g gs cs n vr S r p k row) (tS : 74 ≠ T) (tI : 3 ≠ T) : RoadAt T (Not w g gs vr) w base g gs cs n vr S r p k row :=
  ⟨h.blk, h.srcs, h.row, h.lo, h.len, fun e => e.2.1 rfl, fun e => e.2.2.1 rfl, fun _ hi e => e.2.2.2 hi, fun _ e => e.1, tS, tI⟩
theorem RoadAt.rd {F : Nat → Prop} (h : RoadAt T F w base g gs cs n vr S r p k row) : RdT T w base g gs cs n vr S r p k row := ⟨h.blk, h.srcs, h.row, h.lo, h.len⟩
theorem RdT.below (h : RdT T w base g gs cs n vr S r p k row) (hb : Below w.heap.size w w') : RdT T w' base g gs cs n vr S r p k row :=
  ⟨h.blk.below hb h.blk.lt, own_below h.srcs hb, own_below h.row hb, h.lo, h.len⟩
theorem RdT.plain (h : RdT 136 w base g gs cs n vr S r p k row) : Go.Proofs.YtblanfaghnflkaaDoor.RoadAt w base g gs cs n vr S r p k row := ⟨h.blk, h.srcs, h.row, h.lo, h.len⟩
theorem own_stays {F : Nat → Prop} {e size m : Nat} {v : Value} {xs : List Value} (h : w.ownsRow base e size v m xs) (hf : ∀ i t cs, Blk w i t cs → F i → Blk w' i t cs) (hF : ∀ i, v.ownBlock = some i → F i) : w'.ownsRow base e size v m xs := by
  refine ⟨h.1, ?_⟩
  rcases h.2 with hn | ⟨g, cap, cur, rfl, hb, hg, rest⟩
  · exact .inl hn
  · exact .inr ⟨g, cap, cur, rfl, hb, hf g e cur hg (hF g rfl), rest⟩
/-- the two lie apart: their sources, their rows -/
structure Apart (gs gs' : Nat) (vr vr' : Value) : Prop where
  ss : gs ≠ gs'
  rr : ∀ i, vr.ownBlock = some i → vr'.ownBlock ≠ some i
theorem Apart.symm (h : Apart gs gs' vr vr') : Apart gs' gs vr' vr := ⟨fun e => h.ss e.symm, fun i h1 h2 => h.rr i h2 h1⟩
theorem RdT.row_ne (h : RdT T w base g gs cs n vr S r p k row) (h' : RdT T' w base' g' gs' cs' n' vr' S' r' p' k' row') : vr'.ownBlock ≠ some gs := by
  obtain ⟨c, hc⟩ := own_kind h.srcs rfl
  exact own_blk_ne h'.row hc (by decide)
theorem RdT.row_not (h : RdT T w base g gs cs n vr S r p k row) (h' : RdT T' w base' g' gs' cs' n' vr' S' r' p' k' row') (tI : 3 ≠ T) (ha : Apart gs gs' vr vr') : ∀ i, vr'.ownBlock = some i → Not w g gs vr i := fun i hi => by
  obtain ⟨c, hc⟩ := own_kind h.srcs rfl
  obtain ⟨ci, hci⟩ := own_kind h'.row hi
  exact ⟨hci.lt, Blk.ne_ hci h.blk tI, Blk.ne_ hci hc (by decide), fun e => ha.rr i e hi⟩
/-- the other one stays -/
theorem RdT.stays (h : RdT T w base g gs cs n vr S r p k row) (h' : RdT T' w base' g' gs' cs' n' vr' S' r' p' k' row') (ht : T' ≠ T) (tS : 74 ≠ T) (tI : 3 ≠ T) (tS' : 74 ≠ T') (tI' : 3 ≠ T') (ha : Apart gs gs' vr vr')
    (hf : ∀ i t cs, Blk w i t cs → Not w g gs vr i → Blk w' i t cs) : RdT T' w' base' g' gs' cs' n' vr' S' r' p' k' row' := by
  obtain ⟨c, hc⟩ := own_kind h.srcs rfl
  obtain ⟨c', hc'⟩ := own_kind h'.srcs rfl
  refine ⟨hf _ _ _ h'.blk ⟨h'.blk.lt, Blk.ne_ h'.blk h.blk ht, Blk.ne_ h'.blk hc (fun e => tS' e.symm), own_blk_ne h.row h'.blk tI'⟩, own_stays h'.srcs hf fun i hi => ?_, own_stays h'.row hf fun i hi => ?_, h'.lo, h'.len⟩
  · have e : gs' = i := by simpa [Value.ownBlock] using hi
    subst e
    exact ⟨hc'.lt, Blk.ne_ hc' h.blk tS, fun e => ha.ss e.symm, own_blk_ne h.row hc' (by decide)⟩
  · exact h.row_not h' tI ha i hi
end
section
variable {w : World} {base g gs cs : Nat} {vr : Value} {L : List Int} {S : List Src} {r p k : Int} {row : List Nat} {base' g' gs' cs' n' : Nat} {vr' : Value} {S' : List Src} {r' p' k' : Int} {row' : List Nat}
/-- the program's tick, the reference's road beside it -/
theorem rtick (h : RdT 136 w base g gs cs S.length vr S r p k row) (hb : base ≤ w.heap.size) (hi : RInv L S r p k row) (h' : RdT 67 w base' g' gs' cs' n' vr' S' r' p' k' row') (ha : Apart gs gs' vr vr') :
    Calls Tryd.prog 39 #[.pointer (some ⟨g, 0, none⟩)] w fun e w' => ∃ v2, e = .returned (.agg #[.int .i64 (PP.went p k (cameOf S)), .int .i64 (PP.lost r p k (cameOf S)), .int .i64 (PP.left r p k (cameOf S))]) ∧
      RdT 136 w' base g gs cs S.length v2 (tickS S r p k row) r p (PP.left r p k (cameOf S)) (tickRow S r p k row) ∧ RdT 67 w' base' g' gs' cs' n' vr' S' r' p' k' row' ∧ Apart gs gs' v2 vr' ∧ Below base w w' := by
  refine (tick_any (Not w g gs vr) w base g gs cs _ vr S r p k row (h.with (by decide) (by decide)) hb hi.tick).mono ?_
  rintro e w' ⟨v2, he, hr, hbw, ho⟩
  exact ⟨v2, he, hr.rd, h.stays h' (by decide) (by decide) (by decide) (by decide) (by decide) ha ho.far, ⟨ha.ss, fun i h1 h2 => hr.nrow i h1 (h.row_not h' (by decide) ha i h2)⟩, hbw⟩
/-- the reference's tick, the program's road beside it -/
theorem mtick (h : RdT 67 w base g gs cs S.length vr S r p k row) (hb : base ≤ w.heap.size) (hi : RInv L S r p k row) (h' : RdT 136 w base' g' gs' cs' n' vr' S' r' p' k' row') (ha : Apart gs gs' vr vr') :
    Calls Tryd.prog 38 #[.pointer (some ⟨g, 0, none⟩)] w fun e w' => ∃ v2, e = .returned (.agg #[.int .i64 (PP.went p k (cameOf S)), .int .i64 (PP.lost r p k (cameOf S)), .int .i64 (PP.left r p k (cameOf S))]) ∧
      RdT 67 w' base g gs cs S.length v2 (tickS S r p k row) r p (PP.left r p k (cameOf S)) (tickRow S r p k row) ∧ RdT 136 w' base' g' gs' cs' n' vr' S' r' p' k' row' ∧ Apart gs gs' v2 vr' ∧ Below base w w' := by
  refine (mtick_any (Not w g gs vr) w base g gs cs _ vr S r p k row (h.with (by decide) (by decide)) hb hi.tick hi.pool).mono ?_
  rintro e w' ⟨v2, he, hr, hbw, ho⟩
  exact ⟨v2, he, hr.rd, h.stays h' (by decide) (by decide) (by decide) (by decide) (by decide) ha ho.far, ⟨ha.ss, fun i h1 h2 => hr.nrow i h1 (h.row_not h' (by decide) ha i h2)⟩, hbw⟩
end
end Go.Proofs.YtblanfaghnflkaaDoor.RF
