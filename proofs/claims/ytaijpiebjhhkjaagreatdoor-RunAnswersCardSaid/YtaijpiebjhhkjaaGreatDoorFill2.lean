/- The filler of a net: one round (its first loop: the least share, and the links that have it). -/
import Derived.Test.YtaijpiebjhhkjaaGreatDoorFill1
import Derived.Test.YtaijpiebjhhkjaaGreatDoorLibA
namespace Go.Proofs.YtaijpiebjhhkjaaGreatDoor
open Go.RowKit
def ints (us : List Nat) : List Int := us.map fun (i : Nat) => (i : Int)
theorem ints_len (us : List Nat) : (ints us).length = us.length := by simp [ints]
theorem FillAt.grown {w w' : World} {B g gr gd : Nat} {C : Option Addr} {cc : Nat} {P : Option Addr} {cp : Nat} {caps : List Int} {paths : List (List Int)} {st : St} (h : FillAt w B g gr gd C cc P cp caps paths st)
    {base n : Nat} {v : Value} {xs : List Value} (ho : w.ownsRow base 3 1 v n xs) (hb : B ≤ base) (hg : w.grownBy w' v.ownBlock) : FillAt w' B g gr gd C cc P cp caps paths st :=
  have hB : Below B w w' := below_push (Below.refl _ _) ho hg hb h.size
  ⟨h.blk.grown hg fun e => own_blk_ne ho h.blk (by decide) e.symm, h.rate.grown hg fun e => own_blk_ne ho h.rate (by decide) e.symm, h.done.grown hg fun e => own_blk_ne ho h.done (by decide) e.symm, h.ic.below hB (Nat.le_refl _), h.ip.below hB (Nat.le_refl _), h.lo, h.lor, h.lod, h.len⟩
/-- is a link one of those? -/
theorem round1_any (x : Int) (g : Nat) (A : Option Addr) (c n : Nat) (L : List Int) (B : Nat) (w : World) (hg : Blk w g 22 #[.slice A n c]) (hn : n = L.length) (h : Ints w B A c L) (b : Bool) (hb : inL L x = b) :
    Calls Tryz.prog 124 #[.int .i64 x, .pointer (some ⟨g, 0, none⟩)] w fun e w' => e = .returned (.bool b) ∧ w = w' := by
  subst hn
  obtain ⟨c0, f0, z⟩ := hg.one
  have HI := Lib.hid h
  have HB := Lib.hid hb
  clear h hb hg
  go_enter Tryz.func124, Tryz.ntmps124
  go_wp2_with fail
  refine (containsL_any A c _ L B _ HI.out rfl x b HB.out).mono ?_; rintro e w' ⟨rfl, rfl⟩
  go_wp2
  go_ret
  exact ⟨rfl, rfl⟩
theorem own_sl {w : World} {base : Nat} {v : Value} {us : List Nat} (h : w.ownsRow base 3 1 v us.length ((ints us).map (Value.int .i64))) : ∃ A c, v = .slice A us.length c ∧ us.length ≤ c ∧ c ≤ maxLen ∧ Ints w w.heap.size A c (ints us) := by
  obtain ⟨A, c, rfl, _, hi⟩ := owns_ints h
  have h1 := hi.le
  rw [ints_len] at h1
  exact ⟨A, c, by rw [ints_len], h1, hi.cap, hi⟩
/-- what stands behind so many links: the best, and those that have it -/
structure BestAt (w wr : World) (B g gr gd : Nat) (C : Option Addr) (cc : Nat) (P : Option Addr) (cp : Nat) (caps : List Int) (paths : List (List Int)) (st : St) (bo : Option Rat) (us : List Nat) (v : Value) : Prop where
  fill : FillAt wr B g gr gd C cc P cp caps paths st
  best : Blk wr w.heap.size 37 #[.int .i64 (optFr bo).t, .int .i64 (optFr bo).b]
  cell : Blk wr (w.heap.size + 1) 22 #[v]
  row : wr.ownsRow w.heap.size 3 1 v us.length ((ints us).map (Value.int .i64))
  bel : Below w.heap.size w wr
  lg : g < w.heap.size
  lgr : gr < w.heap.size
  lgd : gd < w.heap.size
section
variable {w wr w' : World} {B g gr gd : Nat} {C : Option Addr} {cc : Nat} {P : Option Addr} {cp : Nat} {caps : List Int} {paths : List (List Int)} {st : St} {bo : Option Rat} {us : List Nat} {v : Value}
theorem BestAt.below (h : BestAt w wr B g gr gd C cc P cp caps paths st bo us v) (hb : Below wr.heap.size wr w') : BestAt w w' B g gr gd C cc P cp caps paths st bo us v :=
  ⟨h.fill.below hb, h.best.go hb, h.cell.go hb, own_below h.row hb, h.bel.trans (hb.mono h.bel.size), h.lg, h.lgr, h.lgd⟩
theorem BestAt.turn (h : BestAt w wr B g gr gd C cc P cp caps paths st bo us v) (s : Rat) :
    BestAt w (((wr.setCell ⟨w.heap.size, 0, none⟩ (.int .i64 s.num)).setCell ⟨w.heap.size, 1, none⟩ (.int .i64 s.den)).setCell ⟨w.heap.size + 1, 0, none⟩ (.slice none 0 0)) B g gr gd C cc P cp caps paths st (some s) [] (.slice none 0 0) := by
  have h1 := h.lg; have h2 := h.lgr; have h3 := h.lgd; have h4 := h.fill.lo
  have n1 : w.heap.size ≠ w.heap.size + 1 := by omega
  have n2 : w.heap.size + 1 ≠ w.heap.size := by omega
  refine ⟨((h.fill.far (by omega) (by omega) (by omega) (by omega) _).far (by omega) (by omega) (by omega) (by omega) _).far (by omega) (by omega) (by omega) (by omega) _, ?_, ?_, World.ownsRow_nil _ _ _ _, ?_, h1, h2, h3⟩
  · exact ((h.best.s2_0 _).s2_1 _).far (p := ⟨w.heap.size + 1, 0, none⟩) n1 _
  · exact ((h.cell.far (p := ⟨w.heap.size, 0, none⟩) n2 _).far (p := ⟨w.heap.size, 1, none⟩) n2 _).s1_0 _
  · exact ((h.bel.setCell (p := ⟨w.heap.size, 0, none⟩) (Nat.le_refl _) _).setCell (p := ⟨w.heap.size, 1, none⟩) (Nat.le_refl _) _).setCell (p := ⟨w.heap.size + 1, 0, none⟩) (Nat.le_succ _) _
theorem ints_snoc (us : List Nat) (k : Nat) : (ints (us ++ [k])).map (Value.int .i64) = (ints us).map (Value.int .i64) ++ [.int .i64 (k : Int)] := by simp [ints]
theorem BestAt.push (h : BestAt w wr B g gr gd C cc P cp caps paths st bo us v) {k : Nat} {v' : Value} (ho : w'.ownsRow w.heap.size 3 1 v' (us.length + 1) ((ints us).map (Value.int .i64) ++ [.int .i64 (k : Int)])) (hg : wr.grownBy w' v.ownBlock) :
    BestAt w (w'.setCell ⟨w.heap.size + 1, 0, none⟩ v') B g gr gd C cc P cp caps paths st bo (us ++ [k]) v' := by
  have h1 := h.lg; have h2 := h.lgr; have h3 := h.lgd; have h4 := h.fill.lo
  have n1 : w.heap.size ≠ w.heap.size + 1 := by omega
  have hc : Blk w' (w.heap.size + 1) 22 #[v] := h.cell.grown hg fun e => own_blk_ne h.row h.cell (by decide) e.symm
  have hb : Blk w' w.heap.size 37 _ := h.best.grown hg fun e => own_blk_ne h.row h.best (by decide) e.symm
  have hB := below_push h.bel h.row hg (Nat.le_refl _) h.bel.size
  refine ⟨(h.fill.grown h.row (by omega) hg).far (by omega) (by omega) (by omega) (by omega) _, hb.far (p := ⟨w.heap.size + 1, 0, none⟩) n1 _, hc.s1_0 _, ?_, hB.setCell (p := ⟨w.heap.size + 1, 0, none⟩) (Nat.le_succ _) _, h1, h2, h3⟩
  rw [ints_snoc, List.length_append]
  exact own_farB ho (own_blk_ne ho hc (by decide)) _
end
/-- the value of a link's share is a rate that may be -/
theorem share_q {caps : List Int} {paths : List (List Int)} {st : St} (ok : NetOk caps paths) (hi : FInv caps paths st) {l : Nat} (hl : l < caps.length) {s : Rat} (hs : share caps paths st l = some s) : QIn s := hi.share_in ok hl hs
theorem best_q {caps : List Int} {paths : List (List Int)} {st : St} (ok : NetOk caps paths) (hi : FInv caps paths st) {k : Nat} (hk : k ≤ caps.length) {b : Rat} (hb : bestTo (share caps paths st) k = some b) : QIn b := by
  obtain ⟨l, hl, hs⟩ := bestTo_in hb
  exact hi.share_in ok (by omega) hs
/-- all older blocks but two are as they were -/
structure Kept2 (w w' : World) (g1 g2 : Nat) : Prop where
  os : w'.os = w.os
  tape : w'.tape = w.tape
  output : w'.output = w.output
  size : w.heap.size ≤ w'.heap.size
  block : ∀ b, b < w.heap.size → b ≠ g1 → b ≠ g2 → w'.heap[b]? = w.heap[b]?
theorem Kept2.of {w w' : World} (h : Below w.heap.size w w') (g1 g2 : Nat) : Kept2 w w' g1 g2 := ⟨h.os, h.tape, h.output, h.size, fun b hb _ _ => h.block b hb⟩
theorem Kept2.below {w w1 w2 : World} {g1 g2 : Nat} (h : Kept2 w w1 g1 g2) (hb : Below w1.heap.size w1 w2) : Kept2 w w2 g1 g2 :=
  ⟨hb.os.trans h.os, hb.tape.trans h.tape, hb.output.trans h.output, Nat.le_trans h.size hb.size, fun b hlt h1 h2 => (hb.block b (Nat.lt_of_lt_of_le hlt h.size)).trans (h.block b hlt h1 h2)⟩
theorem Kept2.set1 {w w1 : World} {g1 g2 : Nat} (h : Kept2 w w1 g1 g2) (k : Nat) (u : Value) : Kept2 w (w1.setCell ⟨g1, k, none⟩ u) g1 g2 :=
  ⟨h.os, h.tape, h.output, by have := h.size; simpa [World.setCell] using this, fun b hlt h1 h2 => (Below.heap_setCell w1 _ u b (fun e => h1 e)).trans (h.block b hlt h1 h2)⟩
theorem Kept2.set2 {w w1 : World} {g1 g2 : Nat} (h : Kept2 w w1 g1 g2) (k : Nat) (u : Value) : Kept2 w (w1.setCell ⟨g2, k, none⟩ u) g1 g2 :=
  ⟨h.os, h.tape, h.output, by have := h.size; simpa [World.setCell] using this, fun b hlt h1 h2 => (Below.heap_setCell w1 _ u b (fun e => h2 e)).trans (h.block b hlt h1 h2)⟩
theorem FillAt.put {w : World} {B g gr gd : Nat} {C : Option Addr} {cc : Nat} {P : Option Addr} {cp : Nat} {caps : List Int} {paths : List (List Int)} {st : St} (h : FillAt w B g gr gd C cc P cp caps paths st) {u : Nat} (hu : u < paths.length) (b : Rat) :
    FillAt (((w.setCell ⟨gd, u, none⟩ (.bool true)).setCell ⟨gr, u * 2, none⟩ (.int .i64 b.num)).setCell ⟨gr, u * 2 + 1, none⟩ (.int .i64 b.den)) B g gr gd C cc P cp caps paths (st.set u (some b)) := by
  have n1 : g ≠ gd := h.blk.ne_ h.done (by decide)
  have n2 : g ≠ gr := h.blk.ne_ h.rate (by decide)
  have n3 : gr ≠ gd := h.rate.ne_ h.done (by decide)
  have hul : u < st.length := by rw [h.len]; exact hu
  have hb : Below B w (((w.setCell ⟨gd, u, none⟩ (.bool true)).setCell ⟨gr, u * 2, none⟩ (.int .i64 b.num)).setCell ⟨gr, u * 2 + 1, none⟩ (.int .i64 b.den)) := (((Below.refl _ _).setCell (p := ⟨gd, u, none⟩) h.lod _).setCell (p := ⟨gr, u * 2, none⟩) h.lor _).setCell (p := ⟨gr, u * 2 + 1, none⟩) h.lor _
  refine ⟨((h.blk.far (p := ⟨gd, u, none⟩) n1 _).far (p := ⟨gr, u * 2, none⟩) n2 _).far (p := ⟨gr, u * 2 + 1, none⟩) n2 _, ?_, ?_, h.ic.below hb (Nat.le_refl _), h.ip.below hb (Nat.le_refl _), h.lo, h.lor, h.lod, by rw [List.length_set]; exact h.len⟩
  · have := ((h.rate.far (p := ⟨gd, u, none⟩) n3 (.bool true)).set_ (u * 2) (.int .i64 b.num)).set_ (u * 2 + 1) (.int .i64 b.den)
    rw [List.setIfInBounds_toArray, List.setIfInBounds_toArray] at this
    have e : ((rateCells st).set (u * 2) (.int .i64 b.num)).set (u * 2 + 1) (.int .i64 b.den) = rateCells (st.set u (some b)) := by
      unfold rateCells
      have := frCells_set (st.map optFr) u (frQ b) (by simpa using hul)
      rw [List.map_set]
      exact this
    rw [e] at this
    exact this
  · have := h.done.set_ u (.bool true)
    rw [List.setIfInBounds_toArray] at this
    have e : (doneCells st).set u (.bool true) = doneCells (st.set u (some b)) := by unfold doneCells; rw [List.map_set]; rfl
    rw [e] at this
    exact (this.far (p := ⟨gr, u * 2, none⟩) n3.symm _).far (p := ⟨gr, u * 2 + 1, none⟩) n3.symm _
set_option maxHeartbeats 8000000 in
set_option maxRecDepth 100000 in
theorem fround_any (w : World) (B g gr gd : Nat) (C : Option Addr) (cc : Nat) (P : Option Addr) (cp : Nat) (caps : List Int) (paths : List (List Int)) (st : St) (b0 : Rat) (h : FillAt w B g gr gd C cc P cp caps paths st) (ok : NetOk caps paths) (hi : FInv caps paths st) (hb : bestTo (share caps paths st) caps.length = some b0) :
    Calls Tryz.prog 88 #[.pointer (some ⟨g, 0, none⟩)] w fun e w' => ∃ v, e = .returned v ∧ w'.ownsRow w.heap.size 3 1 v (roundOut caps paths st).length ((ints (roundOut caps paths st)).map (Value.int .i64)) ∧ FillAt w' B g gr gd C cc P cp caps paths (roundSt caps paths st) ∧ Kept2 w w' gr gd := by
  have HST : Hid (roundSt caps paths st = setAll st b0 (roundOut caps paths st)) := Lib.hid (by unfold roundSt; rw [hb])
  have HOU : Hid (roundOut caps paths st = outTo paths st (linksTo (share caps paths st) caps.length) paths.length) := Lib.hid rfl
  have HNR := Lib.hid fun (u : Nat) (hu : u ∈ roundOut caps paths st) => ((out_iff hb).1 hu).1
  obtain ⟨sh, hsh⟩ : ∃ sh, share caps paths st = sh := ⟨_, rfl⟩
  have HSN := Lib.hid fun (W : World) (l : Nat) (hf : FillAt W B g gr gd C cc P cp caps paths st) (hl : l < caps.length) (ho : sh l = none) => (show Calls Tryz.prog 123 #[.pointer (some ⟨g, 0, none⟩), .int .i64 l] W fun e w' => e = .returned (.tuple #[.agg #[.int .i64 0, .int .i64 0], .bool false]) ∧ Below W.heap.size W w' from fshare_any W B g gr gd C cc P cp caps paths st l none hf ok hi hl (by rw [hsh]; exact ho))
  have HSS := Lib.hid fun (W : World) (l : Nat) (s : Rat) (hf : FillAt W B g gr gd C cc P cp caps paths st) (hl : l < caps.length) (ho : sh l = some s) => (show Calls Tryz.prog 123 #[.pointer (some ⟨g, 0, none⟩), .int .i64 l] W fun e w' => e = .returned (.tuple #[.agg #[.int .i64 s.num, .int .i64 s.den], .bool true]) ∧ Below W.heap.size W w' from fshare_any W B g gr gd C cc P cp caps paths st l (some s) hf ok hi hl (by rw [hsh]; exact ho))
  have HSQ := Lib.hid fun (l : Nat) (s : Rat) (hl : l < caps.length) (hs : sh l = some s) => share_q (s := s) ok hi hl (by rw [hsh]; exact hs)
  have HBQ := Lib.hid fun (k : Nat) (s : Rat) (hk : k ≤ caps.length) (hs : bestTo sh k = some s) => best_q (b := s) ok hi hk (by rw [hsh]; exact hs)
  rw [hsh] at hb HOU
  have HB0 := Lib.hid hb
  have hL1 := ok.L1; have hF1 := ok.F1
  have hcc := h.ic.cap; have hcl := h.ic.le
  unfold maxLen at hcc
  have H0 : Hid (BestAt w ((w.alloc (.cells #[.int .i64 0, .int .i64 0] 37)).alloc (.cells #[.slice none 0 0] 22)) B g gr gd C cc P cp caps paths st (bestTo sh 0) (linksTo sh 0) (.slice none 0 0)) := Lib.hid
    ⟨(h.below ((Below.refl _ _).alloc (Nat.le_refl _) _)).below ((Below.refl _ _).alloc (Nat.le_refl _) _), (Blk.new _ _ _).alloc _, Blk.new' _ _ _ (by simp), World.ownsRow_nil _ _ _ _, ((Below.refl _ _).alloc (Nat.le_refl _) _).alloc (by simp) _, h.blk.lt, h.rate.lt, h.done.lt⟩
  have hgw : g < w.heap.size := h.blk.lt
  clear hsh hb h
  obtain ⟨g0, g1, g2, g3, _, _, _, _, gz⟩ := H0.out.fill.blk.four
  go_enter Tryz.func88, Tryz.ntmps88
  go_wp2
  go_loopw [19] (fun i wr => ∃ (k : Nat) (v : Value), k ≤ caps.length ∧ i = .int .i64 k ∧ Hid (BestAt w wr B g gr gd C cc P cp caps paths st (bestTo sh k) (linksTo sh k) v)) (fun i _ => caps.length - (intOf i).toNat)
  case atStart => exact ⟨0, _, Nat.zero_le _, rfl, H0⟩
  case round =>
    clear H0 g0 g1 g2 g3 gz
    obtain ⟨k, v, hk, rfl, H⟩ := hrel
    by_cases hlt : k < caps.length
    · have k0 : (0 : Int) ≤ (k : Int) := by omega
      cases hs : sh k with
      | none =>
        obtain ⟨e1, e2⟩ := best_skip hs
        have HK := Lib.hid H.out
        rw [← e1, ← e2] at HK
        have HS := Lib.hid hs
        clear hs e1 e2
        go_wp2_with fail
        refine (HSN.out _ k H.out.fill hlt HS.out).mono ?_; rintro e w2 ⟨rfl, hb2⟩
        have HK2 := Lib.hid ((HK.out.below hb2).below ((Below.refl _ _).alloc (Nat.le_refl _) (.cells #[.int .i64 0, .int .i64 0] 37)))
        clear hb2
        go_wp2
        go_roundw
        case rel => exact ⟨k + 1, v, by omega, by go_num, HK2⟩
        case measure => simp [intOf]; omega
      | some s =>
        have HSQs := Lib.hid (HSQ.out k s hlt hs)
        have HS := Lib.hid hs
        have hll := links_le sh k
        obtain ⟨A, c, rfl, hA1, hA2, _⟩ := own_sl H.out.row
        unfold maxLen at hA2
        cases hb : bestTo sh k with
        | none =>
          obtain ⟨e1, e2⟩ := best_less hs (.inl hb)
          have HE1 := Lib.hid e1; have HE2 := Lib.hid e2
          have hl0 : (linksTo sh k).length = 0 := by rw [links_none hb]; rfl
          clear hs e1 e2
          go_wp2_with fail
          refine (HSS.out _ k s H.out.fill hlt HS.out).mono ?_; rintro e w2 ⟨rfl, hb2⟩
          have H2 := Lib.hid ((H.out.below hb2).below ((Below.refl _ _).alloc (Nat.le_refl _) (.cells #[.int .i64 s.num, .int .i64 s.den] 37)))
          have HP := Lib.hid (Blk.new w2 37 #[.int .i64 s.num, .int .i64 s.den])
          obtain ⟨p0, p1, pf0, pf1, pz⟩ := HP.out.two
          obtain ⟨b0', b1', bf0, bf1, bz⟩ := H2.out.best.two
          obtain ⟨c0, cf, cz⟩ := H2.out.cell.one
          rw [hl0] at c0
          clear hl0 hb2 HSS HSN HBQ HSQ hb
          go_upto_region 11 with (fail)
          have H3 := Lib.hid (H2.out.turn s)
          have hcell := H3.out.cell.one
          obtain ⟨w3, hw3⟩ : ∃ x, x = ((((w2.alloc (.cells #[.int .i64 s.num, .int .i64 s.den] 37)).setCell ⟨w.heap.size, 0, none⟩ (.int .i64 s.num)).setCell ⟨w.heap.size, 1, none⟩ (.int .i64 s.den)).setCell ⟨w.heap.size + 1, 0, none⟩ (.slice none 0 0)) := ⟨_, rfl⟩
          rw [← hw3] at H3 hcell ⊢
          obtain ⟨t0, tf, tz⟩ := hcell
          clear hw3 H2 b0' b1' bf0 bf1 bz c0 cf cz p0 p1 pf0 pf1 pz
          go_wp2_with (at_builtin; refine wpList_push w3 _ rfl (.tmp 49) (.tmp 51) 22 rfl w.heap.size 3 (.int .i64 0) 1 8 Tryz.underlying22 Tryz.info_int rfl (by omega) _ _ _ rfl H3.out.row rfl rfl (by simp [Value.oneCell']) (by first | omega | (focus (simp; done)) | (simp; omega)) (by omega) H3.out.bel.size ?_; intro v' w7 hown7 hg7; obtain ⟨A7, c7, rfl, _, _, _⟩ := owns_reads hown7; have HO7 := Lib.hid hown7; have HG7 := Lib.hid hg7; have HC7 := Lib.hid (show Blk w7 (w.heap.size + 1) 22 _ from H3.out.cell.grown hg7 fun e => own_blk_ne H3.out.row H3.out.cell (by decide) e.symm); obtain ⟨x7, f7, z7⟩ := HC7.out.one; clear hown7 hg7)
          have H7 := Lib.hid (H3.out.push (k := k) HO7.out HG7.out)
          rw [← HE1.out] at H7
          have H8 := Lib.hid (HE2.out ▸ H7.out : BestAt w _ B g gr gd C cc P cp caps paths st _ (linksTo sh (k + 1)) _)
          clear HO7 HG7 HE1 HE2 H7 H3
          go_roundw
          case rel => exact ⟨k + 1, _, by omega, by go_num, H8⟩
          case measure => simp [intOf]; omega
        | some b =>
          have hl1 : 0 < (linksTo sh k).length := links_some hb
          have hl2 : (((linksTo sh k).length : Int) == 0) = false := beq_eq_false_iff_ne.2 (by omega)
          have hl3 : decide ((0 : Int) < ((linksTo sh k).length : Int)) = true := decide_eq_true (by omega)
          have HBQs := Lib.hid (HBQ.out k b hk hb)
          have HBE := Lib.hid hb
          rw [hb] at H
          by_cases hlt1 : b < s
          · obtain ⟨e1, e2⟩ := best_more hs hb hlt1
            have HOR := Lib.hid fun W => order_q s b 1 W HSQs.out HBQs.out (by unfold ordQ; rw [if_neg (by grind), if_pos hlt1])
            have HE1 := Lib.hid e1; have HE2 := Lib.hid e2
            clear hs e1 e2 hlt1 hb
            go_wp2_with fail
            refine (HSS.out _ k s H.out.fill hlt HS.out).mono ?_; rintro e w2 ⟨rfl, hb2⟩
            have H2 := Lib.hid ((H.out.below hb2).below ((Below.refl _ _).alloc (Nat.le_refl _) (.cells #[.int .i64 s.num, .int .i64 s.den] 37)))
            have HP := Lib.hid (Blk.new w2 37 #[.int .i64 s.num, .int .i64 s.den])
            clear hb2 HSS HSN HBQ HSQ
            obtain ⟨p0, p1, pf0, pf1, pz⟩ := HP.out.two
            obtain ⟨b0', b1', bf0, bf1, bz⟩ := H2.out.best.two
            obtain ⟨c0, cf, cz⟩ := H2.out.cell.one
            go_wp2_with fail
            refine (HOR.out _).mono ?_; rintro e w4 ⟨rfl, hb4⟩
            replace H2 := Lib.hid (H2.out.below hb4)
            replace HP := Lib.hid (HP.out.go hb4)
            clear hb4 p0 p1 pf0 pf1 pz b0' b1' bf0 bf1 bz c0 cf cz
            obtain ⟨p0, p1, pf0, pf1, pz⟩ := HP.out.two
            obtain ⟨b0', b1', bf0, bf1, bz⟩ := H2.out.best.two
            obtain ⟨c0, cf, cz⟩ := H2.out.cell.one
            go_wp2
            go_roundw
            case rel => exact ⟨k + 1, _, by omega, by go_num, by rw [HE1.out, HE2.out]; exact H2⟩
            case measure => simp [intOf]; omega
          · by_cases hlt2 : s < b
            · obtain ⟨e1, e2⟩ := best_less hs (.inr ⟨b, hb, hlt2⟩)
              have HOR := Lib.hid fun W => order_q s b (-1) W HSQs.out HBQs.out (by unfold ordQ; rw [if_pos hlt2])
              have HE1 := Lib.hid e1; have HE2 := Lib.hid e2
              clear hs e1 e2 hlt1 hlt2 hb
              go_wp2_with fail
              refine (HSS.out _ k s H.out.fill hlt HS.out).mono ?_; rintro e w2 ⟨rfl, hb2⟩
              have H2 := Lib.hid ((H.out.below hb2).below ((Below.refl _ _).alloc (Nat.le_refl _) (.cells #[.int .i64 s.num, .int .i64 s.den] 37)))
              have HP := Lib.hid (Blk.new w2 37 #[.int .i64 s.num, .int .i64 s.den])
              clear hb2 HSS HSN HBQ HSQ
              obtain ⟨p0, p1, pf0, pf1, pz⟩ := HP.out.two
              obtain ⟨b0', b1', bf0, bf1, bz⟩ := H2.out.best.two
              obtain ⟨c0, cf, cz⟩ := H2.out.cell.one
              go_wp2_with fail
              refine (HOR.out _).mono ?_; rintro e w4 ⟨rfl, hb4⟩
              replace H2 := Lib.hid (H2.out.below hb4)
              replace HP := Lib.hid (HP.out.go hb4)
              clear hb4 p0 p1 pf0 pf1 pz b0' b1' bf0 bf1 bz c0 cf cz
              obtain ⟨p0, p1, pf0, pf1, pz⟩ := HP.out.two
              obtain ⟨b0', b1', bf0, bf1, bz⟩ := H2.out.best.two
              obtain ⟨c0, cf, cz⟩ := H2.out.cell.one
              go_wp2_with fail
              refine (HOR.out _).mono ?_; rintro e w5 ⟨rfl, hb5⟩
              replace H2 := Lib.hid (H2.out.below hb5)
              replace HP := Lib.hid (HP.out.go hb5)
              clear hb5 p0 p1 pf0 pf1 pz b0' b1' bf0 bf1 bz c0 cf cz
              obtain ⟨p0, p1, pf0, pf1, pz⟩ := HP.out.two
              obtain ⟨b0', b1', bf0, bf1, bz⟩ := H2.out.best.two
              obtain ⟨c0, cf, cz⟩ := H2.out.cell.one
              go_upto_region 11 with (fail)
              have H3 := Lib.hid (H2.out.turn s)
              have hcell := H3.out.cell.one
              obtain ⟨w3, hw3⟩ : ∃ x, x = ((((w5).setCell ⟨w.heap.size, 0, none⟩ (.int .i64 s.num)).setCell ⟨w.heap.size, 1, none⟩ (.int .i64 s.den)).setCell ⟨w.heap.size + 1, 0, none⟩ (.slice none 0 0)) := ⟨_, rfl⟩
              rw [← hw3] at H3 hcell ⊢
              obtain ⟨t0, tf, tz⟩ := hcell
              clear hw3 H2 b0' b1' bf0 bf1 bz c0 cf cz p0 p1 pf0 pf1 pz
              go_wp2_with (at_builtin; refine wpList_push w3 _ rfl (.tmp 49) (.tmp 51) 22 rfl w.heap.size 3 (.int .i64 0) 1 8 Tryz.underlying22 Tryz.info_int rfl (by omega) _ _ _ rfl H3.out.row rfl rfl (by simp [Value.oneCell']) (by first | omega | (focus (simp; done)) | (simp; omega)) (by omega) H3.out.bel.size ?_; intro v' w7 hown7 hg7; obtain ⟨A7, c7, rfl, _, _, _⟩ := owns_reads hown7; have HO7 := Lib.hid hown7; have HG7 := Lib.hid hg7; have HC7 := Lib.hid (show Blk w7 (w.heap.size + 1) 22 _ from H3.out.cell.grown hg7 fun e => own_blk_ne H3.out.row H3.out.cell (by decide) e.symm); obtain ⟨x7, f7, z7⟩ := HC7.out.one; clear hown7 hg7)
              have H7 := Lib.hid (H3.out.push (k := k) HO7.out HG7.out)
              rw [← HE1.out] at H7
              have H8 := Lib.hid (HE2.out ▸ H7.out : BestAt w _ B g gr gd C cc P cp caps paths st _ (linksTo sh (k + 1)) _)
              clear HO7 HG7 HE1 HE2 H7 H3
              go_roundw
              case rel => exact ⟨k + 1, _, by omega, by go_num, H8⟩
              case measure => simp [intOf]; omega
            · have hsb : s = b := by grind
              subst hsb
              obtain ⟨e1, e2⟩ := best_same hs hb
              have HOR := Lib.hid fun W => order_q s s 0 W HSQs.out HSQs.out (by unfold ordQ; rw [if_neg hlt1, if_neg hlt1])
              have HE1 := Lib.hid e1; have HE2 := Lib.hid e2
              clear hs e1 e2 hlt1 hlt2 hb
              go_wp2_with fail
              refine (HSS.out _ k s H.out.fill hlt HS.out).mono ?_; rintro e w2 ⟨rfl, hb2⟩
              have H2 := Lib.hid ((H.out.below hb2).below ((Below.refl _ _).alloc (Nat.le_refl _) (.cells #[.int .i64 s.num, .int .i64 s.den] 37)))
              have HP := Lib.hid (Blk.new w2 37 #[.int .i64 s.num, .int .i64 s.den])
              clear hb2 HSS HSN HBQ HSQ
              obtain ⟨p0, p1, pf0, pf1, pz⟩ := HP.out.two
              obtain ⟨b0', b1', bf0, bf1, bz⟩ := H2.out.best.two
              obtain ⟨c0, cf, cz⟩ := H2.out.cell.one
              go_wp2_with fail
              refine (HOR.out _).mono ?_; rintro e w4 ⟨rfl, hb4⟩
              replace H2 := Lib.hid (H2.out.below hb4)
              replace HP := Lib.hid (HP.out.go hb4)
              clear hb4 p0 p1 pf0 pf1 pz b0' b1' bf0 bf1 bz c0 cf cz
              obtain ⟨p0, p1, pf0, pf1, pz⟩ := HP.out.two
              obtain ⟨b0', b1', bf0, bf1, bz⟩ := H2.out.best.two
              obtain ⟨c0, cf, cz⟩ := H2.out.cell.one
              go_wp2_with fail
              refine (HOR.out _).mono ?_; rintro e w5 ⟨rfl, hb5⟩
              replace H2 := Lib.hid (H2.out.below hb5)
              replace HP := Lib.hid (HP.out.go hb5)
              clear hb5 p0 p1 pf0 pf1 pz b0' b1' bf0 bf1 bz c0 cf cz
              obtain ⟨p0, p1, pf0, pf1, pz⟩ := HP.out.two
              obtain ⟨b0', b1', bf0, bf1, bz⟩ := H2.out.best.two
              obtain ⟨c0, cf, cz⟩ := H2.out.cell.one
              go_upto_region 11 with (fail)
              have H3 := H2
              obtain ⟨w3, hw3⟩ : ∃ x, x = w5 := ⟨_, rfl⟩
              rw [← hw3] at H3 c0 cf cz ⊢
              clear hw3 H2 b0' b1' bf0 bf1 bz p0 p1 pf0 pf1 pz
              go_wp2_with (at_builtin; refine wpList_push w3 _ rfl (.tmp 49) (.tmp 51) 22 rfl w.heap.size 3 (.int .i64 0) 1 8 Tryz.underlying22 Tryz.info_int rfl (by omega) _ _ _ rfl H3.out.row rfl rfl (by simp [Value.oneCell']) (by first | omega | (focus (simp; done)) | (simp; omega)) (by omega) H3.out.bel.size ?_; intro v' w7 hown7 hg7; obtain ⟨A7, c7, rfl, _, _, _⟩ := owns_reads hown7; have HO7 := Lib.hid hown7; have HG7 := Lib.hid hg7; have HC7 := Lib.hid (show Blk w7 (w.heap.size + 1) 22 _ from H3.out.cell.grown hg7 fun e => own_blk_ne H3.out.row H3.out.cell (by decide) e.symm); obtain ⟨x7, f7, z7⟩ := HC7.out.one; clear hown7 hg7)
              have H7 := Lib.hid (H3.out.push (k := k) HO7.out HG7.out)
              rw [← HE1.out] at H7
              have H8 := Lib.hid (HE2.out ▸ H7.out : BestAt w _ B g gr gd C cc P cp caps paths st _ (linksTo sh (k + 1)) _)
              clear HO7 HG7 HE1 HE2 H7 H3
              go_roundw
              case rel => exact ⟨k + 1, _, by omega, by go_num, H8⟩
              case measure => simp [intOf]; omega
    · obtain rfl : k = caps.length := by omega
      rw [HB0.out] at H
      obtain ⟨LK, hLK⟩ : ∃ x, linksTo sh caps.length = x := ⟨_, rfl⟩
      rw [hLK] at H
      have HLK := Lib.hid hLK
      obtain ⟨A, c, rfl, hA1, hA2, hI⟩ := own_sl H.out.row
      have hLl : LK.length ≤ 1000 := by have := links_le sh caps.length; rw [← hLK]; omega
      have HI := Lib.hid hI
      unfold maxLen at hA2
      have hcp := H.out.fill.ip.cap; have hcpl := H.out.fill.ip.le
      unfold maxLen at hcp
      obtain ⟨g0, g1, g2, g3, _, _, _, _, gz⟩ := H.out.fill.blk.four
      obtain ⟨wo, hwo⟩ : ∃ x, x = wr := ⟨_, rfl⟩
      rw [← hwo] at H HI g0 g1 g2 g3 gz ⊢
      have hBo := H.out.fill.size
      clear hwo hLK hI HSN HSS HSQ HBQ
      go_wp2
      go_loopw [8, 60] (fun v i wr => ∃ k : Nat, k ≤ paths.length ∧ i = .int .i64 k ∧ Hid (wr.ownsRow wo.heap.size 3 1 v (outTo paths st LK k).length ((ints (outTo paths st LK k)).map (Value.int .i64))) ∧ Hid (Below wo.heap.size wo wr)) (fun _ i _ => paths.length - (intOf i).toNat)
      case atStart => exact ⟨0, Nat.zero_le _, rfl, Lib.hid (World.ownsRow_nil _ _ _ _), Lib.hid (Below.refl _ _)⟩
      case round =>
        clear g0 g1 g2 g3 gz
        obtain ⟨k, hk, rfl, HO, HB⟩ := hrel
        have hB1 := HB.out.size
        have HH := Lib.hid (H.out.below HB.out)
        by_cases hlt : k < paths.length
        · have k0 : (0 : Int) ≤ (k : Int) := by omega
          have k1 : (k : Int) < (paths.length : Int) := by omega
          have hsu := outTo_succ paths st LK k
          have hd := HH.out.fill.dcell hlt
          obtain ⟨g0, g1, g2, g3, _, _, _, _, gz⟩ := HH.out.fill.blk.four
          obtain ⟨b, off, A', c', p, rfl, hb, hcell, hi', HX⟩ := HH.out.fill.ip.elem hlt
          have hbz : b < wr.heap.size := by omega
          have hg : paths.getD k [] = p := by rw [List.getD_eq_getElem?_getD, HX.out]; rfl
          rw [hg] at hsu
          have hul := outTo_le paths st LK k
          cases hat : st.at_ k with
          | some q =>
            rw [hat] at hsu hd
            have hd' : wr.cell? ⟨gd, k, none⟩ = some (.bool true) := hd
            have hsu' : outTo paths st LK (k + 1) = outTo paths st LK k := by rw [hsu]; simp
            have HSU := Lib.hid hsu'
            clear hsu hsu' hd hat hg HX
            go_wp2
            go_roundw
            case rel => exact ⟨k + 1, by omega, by go_num, by rw [HSU.out]; exact HO, HB⟩
            case measure => simp [intOf]; omega
          | none =>
            rw [hat] at hsu hd
            have hd' : wr.cell? ⟨gd, k, none⟩ = some (.bool false) := hd
            have HC := Lib.hid fun (bb : Bool) (h : meets LK p = bb) => (show Calls Tryz.prog 70 #[.slice A' p.length c', .func (Fn.func 124) #[] #[.pointer (some ⟨w.heap.size + 1, 0, none⟩)]] wr fun e w' => e = .returned (.bool bb) ∧ wr = w' from by
              have := contains_any A' c' p B wr hi' 124 #[.pointer (some ⟨w.heap.size + 1, 0, none⟩)] (fun x => inL (ints LK) x) (fun _ _ => by kernel_rfl) (fun x _ => round1_any x (w.heap.size + 1) A c LK.length (ints LK) wo.heap.size wr HH.out.cell (ints_len LK).symm (HI.out.below HB.out (Nat.le_refl _)) _ rfl)
              have e : (p.any fun x => inL (ints LK) x) = bb := h
              rwa [e] at this)
            obtain ⟨bb, hbb⟩ : ∃ bb, meets LK p = bb := ⟨_, rfl⟩
            rw [hbb] at hsu
            have HCB := Lib.hid (HC.out bb hbb)
            cases bb
            · have hsu' : outTo paths st LK (k + 1) = outTo paths st LK k := by rw [hsu]; simp
              have HSU := Lib.hid hsu'
              clear hsu hsu' hd hat hg HX hbb HC
              go_wp2_with fail
              refine HCB.out.mono ?_; rintro e w' ⟨rfl, rfl⟩
              go_wp2
              go_roundw
              case rel => exact ⟨k + 1, by omega, by go_num, by rw [HSU.out]; exact HO, HB⟩
              case measure => simp [intOf]; omega
            · have hsu' : outTo paths st LK (k + 1) = outTo paths st LK k ++ [k] := by rw [hsu]; simp
              have HSU := Lib.hid hsu'
              clear hsu hsu' hd hat hg HX hbb HC
              go_wp2_with fail
              refine HCB.out.mono ?_; rintro e w' ⟨rfl, rfl⟩
              go_wp2_with (at_builtin; refine wpList_push wr _ rfl (.tmp 78) (.tmp 80) 22 rfl wo.heap.size 3 (.int .i64 0) 1 8 Tryz.underlying22 Tryz.info_int rfl (by omega) _ _ _ rfl HO.out rfl rfl (by simp [Value.oneCell']) (by omega) (by omega) hB1 ?_; intro v' w7 hown7 hg7; have HO7 := Lib.hid hown7; have HB7 := Lib.hid (below_push HB.out HO.out hg7 (Nat.le_refl _) hB1); clear hown7 hg7)
              go_roundw
              case rel => exact ⟨k + 1, by omega, by go_num, by rw [HSU.out, ints_snoc, List.length_append]; exact HO7, HB7⟩
              case measure => simp [intOf]; omega
        · obtain rfl : k = paths.length := by omega
          have hoe : outTo paths st LK paths.length = roundOut caps paths st := by rw [HOU.out, HLK.out]
          rw [hoe] at HO
          obtain ⟨R, hR⟩ : ∃ x, roundOut caps paths st = x := ⟨_, rfl⟩
          have hRl : R.length ≤ 6 := by have := outTo_le paths st LK paths.length; rw [hoe, hR] at this; omega
          rw [hR] at HO HST HNR
          have HR := Lib.hid hR
          have hz0 := HH.out.bel.size
          have hz1 := H.out.bel.size
          have HK0 : Hid (Kept2 w wr gr gd) := Lib.hid (Kept2.of HH.out.bel gr gd)
          have HF0 : Hid (FillAt wr B g gr gd C cc P cp caps paths (setAll st b0 (R.take 0))) := Lib.hid HH.out.fill
          have HB0' : Hid (Blk wr w.heap.size 37 #[.int .i64 b0.num, .int .i64 b0.den]) := Lib.hid HH.out.best
          obtain ⟨A5, c5, rfl, hA5, hA6, _⟩ := own_sl HO.out
          unfold maxLen at hA6
          obtain ⟨wp, hwp⟩ : ∃ x, x = wr := ⟨_, rfl⟩
          rw [← hwp] at HO HK0 HF0 HB0' ⊢
          have hlg := H.out.lg; have hlgr := H.out.lgr; have hlgd := H.out.lgd
          have hBw : B ≤ w.heap.size := by have := H.out.fill.lo; omega
          clear hoe hR HB HH H HI HB0 hwp
          go_wp2
          go_loopw [85] (fun i wr => ∃ j : Nat, j ≤ R.length ∧ i = .int .i64 j ∧ Hid (FillAt wr B g gr gd C cc P cp caps paths (setAll st b0 (R.take j))) ∧ Hid (Blk wr w.heap.size 37 #[.int .i64 b0.num, .int .i64 b0.den]) ∧ Hid (wr.ownsRow wo.heap.size 3 1 (.slice A5 R.length c5) R.length ((ints R).map (Value.int .i64))) ∧ Hid (Kept2 w wr gr gd)) (fun i _ => R.length - (intOf i).toNat)
          case atStart => exact ⟨0, Nat.zero_le _, rfl, HF0, HB0', HO, HK0⟩
          case round =>
            clear HF0 HB0' HO HK0
            obtain ⟨j, hj, rfl, HF, HBB, HO, HK⟩ := hrel
            by_cases hjl : j < R.length
            · have j0 : (0 : Int) ≤ (j : Int) := by omega
              obtain ⟨b3, o3, x3, rfl, hb3, hc3c, _, HT, HX⟩ := (own_ints' HO.out).elem (k := j) (by simpa [ints] using hjl)
              obtain ⟨u, hu⟩ : ∃ u, R[j]? = some u := ⟨_, List.getElem?_eq_getElem hjl⟩
              have hx3 : x3 = ((u : Nat) : Int) := by have := HX.out; rw [List.getD_eq_getElem?_getD] at this; unfold ints at this; rw [List.getElem?_map, hu] at this; exact this.symm
              subst hx3
              have huF : u < paths.length := HNR.out u (List.mem_of_getElem? hu)
              have htk : R.take (j + 1) = R.take j ++ [u] := by rw [List.take_add_one, hu]; rfl
              have hset : setAll st b0 (R.take (j + 1)) = (setAll st b0 (R.take j)).set u (some b0) := by rw [htk, setAll_snoc]
              have HSET := Lib.hid hset
              have u0 : (0 : Int) ≤ (u : Int) := by omega
              have u1 : (u : Int) < (paths.length : Int) := by omega
              have hd := HF.out.dcell huF
              obtain ⟨r0, r1⟩ := HF.out.rcell huF
              obtain ⟨g0, g1, g2, g3, _, _, _, _, gz⟩ := HF.out.blk.four
              obtain ⟨q0, q1, _, _, qz⟩ := HBB.out.two
              have hdf := HF.out.done.frozen u
              have hrf := HF.out.rate.frozen (u * 2)
              have hrf1 := HF.out.rate.frozen (u * 2 + 1)
              have n1 : ¬ g = gd := HF.out.blk.ne_ HF.out.done (by decide)
              have n2 : ¬ g = gr := HF.out.blk.ne_ HF.out.rate (by decide)
              have n3 : ¬ gr = gd := HF.out.rate.ne_ HF.out.done (by decide)
              have n4 : ¬ w.heap.size = gd := by omega
              have n5 : ¬ w.heap.size = gr := by omega
              have hdz := HF.out.done.lt; have hrz := HF.out.rate.lt
              have hlr : gr < wo.heap.size := by omega
              have hld : gd < wo.heap.size := by omega
              clear hset htk hu HT HX
              go_wp2_with fail
              go_region
              all_goals
                go_wp2
                go_roundw
                case rel => exact ⟨j + 1, by omega, by go_num, by rw [HSET.out]; exact Lib.hid ((HF.out.put huF b0).below (Below.refl _ _).drew), Lib.hid (((HBB.out.far (p := ⟨gd, u, none⟩) n4 _).far (p := ⟨gr, u * 2, none⟩) n5 _).far (p := ⟨gr, u * 2 + 1, none⟩) n5 _).drew, Lib.hid (own_below (own_set (own_set (own_set HO.out hld _) hlr _) hlr _) (Below.refl _ _).drew), Lib.hid ((((HK.out.set2 u _).set1 (u * 2) _).set1 (u * 2 + 1) _).below (Below.refl _ _).drew)⟩
                case measure => simp [intOf]; omega
            · obtain rfl : j = R.length := by omega
              have hf := HF.out
              rw [List.take_length, ← HST.out] at hf
              have HF' := Lib.hid hf
              clear hf HF
              go_wp2
              go_ret
              rw [HR.out]
              exact ⟨_, rfl, own_baseB HO.out (Nat.le_trans hz1 (Nat.le_refl _)), HF'.out, HK.out⟩
end Go.Proofs.YtaijpiebjhhkjaaGreatDoor
