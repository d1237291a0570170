/- Several texts in one: RefFill, RefFill2, RefFill3. -/
import Derived.Test.YtaijpiebjhhkjaaGreatDoorLibRn
import Derived.Test.YtaijpiebjhhkjaaGreatDoorLibRg
import Derived.Test.YtaijpiebjhhkjaaGreatDoorLibK
import Derived.Test.YtaijpiebjhhkjaaGreatDoorLibX
/- The reference's Fill: rates, and rounds. -/
namespace Go.Proofs.YtaijpiebjhhkjaaGreatDoor
open Go.RowKit
theorem refLow_q (q s : Rat) (n : Int) (w : World) (hq : QIn q) (n0 : 1 ≤ n) (n1 : n ≤ 1000) (hs : q / (n : Rat) = s) :
    Calls Tryz.prog 30 #[.int .i64 q.num, .int .i64 ((q.den : Int) * n)] w fun e w' => e = .returned (.agg #[.int .i64 s.num, .int .i64 s.den]) ∧ Below w.heap.size w w' := by
  obtain ⟨h0, h1, h2, h3⟩ := hq
  have hd : (0 : Int) < (q.den : Int) * n := Int.mul_pos (by omega) (by omega)
  have hd2 : (q.den : Int) * n ≤ 100000000 * 1000 := Int.mul_le_mul h1 n1 (by omega) (by omega)
  refine (refLow_any q.num ((q.den : Int) * n) w (by omega) (by omega) hd (by omega)).mono fun _ _ ⟨e1, e2⟩ => ⟨?_, e2⟩
  rw [e1, by_num q n (by omega), by_den q n (by omega), hs]
/-- which links are narrow -/
def nrw (L : Nat) (us : List Nat) : List Value := (List.range L).map fun l => .bool (us.contains l)
theorem nrw_len (L : Nat) (us : List Nat) : (nrw L us).length = L := by simp [nrw]
theorem nrw_at {L l : Nat} (us : List Nat) (h : l < L) : (nrw L us)[l]? = some (.bool (us.contains l)) := by simp [nrw, h]
theorem nrw_set {L k : Nat} (us : List Nat) (_ : k < L) : (nrw L us).set k (.bool true) = nrw L (us ++ [k]) := by
  apply List.ext_getElem
  · simp [nrw]
  · intro i h1 h2
    rw [List.getElem_set]
    by_cases e : k = i
    · subst e; simp [nrw]
    · rw [if_neg e]
      have e' : ¬ i = k := fun x => e x.symm
      simp [nrw, e']
theorem nrw_nil (L : Nat) : nrw L [] = List.replicate L (.bool false) := by
  unfold nrw
  rw [List.eq_replicate_iff]
  exact ⟨by simp, fun x hx => by obtain ⟨l, _, rfl⟩ := List.mem_map.1 hx; rfl⟩
theorem madeN (n : Nat) (h : n ≤ 12) : madeCells #[Value.bool false] (n * 1) = (nrw n []).toArray := by
  rw [nrw_nil]
  have : n = 0 ∨ n = 1 ∨ n = 2 ∨ n = 3 ∨ n = 4 ∨ n = 5 ∨ n = 6 ∨ n = 7 ∨ n = 8 ∨ n = 9 ∨ n = 10 ∨ n = 11 ∨ n = 12 := by omega
  rcases this with rfl | rfl | rfl | rfl | rfl | rfl | rfl | rfl | rfl | rfl | rfl | rfl | rfl <;> (clear h; show _ = _; kernel_rfl)
theorem makeN (n : Nat) (h : n ≤ 12) (W : World) : (Instr.makeSlice 84 (.int .i64 n) (.int .i64 n)).run Tryz.prog W = .ok (.slice (some ⟨W.heap.size, 0, none⟩) n n) (W.alloc (.cells (nrw n []).toArray 4)) := by
  obtain ⟨i, hi, h2, h3, h4⟩ := info_parts Tryz.info_boolF
  have := run_make (P := Tryz.prog) W 84 4 i _ Tryz.underlying84 hi h2 .i64 .i64 n n (by omega) (Int.le_refl _) (by rw [h4]; omega) (by omega)
  rw [Int.toNat_natCast, h3, show Value.cells (.bool false) = #[Value.bool false] from rfl, madeN n h] at this
  exact this
structure RFill (w : World) (gN gr gd : Nat) (Cv Pv : Value) (st : St) : Prop where
  net : Blk w gN 42 #[Cv, Pv]
  rate : Blk w gr 37 (rateCells st).toArray
  done : Blk w gd 4 (doneCells st).toArray
section
variable {w w' : World} {gN gr gd : Nat} {Cv Pv : Value} {st : St}
theorem RFill.go (h : RFill w gN gr gd Cv Pv st) (hb : Below w.heap.size w w') : RFill w' gN gr gd Cv Pv st := ⟨h.net.go hb, h.rate.go hb, h.done.go hb⟩
theorem RFill.grown (h : RFill w gN gr gd Cv Pv st) {base n : Nat} {v : Value} {xs : List Value} {e : TypeId} {s : Nat} (ho : w.ownsRow base e s v n xs) (h1 : e ≠ 42) (h2 : e ≠ 37) (h3 : e ≠ 4) (hg : w.grownBy w' v.ownBlock) : RFill w' gN gr gd Cv Pv st :=
  ⟨h.net.grown hg fun x => own_blk_ne ho h.net h1 x.symm, h.rate.grown hg fun x => own_blk_ne ho h.rate h2 x.symm, h.done.grown hg fun x => own_blk_ne ho h.done h3 x.symm⟩
theorem RFill.rcell (h : RFill w gN gr gd Cv Pv st) {u : Nat} (hu : u < st.length) : w.cell? ⟨gr, u * 2, none⟩ = some (.int .i64 (optFr (st.at_ u)).t) ∧ w.cell? ⟨gr, u * 2 + 1, none⟩ = some (.int .i64 (optFr (st.at_ u)).b) := by
  have hs : (st.map optFr)[u]? = some (optFr (st.at_ u)) := by rw [List.getElem?_map, at_get hu]; rfl
  obtain ⟨h1, h2⟩ := frCells_at _ _ _ hs
  exact ⟨by rw [h.rate.cell, List.getElem?_toArray]; exact h1, by rw [h.rate.cell, List.getElem?_toArray]; exact h2⟩
theorem RFill.dcell (h : RFill w gN gr gd Cv Pv st) {u : Nat} (hu : u < st.length) : w.cell? ⟨gd, u, none⟩ = some (.bool (st.at_ u).isSome) := by
  rw [h.done.cell, List.getElem?_toArray]
  unfold doneCells
  rw [List.getElem?_map, at_get hu]; rfl
theorem RFill.put (h : RFill w gN gr gd Cv Pv st) {u : Nat} (hu : u < st.length) (b : Rat) :
    RFill (((w.setCell ⟨gd, u, none⟩ (.bool true)).setCell ⟨gr, u * 2, none⟩ (.int .i64 b.num)).setCell ⟨gr, u * 2 + 1, none⟩ (.int .i64 b.den)) gN gr gd Cv Pv (st.set u (some b)) := by
  have n1 : gN ≠ gd := h.net.ne_ h.done (by decide)
  have n2 : gN ≠ gr := h.net.ne_ h.rate (by decide)
  have n3 : gr ≠ gd := h.rate.ne_ h.done (by decide)
  refine ⟨((h.net.far (p := ⟨gd, u, none⟩) n1 _).far (p := ⟨gr, u * 2, none⟩) n2 _).far (p := ⟨gr, u * 2 + 1, none⟩) n2 _, ?_, ?_⟩
  · have := ((h.rate.far (p := ⟨gd, u, none⟩) n3 (.bool true)).set_ (u * 2) (.int .i64 b.num)).set_ (u * 2 + 1) (.int .i64 b.den)
    rw [List.setIfInBounds_toArray, List.setIfInBounds_toArray] at this
    have e : ((rateCells st).set (u * 2) (.int .i64 b.num)).set (u * 2 + 1) (.int .i64 b.den) = rateCells (st.set u (some b)) := by
      unfold rateCells
      have := frCells_set (st.map optFr) u (frQ b) (by simpa using hu)
      rw [List.map_set]
      exact this
    rw [e] at this
    exact this
  · have := h.done.set_ u (.bool true)
    rw [List.setIfInBounds_toArray] at this
    have e : (doneCells st).set u (.bool true) = doneCells (st.set u (some b)) := by unfold doneCells; rw [List.map_set]; rfl
    rw [e] at this
    exact (this.far (p := ⟨gr, u * 2, none⟩) n3.symm _).far (p := ⟨gr, u * 2 + 1, none⟩) n3.symm _
end
def bestFr : Option Rat → Fr
  | none => ⟨-1, 1⟩
  | some q => frQ q
theorem bestFr_none : bestFr none = ⟨-1, 1⟩ := rfl
theorem meets_take {us : List Nat} {p : List Int} {j l : Nat} (hp : p.take (j + 1) = p.take j ++ [(l : Int)]) : meets us (p.take (j + 1)) = (meets us (p.take j) || us.contains l) := by
  unfold meets
  rw [hp, List.any_append]
  congr 1
  simp only [List.any_cons, List.any_nil, Bool.or_false]
  rw [Bool.eq_iff_iff, inL_iff, List.contains_iff_mem, List.mem_map]
  constructor
  · rintro ⟨x, h1, h2⟩
    have : x = l := by omega
    rwa [← this]
  · intro h; exact ⟨l, h, rfl⟩
theorem count_step {caps : List Int} {paths : List (List Int)} {st : St} {b : Rat} (h : FInv caps paths st) (hb : bestTo (share caps paths st) caps.length = some b) : (roundSt caps paths st).countP Option.isSome = st.countP Option.isSome + (roundOut caps paths st).length := by
  have hr : roundSt caps paths st = setAll st b (roundOut caps paths st) := by unfold roundSt; rw [hb]
  rw [hr]
  refine count_setAll b _ st (out_nodup caps paths st) fun u hu => ?_
  obtain ⟨h1, h2, _⟩ := (out_iff hb).1 hu
  exact ⟨by rw [h.len]; exact h1, h2⟩
theorem count_lt {st : St} (h : allDone st = false) : st.countP Option.isSome < st.length := by
  obtain ⟨u, hu, hn⟩ := at_none_of h
  apply Classical.byContradiction
  intro hc
  have h1 : st.countP Option.isSome ≤ st.length := List.countP_le_length
  have h2 := (List.countP_eq_length (p := Option.isSome) (l := st)).1 (by omega) st[u] (List.getElem_mem hu)
  unfold St.at_ at hn
  rw [List.getD_eq_getElem?_getD, List.getElem?_eq_getElem hu] at hn
  have hn : st[u] = none := hn
  rw [hn] at h2; cases h2
end Go.Proofs.YtaijpiebjhhkjaaGreatDoor
/- The walk of the reference's Fill. -/
namespace Go.Proofs.YtaijpiebjhhkjaaGreatDoor
open Go.RowKit
theorem ord_neg1 {t : Rat} (h : 0 < t) : ordQ t (-1) = 1 := by unfold ordQ; rw [if_neg (by grind), if_pos (by grind)]
theorem pos_num {q : Rat} (h : 0 < q) : decide (q.num < 0) = false := decide_eq_false (by have : 0 ≤ q.num := Rat.num_nonneg.2 (by grind); omega)
theorem eq_of_not {a b : Rat} (h1 : ¬ a < b) (h2 : ¬ b < a) : a = b := by grind
set_option maxHeartbeats 16000000 in
set_option maxRecDepth 100000 in
theorem refFill_any (C : Option Addr) (cc : Nat) (P : Option Addr) (cp : Nat) (caps : List Int) (paths : List (List Int)) (B : Nat) (w : World) (hB : B ≤ w.heap.size) (hc : Ints w B C cc caps) (hp : Rows2 w B P cp paths) (ok : NetOk caps paths) (h12 : caps.length ≤ 12) (hpl6 : ∀ p ∈ paths, p.length ≤ 1000) (K : Nat) (R : List Rat) (hK : FillEnds caps paths K R) :
    Calls Tryz.prog 24 #[.agg #[.slice C caps.length cc, .slice P paths.length cp]] w fun e w' => ∃ v u vs, e = .returned (.tuple #[v, u]) ∧ w'.ownsRow w.heap.size 37 2 v R.length (qcells R) ∧ NetOwn w' w.heap.size (.slice none 0 0) u vs [] (rounds caps paths K) ∧ Below w.heap.size w w' := by
  have hF1 := ok.F1
  have hF0 := ok.F0
  have hL0 := ok.L0
  have hRl := hK.len ok
  have hKF := hK.K_le ok
  have HMR := makeR paths.length hF1
  have HMD := makeD paths.length hF1
  have HMN := makeN caps.length h12
  have HINV := Lib.hid fun (k : Nat) (hk : k < K) => (show FInv caps paths (fillSt caps paths k) ∧ allDone (fillSt caps paths k) = false ∧ ∃ b, bestTo (share caps paths (fillSt caps paths k)) caps.length = some b ∧ 0 < b from by
    obtain ⟨h1, _⟩ := finv_at ok k fun i hi => hK.2.1 i (by omega)
    obtain ⟨b, hb⟩ := best_is h1 ok (hK.2.1 k hk)
    exact ⟨h1, hK.2.1 k hk, b, hb, (h1.next ok hb).2.2.1⟩)
  have HKD := Lib.hid hK.1
  have HKS := Lib.hid hK.2.2
  have HKC := Lib.hid hK.count_end
  have HRL := Lib.hid hRl
  have HPB := Lib.hid ok.path
  have HPL := Lib.hid hpl6
  have OK := Lib.hid ok
  have hpm := hp.cap; have hpl := hp.le
  have hcm := hc.cap; have hcl := hc.le
  unfold maxLen at hpm hcm
  have HC := Lib.hid hc; have HP := Lib.hid hp
  have HF0 : Hid (RFill (((w.alloc (.cells #[.slice C caps.length cc, .slice P paths.length cp] 42)).alloc (.cells (rateCells (List.replicate paths.length none)).toArray 37)).alloc (.cells (doneCells (List.replicate paths.length none)).toArray 4)) w.heap.size (w.heap.size + 1) (w.heap.size + 1 + 1) (.slice C caps.length cc) (.slice P paths.length cp) (fillSt caps paths 0)) := Lib.hid
    ⟨((Blk.new _ _ _).alloc _).alloc _, (Blk.new' _ _ _ (by simp)).alloc _, Blk.new' _ _ _ (by simp)⟩
  have HB0 : Hid (Below w.heap.size w (((w.alloc (.cells #[.slice C caps.length cc, .slice P paths.length cp] 42)).alloc (.cells (rateCells (List.replicate paths.length none)).toArray 37)).alloc (.cells (doneCells (List.replicate paths.length none)).toArray 4))) := Lib.hid ((((Below.refl _ _).alloc (Nat.le_refl _) _).alloc (by simp) _).alloc (by simp; omega) _)
  have HOS0 : Hid ((fillSt caps paths 0).countP Option.isSome = 0) := Lib.hid (by show (List.replicate paths.length none).countP _ = 0; rw [List.countP_replicate]; simp)
  obtain ⟨gr, hgr⟩ : ∃ x, x = w.heap.size + 1 := ⟨_, rfl⟩
  obtain ⟨gd, hgd⟩ : ∃ x, x = gr + 1 := ⟨_, rfl⟩
  clear hc hp hK hRl hpl6 ok
  obtain ⟨n0, n1, nf0, nf1, nz⟩ := HF0.out.net.two
  go_enter Tryz.func24, Tryz.ntmps24
  go_wp2
  rw [← hgr, ← hgd] at HF0
  rw [← hgr, ← hgd]
  have hgrz : w.heap.size ≤ gr := by omega
  have hgdz : w.heap.size ≤ gd := by omega
  clear hgr hgd n0 n1 nf0 nf1 nz
  go_loopw [6, 7] (fun v lf wr => ∃ (k : Nat) (vs : List Value), k ≤ K ∧ lf = .int .i64 ((paths.length : Int) - ((fillSt caps paths k).countP Option.isSome : Nat)) ∧ Hid (RFill wr w.heap.size gr gd (.slice C caps.length cc) (.slice P paths.length cp) (fillSt caps paths k)) ∧ Hid (NetOwn wr w.heap.size (.slice none 0 0) v vs [] (rounds caps paths k)) ∧ Hid (Below w.heap.size w wr)) (fun v _ _ => K - lenOf v)
  case atStart => exact ⟨0, [], Nat.zero_le _, by rw [HOS0.out]; simp, HF0, Lib.hid ⟨World.ownsRow_nil _ _ _ _, World.ownsRow_nil _ _ _ _, fun i u l h => by simp at h, fun i u h => by simp at h, fun i j u u' h => by simp at h⟩, HB0⟩
  case round =>
    clear HF0 HB0 HMR HMD HOS0
    obtain ⟨k, vs, hk, rfl, HF, HO, HB⟩ := hrel
    have hB1 := HB.out.size
    obtain ⟨P5, c5, rfl, _⟩ := HO.out.rows
    by_cases hlt : k < K
    · obtain ⟨hinv, hd, b0, hb0, hb0p⟩ := HINV.out k hlt
      have hcl0 := count_lt hd
      rw [hinv.len] at hcl0
      have hcs := count_step hinv hb0
      have hrl : (roundOut caps paths (fillSt caps paths k)).length ≤ 6 := Nat.le_trans (outTo_le _ _ _ _) hF1
      have hst1 : fillSt caps paths (k + 1) = setAll (fillSt caps paths k) b0 (roundOut caps paths (fillSt caps paths k)) := by show roundSt _ _ _ = _; unfold roundSt; rw [hb0]
      have HST1 := Lib.hid hst1
      have HCS : Hid ((fillSt caps paths (k + 1)).countP Option.isSome = (fillSt caps paths k).countP Option.isSome + (roundOut caps paths (fillSt caps paths k)).length) := Lib.hid hcs
      obtain ⟨cn, hcn⟩ : ∃ x, (fillSt caps paths k).countP Option.isSome = x := ⟨_, rfl⟩
      have HCN := Lib.hid hcn
      rw [hcn] at hcl0 ⊢
      have hgt : (0 : Int) < (paths.length : Int) - (cn : Int) := by omega
      have HOU : Hid (roundOut caps paths (fillSt caps paths k) = outTo paths (fillSt caps paths k) (linksTo (share caps paths (fillSt caps paths k)) caps.length) paths.length) := Lib.hid rfl
      obtain ⟨st, hst⟩ : ∃ st, fillSt caps paths k = st := ⟨_, rfl⟩
      have HST := Lib.hid hst
      rw [hst] at hinv hb0 HF HOU HST1 HCS hrl
      have HSL := Lib.hid hinv.len
      have hLI := fun (l : Nat) (hl : l < caps.length) (us : List Nat) (hu : us.length ≤ 6) => hinv.left_in OK.out hl us hu
      have HLI := Lib.hid hLI
      have HRI := Lib.hid fun (u : Nat) (q : Rat) (hq : st.at_ u = some q) => hinv.rate_in OK.out hq
      have HSI := Lib.hid fun (l : Nat) (s : Rat) (hl : l < caps.length) (hs : share caps paths st l = some s) => (show QIn s ∧ 0 < s from by
        refine ⟨hinv.share_in OK.out hl hs, ?_⟩
        obtain ⟨b, hb, hle⟩ := bestTo_le hl hs
        rw [hb0] at hb
        injection hb with hb
        subst hb
        grind)
      have HB0 := Lib.hid hb0
      obtain ⟨ou, hou⟩ : ∃ x, roundOut caps paths st = x := ⟨_, rfl⟩
      rw [hou] at HOU HST1 HCS hrl
      have HOUR : Hid (roundOut caps paths (fillSt caps paths k) = ou) := Lib.hid (by rw [hst]; exact hou)
      clear hinv hd hb0 hcs hst1 hcn hLI hst hou hb0p
      obtain ⟨wo, hwo⟩ : ∃ x, x = wr := ⟨_, rfl⟩
      rw [← hwo] at HF HO HB hB1 ⊢
      clear hwo
      obtain ⟨n0, n1, nf0, nf1, nz⟩ := HF.out.net.two
      have HM1 := Lib.hid HF
      go_wp2_with fail
      refine (refWhole_any (-1) _).mono ?_; rintro e w1 ⟨rfl, hb1⟩
      have HF1 := Lib.hid ((HF.out.go hb1).go (((Below.refl _ _).alloc (Nat.le_refl _) (.cells #[.int .i64 (-1), .int .i64 1] 37))))
      have HGB1 := Lib.hid ((Blk.new w1 37 #[.int .i64 (-1), .int .i64 1]).alloc (.cells (nrw caps.length []).toArray 4))
      have HGN1 := Lib.hid (Blk.new' (w1.alloc (.cells #[.int .i64 (-1), .int .i64 1] 37)) 4 (nrw caps.length []).toArray (g := w1.heap.size + 1) (by simp))
      have hba := (hb1.alloc hb1.size (.cells #[.int .i64 (-1), .int .i64 1] 37)).alloc (by have := hb1.size; simp; omega) (.cells (nrw caps.length []).toArray 4)
      have HBA := Lib.hid hba
      have hz1 := hb1.size
      obtain ⟨gb, hgb⟩ : ∃ x, x = w1.heap.size := ⟨_, rfl⟩
      have hgbz : wo.heap.size ≤ gb := by omega
      rw [← hgb] at HGB1 HGN1
      clear hba hb1 n0 n1 nf0 nf1 nz
      obtain ⟨n0, n1, nf0, nf1, nz⟩ := HF1.out.net.two
      go_wp2
      rw [← hgb]
      obtain ⟨w2, hw2⟩ : ∃ x, x = (w1.alloc (.cells #[.int .i64 (-1), .int .i64 1] 37)).alloc (.cells (nrw caps.length []).toArray 4) := ⟨_, rfl⟩
      rw [← hw2] at HGB1 HGN1 HBA
      rw [← hw2]
      clear hgb hw2 n0 n1 nf0 nf1 nz HF1 HM1
      go_loopw [9, 10] (fun nv i wr => ∃ l gn : Nat, l ≤ caps.length ∧ i = .int .i64 l ∧ nv = .slice (some ⟨gn, 0, none⟩) caps.length caps.length ∧ wo.heap.size ≤ gn ∧ Hid (Blk wr gn 4 (nrw caps.length (linksTo (share caps paths st) l)).toArray) ∧ Hid (Blk wr gb 37 #[.int .i64 (bestFr (bestTo (share caps paths st) l)).t, .int .i64 (bestFr (bestTo (share caps paths st) l)).b]) ∧ Hid (Below wo.heap.size wo wr)) (fun _ i _ => caps.length - (intOf i).toNat)
      case atStart => exact ⟨0, gb + 1, Nat.zero_le _, rfl, rfl, by omega, HGN1, HGB1, HBA⟩
      case round =>
        clear HGN1 HGB1 HBA
        obtain ⟨l, gn, hl, rfl, rfl, hgnz, HGN, HGB, HBW⟩ := hrel
        have hbw1 := HBW.out.size
        have HFR := Lib.hid (HF.out.go HBW.out)
        obtain ⟨n0, n1, nf0, nf1, nz⟩ := HFR.out.net.two
        by_cases hll : l < caps.length
        · have l0 : (0 : Int) ≤ (l : Int) := by omega
          have l1 : (l : Int) < (caps.length : Int) := by omega
          obtain ⟨us, hus⟩ : ∃ us, users paths l = us := ⟨_, rfl⟩
          have hul : us.length ≤ 6 := by have := users_len paths l; rw [← hus]; omega
          have HUS := Lib.hid hus
          have HFL : Hid (freeL paths st l = freeOf st us) := Lib.hid (by unfold freeL; rw [hus])
          have HLO : Hid (leftOf caps paths st l = leftTo st (capQ caps l) us) := Lib.hid (by unfold leftOf; rw [hus])
          have HBP := Lib.hid ((HB.out).trans (HBW.out.mono hB1))
          obtain ⟨bc, oc, rfl, hbc, hcell⟩ := caps_get (HC.out.below HBP.out hB) hll
          obtain ⟨cv, hcv⟩ : ∃ x, caps.getD l 0 = x := ⟨_, rfl⟩
          rw [hcv] at hcell
          have HCQ : Hid (capQ caps l = (cv : Rat)) := Lib.hid (by unfold capQ; rw [hcv])
          have hbcz : bc < wr.heap.size := by omega
          clear hus hcv
          go_wp2_with fail
          refine (refUsers_any l (.slice (some ⟨bc, oc, none⟩) caps.length cc) P cp _ paths us B _ (by omega) (HP.out.below HBP.out hB) (by omega) HUS.out rfl).mono ?_; rintro e w3 ⟨A3, c3, rfl, hi3, hl3, hc3, hb3⟩
          have HI3 := Lib.hid hi3
          unfold maxLen at hc3
          have hcell3 : w3.cell? ⟨bc, oc + l, none⟩ = some (.int .i64 cv) := (hb3.cell (p := ⟨bc, oc + l, none⟩) hbcz).trans hcell
          have HGN3 := Lib.hid (HGN.out.go hb3); have HGB3 := Lib.hid (HGB.out.go hb3); have HF3 := Lib.hid (HFR.out.go hb3); have HB3 := Lib.hid (HBW.out.trans (hb3.mono hbw1))
          have hz3 := HB3.out.size
          have hB3z : wr.heap.size ≤ w3.heap.size := hb3.size
          obtain ⟨B3, hB3⟩ : ∃ x, x = wr.heap.size := ⟨_, rfl⟩
          have hgbl : gb < B3 := by rw [hB3]; exact HGB.out.lt
          have hgnl : gn < B3 := by rw [hB3]; exact HGN.out.lt
          rw [← hB3] at HI3 hB3z
          clear hi3 hb3 hcell HGN HGB HFR HBW n0 n1 nf0 nf1 nz hB3
          obtain ⟨n0, n1, nf0, nf1, nz⟩ := HF3.out.net.two
          go_wp2_with fail
          refine (refWhole_any cv _).mono ?_; rintro e w4 ⟨rfl, hb4⟩
          have HS5 := Lib.hid (Blk.new w4 37 #[.int .i64 cv, .int .i64 1])
          have hba := hb4.alloc hb4.size (.cells #[.int .i64 cv, .int .i64 1] 37)
          have HI5 := Lib.hid (own_below HI3.out hba)
          have HGN5 := Lib.hid (HGN3.out.go hba); have HGB5 := Lib.hid (HGB3.out.go hba); have HB5 := Lib.hid (HB3.out.trans (hba.mono hz3))
          obtain ⟨gs, hgs⟩ : ∃ x, x = w4.heap.size := ⟨_, rfl⟩
          have hgsz : B3 < gs ∨ B3 = gs := by have := hb4.size; omega
          have hgsw : wo.heap.size ≤ gs := by have := hb4.size; omega
          have hgsb : gs ≠ gb := by omega
          have hgsn : gs ≠ gn := by omega
          rw [← hgs] at HS5
          have HIN : Hid (Value.ownBlock (.slice A3 us.length c3) ≠ some gs) := Lib.hid fun e => by have := (HI3.out.lt gs e).2; have := hb4.size; omega
          clear hba hb4 HI3 HGN3 HGB3 HB3 HF3 n0 n1 nf0 nf1 nz hcell3
          go_wp2
          rw [← hgs]
          obtain ⟨w5, hw5⟩ : ∃ x, x = w4.alloc (.cells #[.int .i64 cv, .int .i64 1] 37) := ⟨_, rfl⟩
          rw [← hw5] at HS5 HI5 HGN5 HGB5 HB5
          rw [← hw5]
          clear hgs hw5
          go_loopw [12, 14] (fun fr i wr => ∃ j : Nat, j ≤ us.length ∧ i = .int .i64 j ∧ fr = .int .i64 (freeOf st (us.take j)) ∧ Hid (Blk wr gs 37 #[.int .i64 (leftTo st (cv : Rat) (us.take j)).num, .int .i64 (leftTo st (cv : Rat) (us.take j)).den]) ∧ Hid (wr.ownsRow B3 3 1 (.slice A3 us.length c3) us.length ((us.map fun (i : Nat) => (i : Int)).map (Value.int .i64))) ∧ Hid (Blk wr gn 4 (nrw caps.length (linksTo (share caps paths st) l)).toArray) ∧ Hid (Blk wr gb 37 #[.int .i64 (bestFr (bestTo (share caps paths st) l)).t, .int .i64 (bestFr (bestTo (share caps paths st) l)).b]) ∧ Hid (Below wo.heap.size wo wr)) (fun _ i _ => us.length - (intOf i).toNat)
          case atStart => exact ⟨0, Nat.zero_le _, rfl, rfl, HS5, HI5, HGN5, HGB5, HB5⟩
          case round =>
            clear HS5 HI5 HGN5 HGB5 HB5
            obtain ⟨j, hj, rfl, rfl, HS, HI, HGN, HGB, HBW⟩ := hrel
            have hbw1 := HBW.out.size
            have HFR := Lib.hid (HF.out.go HBW.out)
            have hfj : freeOf st (us.take j) ≤ j := Nat.le_trans List.countP_le_length (by rw [List.length_take]; omega)
            obtain ⟨s, hs⟩ : ∃ s, leftTo st (cv : Rat) (us.take j) = s := ⟨_, rfl⟩
            have hsin : QIn s := by rw [← hs, ← HCQ.out]; exact HLI.out l hll _ (by rw [List.length_take]; omega)
            rw [hs] at HS
            by_cases hjl : j < us.length
            · have j0 : (0 : Int) ≤ (j : Int) := by omega
              have j1 : (j : Int) < (us.length : Int) := by omega
              obtain ⟨b3, o3, x3, rfl, hb3, hc3c, _, HT, HX⟩ := (own_ints' HI.out).elem (k := j) (by simpa using hjl)
              obtain ⟨hu, hj1, hj2⟩ := users_get HUS.out hjl
              have hx3 : x3 = ((us.getD j 0 : Nat) : Int) := by have := HX.out; rw [List.getD_eq_getElem?_getD, List.getElem?_map, hj1] at this; exact this.symm
              subst hx3
              obtain ⟨u, hu'⟩ : ∃ u, us.getD j 0 = u := ⟨_, rfl⟩
              rw [hu'] at hu hj1 hj2 hc3c
              have hust : u < st.length := by rw [HSL.out]; exact hu
              have hfs : freeOf st (us.take (j + 1)) = freeOf st (us.take j) + (if (st.at_ u).isNone then 1 else 0) := by rw [hj2]; exact freeOf_snoc st (us.take j) u
              have hls : leftTo st (cv : Rat) (us.take (j + 1)) = leftStep st (leftTo st (cv : Rat) (us.take j)) u := by rw [hj2]; exact leftTo_snoc st _ (us.take j) u
              rw [hs] at hls
              have u0 : (0 : Int) ≤ (u : Int) := by omega
              have u1 : (u : Int) < (paths.length : Int) := by omega
              have hd := HFR.out.dcell hust
              have hr := HFR.out.rcell hust
              cases hat : st.at_ u with
              | none =>
                rw [hat] at hfs hd
                have hls2 : leftTo st (cv : Rat) (us.take (j + 1)) = s := by rw [hls]; unfold leftStep; rw [hat]
                simp only [Option.isNone_none, if_true] at hfs
                have HFS := Lib.hid hfs; have HLS := Lib.hid hls2
                have hd' : wr.cell? ⟨gd, u, none⟩ = some (.bool false) := hd
                clear hls hls2 hfs hr hd hat hs HT HX hj1 hj2 hu' hsin
                go_wp2
                go_roundw
                case rel => exact ⟨j + 1, by omega, by go_num, by rw [HFS.out]; go_num, by rw [HLS.out]; exact HS, HI, HGN, HGB, HBW⟩
                case measure => simp [intOf]; omega
              | some q =>
                rw [hat] at hfs hd hr
                have hls2 : leftTo st (cv : Rat) (us.take (j + 1)) = s + -q := by rw [hls]; unfold leftStep; rw [hat]
                have hsin2 : QIn (s + -q) := by rw [← hls2, ← HCQ.out]; exact HLI.out l hll _ (by rw [List.length_take]; omega)
                obtain ⟨hq, hqm⟩ := HRI.out u q hat
                have HMI := Lib.hid fun W => refMinus_q q (-q) W hq rfl
                have HSU := Lib.hid fun W => refSum_q s (-q) (s + -q) W hsin hqm rfl
                simp only [Option.isNone_some, Bool.false_eq_true, if_false, Nat.add_zero] at hfs
                have HFS := Lib.hid hfs; have HAT := Lib.hid hat
                have hd' : wr.cell? ⟨gd, u, none⟩ = some (.bool true) := hd
                obtain ⟨r0, r1⟩ := hr
                simp only [optFr, frQ] at r0 r1
                obtain ⟨s0, s1, sf0, sf1, sz⟩ := HS.out.two
                have hrz := HFR.out.rate.lt
                have hb3z : b3 < wr.heap.size := by omega
                have HLS := Lib.hid hls2
                clear hls hls2 hfs hd hat hs HT HX hj1 hj2 hu' hsin hsin2 hq hqm
                obtain ⟨q', hq'⟩ : ∃ x, -q = x := ⟨_, rfl⟩
                rw [hq'] at HMI HSU HLS
                obtain ⟨s', hs'⟩ : ∃ x, s + q' = x := ⟨_, rfl⟩
                rw [hs'] at HSU HLS
                have HBL : Hid (Below wr.heap.size wr wr) := Lib.hid (Below.refl _ _)
                clear hq' hs'
                go_wp2_with fail
                go_region_law (first
                  | (go_simp; go_at_call 50; refine (HMI.out _).mono ?_; rintro e w6 ⟨rfl, hb⟩; replace HBL : Hid (Below wr.heap.size wr w6) := Lib.hid (HBL.out.trans ((show Below _ _ w6 by first | exact hb | exact (Below.refl _ _).drew.trans hb | exact (Below.refl _ _).drew.drew.trans hb).mono HBL.out.size)); clear hb; have y0 := (HBL.out.cell (p := ⟨gs, 0, none⟩) sz).trans s0; have y1 := (HBL.out.cell (p := ⟨gs, 1, none⟩) sz).trans s1; have hz6 := HBL.out.size)
                  | (go_simp; go_at_call 49; refine (HSU.out _).mono ?_; rintro e w7 ⟨rfl, hb⟩; replace HBL : Hid (Below wr.heap.size wr w7) := Lib.hid (HBL.out.trans ((show Below _ _ w7 by first | exact hb | exact (Below.refl _ _).drew.trans hb | exact (Below.refl _ _).drew.drew.trans hb).mono HBL.out.size)); clear hb; have HS7 := Lib.hid (HS.out.go HBL.out); obtain ⟨z0, z1, zf0, zf1, zz⟩ := HS7.out.two))
                all_goals
                  go_wp2
                  go_roundw
                  case rel => exact ⟨j + 1, by omega, by go_num, by rw [HFS.out], by rw [HLS.out]; exact Lib.hid ((HS7.out.s2_0 _).s2_1 _), Lib.hid (own_farB (own_farB (own_below HI.out HBL.out) HIN.out _) HIN.out _), Lib.hid (((HGN.out.go HBL.out).far (p := ⟨gs, 0, none⟩) hgsn.symm _).far (p := ⟨gs, 1, none⟩) hgsn.symm _), Lib.hid (((HGB.out.go HBL.out).far (p := ⟨gs, 0, none⟩) hgsb.symm _).far (p := ⟨gs, 1, none⟩) hgsb.symm _), Lib.hid (((HBW.out.trans (HBL.out.mono hbw1)).setCell (p := ⟨gs, 0, none⟩) hgsw _).setCell (p := ⟨gs, 1, none⟩) hgsw _)⟩
                  case measure => simp [intOf]; omega
            · obtain rfl : j = us.length := by omega
              rw [List.take_length] at hfj hs
              simp only [List.take_length]
              have hsl := HLO.out
              rw [HCQ.out, hs] at hsl
              obtain ⟨n, hn⟩ : ∃ n, freeOf st us = n := ⟨_, rfl⟩
              have hshd : share caps paths st l = if n = 0 then none else some (s / (n : Rat)) := by unfold share; rw [HFL.out, hsl, hn]
              rw [hn] at hfj ⊢
              clear hjl hj hn hsl
              by_cases hn0 : n = 0
              · subst hn0
                rw [if_pos rfl] at hshd
                obtain ⟨e1, e2⟩ := best_skip hshd
                have HE1 := Lib.hid e1; have HE2 := Lib.hid e2
                clear hshd e1 e2 hs hsin
                go_wp2
                go_roundw
                case rel => exact ⟨l + 1, gn, by omega, by go_num, rfl, hgnz, by rw [HE2.out]; exact HGN, by rw [HE1.out]; exact HGB, HBW⟩
                case measure => simp [intOf]; omega
              · rw [if_neg hn0] at hshd
                have hsi := HSI.out l _ hll hshd
                have HLW := Lib.hid fun W => refLow_q s (s / (n : Rat)) (n : Int) W hsin (by omega) (by omega) (by rw [Rat.intCast_natCast])
                obtain ⟨t, ht⟩ : ∃ t, s / (n : Rat) = t := ⟨_, rfl⟩
                rw [ht] at hshd HLW hsi
                obtain ⟨htq, htp⟩ := hsi
                have hn1 : ((n : Int) == 0) = false := beq_eq_false_iff_ne.2 (by omega)
                have hwr : IntKind.i64.wrap ((s.den : Int) * (n : Int)) = (s.den : Int) * (n : Int) := by
                  obtain ⟨h0, h1, _, _⟩ := hsin
                  have h2 : (s.den : Int) * (n : Int) ≤ 100000000 * 6 := Int.mul_le_mul h1 (by omega) (by omega) (by omega)
                  have h3 : 0 ≤ (s.den : Int) * (n : Int) := Int.mul_nonneg (by omega) (by omega)
                  exact IntWalk.i64_in _ (by omega)
                have HSH := Lib.hid hshd; have HTQ := Lib.hid htq; have HTP := Lib.hid htp
                obtain ⟨s0, s1, sf0, sf1, sz⟩ := HS.out.two
                clear hs ht hshd htq htp hn0 hsin
                go_wp2_with fail
                refine (HLW.out _).mono ?_; rintro e w6 ⟨rfl, hb6⟩
                have HS6 := Lib.hid (((HS.out.go hb6).s2_0 (.int .i64 t.num)).s2_1 (.int .i64 t.den))
                have HGN6 := Lib.hid (((HGN.out.go hb6).far (p := ⟨gs, 0, none⟩) hgsn.symm (.int .i64 t.num)).far (p := ⟨gs, 1, none⟩) hgsn.symm (.int .i64 t.den))
                have HGB6 := Lib.hid (((HGB.out.go hb6).far (p := ⟨gs, 0, none⟩) hgsb.symm (.int .i64 t.num)).far (p := ⟨gs, 1, none⟩) hgsb.symm (.int .i64 t.den))
                have HB6 := Lib.hid (((HBW.out.trans (hb6.mono hbw1)).setCell (p := ⟨gs, 0, none⟩) hgsw (.int .i64 t.num)).setCell (p := ⟨gs, 1, none⟩) hgsw (.int .i64 t.den))
                have HSX := Lib.hid (HS.out.go hb6)
                obtain ⟨s0', s1', sf0', sf1', sz'⟩ := HSX.out.two
                clear hb6 s0 s1 sf0 sf1 sz
                go_upto_region 22 with (fail)
                obtain ⟨w7, hw7⟩ : ∃ x, x = (w6.setCell ⟨gs, 0, none⟩ (.int .i64 t.num)).setCell ⟨gs, 1, none⟩ (.int .i64 t.den) := ⟨_, rfl⟩
                rw [← hw7] at HS6 HGN6 HGB6 HB6 ⊢
                clear hw7 HS HGN HGB HBW HFR HSX s0' s1' sf0' sf1' sz' HI
                have hz7 := HB6.out.size
                obtain ⟨s0, s1, sf0, sf1, sz⟩ := HS6.out.two
                obtain ⟨g0, g1, gf0, gf1, gz⟩ := HGB6.out.two
                have HF7 := Lib.hid (HF.out.go HB6.out)
                obtain ⟨n0, n1, nf0, nf1, nz⟩ := HF7.out.net.two
                cases hbo : bestTo (share caps paths st) l with
                | none =>
                  obtain ⟨e1, e2⟩ := best_less HSH.out (.inl hbo)
                  have HE1 := Lib.hid e1; have HE2 := Lib.hid e2
                  rw [hbo] at g0 g1
                  have g0' : w7.cell? ⟨gb, 0, none⟩ = some (.int .i64 (-1)) := g0
                  have g1' : w7.cell? ⟨gb, 1, none⟩ = some (.int .i64 1) := g1
                  have HOR := Lib.hid fun W => (show Calls Tryz.prog 51 #[.agg #[.int .i64 t.num, .int .i64 t.den], .agg #[.int .i64 (-1), .int .i64 1]] W fun e w' => e = .returned (.int .i64 1) ∧ Below W.heap.size W w' from by
                    have := refOrder_q t (-1) 1 W HTQ.out (by decide) (ord_neg1 HTP.out)
                    exact this)
                  clear g0 g1 e1 e2 hbo
                  go_wp2_with fail
                  refine (HOR.out _).mono ?_; rintro e w8 ⟨rfl, hb8⟩
                  have HS8 := Lib.hid (HS6.out.go hb8); have HGB8 := Lib.hid (HGB6.out.go hb8); have HB8 := Lib.hid (HB6.out.trans (hb8.mono hz7)); have HF8 := Lib.hid (HF7.out.go hb8)
                  have hz8 := HB8.out.size
                  have xc0 : w8.cell? ⟨gb, 0, none⟩ = some (.int .i64 (-1)) := (hb8.cell (p := ⟨gb, 0, none⟩) gz).trans g0'
                  clear hb8 g0' g1' gf0 gf1 gz s0 s1 sf0 sf1 sz n0 n1 nf0 nf1 nz
                  obtain ⟨s0, s1, sf0, sf1, sz⟩ := HS8.out.two
                  obtain ⟨_, _, xf0, xf1, xz⟩ := HGB8.out.two
                  go_upto_region 25 with (fail)
                  have HGB9 := Lib.hid ((HGB8.out.s2_0 (.int .i64 t.num)).s2_1 (.int .i64 t.den))
                  have HB9 := Lib.hid ((HB8.out.setCell (p := ⟨gb, 0, none⟩) hgbz (.int .i64 t.num)).setCell (p := ⟨gb, 1, none⟩) hgbz (.int .i64 t.den))
                  obtain ⟨w9, hw9⟩ : ∃ x, x = (w8.setCell ⟨gb, 0, none⟩ (.int .i64 t.num)).setCell ⟨gb, 1, none⟩ (.int .i64 t.den) := ⟨_, rfl⟩
                  rw [← hw9] at HGB9 HB9 ⊢
                  clear hw9 HS8 HGB8 HB8 HF8 s0 s1 sf0 sf1 sz xf0 xf1 xz xc0
                  have hz9 := HB9.out.size
                  have HF9 := Lib.hid (HF.out.go HB9.out)
                  obtain ⟨n0, n1, nf0, nf1, nz⟩ := HF9.out.net.two
                  have hsetl : (nrw caps.length []).set l (.bool true) = nrw caps.length (linksTo (share caps paths st) (l + 1)) := by rw [nrw_set _ hll, List.nil_append, HE2.out]
                  have HGN10 := Lib.hid (show Blk (w9.alloc (.cells ((nrw caps.length []).set l (.bool true)).toArray 4)) w9.heap.size 4 (nrw caps.length (linksTo (share caps paths st) (l + 1))).toArray from by rw [← hsetl]; exact Blk.new _ _ _)
                  have y0 : (nrw caps.length [])[l]? = some (.bool false) := nrw_at [] hll
                  have HGB10 := Lib.hid (HGB9.out.alloc (.cells ((nrw caps.length []).set l (.bool true)).toArray 4))
                  have HB10 := Lib.hid (HB9.out.alloc hz9 (.cells ((nrw caps.length []).set l (.bool true)).toArray 4))
                  have hnl := nrw_len caps.length []
                  have hnl2 : l < (nrw caps.length []).length := by omega
                  clear hsetl
                  go_wp2
                  go_roundw
                  case rel => exact ⟨l + 1, w9.heap.size, by omega, by go_num, rfl, hz9, HGN10, by rw [HE1.out]; exact HGB10, HB10⟩
                  case measure => simp [intOf]; omega
                | some bb =>
                  rw [hbo] at g0 g1
                  have g0' : w7.cell? ⟨gb, 0, none⟩ = some (.int .i64 bb.num) := g0
                  have g1' : w7.cell? ⟨gb, 1, none⟩ = some (.int .i64 bb.den) := g1
                  obtain ⟨lb, hlb, hsb⟩ := bestTo_in hbo
                  obtain ⟨hbq, hbp⟩ := HSI.out lb bb (by omega) hsb
                  have hbn := pos_num hbp
                  have HBQ := Lib.hid hbq
                  clear g0 g1 hlb hsb hbq hbp
                  by_cases hlt1 : t < bb
                  · obtain ⟨e1, e2⟩ := best_less HSH.out (.inr ⟨bb, hbo, hlt1⟩)
                    have HE1 := Lib.hid e1; have HE2 := Lib.hid e2
                    have HOR := Lib.hid fun W => refOrder_q t bb (-1) W HTQ.out HBQ.out (by unfold ordQ; rw [if_pos hlt1])
                    clear e1 e2 hbo hlt1
                    go_wp2_with fail
                    refine (HOR.out _).mono ?_; rintro e w8 ⟨rfl, hb8⟩
                    have HS8 := Lib.hid (HS6.out.go hb8); have HGB8 := Lib.hid (HGB6.out.go hb8); have HB8 := Lib.hid (HB6.out.trans (hb8.mono hz7)); have HF8 := Lib.hid (HF7.out.go hb8)
                    have hz8 := HB8.out.size
                    have xc0 : w8.cell? ⟨gb, 0, none⟩ = some (.int .i64 bb.num) := (hb8.cell (p := ⟨gb, 0, none⟩) gz).trans g0'
                    clear hb8 g0' g1' gf0 gf1 gz s0 s1 sf0 sf1 sz n0 n1 nf0 nf1 nz
                    obtain ⟨s0, s1, sf0, sf1, sz⟩ := HS8.out.two
                    obtain ⟨_, _, xf0, xf1, xz⟩ := HGB8.out.two
                    go_upto_region 25 with (fail)
                    have HGB9 := Lib.hid ((HGB8.out.s2_0 (.int .i64 t.num)).s2_1 (.int .i64 t.den))
                    have HB9 := Lib.hid ((HB8.out.setCell (p := ⟨gb, 0, none⟩) hgbz (.int .i64 t.num)).setCell (p := ⟨gb, 1, none⟩) hgbz (.int .i64 t.den))
                    obtain ⟨w9, hw9⟩ : ∃ x, x = (w8.setCell ⟨gb, 0, none⟩ (.int .i64 t.num)).setCell ⟨gb, 1, none⟩ (.int .i64 t.den) := ⟨_, rfl⟩
                    rw [← hw9] at HGB9 HB9 ⊢
                    clear hw9 HS8 HGB8 HB8 HF8 s0 s1 sf0 sf1 sz xf0 xf1 xz xc0
                    have hz9 := HB9.out.size
                    have HF9 := Lib.hid (HF.out.go HB9.out)
                    obtain ⟨n0, n1, nf0, nf1, nz⟩ := HF9.out.net.two
                    have hsetl : (nrw caps.length []).set l (.bool true) = nrw caps.length (linksTo (share caps paths st) (l + 1)) := by rw [nrw_set _ hll, List.nil_append, HE2.out]
                    have HGN10 := Lib.hid (show Blk (w9.alloc (.cells ((nrw caps.length []).set l (.bool true)).toArray 4)) w9.heap.size 4 (nrw caps.length (linksTo (share caps paths st) (l + 1))).toArray from by rw [← hsetl]; exact Blk.new _ _ _)
                    have y0 : (nrw caps.length [])[l]? = some (.bool false) := nrw_at [] hll
                    have HGB10 := Lib.hid (HGB9.out.alloc (.cells ((nrw caps.length []).set l (.bool true)).toArray 4))
                    have HB10 := Lib.hid (HB9.out.alloc hz9 (.cells ((nrw caps.length []).set l (.bool true)).toArray 4))
                    have hnl := nrw_len caps.length []
                    have hnl2 : l < (nrw caps.length []).length := by omega
                    clear hsetl
                    go_wp2
                    go_roundw
                    case rel => exact ⟨l + 1, w9.heap.size, by omega, by go_num, rfl, hz9, HGN10, by rw [HE1.out]; exact HGB10, HB10⟩
                    case measure => simp [intOf]; omega
                  · by_cases hlt2 : bb < t
                    · obtain ⟨e1, e2⟩ := best_more HSH.out hbo hlt2
                      have HE1 := Lib.hid e1; have HE2 := Lib.hid e2
                      have HOR := Lib.hid fun W => refOrder_q t bb 1 W HTQ.out HBQ.out (by unfold ordQ; rw [if_neg hlt1, if_pos hlt2])
                      have HBO := Lib.hid hbo
                      clear e1 e2 hbo hlt1 hlt2
                      go_wp2_with fail
                      refine (HOR.out _).mono ?_; rintro e w8 ⟨rfl, hb8⟩
                      have HGN8 := Lib.hid (HGN6.out.go hb8); have HGB8 := Lib.hid (HGB6.out.go hb8); have HB8 := Lib.hid (HB6.out.trans (hb8.mono hz7))
                      rw [HBO.out] at HGB8
                      obtain ⟨x0, x1, xf0, xf1, xz⟩ := HGB8.out.two
                      have x0' : w8.cell? ⟨gb, 0, none⟩ = some (.int .i64 bb.num) := x0
                      clear x0 hb8 g0' g1' gf0 gf1 gz s0 s1 sf0 sf1 sz n0 n1 nf0 nf1 nz
                      go_wp2
                      go_roundw
                      case rel => exact ⟨l + 1, gn, by omega, by go_num, rfl, hgnz, by rw [HE2.out]; exact HGN8, by rw [HE1.out]; exact HGB8, HB8⟩
                      case measure => simp [intOf]; omega
                    · have hsb := eq_of_not hlt1 hlt2
                      subst hsb
                      obtain ⟨e1, e2⟩ := best_same HSH.out hbo
                      have HE1 := Lib.hid e1; have HE2 := Lib.hid e2
                      have HOR := Lib.hid fun W => refOrder_q t t 0 W HTQ.out HTQ.out (by unfold ordQ; rw [if_neg hlt1, if_neg hlt1])
                      have HBO := Lib.hid hbo
                      clear e1 e2 hbo hlt1 hlt2
                      go_wp2_with fail
                      refine (HOR.out _).mono ?_; rintro e w8 ⟨rfl, hb8⟩
                      have HGN8 := Lib.hid (HGN6.out.go hb8); have HGB8 := Lib.hid (HGB6.out.go hb8); have HB8 := Lib.hid (HB6.out.trans (hb8.mono hz7))
                      rw [HBO.out] at HGB8
                      obtain ⟨x0, x1, xf0, xf1, xz⟩ := HGB8.out.two
                      have x0' : w8.cell? ⟨gb, 0, none⟩ = some (.int .i64 t.num) := x0
                      have y0 := HGN8.out.cell l
                      have yf0 := HGN8.out.frozen l
                      rw [List.getElem?_toArray, nrw_at _ hll] at y0
                      have hgnz8 := HGN8.out.lt
                      have HGN9 := Lib.hid (HGN8.out.set_ l (.bool true))
                      rw [List.setIfInBounds_toArray, nrw_set _ hll, ← HE2.out] at HGN9
                      have hgbn : gb ≠ gn := HGB8.out.ne_ HGN8.out (by decide)
                      clear x0 hb8 g0' g1' gf0 gf1 gz s0 s1 sf0 sf1 sz n0 n1 nf0 nf1 nz
                      go_wp2
                      go_roundw
                      case rel => exact ⟨l + 1, gn, by omega, by go_num, rfl, hgnz, HGN9, by rw [HE1.out]; exact Lib.hid (HGB8.out.far (p := ⟨gn, l, none⟩) hgbn _), Lib.hid (HB8.out.setCell (p := ⟨gn, l, none⟩) hgnz _)⟩
                      case measure => simp [intOf]; omega
        · obtain rfl : l = caps.length := by omega
          rw [HB0.out] at HGB
          obtain ⟨LK, hLK⟩ : ∃ x, linksTo (share caps paths st) caps.length = x := ⟨_, rfl⟩
          rw [hLK] at HGN
          rw [hLK] at HOU
          clear hLK
          obtain ⟨w3, hw3⟩ : ∃ x, x = wr := ⟨_, rfl⟩
          rw [← hw3] at HGN HGB HBW HFR n0 n1 nf0 nf1 nz hbw1 ⊢
          clear hw3
          have hgnl := HGN.out.lt
          have hgbl := HGB.out.lt
          have hdl := HFR.out.done.lt
          go_wp2
          go_loopw [16, 17] (fun v i wr => ∃ f : Nat, f ≤ paths.length ∧ i = .int .i64 f ∧ Hid (wr.ownsRow w3.heap.size 3 1 v (outTo paths st LK f).length ((ints (outTo paths st LK f)).map (Value.int .i64))) ∧ Hid (Below w3.heap.size w3 wr)) (fun _ i _ => paths.length - (intOf i).toNat)
          case atStart => exact ⟨0, Nat.zero_le _, rfl, Lib.hid (World.ownsRow_nil _ _ _ _), Lib.hid (Below.refl _ _)⟩
          case round =>
            clear n0 n1 nf0 nf1 nz
            obtain ⟨f, hf, rfl, HRO, HBR⟩ := hrel
            have hbr1 := HBR.out.size
            have HFX := Lib.hid (HFR.out.go HBR.out)
            obtain ⟨n0, n1, nf0, nf1, nz⟩ := HFX.out.net.two
            by_cases hfl : f < paths.length
            · have f0 : (0 : Int) ≤ (f : Int) := by omega
              have f1 : (f : Int) < (paths.length : Int) := by omega
              have HBP := Lib.hid (HB.out.trans ((HBW.out.trans (HBR.out.mono hbw1)).mono hB1))
              obtain ⟨bp, op, Ap, cp', p, rfl, hbp, hpcell, hpi, HPX⟩ := (HP.out.below HBP.out hB).elem hfl
              have hpg : paths.getD f [] = p := by rw [List.getD_eq_getElem?_getD, HPX.out]; rfl
              have hpmem : p ∈ paths := List.mem_of_getElem? HPX.out
              have hp3 := HPL.out p hpmem
              have HPI := Lib.hid hpi
              have HPO : Hid (∀ x ∈ p, 0 ≤ x ∧ x < (caps.length : Int)) := Lib.hid (HPB.out p hpmem).2
              have hpm2 := hpi.cap; have hpl2 := hpi.le
              unfold maxLen at hpm2
              have hos := outTo_succ paths st LK f
              rw [hpg] at hos
              have hole := outTo_le paths st LK f
              have hfst : f < st.length := by rw [HSL.out]; exact hfl
              have hdc := HFX.out.dcell hfst
              have HOS := Lib.hid hos
              have hbpz : bp < wr.heap.size := by omega
              obtain ⟨wq, hwq⟩ : ∃ x, x = wr := ⟨_, rfl⟩
              rw [← hwq] at HRO HBR HPI hdc hpcell n0 n1 nf0 nf1 nz HFX hbpz hbr1 ⊢
              clear hwq hpi HPX hpg hpmem hos
              have HGQ := Lib.hid (HGN.out.go HBR.out)
              go_wp2
              go_loopw [18, 19] (fun ov i wr => ∃ j : Nat, j ≤ p.length ∧ i = .int .i64 j ∧ ov = .bool (meets LK (p.take j)) ∧ wr = wq) (fun _ i _ => p.length - (intOf i).toNat)
              case atStart => exact ⟨0, Nat.zero_le _, rfl, rfl, rfl⟩
              case round =>
                obtain ⟨j, hj, rfl, rfl, rfl⟩ := hrel
                by_cases hjl : j < p.length
                · have j0 : (0 : Int) ≤ (j : Int) := by omega
                  have j1 : (j : Int) < (p.length : Int) := by omega
                  obtain ⟨bx, ox, x, rfl, hbx, hcx, _, HT, HXX⟩ := HPI.out.elem hjl
                  have hxm : x ∈ p := by
                    have h1 : x ∈ p.take (j + 1) := by rw [HT.out]; simp
                    exact List.mem_of_mem_take h1
                  obtain ⟨hx0, hx1⟩ := HPO.out x hxm
                  obtain ⟨lx, rfl⟩ := Int.eq_ofNat_of_zero_le hx0
                  have hlx : lx < caps.length := by omega
                  have hmt := meets_take (us := LK) (p := p) (j := j) (l := lx) HT.out
                  have y0 := HGQ.out.cell lx
                  rw [List.getElem?_toArray, nrw_at _ hlx] at y0
                  obtain ⟨b1, hb1⟩ : ∃ b, meets LK (p.take j) = b := ⟨_, rfl⟩
                  obtain ⟨b2, hb2⟩ : ∃ b, LK.contains lx = b := ⟨_, rfl⟩
                  rw [hb1, hb2] at hmt
                  rw [hb2] at y0
                  rw [hb1]
                  have HMT := Lib.hid hmt
                  clear hmt hb1 hb2 HT HXX hxm
                  cases b1
                  · go_wp2
                    go_roundw
                    case rel => exact ⟨j + 1, by omega, by go_num, by rw [HMT.out]; rfl, trivial⟩
                    case measure => simp [intOf]; omega
                  · go_wp2
                    go_roundw
                    case rel => exact ⟨j + 1, by omega, by go_num, by rw [HMT.out]; rfl, trivial⟩
                    case measure => simp [intOf]; omega
                · obtain rfl : j = p.length := by omega
                  rw [List.take_length]
                  obtain ⟨ob, hob⟩ : ∃ b, meets LK p = b := ⟨_, rfl⟩
                  obtain ⟨sb, hsb⟩ : ∃ b, (st.at_ f).isSome = b := ⟨_, rfl⟩
                  have hin : (st.at_ f).isNone = !sb := by rw [← hsb]; cases st.at_ f <;> rfl
                  have hosx := HOS.out
                  rw [hin, hob] at hosx
                  rw [hsb] at hdc
                  rw [hob]
                  have HOS2 := Lib.hid hosx
                  clear hosx hin hob hsb hjl hj
                  by_cases hcond : ob = true ∧ sb = false
                  · obtain ⟨rfl, rfl⟩ := hcond
                    go_wp2_with (at_builtin; refine wpList_push wr _ rfl (.tmp 148) (.tmp 150) 22 rfl w3.heap.size 3 (.int .i64 0) 1 8 Tryz.underlying22 Tryz.info_int rfl (by omega) _ _ _ rfl HRO.out rfl rfl (by simp [Value.oneCell']) (by omega) (by omega) hbr1 ?_; intro v' w7 hown7 hg7; have HO7 := Lib.hid hown7; have HB7 := Lib.hid (below_push HBR.out HRO.out hg7 (Nat.le_refl _) hbr1); clear hown7 hg7)
                    go_roundw
                    case rel => exact ⟨f + 1, by omega, by go_num, by rw [HOS2.out]; exact Lib.hid (by simpa [ints] using HO7.out), HB7⟩
                    case measure => simp [intOf]; omega
                  · have HOS3 : Hid (outTo paths st LK (f + 1) = outTo paths st LK f) := Lib.hid (by
                      rw [HOS2.out]
                      rw [if_neg]
                      · simp
                      · intro hc
                        rw [Bool.and_eq_true, Bool.not_eq_true'] at hc
                        exact hcond ⟨hc.2, hc.1⟩)
                    cases ob
                    · go_wp2
                      go_roundw
                      case rel => exact ⟨f + 1, by omega, by go_num, by rw [HOS3.out]; exact HRO, HBR⟩
                      case measure => simp [intOf]; omega
                    · have hsb : sb = true := by cases sb <;> first | rfl | exact absurd ⟨rfl, rfl⟩ hcond
                      subst hsb
                      clear hcond
                      go_wp2
                      go_roundw
                      case rel => exact ⟨f + 1, by omega, by go_num, by rw [HOS3.out]; exact HRO, HBR⟩
                      case measure => simp [intOf]; omega
            · obtain rfl : f = paths.length := by omega
              rw [← HOU.out] at HRO
              obtain ⟨U, cu, rfl, hu1, hu2, hui⟩ := own_sl HRO.out
              unfold maxLen at hu2
              have HUI := Lib.hid hui
              obtain ⟨w4, hw4⟩ : ∃ x, x = wr := ⟨_, rfl⟩
              rw [← hw4] at HRO HBR HFX HUI n0 n1 nf0 nf1 nz hbr1 ⊢
              clear hw4 hui hfl hf
              have HGB4 := Lib.hid (HGB.out.go HBR.out)
              have HO4 := Lib.hid (HO.out.below (HBW.out.trans (HBR.out.mono hbw1)))
              have HB4 := Lib.hid (HBW.out.trans (HBR.out.mono hbw1))
              have HOM : Hid (∀ u ∈ ou, u < st.length) := Lib.hid fun u hu => by rw [HSL.out]; rw [HOU.out] at hu; exact outTo_lt hu
              have HLT := Lib.hid HO.out.lt
              clear HGB HGN
              go_wp2
              go_loopw [20] (fun i wr => ∃ j : Nat, j ≤ ou.length ∧ i = .int .i64 j ∧ Hid (RFill wr w.heap.size gr gd (.slice C caps.length cc) (.slice P paths.length cp) (setAll st b0 (ou.take j))) ∧ Hid (Blk wr gb 37 #[.int .i64 b0.num, .int .i64 b0.den]) ∧ Hid (wr.ownsRow w3.heap.size 3 1 (.slice U ou.length cu) ou.length ((ints ou).map (Value.int .i64))) ∧ Hid (NetOwn wr w.heap.size (.slice none 0 0) (.slice P5 (rounds caps paths k).length c5) vs [] (rounds caps paths k)) ∧ Hid (Below w.heap.size w wr) ∧ w4.heap.size ≤ wr.heap.size) (fun i _ => ou.length - (intOf i).toNat)
              case atStart => exact ⟨0, Nat.zero_le _, rfl, HFX, HGB4, HRO, HO4, Lib.hid (HB.out.trans (HB4.out.mono hB1)), Nat.le_refl _⟩
              case round =>
                clear HFX HGB4 HRO HO4 n0 n1 nf0 nf1 nz
                obtain ⟨j, hj, rfl, HFJ, HGJ, HUJ, HOJ, HBJ, hzj⟩ := hrel
                by_cases hjl : j < ou.length
                · have j0 : (0 : Int) ≤ (j : Int) := by omega
                  have j1 : (j : Int) < (ou.length : Int) := by omega
                  obtain ⟨bu, ob, xu, hUe, hbu, hcu, _, HT, HXX⟩ := (own_ints' HUJ.out).elem (k := j) (by rw [ints_len]; exact hjl)
                  subst hUe
                  have hxu : xu = ((ou.getD j 0 : Nat) : Int) := by
                    have := HXX.out
                    unfold ints at this
                    rw [List.getD_eq_getElem?_getD, List.getElem?_map, List.getElem?_eq_getElem hjl] at this
                    rw [List.getD_eq_getElem?_getD, List.getElem?_eq_getElem hjl]; exact this.symm
                  obtain ⟨u, hu⟩ : ∃ u, ou.getD j 0 = u := ⟨_, rfl⟩
                  rw [hu] at hxu
                  subst hxu
                  have hum : u ∈ ou := by rw [← hu, List.getD_eq_getElem?_getD, List.getElem?_eq_getElem hjl]; exact List.getElem_mem hjl
                  have hus := HOM.out u hum
                  have huL : u < (setAll st b0 (ou.take j)).length := by rw [setAll_len]; exact hus
                  have hup : (u : Int) < (paths.length : Int) := by have := HSL.out; omega
                  have u0 : (0 : Int) ≤ (u : Int) := by omega
                  have hta : ou.take (j + 1) = ou.take j ++ [u] := by rw [List.take_add_one, List.getElem?_eq_getElem hjl]; congr 1; rw [← hu, List.getD_eq_getElem?_getD, List.getElem?_eq_getElem hjl]; rfl
                  have HSA : Hid ((setAll st b0 (ou.take j)).set u (some b0) = setAll st b0 (ou.take (j + 1))) := Lib.hid (by rw [hta, setAll_snoc])
                  have hd := HFJ.out.dcell huL
                  have hdf := HFJ.out.done.frozen u
                  obtain ⟨hr0, hr1⟩ := HFJ.out.rcell huL
                  have hrf0 := HFJ.out.rate.frozen (u * 2)
                  have hrf1 := HFJ.out.rate.frozen (u * 2 + 1)
                  have hgd' := HFJ.out.done.lt
                  have hgr' := HFJ.out.rate.lt
                  have hrd : gr ≠ gd := HFJ.out.rate.ne_ HFJ.out.done (by decide)
                  have hbr : gb ≠ gr := by have := HF.out.rate.lt; omega
                  have hbd : gb ≠ gd := by have := HF.out.done.lt; omega
                  obtain ⟨g0, g1, gf0, gf1, gz⟩ := HGJ.out.two
                  have hubl : bu ≠ gd := by have := HF.out.done.lt; have := (HUJ.out.lt bu (by rfl)).1; omega
                  have hubr : bu ≠ gr := by have := HF.out.rate.lt; have := (HUJ.out.lt bu (by rfl)).1; omega
                  have HPUT := Lib.hid (HFJ.out.put huL b0)
                  rw [HSA.out] at HPUT
                  have hbz := HBJ.out.size
                  clear HT HXX hu hum hta hus
                  have n4 : ¬ bu = gd := hubl
                  have n5 : ¬ bu = gr := hubr
                  have n6 : ¬ gb = gd := hbd
                  have n7 : ¬ gb = gr := hbr
                  have n8 : ¬ gr = gd := hrd
                  have hglr : gr < w3.heap.size := by have := HF.out.rate.lt; have := HBW.out.size; omega
                  have hgld : gd < w3.heap.size := by have := HF.out.done.lt; have := HBW.out.size; omega
                  have HRX := Lib.hid (HFJ.out.rate.far (p := ⟨gd, u, none⟩) hrd (.bool true))
                  have HOX := Lib.hid (((HOJ.out.far HFJ.out.done (by decide) (by decide) u (.bool true)).far HRX.out (by decide) (by decide) (u * 2) (.int .i64 b0.num)).far (HRX.out.set_ (u * 2) (.int .i64 b0.num)) (by decide) (by decide) (u * 2 + 1) (.int .i64 b0.den))
                  have HGX := Lib.hid (((HGJ.out.far (p := ⟨gd, u, none⟩) hbd (.bool true)).far (p := ⟨gr, u * 2, none⟩) hbr (.int .i64 b0.num)).far (p := ⟨gr, u * 2 + 1, none⟩) hbr (.int .i64 b0.den))
                  have HUX := Lib.hid (own_set (own_set (own_set HUJ.out (g := gd) (i := u) hgld (.bool true)) (g := gr) (i := u * 2) hglr (.int .i64 b0.num)) (g := gr) (i := u * 2 + 1) hglr (.int .i64 b0.den))
                  have HBX := Lib.hid (((HBJ.out.setCell (p := ⟨gd, u, none⟩) hgdz (.bool true)).setCell (p := ⟨gr, u * 2, none⟩) hgrz (.int .i64 b0.num)).setCell (p := ⟨gr, u * 2 + 1, none⟩) hgrz (.int .i64 b0.den))
                  go_wp2_with fail
                  go_region
                  all_goals
                    go_wp2
                    go_roundw
                    case rel => exact ⟨j + 1, by omega, by go_num, Lib.hid (HPUT.out.go (Below.refl _ _).drew), Lib.hid HGX.out.drew, Lib.hid (own_below HUX.out (Below.refl _ _).drew), Lib.hid (HOX.out.below (Below.refl _ _).drew), Lib.hid HBX.out.drew, by simp [World.setCell]; exact hzj⟩
                    case measure => simp [intOf]; omega
                · obtain rfl : j = ou.length := by omega
                  rw [List.take_length, ← HST1.out] at HFJ
                  have hbz := HBJ.out.size
                  have h3z := HBW.out.size
                  have hww : IntKind.i64.wrap ((paths.length : Int) - (cn : Int) - (ou.length : Int)) = (paths.length : Int) - (cn : Int) - (ou.length : Int) := IntWalk.i64_in _ (by omega)
                  have hcn2 : ((paths.length : Int) - (cn : Int) - (ou.length : Int)) = (paths.length : Int) - ((fillSt caps paths (k + 1)).countP Option.isSome : Nat) := by rw [HCS.out, ← HST.out, HCN.out]; omega
                  have HC2 := Lib.hid hcn2
                  clear hcn2 hjl hj
                  go_wp2_with (at_builtin; refine wpList_push wr _ rfl (.tmp 171) (.tmp 173) 23 rfl w.heap.size 22 (.slice none 0 0) 1 24 Tryz.underlying23 Tryz.info_row rfl (by omega) _ _ _ rfl HOJ.out.own rfl rfl (by simp [Value.oneCell']) (by rw [rounds_len]; omega) (by decide) hbz ?_; intro v' w7 hown7 hg7; have HF7 := Lib.hid (HFJ.out.grown HOJ.out.own (by decide) (by decide) (by decide) hg7); have HB7 := Lib.hid (below_push HBJ.out HOJ.out.own hg7 (Nat.le_refl _) hbz); have HO7 := Lib.hid (HOJ.out.push (l := ints ou) (fun g hg => Nat.lt_of_lt_of_le (HLT.out g hg) h3z) (by rw [ints_len]; exact HUJ.out) (by omega) hown7 hg7); clear hown7 hg7)
                  rw [← HOUR.out, ← rounds_succ'] at HO7
                  obtain ⟨P7, c7, hv7, _⟩ := HO7.out.rows
                  rw [rounds_len] at hv7
                  subst hv7
                  rw [rounds_len]
                  go_roundw
                  case rel => exact ⟨k + 1, _, by omega, by rw [← HC2.out], HF7, HO7, HB7⟩
                  case measure => simp [lenOf]; omega
    · obtain rfl : k = K := by omega
      rw [HKC.out, HRL.out]
      have hr := HF.out.rate
      rw [HKS.out] at hr
      have HR := Lib.hid (rate_own hr HRL.out.symm hgrz hF1)
      clear hr
      go_wp2
      go_ret2
      exact ⟨_, _, vs, rfl, by rw [HRL.out]; exact HR.out, HO.out, HB.out⟩
end Go.Proofs.YtaijpiebjhhkjaaGreatDoor
/- The reference's Fill: the form for laws. -/
namespace Go.Proofs.YtaijpiebjhhkjaaGreatDoor
open Go.RowKit
theorem refFill_yes (C : Option Addr) (cc nc : Nat) (caps : List Int) (P : Option Addr) (cp m : Nat) (paths : List (List Int)) (B : Nat) (w : World) (K : Nat) (R : List Rat) (hB : B ≤ w.heap.size) (hc : Ints w B C cc caps) (hp : Rows2 w B P cp paths) (hnc : nc = caps.length) (hm : m = paths.length) (ok : NetOk caps paths) (h12 : caps.length ≤ 12) (hl : ∀ p ∈ paths, p.length ≤ 1000) (hK : FillEnds caps paths K R) :
    Calls Tryz.prog 24 #[.agg #[.slice C nc cc, .slice P m cp]] w fun e w' => ∃ A c P' cp', e = .returned (.tuple #[.slice A R.length c, .slice P' K cp']) ∧ Frs w' w'.heap.size A c (R.map frQ) ∧ Rows2 w' w'.heap.size P' cp' (rounds caps paths K) ∧ Below w.heap.size w w' := by
  subst hm hnc
  refine (refFill_any C cc P cp caps paths B w hB hc hp ok h12 hl K R hK).mono ?_
  rintro e w' ⟨v, u, vs, rfl, hv, hu, hb⟩
  obtain ⟨A, c, rfl, hf⟩ := rates_frs hv
  obtain ⟨P', cp', rfl, hr⟩ := hu.rows
  exact ⟨A, c, P', cp', by rw [rounds_len], hf, hr, hb⟩
end Go.Proofs.YtaijpiebjhhkjaaGreatDoor
