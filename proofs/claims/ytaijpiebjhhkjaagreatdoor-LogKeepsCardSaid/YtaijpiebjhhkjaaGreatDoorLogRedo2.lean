/- (*Log).redo of records of flows more and fewer. -/
import Derived.Test.YtaijpiebjhhkjaaGreatDoorLogRedo
import Derived.Test.YtaijpiebjhhkjaaGreatDoorLibU
namespace Go.Proofs.YtaijpiebjhhkjaaGreatDoor
open Go.RowKit Go.Shelf
attribute [local go_sem] Oper.semAt_some
theorem own_base {w : World} {base e size n : Nat} {v : Value} {xs : List Value} (h : w.ownsRow base e size v n xs) {b : Nat} (hb : v.ownBlock = some b) : base ≤ b := by
  obtain ⟨_, ⟨rfl, _⟩ | ⟨g, cap, cur, rfl, hg, _⟩⟩ := h
  · cases hb
  · cases hb; exact hg
set_option maxRecDepth 100000 in
set_option maxHeartbeats 8000000 in
theorem redo_all (w : World) (base g cc : Nat) (C : Option Addr) (pv : Value) (vs0 : List Value) (caps : List Int) (L0 : List (List Int)) (bs : ByteArray) (safe left : Int) (st : Bool) (h : LogAt w base g (.slice C caps.length cc) pv vs0 caps L0 bs safe left st) (hbase : base ≤ w.heap.size)
    (hT : Lib.TabIs Tryz.prog w "strings.asciiSpace" .u8 Lib.asciiSpaceTab) (hv : 2 < w.heap.size)
    (O : List LG.Op) (hO : ∀ o ∈ O, LG.Small o ∧ 0 < o.p.length ∧ o.p.length ≤ 6) (hD : ∀ k o, O[k]? = some o → o.add = false → ∃ f, o.p = [f] ∧ f < (LG.runs (O.take k)).length) (b : ByteArray) (hb : b.data.toList = LG.flat O) (hsz : b.size ≤ 1000000) (hr6 : O.length ≤ 1000) :
    Calls Tryz.prog 42 #[.pointer (some ⟨g, 0, none⟩), .string b] w fun e w' => ∃ P cp vs, e = .returned (.tuple #[.agg #[.slice C caps.length cc, .slice P (LG.runs O).length cp], .nilIface]) ∧ NetOwn w' base (.slice C caps.length cc) (.slice P (LG.runs O).length cp) vs caps (LG.runs O) ∧ Below w.heap.size w w' ∧ (∀ b, (Value.slice P (LG.runs O).length cp).ownBlock = some b → w.heap.size ≤ b) ∧ ∀ u ∈ vs, ∀ b, u.ownBlock = some b → w.heap.size ≤ b := by
  refine (callsIn_wide (n := 8)).1 ?_
  obtain ⟨c0, c1, c2, c3, c4, c5, f0, f1, f2, f3, f4, f5, z⟩ := h.cells
  have HN := Lib.hid h.net
  clear c1 c2 c3 c4 c5 f0 f1 f2 f3 f4 f5 h
  refine callsIn_of_wp_marks Tryz.func42 rfl trivial ?_ rfl
  simp only [Tryz.ntmps42, List.size_toArray, List.length_cons, List.length_nil, Nat.reduceAdd, Nat.reduceSub, Array.replicate_succ, Array.replicate_zero, List.push_toArray, List.append_toArray, List.nil_append, List.cons_append]
  gi_wp2_with (refine ⟨trivial, ?_⟩; gi_at_call 52; refine (lines_in b _ _).mono ?_; rintro e w' ⟨rfl, hw⟩; rw [hw]; clear hw w')
  have H4 := (((Blk.new w 42 #[.slice none 0 0, .slice none 0 0]).alloc (.cells #[.nilIface] 26)).alloc (.cells #[.slice C caps.length cc, .slice none 0 0] 42)).alloc (.cells #[.string b] 9)
  have H5 := ((Blk.new' (w.alloc (.cells #[.slice none 0 0, .slice none 0 0] 42)) 26 #[.nilIface] (g := w.heap.size + 1) (by simp)).alloc (.cells #[.slice C caps.length cc, .slice none 0 0] 42)).alloc (.cells #[.string b] 9)
  have H6 := (Blk.new' ((w.alloc (.cells #[.slice none 0 0, .slice none 0 0] 42)).alloc (.cells #[.nilIface] 26)) 42 #[.slice C caps.length cc, .slice none 0 0] (g := w.heap.size + 1 + 1) (by simp)).alloc (.cells #[.string b] 9)
  have H7 := Blk.new' (((w.alloc (.cells #[.slice none 0 0, .slice none 0 0] 42)).alloc (.cells #[.nilIface] 26)).alloc (.cells #[.slice C caps.length cc, .slice none 0 0] 42)) 9 #[.string b] (g := w.heap.size + 1 + 1 + 1) (by simp)
  have HB := ((((Below.refl w.heap.size w).alloc (Nat.le_refl _) (.cells #[.slice none 0 0, .slice none 0 0] 42)).alloc (by simp) (.cells #[.nilIface] 26)).alloc (by simp; omega) (.cells #[.slice C caps.length cc, .slice none 0 0] 42)).alloc (by simp; omega) (.cells #[.string b] 9)
  obtain ⟨w1, hw1⟩ : ∃ x, x = (((w.alloc (.cells #[.slice none 0 0, .slice none 0 0] 42)).alloc (.cells #[.nilIface] 26)).alloc (.cells #[.slice C caps.length cc, .slice none 0 0] 42)).alloc (.cells #[.string b] 9) := ⟨_, rfl⟩
  rw [← hw1] at H4 H5 H6 H7 HB ⊢
  have hz1 : w1.heap.size = w.heap.size + 4 := by rw [hw1]; simp
  clear hw1
  obtain ⟨g4, hg4⟩ : ∃ x, x = w.heap.size := ⟨_, rfl⟩
  obtain ⟨g5, hg5⟩ : ∃ x, x = w.heap.size + 1 := ⟨_, rfl⟩
  obtain ⟨g6, hg6⟩ : ∃ x, x = w.heap.size + 1 + 1 := ⟨_, rfl⟩
  obtain ⟨g7, hg7⟩ : ∃ x, x = w.heap.size + 1 + 1 + 1 := ⟨_, rfl⟩
  rw [← hg7] at H7; rw [← hg6] at H6; rw [← hg5] at H5; rw [← hg4] at H4
  rw [← hg7, ← hg6, ← hg5, ← hg4]
  rw [← hg4] at hg5 hg6 hg7
  have hI0 : RedoI w base g4 g5 g6 g7 (.slice C caps.length cc) caps O 0 w1 := by
    have hn := HN.out
    refine ⟨⟨none, 0, [], H6, netOwn_new (own_below hn.capO (HB.mono (Nat.le_refl _))), World.ownsRow_nil _ _ _ _, by simp⟩, H4, H5, ⟨_, H7⟩, HB⟩
  have HO := Lib.hid hO
  have HDD := Lib.hid hD
  have HTB := Lib.hid hT
  obtain ⟨j1, j2, j3, j4, j5, j6, j7, j8, j9, j10⟩ : w.heap.size ≤ g4 ∧ w.heap.size ≤ g5 ∧ w.heap.size ≤ g6 ∧ w.heap.size ≤ g7 ∧ g4 ≠ g5 ∧ g4 ≠ g6 ∧ g5 ≠ g6 ∧ g4 ≠ g7 ∧ g5 ≠ g7 ∧ g6 ≠ g7 := by omega
  have hzz : w.heap.size ≤ w1.heap.size := by omega
  have hbl : LG.flat O = b.data.toList := hb.symm
  have HBL := Lib.hid hb
  clear hO hD hT H4 H5 H6 HB hg4 hg5 hg6 hg7 hz1 hbl
  refine range_lines (w := w1) 8 (by decide) g7 rfl rfl (O.map LG.recB) (whole_recs fun o ho => (HO.out o ho).1) (by rw [flat_is, ← HBL.out, bytes_len]; omega) b H7 (by rw [flat_is, HBL.out])
    (RedoI w base g4 g5 g6 g7 (.slice C caps.length cc) caps O) (redoI_own _ hzz) (fun k W u h => h.box j4 j8 j9 j10 u) (fun k W h => h.below (Below.refl _ _).drew) hI0
    (fun x => { tmps := #[.pointer (some ⟨g, 0, none⟩), .string b, undef, undef, .pointer (some ⟨g4, 0, none⟩), .pointer (some ⟨g5, 0, none⟩), .pointer (some ⟨g6, 0, none⟩), .string x, undef, undef, undef, undef, undef, undef, .pointer (some ⟨g, 0, none⟩), .pointer (some ⟨g, 0, none⟩), .pointer (some ⟨g, 0, none⟩), .pointer (some ⟨g, 0, none⟩), .slice C caps.length cc, .agg #[.slice C caps.length cc, .slice none 0 0], .string b, .func (.func 80) #[] #[.pointer (some ⟨g7, 0, none⟩)], .string x, undef, undef, undef, undef, undef, undef, undef, undef, undef, undef, undef, undef, undef, undef, undef, undef, undef, undef, undef, undef, undef, undef, undef, undef, undef, undef, undef, undef, undef], defers := [] }) ?assign ?body ?done
  case assign =>
    intro l x W K hK
    gi_wp2
    exact hK
  case body =>
    intro l k x W hl hr hI hx
    obtain ⟨o, hok, hrec⟩ : ∃ o, O[k]? = some o ∧ LG.recB o = x.data.toList := by
      rw [List.getElem?_map] at hx
      cases hh : O[k]? with
      | none => rw [hh] at hx; cases hx
      | some o => rw [hh] at hx; exact ⟨o, rfl, by simpa using hx⟩
    obtain ⟨hsmall, hp0, hp6⟩ := HO.out o (List.mem_of_getElem? hok)
    obtain ⟨hw1, hw2⟩ := wordsOf_is hsmall x hrec.symm
    have htk : LG.runs (O.take (k + 1)) = LG.step1 (LG.runs (O.take k)) o := by
      rw [List.take_add_one, hok, Option.toList_some, LG.runs_snoc]
    have HDR := Lib.hid (HDD.out k o hok)
    clear HDD
    have hxs : x.size ≤ 14 := by rw [← bytes_len, ← hrec, LG.recB_len]; omega
    have hF : Calls Tryz.prog 77 #[.string x] W fun e w' => e = .returned (.slice (some ⟨W.heap.size, 0, none⟩) (o.p.length + 1) (o.p.length + 1)) ∧ w' = W.alloc (.cells (wordsOf o).toArray 9) := by
      have := Tryz.strings_Fields_laid x W (by omega) (fun j c hc => LG.rec_ascii hsmall c (by rw [hrec]; exact List.mem_of_getElem? hc)) (var?_below (g := 2) hI.bel (by kernel_rfl) hv HTB.out)
      rw [hw1, hw2] at this
      exact this
    have HF := Lib.hid hF; have HI := Lib.hid hI; have HTK := Lib.hid htk; have HSM := Lib.hid hsmall
    have hk1000 : k < O.length := (List.getElem?_eq_some_iff.1 hok).1
    obtain ⟨m, hm⟩ : ∃ m, m = o.p.length := ⟨_, rfl⟩
    rw [← hm] at HF hp0 hp6
    have HM := Lib.hid hm
    clear hF hI htk hsmall hw1 hw2 hrec hx hok hxs hm hr
    gi_wp2_with (refine ⟨trivial, ?_⟩; gi_at_call 77; refine (CallsIn.inRound l (callsIn_wide.2 HF.out)).mono ?_; rintro e w' ⟨rfl, hw⟩; rw [hw]; clear hw w')
    have hbW : Below W.heap.size W (W.alloc (.cells (wordsOf o).toArray 9)) := (Below.refl _ _).alloc (Nat.le_refl _) _
    have hWB := Blk.new W 9 (wordsOf o).toArray
    obtain ⟨Ws, hWs⟩ : ∃ x, x = W.heap.size := ⟨_, rfl⟩
    obtain ⟨Wa, hWa⟩ : ∃ x, x = W.alloc (.cells (wordsOf o).toArray 9) := ⟨_, rfl⟩
    rw [← hWa] at hbW hWB ⊢
    rw [← hWs] at hWB ⊢
    have HWB := Lib.hid hWB; have HBW := Lib.hid hbW; have HWS := Lib.hid hWs
    clear hWB hbW hWs hWa
    obtain ⟨i0, hi0, hz0, hz1, hz2⟩ := info_parts Tryz.info_int
    gi_loopw [9, 28] (fun pv iv wr => ∃ (j : Nat) (U : Option Addr) (cu : Nat), j ≤ m ∧ iv = .int .i64 j ∧ pv = .slice U j cu ∧ Hid (wr.ownsRow Wa.heap.size 3 1 (.slice U j cu) j ((nints (o.p.take j)).map (Value.int .i64))) ∧ Hid (Below Wa.heap.size Wa wr)) (fun _ iv _ => m - (intOf iv).toNat)
    case atStart => exact ⟨0, none, 0, Nat.zero_le _, rfl, rfl, Lib.hid (World.ownsRow_nil _ _ _ _), Lib.hid (Below.refl _ _)⟩
    case round =>
      obtain ⟨j, U, cu, hj, rfl, rfl, HU, HB⟩ := hrel
      by_cases hlt : j < m
      · have hwd : wr.cell? ⟨Ws, 1 + j, none⟩ = some (.string ⟨#[LG.dig (o.p.getD j 0)]⟩) := by
          have h1 := (HWB.out.below HB.out HWB.out.lt).cell (1 + j)
          rw [h1, List.getElem?_toArray, show 1 + j = j + 1 by omega]
          exact wordsOf_at (by have := HM.out; omega)
        have hx10 : o.p.getD j 0 < 10 := by
          have hjl : j < o.p.length := by have := HM.out; omega
          rw [List.getD_eq_getElem?_getD, List.getElem?_eq_getElem hjl]
          exact HSM.out _ (List.getElem_mem hjl)
        have htk2 : nints (o.p.take (j + 1)) = nints (o.p.take j) ++ [((o.p.getD j 0 : Nat) : Int)] := by
          have hjl : j < o.p.length := by have := HM.out; omega
          rw [List.take_add_one, List.getD_eq_getElem?_getD, List.getElem?_eq_getElem hjl, Option.toList_some, Option.getD_some]; simp only [nints, List.map_append]; rfl
        generalize o.p.getD j 0 = y at *
        have HAT := Lib.hid fun W => Tryz.strconv_Atoi ⟨#[LG.dig y]⟩ (y : Int) (show 1 ≤ 18 by decide) (atoi_one hx10) W
        have HT2 := Lib.hid htk2
        have hbz := HB.out.size
        clear htk2 hx10
        have hone : ∀ u ∈ [Value.int .i64 (y : Int)], u.oneCell' = true := by simp [Value.oneCell']
        gi_wp2_with (first
          | (refine ⟨trivial, ?_⟩; gi_at_call 78; refine (CallsIn.inRound l (callsIn_wide.2 (HAT.out _))).mono ?_; rintro e w' ⟨rfl, t, hw⟩; have hb9 := Lib.bytesWorld_below wr 5 t; rw [← hw] at hb9; clear hw; have HB9 := Lib.hid (HB.out.trans (hb9.mono hbz)); have HU9 := Lib.hid (own_below HU.out hb9); have hz9 := hb9.size; have hz10 : Wa.heap.size ≤ w'.heap.size := Nat.le_trans hbz hz9)
          | (gi_at_builtin; refine wpListIn_append_own _ rfl _ _ 22 rfl Wa.heap.size 3 i0 (.int .i64 0) 1 8 Tryz.underlying22 hi0 hz0 hz1 hz2 rfl (by decide) _ _ _ rfl (HU9.out.alloc _) ⟨w'.heap.size, 0, none⟩ 1 1 [.int .i64 (y : Int)] rfl rfl (cell_one_new _ _ _) hone (by unfold maxLen; omega) (by omega) (by simp; omega) ?_; intro v' w5 hown' hgrow _; obtain ⟨g', cap', rfl⟩ := ownsRow_succ hown'; have HU5 := Lib.hid hown'; have HB5 := Lib.hid (below_push (HB9.out.alloc hz10 (.cells #[.int .i64 (y : Int)] 3)) (HU9.out.alloc _) hgrow (Nat.le_refl _) (by simp; omega)); clear hown' hgrow))
        go_roundw
        case rel => exact ⟨j + 1, _, _, by omega, by go_num, rfl, Lib.hid (by rw [HT2.out, List.map_append]; exact HU5.out), HB5⟩
        case measure => (simp [intOf] <;> omega)
      · obtain rfl : j = m := by omega
        rcases Bool.eq_false_or_eq_true o.add with hadd | hadd
        · have HADD := Lib.hid hadd
          have HTKA : LG.runs (O.take (k + 1)) = LG.runs (O.take k) ++ [nints o.p] := by rw [HTK.out]; unfold LG.step1; rw [if_pos hadd]
          have HTKA := Lib.hid HTKA
          clear hadd
          have hwd0 : wr.cell? ⟨Ws, 0, none⟩ = some (.string ⟨#[43]⟩) := by
            have h1 := (HWB.out.below HB.out HWB.out.lt).cell 0
            rw [h1, List.getElem?_toArray]
            simp [wordsOf, HADD.out, LG.word]
          have hfull : nints (o.p.take j) = nints o.p := by rw [HM.out, List.take_length]
          rw [hfull] at HU
          have hbz := HB.out.size
          have hbWr : Below W.heap.size W wr := HBW.out.trans (HB.out.mono HBW.out.size)
          obtain ⟨P, cp, vs, hg6, hnet, hrow, hfr⟩ := HI.out.net
          have HFR := Lib.hid hfr
          clear hfr
          have HG6 := Lib.hid (hg6.go hbWr); have HNT := Lib.hid (hnet.below hbWr); have HRW := Lib.hid (own_below hrow hbWr); have HLT := Lib.hid hnet.lt
          have HBR := Lib.hid hbWr
          have hzWr : w.heap.size ≤ wr.heap.size := Nat.le_trans HI.out.bel.size hbWr.size
          have hL1000 : (LG.runs (O.take k)).length ≤ 1000 := by
            have hle : ∀ (X : List LG.Op), (LG.runs X).length ≤ X.length := fun X => LG.runs_len X
            have := hle (O.take k); rw [List.length_take] at this; omega
          have HDO := Lib.hid (do_add wr w.heap.size g6 _ cp 42 _ P vs U j cu HG6.out rfl (by decide) HRW.out hL1000 hzWr)
          clear hg6 hnet hrow hbWr hfull
          gi_wp2_with (refine ⟨trivial, ?_⟩; gi_at_call 74; refine (CallsIn.inRound l (callsIn_wide.2 HDO.out)).mono ?_; rintro e wd ⟨rfl, P', cp', w3, hown, hgr, hblk, rfl, _⟩)
          have hpush := NetOwn.push (l := nints o.p) HNT.out (fun b hb => Nat.lt_of_lt_of_le (HLT.out b hb) HBW.out.size) (by have := HU.out; rw [show (nints o.p).length = j by rw [HM.out]; simp [nints]]; exact this) (Nat.le_trans (Nat.le_trans hbase HI.out.bel.size) HBW.out.size) (own_baseB hown hbase) hgr
          rw [← HTKA.out] at hpush
          have hlen : (LG.runs (O.take k)).length + 1 = (LG.runs (O.take (k + 1))).length := by rw [HTKA.out, List.length_append]; rfl
          rw [hlen] at hpush hown ⊢
          have hgne : g6 ≠ g7 := j10
          obtain ⟨vb, h7⟩ := HI.out.b7
          have h7r := h7.go HBR.out
          have hrow7 : ∀ i, (Value.slice P (LG.runs (O.take k)).length cp).ownBlock = some i → i ≠ g7 := fun i e h => own_blk_ne HRW.out h7r (by decide) (by rw [e, h])
          have hcells : ∀ (i : Nat) (o : Obj), (Value.slice P (LG.runs (O.take k)).length cp).ownBlock = some i → wr.heap[i]? = some o → o.isCells = true := fun i o e ho => by
            obtain ⟨cs, hk⟩ := own_kindB HRW.out e
            unfold Blk at hk
            rw [hk] at ho; cases ho; rfl
          have h4r := HI.out.b4.go HBR.out
          have h5r := HI.out.b5.go HBR.out
          have n4 : some g4 ≠ (Value.slice P (LG.runs (O.take k)).length cp).ownBlock := fun e => own_blk_ne HRW.out h4r (by decide) e.symm
          have n5 : some g5 ≠ (Value.slice P (LG.runs (O.take k)).length cp).ownBlock := fun e => own_blk_ne HRW.out h5r (by decide) e.symm
          have n7 : some g7 ≠ (Value.slice P (LG.runs (O.take k)).length cp).ownBlock := fun e => own_blk_ne HRW.out h7r (by decide) e.symm
          exact ⟨((keepsFrom_below HBR.out).trans ((KeepsOthers.of_grownBy hgr hcells).from _)).trans ((KeepsOthers.setCell _ _ _).from _),
            (Below.heap_setCell w3 ⟨g6, 1, none⟩ _ g7 (fun e => hgne e.symm)).trans ((hgr.block g7 h7r.lt n7).trans (HBR.out.block g7 h7.lt)),
            ⟨⟨P', cp', vs ++ [.slice U j cu], hblk.s2_1 _, hpush.far hblk (by decide) (by decide) 1 _, own_farB hown (own_blk_ne hown hblk (by decide)) _, fun u hu => by
              rcases List.mem_append.1 hu with hu | hu
              · exact HFR.out u hu
              · rw [List.mem_singleton] at hu; subst hu; exact fun b e => Nat.le_trans (Nat.le_trans HI.out.bel.size HBW.out.size) (own_lowR HU.out e)⟩,
             (h4r.grown hgr n4).far (p := ⟨g6, 1, none⟩) j6 _, (h5r.grown hgr n5).far (p := ⟨g6, 1, none⟩) j7 _, ⟨vb, (h7r.grown hgr n7).far (p := ⟨g6, 1, none⟩) (fun e => hgne e.symm) _⟩,
             (below_push (HI.out.bel.trans (HBR.out.mono HI.out.bel.size)) HRW.out hgr (Nat.le_refl _) hzWr).setCell (p := ⟨g6, 1, none⟩) j3 _⟩⟩
        · have HADD := Lib.hid hadd
          obtain ⟨f, hpf, hfl⟩ := HDR.out hadd
          have HTKA := Lib.hid (show LG.runs (O.take (k + 1)) = (LG.runs (O.take k)).eraseIdx f by rw [HTK.out]; unfold LG.step1; rw [if_neg (by rw [hadd]; decide), hpf]; rfl)
          have hqi : (nints o.p).map (Value.int .i64) = [.int .i64 f] := by rw [hpf]; rfl
          have hj1 : j = 1 := by rw [HM.out, hpf]; rfl
          have HQI := Lib.hid hqi
          clear hadd hpf hqi
          have hwd0 : wr.cell? ⟨Ws, 0, none⟩ = some (.string ⟨#[45]⟩) := by
            have h1 := (HWB.out.below HB.out HWB.out.lt).cell 0
            rw [h1, List.getElem?_toArray]
            simp [wordsOf, HADD.out, LG.word]
          have hfull : nints (o.p.take j) = nints o.p := by rw [HM.out, List.take_length]
          rw [hfull] at HU
          subst hj1
          obtain ⟨gU, capU, hUe, _, hUz, _, _⟩ := own_form HU.out (by decide)
          injection hUe with hU1 _ hU3
          subst hU1 hU3
          have hcell : wr.cell? ⟨gU, 0, none⟩ = some (.int .i64 f) := by
            have h0 := HU.out.cellAt (g := gU) 0 (by decide)
            rw [HQI.out] at h0; exact h0
          have hbz := HB.out.size
          have hbWr : Below W.heap.size W wr := HBW.out.trans (HB.out.mono HBW.out.size)
          obtain ⟨P, cp, vs, hg6, hnet, hrow, hfr⟩ := HI.out.net
          have HFR := Lib.hid hfr
          clear hfr
          obtain ⟨gp, capp, hpe, _, _, _, _⟩ := own_form hrow (by omega)
          injection hpe with hp1 _ hp3
          subst hp1 hp3
          have HG6 := Lib.hid (hg6.go hbWr); have HNT := Lib.hid (hnet.below hbWr); have HRW := Lib.hid (own_below hrow hbWr); have HLT := Lib.hid hnet.lt
          have HBR := Lib.hid hbWr
          have hzWr : w.heap.size ≤ wr.heap.size := Nat.le_trans HI.out.bel.size hbWr.size
          have hL1000 : (LG.runs (O.take k)).length ≤ 1000 := by
            have hle : ∀ (X : List LG.Op), (LG.runs X).length ≤ X.length := fun X => LG.runs_len X
            have := hle (O.take k); rw [List.length_take] at this; omega
          have HDO := Lib.hid (do_del wr w.heap.size g6 (LG.runs (O.take k)).length cp gp f gU 0 cu 42 _ vs HG6.out rfl (by decide) HRW.out hL1000 HNT.out.oneC hcell hUz hfl)
          clear hg6 hnet hrow hbWr hfull hcell
          gi_wp2_with (refine ⟨trivial, ?_⟩; gi_at_call 74; refine (CallsIn.inRound l (callsIn_wide.2 HDO.out)).mono ?_; rintro e wd ⟨rfl, w3, hown, hgr, hblk, rfl⟩)
          have hpush := NetOwn.erase HNT.out hfl (own_baseB hown hbase) hgr
          rw [← HTKA.out] at hpush
          have hlen : (LG.runs (O.take k)).length - 1 = (LG.runs (O.take (k + 1))).length := by rw [HTKA.out, List.length_eraseIdx_of_lt hfl]
          rw [hlen] at hpush hown ⊢
          have hgne : g6 ≠ g7 := j10
          obtain ⟨vb, h7⟩ := HI.out.b7
          have h7r := h7.go HBR.out
          have hrow7 : ∀ i, (Value.slice (some ⟨gp, 0, none⟩) (LG.runs (O.take k)).length cp).ownBlock = some i → i ≠ g7 := fun i e h => own_blk_ne HRW.out h7r (by decide) (by rw [e, h])
          have hcells : ∀ (i : Nat) (o : Obj), (Value.slice (some ⟨gp, 0, none⟩) (LG.runs (O.take k)).length cp).ownBlock = some i → wr.heap[i]? = some o → o.isCells = true := fun i o e ho => by
            obtain ⟨cs, hk⟩ := own_kindB HRW.out e
            unfold Blk at hk
            rw [hk] at ho; cases ho; rfl
          have h4r := HI.out.b4.go HBR.out
          have h5r := HI.out.b5.go HBR.out
          have n4 : some g4 ≠ (Value.slice (some ⟨gp, 0, none⟩) (LG.runs (O.take k)).length cp).ownBlock := fun e => own_blk_ne HRW.out h4r (by decide) e.symm
          have n5 : some g5 ≠ (Value.slice (some ⟨gp, 0, none⟩) (LG.runs (O.take k)).length cp).ownBlock := fun e => own_blk_ne HRW.out h5r (by decide) e.symm
          have n7 : some g7 ≠ (Value.slice (some ⟨gp, 0, none⟩) (LG.runs (O.take k)).length cp).ownBlock := fun e => own_blk_ne HRW.out h7r (by decide) e.symm
          exact ⟨((keepsFrom_below HBR.out).trans ((KeepsOthers.of_grownBy hgr hcells).from _)).trans ((KeepsOthers.setCell _ _ _).from _),
            (Below.heap_setCell w3 ⟨g6, 1, none⟩ _ g7 (fun e => hgne e.symm)).trans ((hgr.block g7 h7r.lt n7).trans (HBR.out.block g7 h7.lt)),
            ⟨⟨some ⟨gp, 0, none⟩, cp, vs.eraseIdx f, hblk.s2_1 _, hpush.far hblk (by decide) (by decide) 1 _, own_farB hown (own_blk_ne hown hblk (by decide)) _, fun u hu => HFR.out u (List.mem_of_mem_eraseIdx hu)⟩,
             (h4r.grown hgr n4).far (p := ⟨g6, 1, none⟩) j6 _, (h5r.grown hgr n5).far (p := ⟨g6, 1, none⟩) j7 _, ⟨vb, (h7r.grown hgr n7).far (p := ⟨g6, 1, none⟩) (fun e => hgne e.symm) _⟩,
             (below_push (HI.out.bel.trans (HBR.out.mono HI.out.bel.size)) HRW.out hgr (Nat.le_refl _) hzWr).setCell (p := ⟨g6, 1, none⟩) j3 _⟩⟩
  case done =>
    intro D W hD hI hK
    obtain ⟨P, cp, vs, h6, hn, hrw⟩ := hI.net
    rw [List.length_map, List.take_length] at h6 hn hrw
    have HRW0 := Lib.hid hrw
    clear hrw
    obtain ⟨d0, d1, df0, df1, dz⟩ := hI.b4.two
    obtain ⟨e0, ef0, ez⟩ := hI.b5.one
    obtain ⟨x0, x1, xf0, xf1, xz⟩ := h6.two
    have HBW := hI.bel
    have hb5 := hI.b5
    have hb4 := hI.b4
    gi_wp2
    have K4 := ((hb4.s2_0 (.slice C caps.length cc)).s2_1 (.slice P (LG.runs O).length cp)).far (p := ⟨g5, 0, none⟩) j5 .nilIface
    have K5 := ((hb5.far (p := ⟨g4, 0, none⟩) (fun e => j5 e.symm) (.slice C caps.length cc)).far (p := ⟨g4, 1, none⟩) (fun e => j5 e.symm) (.slice P (LG.runs O).length cp)).s1_0 .nilIface
    have KN := ((hn.far hb4 (by decide) (by decide) 0 (.slice C caps.length cc)).far (hb4.s2_0 (.slice C caps.length cc)) (by decide) (by decide) 1 (.slice P (LG.runs O).length cp)).far ((hb5.far (p := ⟨g4, 0, none⟩) (fun e => j5 e.symm) (.slice C caps.length cc)).far (p := ⟨g4, 1, none⟩) (fun e => j5 e.symm) (.slice P (LG.runs O).length cp)) (by decide) (by decide) 0 .nilIface
    have KB := ((HBW.setCell (p := ⟨g4, 0, none⟩) j1 (.slice C caps.length cc)).setCell (p := ⟨g4, 1, none⟩) j1 (.slice P (LG.runs O).length cp)).setCell (p := ⟨g5, 0, none⟩) j2 .nilIface
    have hDg : g4 ≠ D ∧ g5 ≠ D := by
      constructor
      · intro e; subst e; unfold Blk at hb4; rw [hb4] at hK; cases hK
      · intro e; subst e; unfold Blk at hb5; rw [hb5] at hK; cases hK
    obtain ⟨W3, hW3⟩ : ∃ x, x = ((W.setCell ⟨g4, 0, none⟩ (.slice C caps.length cc)).setCell ⟨g4, 1, none⟩ (.slice P (LG.runs O).length cp)).setCell ⟨g5, 0, none⟩ .nilIface := ⟨_, rfl⟩
    have hK3 : W3.heap[D]? = some (.deferred (some [])) := by
      rw [hW3]
      exact ((Below.heap_setCell _ ⟨g5, 0, none⟩ _ D (fun e => hDg.2 e.symm)).trans ((Below.heap_setCell _ ⟨g4, 1, none⟩ _ D (fun e => hDg.1 e.symm)).trans (Below.heap_setCell _ ⟨g4, 0, none⟩ _ D (fun e => hDg.1 e.symm)))).trans hK
    rw [← hW3] at K4 K5 KN KB ⊢
    have hr : ∀ r, some D = some r → ∃ o : Obj, W3.heap[r]? = some o ∧ o.isCells = false := fun r e => by cases e; exact ⟨_, hK3, rfl⟩
    have hgr := grownBy_putObj' W3 D (.deferred none)
    obtain ⟨y0, y1, _, _, _⟩ := (K4.other hgr hr).two
    obtain ⟨y2, _, _⟩ := (K5.other hgr hr).one
    refine ⟨by simp, .inl ⟨_, _, rfl, run_takeDeferred hK3, ?_⟩⟩
    exact ⟨.tuple #[.agg #[.slice C caps.length cc, .slice P (LG.runs O).length cp], .nilIface], by simp [results, Tryz.results42, go_sem, y0, y1, y2], P, cp, vs, rfl, KN.other hgr hr, KB.grown hgr KB.size (fun k e => by cases e; omega), fun b e => own_base HRW0.out.1 e, HRW0.out.2⟩
end Go.Proofs.YtaijpiebjhhkjaaGreatDoor
