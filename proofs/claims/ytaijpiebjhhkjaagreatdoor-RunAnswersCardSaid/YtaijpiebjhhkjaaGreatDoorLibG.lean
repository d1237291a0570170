/- Several texts in one: GiveParts, GiveSplit. -/
import Derived.Test.YtaijpiebjhhkjaaGreatDoorLibA
import Derived.Test.YtaijpiebjhhkjaaGreatDoorLibS
import Derived.Test.YtaijpiebjhhkjaaGreatDoorLibE
import Derived.BigRegion
import Derived.Deep.RegionHeld
import Derived.Deep.CutRange
import Derived.Deep.DeepCutAuto
/- give.parts: parts of many, from 0 on. -/
namespace Go.Proofs.YtaijpiebjhhkjaaGreatDoor
open Go.RowKit
theorem parts_incs (m : Int) (l : List Int) : PG.parts m l = PR.incs (PG.base m l) (PG.rest m l) l.length (PG.left m l).toNat := rfl
/-- weights of which not all are 0 -/
structure Weighs (l : List Int) : Prop where
  pos : 0 < l.length
  six : l.length ≤ 6
  bd : ∀ a ∈ l, 0 ≤ a ∧ a ≤ 1000
  sum : 0 < tot l
theorem Weighs.base {l : List Int} (h : Weighs l) {m : Int} (m0 : 0 ≤ m) (m1 : m ≤ 10000) (i : Nat) (hi : i < l.length) : 0 ≤ m * l.getD i 0 ∧ m * l.getD i 0 ≤ 10000000 ∧ 0 ≤ PG.base m l i ∧ PG.base m l i ≤ 10000000 ∧ 0 ≤ PG.rest m l i ∧ PG.rest m l i ≤ 6000 := by
  obtain ⟨x0, x1⟩ := h.bd _ (getD_mem l i hi)
  have ht := h.sum
  have hb := (tot_bound l 1000 h.bd).2
  have h6 := h.six
  have p0 : 0 ≤ m * l.getD i 0 := Int.mul_nonneg m0 x0
  have p1 : m * l.getD i 0 ≤ 10000 * 1000 := Int.mul_le_mul m1 x1 x0 (by omega)
  have q0 : 0 ≤ PG.base m l i := Int.ediv_nonneg p0 (by omega)
  have q1 : PG.base m l i ≤ m * l.getD i 0 := Int.ediv_le_self _ p0
  have r0 : 0 ≤ PG.rest m l i := Int.emod_nonneg _ (by omega)
  have r1 : PG.rest m l i < tot l := Int.emod_lt_of_pos _ ht
  exact ⟨p0, by omega, q0, by omega, r0, by omega⟩
theorem rest_getD (m : Int) (l : List Int) (i : Nat) : ((List.range l.length).map (PG.rest m l)).getD i 0 = PG.rest m l i := by
  by_cases h : i < l.length
  · simp [h]
  · have h1 : l.getD i 0 = 0 := by simp [show l.length ≤ i by omega]
    have h2 : PG.rest m l i = 0 := by unfold PG.rest; rw [h1]; simp
    rw [h2]
    simp [show l.length ≤ i by omega]
theorem base_take_bd {l : List Int} (h : Weighs l) {m : Int} (m0 : 0 ≤ m) (m1 : m ≤ 10000) (k : Nat) (hk : k ≤ l.length) : 0 ≤ tot ((List.range k).map (PG.base m l)) ∧ tot ((List.range k).map (PG.base m l)) ≤ k * 10000000 := by
  have := tot_bound ((List.range k).map (PG.base m l)) 10000000 fun a ha => by
    obtain ⟨i, hi, rfl⟩ := List.mem_map.1 ha
    have := h.base m0 m1 i (by have := List.mem_range.1 hi; omega)
    omega
  simpa using this
theorem Ints.ofOwnB {w : World} {base n g cap B : Nat} {l : List Int} (h : w.ownsRow base 3 1 (.slice (some ⟨g, 0, none⟩) n cap) n (l.map (Value.int .i64))) (hB : g < B) : Ints w B (some ⟨g, 0, none⟩) cap l := by
  obtain ⟨A, c, he, hn, hi⟩ := owns_ints h
  injection he with h1 h2 h3
  subst h1 h3
  refine ⟨⟨hi.rd.1, fun hp => ?_⟩, hi.le, hi.cap⟩
  obtain ⟨b, off, e, _, hc⟩ := hi.rd.2 hp
  injection e with e
  injection e with e1 e2
  subst e1 e2
  exact ⟨_, _, rfl, hB, hc⟩
theorem Ints.ofOwn {w : World} {base n g cap : Nat} {l : List Int} (h : w.ownsRow base 3 1 (.slice (some ⟨g, 0, none⟩) n cap) n (l.map (Value.int .i64))) : l.length = n ∧ Ints w w.heap.size (some ⟨g, 0, none⟩) cap l := by
  obtain ⟨A, c, he, hn, hi⟩ := owns_ints h
  injection he with h1 h2 h3
  subst h1 h3
  exact ⟨hn.symm, hi⟩
set_option maxHeartbeats 8000000 in
set_option maxRecDepth 100000 in
theorem gparts_any (m : Int) (A : Option Addr) (c : Nat) (l : List Int) (w : World) (h : Ints w w.heap.size A c l) (hw : Weighs l) (m0 : 0 ≤ m) (m1 : m ≤ 10000) :
    Calls Tryz.prog 152 #[.int .i64 m, .slice A l.length c] w fun e w' => ∃ v, e = .returned v ∧ w'.ownsRow w.heap.size 3 1 v l.length ((PG.parts m l).map (Value.int .i64)) ∧ Below w.heap.size w w' := by
  have HW := Lib.hid hw
  have H := Lib.hid h
  have hm := Nat.le_trans h.le h.cap
  unfold maxLen at hm
  have HS := Lib.hid (asum_any A c l w.heap.size w h (fun a ha => by have := hw.bd a ha; omega) (by have := hw.six; omega))
  obtain ⟨h0, h6, _, ht⟩ := hw
  have ht1 := (tot_bound l 1000 HW.out.bd).2
  have HT := Lib.hid (show 0 < tot l from ht)
  clear h
  go_enter Tryz.func152, Tryz.ntmps152
  go_wp2_with fail
  refine HS.out.mono ?_; rintro e w' ⟨rfl, rfl⟩
  clear HS
  have hl6 : l.length ≤ 1000000 := by omega
  go_wp2_with (first | (refine wpList_makeN w rfl (.tmp 17) (.tmp 17) 22 rfl w.heap.size 3 (.int .i64 0) 8 Tryz.underlying22 Tryz.info_int rfl l.length rfl rfl hl6 (by decide) (Nat.le_refl _) ?_; intro w1 hown1 hgr1 hsz1) | (refine wpList_makeN w1 rfl (.tmp 20) (.tmp 20) 22 rfl w.heap.size 3 (.int .i64 0) 8 Tryz.underlying22 Tryz.info_int rfl l.length rfl rfl hl6 (by decide) (Nat.le_of_lt hsz1) ?_; intro w2 hown2 hgr2 hsz2))
  have hB1 : Below w.heap.size w w1 := below_none (Below.refl _ _) hgr1 (Nat.le_refl _)
  have hB2 : Below w.heap.size w w2 := below_none hB1 hgr2 (Nat.le_of_lt hsz1)
  have HBW := Lib.hid (hB2.alloc (by omega) (.cells #[.slice (some ⟨w1.heap.size, 0, none⟩) l.length l.length] 22))
  have HO6 := Lib.hid (show (w2.alloc (.cells #[.slice (some ⟨w1.heap.size, 0, none⟩) l.length l.length] 22)).ownsRow w.heap.size 3 1 (.slice (some ⟨w.heap.size, 0, none⟩) l.length l.length) l.length ((fillTo (PG.base m l) l.length 0).map (Value.int .i64)) from by
    rw [fillTo_zero]; exact (hown1.kept hgr2 (.inr (by simp [Value.ownBlock]))).alloc _)
  have HO7 := Lib.hid (show (w2.alloc (.cells #[.slice (some ⟨w1.heap.size, 0, none⟩) l.length l.length] 22)).ownsRow w.heap.size 3 1 (.slice (some ⟨w1.heap.size, 0, none⟩) l.length l.length) l.length ((fillTo (PG.rest m l) l.length 0).map (Value.int .i64)) from by
    rw [fillTo_zero]; exact hown2.alloc _)
  have HP0 := Lib.hid (Blk.new w2 22 #[.slice (some ⟨w1.heap.size, 0, none⟩) l.length l.length])
  obtain ⟨T, hTe⟩ : ∃ T, tot l = T := ⟨_, rfl⟩
  rw [hTe] at ht ht1 ⊢
  have HTE := Lib.hid hTe
  have hTz : ¬ T = 0 := by omega
  clear hown1 hgr1 hown2 hgr2 hB1 hB2 hTe HT
  go_loopw [8, 9, 25] (fun v8 v9 i wr => ∃ k : Nat, k ≤ l.length ∧ i = .int .i64 k ∧ v9 = .int .i64 (m - tot ((List.range k).map (PG.base m l))) ∧
      Hid (wr.ownsRow w.heap.size 3 1 (.slice (some ⟨w.heap.size, 0, none⟩) l.length l.length) l.length ((fillTo (PG.base m l) l.length k).map (Value.int .i64))) ∧
      Hid (wr.ownsRow w.heap.size 3 1 (.slice (some ⟨w1.heap.size, 0, none⟩) l.length l.length) l.length ((fillTo (PG.rest m l) l.length k).map (Value.int .i64))) ∧
      Hid (wr.ownsRow (w2.heap.size + 1) 3 1 v8 k (idxs (List.range k))) ∧ Hid (Blk wr w2.heap.size 22 #[.slice (some ⟨w1.heap.size, 0, none⟩) l.length l.length]) ∧ Hid (Below w.heap.size w wr) ∧ Hid (w2.heap.size + 1 ≤ wr.heap.size))
    (fun _ _ i _ => l.length - (intOf i).toNat)
  case atStart => exact ⟨0, Nat.zero_le _, rfl, by simp [tot], HO6, HO7, Lib.hid (World.ownsRow_nil _ _ _ _), HP0, HBW, Lib.hid (by simp)⟩
  case round =>
    obtain ⟨k, hk, rfl, rfl, HO6, HO7, HO8, HP, HBW, HSZ⟩ := hrel
    obtain ⟨pc, pf, pz⟩ := HP.out.one
    by_cases hlt : k < l.length
    · obtain ⟨b, off, x, rfl, hbb, hc0, hx, _, HX⟩ := H.out.elem hlt
      have hc : wr.cell? ⟨b, off + k, none⟩ = some (.int .i64 x) := (HBW.out.cell (p := ⟨b, off + k, none⟩) hbb).trans hc0
      clear hc0 hx
      obtain ⟨p0, p1, b0, b1, r0, r1⟩ := HW.out.base m0 m1 k hlt
      obtain ⟨t0, t1⟩ := base_take_bd HW.out m0 m1 k hk
      have hbe : m * x / T = PG.base m l k := by unfold PG.base; rw [HX.out, HTE.out]
      have hre : m * x % T = PG.rest m l k := by unfold PG.rest; rw [HX.out, HTE.out]
      rw [HX.out] at p0 p1
      have wm : IntKind.i64.wrap (m * x) = m * x := IntWalk.i64_in _ (by omega)
      have wq : IntKind.i64.wrap ((m * x).tdiv T) = PG.base m l k := by rw [Int.tdiv_eq_ediv_of_nonneg p0, hbe]; exact IntWalk.i64_in _ (by omega)
      have wr' : (m * x).tmod T = PG.rest m l k := by rw [Int.tmod_eq_emod_of_nonneg p0, hre]
      obtain ⟨c6, f6, s6⟩ := fill_cell HO6.out hlt
      obtain ⟨c7, f7, s7⟩ := fill_cell HO7.out hlt
      have HTS : Hid (tot ((List.range (k + 1)).map (PG.base m l)) = tot ((List.range k).map (PG.base m l)) + PG.base m l k) := Lib.hid (by rw [List.range_succ, List.map_append]; exact tot_snoc _ _)
      have e67 : w.heap.size ≠ w1.heap.size := by omega
      have e72 : w1.heap.size ≠ w2.heap.size := by omega
      have e62 : w.heap.size ≠ w2.heap.size := by omega
      have N6 := Lib.hid (own_far (k := k) s6 (g := w1.heap.size) (by simpa [Value.ownBlock] using e67) (.int .i64 (PG.rest m l k)))
      have N7 := Lib.hid (fill_cell (own_far (k := k) HO7.out (g := w.heap.size) (by simpa [Value.ownBlock] using fun e => e67 e.symm) (.int .i64 (PG.base m l k))) hlt).2.2
      clear s6 s7 hbe hre HX p0 p1
      generalize PG.base m l k = vb at *
      generalize PG.rest m l k = vr at *
      generalize tot ((List.range k).map (PG.base m l)) = Q at *
      have hk0 : (0 : Int) ≤ (k : Int) := by omega
      have hk1 : (k : Int) < l.length := by omega
      have wx : IntKind.i64.wrap vb = vb := IntWalk.i64_in _ (by omega)
      have wy : IntKind.i64.wrap vr = vr := IntWalk.i64_in _ (by omega)
      go_upto_region 9 with fail
      go_cut [25] from 25 to 56 (fun i wx => i = .int .i64 k ∧
        Hid (wx.ownsRow w.heap.size 3 1 (.slice (some ⟨w.heap.size, 0, none⟩) l.length l.length) l.length ((fillTo (PG.base m l) l.length (k + 1)).map (Value.int .i64))) ∧
        Hid (wx.ownsRow w.heap.size 3 1 (.slice (some ⟨w1.heap.size, 0, none⟩) l.length l.length) l.length ((fillTo (PG.rest m l) l.length (k + 1)).map (Value.int .i64))) ∧
        Hid (wx.ownsRow (w2.heap.size + 1) 3 1 u8 k (idxs (List.range k))) ∧ Hid (Blk wx w2.heap.size 22 #[.slice (some ⟨w1.heap.size, 0, none⟩) l.length l.length]) ∧ Hid (Below w.heap.size w wx) ∧ Hid (w2.heap.size + 1 ≤ wx.heap.size) ∧ Hid (wx.cell? ⟨w.heap.size, k, none⟩ = some (.int .i64 vb)))
      case first =>
        go_region
        all_goals go_wp2_with fail
        go_meet
        refine ⟨rfl, Lib.hid (own_below N6.out (Below.refl _ _).drew), Lib.hid (own_below N7.out (Below.refl _ _).drew), Lib.hid (own_below (own_set (own_set HO8.out (by omega) _) (by omega) _) (Below.refl _ _).drew), Lib.hid ((HP.out.far (by simpa using fun e => e62 e.symm) _).far (by simpa using fun e => e72 e.symm) _).drew, Lib.hid ((HBW.out.setCell (Nat.le_refl _) _).setCell (by simp; omega) _).drew, Lib.hid (by have := HSZ.out; simpa [World.setCell] using this), Lib.hid ?_⟩
        show ((wr.setCell ⟨w.heap.size, k, none⟩ (.int .i64 vb)).setCell ⟨w1.heap.size, k, none⟩ (.int .i64 vr)).cell? ⟨w.heap.size, k, none⟩ = _
        exact (World.cell?_setCell_far _ _ _ _ (fun e => e67 e.symm)).trans (World.cell?_setCell_same _ _ _ c6)
      case rest =>
        obtain ⟨rfl, M6, M7, M8, MP, MB, MS, MC⟩ := hcut
        have mc := MC.out
        have ms := MS.out
        clear c6 f6 c7 f7 N6 N7 HO6 HO7 HO8 HP HBW pc pf pz HSZ wq wr' wm
        go_wp2_with (at_builtin; refine wpList_push2 wc _ rfl (.tmp 52) (.tmp 54) 22 rfl (w2.heap.size + 1) 3 (.int .i64 0) 1 8 Tryz.underlying22 Tryz.info_int rfl (by omega) _ k _ rfl M8.out rfl rfl (by simp [Value.oneCell']) (by omega) (by omega) ms ?_; intro v9 w9 hown9 hgrow9 hblk9)
        have ne8 : ∀ g, g < w2.heap.size + 1 → some g ≠ u8.ownBlock := fun g hg e => by
          have := (M8.out.lt g e.symm).1
          omega
        have L6 := Lib.hid (M6.out.kept hgrow9 (.inr (ne8 w.heap.size (by omega))))
        have L7 := Lib.hid (M7.out.kept hgrow9 (.inr (ne8 w1.heap.size (by omega))))
        have L8 := Lib.hid (show w9.ownsRow (w2.heap.size + 1) 3 1 v9 (k + 1) (idxs (List.range (k + 1))) from by rw [List.range_succ]; simpa [idxs] using hown9)
        have LP := Lib.hid (MP.out.grown hgrow9 (ne8 w2.heap.size (by omega)))
        have LB := Lib.hid (below_push MB.out M8.out hgrow9 (by omega) (by omega))
        have LS := Lib.hid (Nat.le_trans ms hgrow9.size)
        clear hown9 hgrow9 hblk9 mc ms
        go_roundw
        case rel => exact ⟨k + 1, by omega, by go_num, by rw [HTS.out]; first | rfl | go_num | (congr 1; omega), L6, L7, L8, LP, LB, LS⟩
        case measure => simp [intOf]; omega
    · obtain rfl : k = l.length := by omega
      obtain ⟨g9, cap9, rfl, hg90, hg91, hc90, hc91⟩ := own_form HO8.out h0
      have R7 := HO7.out
      have R6 := HO6.out
      rw [fillTo_all] at R7 R6
      have HI7 := Lib.hid (Ints.ofOwnB (B := w2.heap.size + 1) R7 (by omega))
      have HL7 : Hid (((List.range l.length).map (PG.rest m l)).length = l.length) := Lib.hid (by simp)
      have hcm : Compares (PG.rest m l) (fun x y => cmpI (((List.range l.length).map (PG.rest m l)).getD y 0) (((List.range l.length).map (PG.rest m l)).getD x 0)) l.length (w2.heap.size + 1) 173 #[.pointer (some ⟨w2.heap.size, 0, none⟩)] wr :=
        ⟨fun x y => by rw [less_cmp, rest_getD, rest_getD], fun W x y hx hy hW => by
          have hc := (HP.out.below hW (by omega)).one.1
          have e : (Value.slice (some ⟨w1.heap.size, 0, none⟩) l.length l.length) = .slice (some ⟨w1.heap.size, 0, none⟩) ((List.range l.length).map (PG.rest m l)).length l.length := by rw [HL7.out]
          rw [e] at hc
          exact givecmp_any (some ⟨w1.heap.size, 0, none⟩) l.length ((List.range l.length).map (PG.rest m l)) (w2.heap.size + 1) w2.heap.size W (HI7.out.below hW (Nat.le_refl _)) hc x y (by rw [HL7.out]; exact hx) (by rw [HL7.out]; exact hy)⟩
      have HS := Lib.hid (sortStable_any (PG.rest m l) _ l.length g9 cap9 (w2.heap.size + 1) 173 #[.pointer (some ⟨w2.heap.size, 0, none⟩)] wr h0 h6 HO8.out givecmp_cf hcm hg90 HSZ.out)
      have H6 : Hid (wr.ownsRow w.heap.size 3 1 (.slice (some ⟨w.heap.size, 0, none⟩) l.length l.length) l.length ((PR.incs (PG.base m l) (PG.rest m l) l.length 0).map (Value.int .i64))) := Lib.hid (by rw [PR.incs_zero]; exact R6)
      clear hcm R6 R7 HI7 HL7 HO6 HO7 HO8
      -- how many are left
      obtain ⟨z0, z1⟩ := PG.left_bounds m l HW.out.sum
      have hlf : m - tot ((List.range l.length).map (PG.base m l)) = PG.left m l := rfl
      rw [hlf]
      have hmx : max 1 l.length = l.length := by omega
      rw [hmx] at z1
      have hpi := parts_incs m l
      obtain ⟨L, hL⟩ : ∃ L : Nat, (L : Int) = PG.left m l := ⟨(PG.left m l).toNat, by omega⟩
      rw [← hL] at z1 hpi ⊢
      rw [Int.toNat_natCast] at hpi
      have HPI := Lib.hid hpi
      clear hL hlf hmx z0 hpi
      go_wp2_with fail
      refine HS.out.mono ?_; rintro e w3 ⟨rfl, o, ho, hrow, hgr⟩
      have HORD := Lib.hid ho
      have HROW := Lib.hid hrow
      have H63 := Lib.hid (H6.out.kept hgr (.inr (by simp [Value.ownBlock]; omega)))
      have HB3 := Lib.hid (HBW.out.grown hgr HBW.out.size fun k hk => by obtain rfl : g9 = k := Option.some.inj hk; omega)
      clear ho hrow hgr HS H6 HP HBW pc pf pz HSZ
      have k0 : (0 : Int) ≤ (L : Int) := by omega
      have k1 : (L : Int) ≤ (cap9 : Int) := by omega
      have hL1 : L < l.length := by omega
      go_wp2_with fail
      go_loopw [64] (fun vi wr => ∃ k : Nat, k ≤ L ∧ vi = .int .i64 k ∧ Hid (wr.ownsRow w.heap.size 3 1 (.slice (some ⟨w.heap.size, 0, none⟩) l.length l.length) l.length ((PR.incs (PG.base m l) (PG.rest m l) l.length k).map (Value.int .i64))) ∧ Hid (Row (w2.heap.size + 1) l.length g9 cap9 o wr) ∧ Hid (Below w.heap.size w wr))
        (fun vi _ => L - (intOf vi).toNat)
      case atStart => exact ⟨0, Nat.zero_le _, rfl, H63, HROW, HB3⟩
      case round =>
        obtain ⟨k, hk, rfl, HO, HR, HL⟩ := hrel
        clear H63 HROW HB3
        by_cases hlt : k < L
        · obtain ⟨i, hoi, hi, hrk⟩ := HORD.out.at_ (k := k) (by omega)
          obtain ⟨c9, f9⟩ := HR.out.cell hoi HORD.out.len
          obtain ⟨c8, f8, hset⟩ := incs_cell HO.out hi hrk
          obtain ⟨_, _, b0, b1, _, _⟩ := HW.out.base m0 m1 i hi
          have HS := Lib.hid hset
          have HR' : Hid (Row (w2.heap.size + 1) l.length g9 cap9 o (wr.setCell ⟨w.heap.size, i, none⟩ (.int .i64 (PG.base m l i + 1)))) := Lib.hid (own_set HR.out (by omega) _)
          have HL' := Lib.hid (HL.out.setCell (p := ⟨w.heap.size, i, none⟩) (Nat.le_refl _) (.int .i64 (PG.base m l i + 1)))
          clear hset hoi hrk
          generalize PG.base m l i = z at *
          have hi0 : (0 : Int) ≤ (i : Int) := by omega
          have hi1 : (i : Int) < l.length := by omega
          go_wp2
          go_roundw
          case rel => exact ⟨k + 1, by omega, by go_num, HS, HR', HL'⟩
          case measure => simp [intOf]; omega
        · obtain rfl : k = L := by omega
          have HF := Lib.hid HO.out
          rw [← HPI.out] at HF
          go_wp2
          go_ret
          exact ⟨_, rfl, HF.out, HL.out⟩
end Go.Proofs.YtaijpiebjhhkjaaGreatDoor
/- give.Split. -/
namespace Go.Proofs.YtaijpiebjhhkjaaGreatDoor
open Go.RowKit
attribute [local go_sem ↓] run_min_mn run_max_mx
def splitErr (m : Int) (l : List Int) : Int := if idxErr l ≠ 0 then idxErr l else if m < -10000 ∨ 10000 < m then 1 else 0
def splitL (m : Int) (l : List Int) : List Int := if m < 0 then (PG.parts (max m (-m)) l).map (fun x => -x) else PG.parts (max m (-m)) l
theorem splitL_len (m : Int) (l : List Int) : (splitL m l).length = l.length := by
  unfold splitL; split <;> simp [PG.parts_len]
theorem weighs_of {l : List Int} (h : idxErr l = 0) : Weighs l := by
  obtain ⟨h1, h2⟩ := idx_parts h
  obtain ⟨h0, h6, hbad⟩ := few_ok h1
  have hb := badTo_in hbad
  have := (tot_bound l 1000 hb).1
  exact ⟨h0, h6, hb, by omega⟩
theorem split_ok {m : Int} {l : List Int} (h : splitErr m l = 0) : idxErr l = 0 ∧ -10000 ≤ m ∧ m ≤ 10000 := by
  unfold splitErr at h
  split at h
  · omega
  · split at h
    · omega
    · omega
theorem parts_bd {m : Int} {l : List Int} (h : Weighs l) (m0 : 0 ≤ m) (m1 : m ≤ 10000) : ∀ a ∈ PG.parts m l, 0 ≤ a ∧ a ≤ 10000001 := fun a ha => by
  unfold PG.parts at ha
  obtain ⟨i, hi, rfl⟩ := List.mem_map.1 ha
  obtain ⟨_, _, b0, b1, _, _⟩ := h.base m0 m1 i (List.mem_range.1 hi)
  split <;> omega
theorem split_bad (m : Int) (A : Option Addr) (c : Nat) (l : List Int) (w : World) (h : Ints w w.heap.size A c l) (er : Int) (he : splitErr m l = er) (hp : er ≠ 0) :
    Calls Tryz.prog 119 #[.int .i64 m, .slice A l.length c] w fun e w' => e = .returned (.tuple #[.slice none 0 0, .iface 74 (.int .i64 er)]) ∧ Below w.heap.size w w' := by
  by_cases hi : idxErr l = 0
  · unfold splitErr at he
    rw [if_neg (fun x => x hi)] at he
    have hr : m < -10000 ∨ 10000 < m := by
      apply Classical.byContradiction
      intro hc
      rw [if_neg hc] at he
      exact hp he.symm
    rw [if_pos hr] at he
    subst he
    obtain ⟨vt, hvt⟩ : ∃ v, idxT l = v := ⟨_, rfl⟩
    obtain ⟨vb, hvb⟩ : ∃ v, idxB l = v := ⟨_, rfl⟩
    have HC := Lib.hid (index_ok A c l w h hi vt vb hvt hvb)
    clear h hi hp hvt hvb
    have hr' : m < -10000 ∨ (¬ m < -10000 ∧ 10000 < m) := by omega
    clear hr
    rcases hr' with hr | ⟨hr1, hr⟩
    all_goals
      go_enter Tryz.func119, Tryz.ntmps119
      go_wp2_with fail
      refine HC.out.mono ?_; rintro e w1 ⟨rfl, hb1⟩
      have HB := Lib.hid hb1
      clear hb1
      go_wp2
      go_ret2
      exact ⟨rfl, HB.out.alloc HB.out.size _⟩
  · have he2 : idxErr l = er := by unfold splitErr at he; rwa [if_pos hi] at he
    have HC := Lib.hid (index_bad A c l w h er he2 hp)
    clear h hi hp he he2
    go_enter Tryz.func119, Tryz.ntmps119
    go_wp2_with fail
    refine HC.out.mono ?_; rintro e w1 ⟨rfl, hb1⟩
    have HB := Lib.hid hb1
    clear hb1
    go_wp2
    go_ret2
    exact ⟨rfl, HB.out.alloc HB.out.size _⟩
set_option maxHeartbeats 2000000 in
set_option maxRecDepth 100000 in
theorem split_yes (m : Int) (A : Option Addr) (c : Nat) (l : List Int) (w : World) (h : Ints w w.heap.size A c l) (he : splitErr m l = 0) :
    Calls Tryz.prog 119 #[.int .i64 m, .slice A l.length c] w fun e w' => ∃ v, e = .returned (.tuple #[v, .nilIface]) ∧ w'.ownsRow w.heap.size 3 1 v l.length ((splitL m l).map (Value.int .i64)) ∧ Below w.heap.size w w' := by
  obtain ⟨hi, m0, m1⟩ := split_ok he
  obtain ⟨vt, hvt⟩ : ∃ v, idxT l = v := ⟨_, rfl⟩
  obtain ⟨vb, hvb⟩ : ∃ v, idxB l = v := ⟨_, rfl⟩
  have HC := Lib.hid (index_ok A c l w h hi vt vb hvt hvb)
  have HW := Lib.hid (weighs_of hi)
  have H := Lib.hid h
  have hl := (weighs_of hi).six
  have h0 := (weighs_of hi).pos
  clear h he hi hvt hvb
  by_cases hm : m < 0
  · have hd : splitL m l = (PG.parts (max m (-m)) l).map (fun x => -x) := if_pos hm
    rw [hd]
    obtain ⟨L, hL⟩ : ∃ L, PG.parts (max m (-m)) l = L := ⟨_, rfl⟩
    have hll : L.length = l.length := by rw [← hL]; exact PG.parts_len _ _
    have hbd : ∀ a ∈ L, 0 ≤ a ∧ a ≤ 10000001 := by rw [← hL]; exact parts_bd HW.out (by omega) (by omega)
    have HL := Lib.hid hL
    have HLL := Lib.hid hll
    have HBD := Lib.hid hbd
    rw [hL]
    clear hd hL hll hbd
    go_enter Tryz.func119, Tryz.ntmps119
    go_wp2_with fail
    refine HC.out.mono ?_; rintro e w1 ⟨rfl, hb1⟩
    have HB := Lib.hid hb1
    have hB1 := hb1.alloc hb1.size (.cells #[.int .i64 vt, .int .i64 vb] 37)
    have HB1 := Lib.hid hB1
    clear hb1 hB1 HC
    go_wp2_with fail
    refine (gparts_any (max m (-m)) A c l _ ((H.out.below HB1.out (Nat.le_refl _)).more HB1.out.size) HW.out (by omega) (by omega)).mono ?_
    rintro e w2 ⟨v, rfl, ho2, hb2⟩
    rw [HL.out] at ho2
    obtain ⟨g, cap, rfl, hg0, hg1, hcap, hcm⟩ := own_form ho2 h0
    have HO2 := Lib.hid (own_base ho2 HB1.out.size)
    have HB2 := Lib.hid (HB1.out.trans (hb2.mono HB1.out.size))
    have hg0' : w.heap.size ≤ g := Nat.le_trans HB1.out.size hg0
    clear ho2 hb2 hg0
    go_wp2
    go_loopw [35] (fun i wr => ∃ k : Nat, k ≤ l.length ∧ i = .int .i64 k ∧ Hid (wr.ownsRow w.heap.size 3 1 (.slice (some ⟨g, 0, none⟩) l.length cap) l.length ((upd (fun x => -x) L k).map (Value.int .i64))) ∧ Hid (Below w.heap.size w wr))
      (fun i _ => l.length - (intOf i).toNat)
    case atStart => exact ⟨0, Nat.zero_le _, rfl, by show World.ownsRow _ _ _ _ _ _ _; rw [upd_zero]; exact HO2.out, HB2⟩
    case round =>
      obtain ⟨k, hk, rfl, HR, HBL⟩ := hrel
      by_cases hlt : k < l.length
      · have hlt' : k < L.length := by rw [HLL.out]; exact hlt
        have hx : L[k]? = some L[k] := List.getElem?_eq_getElem hlt'
        obtain ⟨x0, x1⟩ := HBD.out L[k] (List.getElem_mem hlt')
        have hset := (HR.out.stored k (.int .i64 (-L[k]))).1
        rw [upd_cells (fun x => -x) L k _ hx] at hset
        have hc := own_cell HR.out (upd_get (fun x => -x) L k _ hx) hlt
        have hf := HR.out.frozenAt k
        generalize L[k] = x at *
        have HBL' := Lib.hid (HBL.out.setCell (p := ⟨g, k, none⟩) hg0' (.int .i64 (-x)))
        have HS := Lib.hid hset; clear hset HR hx hlt'
        go_wp2
        go_roundw
        case rel => exact ⟨k + 1, by omega, by go_num, HS, HBL'⟩
        case measure => simp [intOf]; omega
      · have hk' : k = l.length := by omega
        subst hk'
        have hown := HR.out
        rw [← HLL.out, upd_all, HLL.out] at hown
        have HF := Lib.hid hown
        clear HR hown
        go_wp2
        go_ret2
        exact ⟨_, rfl, HF.out, HBL.out⟩
  · have hd : splitL m l = PG.parts (max m (-m)) l := if_neg hm
    rw [hd]
    clear hd
    have hm' : ¬ m < -10000 := by omega
    go_enter Tryz.func119, Tryz.ntmps119
    go_wp2_with fail
    refine HC.out.mono ?_; rintro e w1 ⟨rfl, hb1⟩
    have HB := Lib.hid hb1
    have hB1 := hb1.alloc hb1.size (.cells #[.int .i64 vt, .int .i64 vb] 37)
    have HB1 := Lib.hid hB1
    clear hb1 hB1 HC
    go_wp2_with fail
    refine (gparts_any (max m (-m)) A c l _ ((H.out.below HB1.out (Nat.le_refl _)).more HB1.out.size) HW.out (by omega) (by omega)).mono ?_
    rintro e w2 ⟨v, rfl, ho2, hb2⟩
    have HO2 := Lib.hid (own_base ho2 HB1.out.size)
    have HB2 := Lib.hid (HB1.out.trans (hb2.mono HB1.out.size))
    clear ho2 hb2
    go_wp2
    go_ret2
    exact ⟨_, rfl, HO2.out, HB2.out⟩
end Go.Proofs.YtaijpiebjhhkjaaGreatDoor
