/- The reference's Fits, and full links. -/
import Derived.Test.YtblanfaghnflkaaDoorRefLoad2
import Derived.Test.YtblanfaghnflkaaDoorLibJ
namespace Go.Proofs.YtblanfaghnflkaaDoor
open Go.RowKit
theorem refFits_er (C : Option Addr) (cc : Nat) (caps : List Int) (P : Option Addr) (cp m : Nat) (paths : List (List Int)) (A : Option Addr) (c n : Nat) (S : List Fr) (B : Nat) (w : World) (er : Int) (hB : B ≤ w.heap.size) (hc : Ints w B C cc caps) (hp : Rows2 w B P cp paths) (hr : Frs w B A c S)
    (hm : m = paths.length) (hn : n = S.length) (he : (chkErr caps paths S = er ∧ er ≠ 0) ∨ (∃ Q : List Rat, S = Q.map frQ ∧ netErr caps paths = 0 ∧ Q.length = paths.length ∧ (∀ q ∈ Q, QIn q) ∧ loadsTo paths Q caps.length = none ∧ er = 4)) (h0 : er ≠ 0) :
    Calls Tryd.prog 50 #[.agg #[.slice C caps.length cc, .slice P m cp], .slice A n c] w fun e w' => e = .returned (.tuple #[.bool false, .int .i64 er]) ∧ Below w.heap.size w w' := by
  subst hm
  have HB0 : Hid (Below w.heap.size w (w.alloc (.cells #[.slice C caps.length cc, .slice P paths.length cp] 43))) := Lib.hid ((Below.refl _ _).alloc (Nat.le_refl _) _)
  have HL := Lib.hid (refLoad_er C cc caps P cp _ paths A c n S B (w.alloc (.cells #[.slice C caps.length cc, .slice P paths.length cp] 43)) er (by simp; omega) (hc.below HB0.out hB) (hp.below HB0.out hB) (hr.below HB0.out hB) rfl hn he)
  have e0 : (er != 0) = true := by simpa using h0
  clear hc hp hr he hn h0
  go_enter Tryd.func50, Tryd.ntmps50
  go_wp2_with fail
  refine HL.out.mono ?_; rintro e w1 ⟨rfl, hb1⟩
  have HB1 := Lib.hid (HB0.out.trans (hb1.mono HB0.out.size))
  clear hb1
  go_wp2
  go_ret2
  exact ⟨rfl, HB1.out⟩
set_option maxHeartbeats 8000000 in
set_option maxRecDepth 100000 in
theorem refFits_yes (C : Option Addr) (cc : Nat) (caps : List Int) (P : Option Addr) (cp m : Nat) (paths : List (List Int)) (A : Option Addr) (c n : Nat) (Q L : List Rat) (bb : Bool) (B : Nat) (w : World) (hB : B ≤ w.heap.size) (hc : Ints w B C cc caps) (hp : Rows2 w B P cp paths) (hr : Frs w B A c (Q.map frQ))
    (hm : m = paths.length) (hn : n = Q.length) (he : netErr caps paths = 0) (hl : Q.length = paths.length) (hq : ∀ q ∈ Q, QIn q) (hL : loadsTo paths Q caps.length = some L) (hb : fitsB caps Q L = bb) :
    Calls Tryd.prog 50 #[.agg #[.slice C caps.length cc, .slice P m cp], .slice A n c] w fun e w' => e = .returned (.tuple #[.bool bb, .int .i64 0]) ∧ Below w.heap.size w w' := by
  subst hm hn
  obtain ⟨k1, k2, k3, k4, _, _⟩ := netErr_ok he
  have HB0 : Hid (Below w.heap.size w (w.alloc (.cells #[.slice C caps.length cc, .slice P paths.length cp] 43))) := Lib.hid ((Below.refl _ _).alloc (Nat.le_refl _) _)
  have HN0 := Lib.hid (Blk.new w 43 #[.slice C caps.length cc, .slice P paths.length cp])
  have HL := Lib.hid (refLoad_yes C cc caps P cp _ paths A c _ Q L B (w.alloc (.cells #[.slice C caps.length cc, .slice P paths.length cp] 43)) (by simp; omega) (hc.below HB0.out hB) (hp.below HB0.out hB) (hr.below HB0.out hB) rfl rfl he hl hq hL)
  have hLl := loadsTo_len hL
  have HLI := Lib.hid (loadsTo_in hL)
  have HC := Lib.hid hc; have HR := Lib.hid hr; have HBB := Lib.hid hb
  have hcm := hc.cap; have hcl := hc.le; have hrm := hr.cap; have hrl := hr.le
  rw [List.length_map] at hrl
  unfold maxLen at hcm hrm
  have hql : Q.length ≤ 6 := by omega
  have HLL := Lib.hid hLl
  have HKC := Lib.hid (netErr_ok he).2.2.2.2.1
  clear hc hp hr he hl hq hL hb hLl
  go_enter Tryd.func50, Tryd.ntmps50
  go_wp2_with fail
  refine HL.out.mono ?_; rintro e w1 ⟨A', c', rfl, hf, hb1⟩
  have HF := Lib.hid hf
  have hcm' := hf.cap; have hcl' := hf.le
  rw [List.length_map, HLL.out] at hcl'
  unfold maxLen at hcm'
  have HB1 := Lib.hid (HB0.out.trans (hb1.mono HB0.out.size))
  have HN1 := Lib.hid (HN0.out.go hb1)
  clear hb1 HB0 HN0 HL hf
  go_wp2
  go_loopw [8] (fun i wr => ∃ k : Nat, k ≤ Q.length ∧ i = .int .i64 k ∧ Hid (negB (Q.take k) = false) ∧ Hid (Below w1.heap.size w1 wr)) (fun i _ => Q.length - (intOf i).toNat)
  case atStart => exact ⟨0, Nat.zero_le _, rfl, Lib.hid (by simp [negB]), Lib.hid (Below.refl _ _)⟩
  case round =>
    obtain ⟨k, hk, rfl, HNG, HB⟩ := hrel
    have hB1 := HB.out.size
    have hBw := HB1.out.size
    by_cases hlt : k < Q.length
    · have k0 : (0 : Int) ≤ (k : Int) := by omega
      obtain ⟨br, or, rfl, hbr, r0, r1⟩ := frs_q (HR.out.below (HB1.out.trans (HB.out.mono hBw)) hB) hlt
      have hbz : br < wr.heap.size := by omega
      have hng := any_q hlt
      rw [HNG.out, Bool.false_or] at hng
      obtain ⟨q, hqq⟩ : ∃ q, Q.getD k 0 = q := ⟨_, rfl⟩
      rw [hqq] at hng r0 r1
      clear hqq
      by_cases hneg : q.num < 0
      · have hfb : Hid (bb = false) := Lib.hid (by
          rw [← HBB.out]; unfold fitsB
          have : negB Q = true := by
            unfold negB at *
            rw [List.any_eq_true]
            have h1 : (Q.take (k + 1)).any (fun q => decide (q.num < 0)) = true := by rw [hng]; exact decide_eq_true hneg
            rw [List.any_eq_true] at h1
            obtain ⟨x, hx, hx2⟩ := h1
            exact ⟨x, List.mem_of_mem_take hx, hx2⟩
          rw [this]; rfl)
        clear hng
        go_wp2
        go_ret2
        exact ⟨by rw [hfb.out]; rfl, HB1.out.trans (HB.out.mono hBw)⟩
      · have HNG' : Hid (negB (Q.take (k + 1)) = false) := Lib.hid (by rw [hng]; exact decide_eq_false hneg)
        have hd : decide (q.num < 0) = false := decide_eq_false hneg
        clear hng
        go_wp2
        go_roundw
        case rel => exact ⟨k + 1, by omega, by go_num, HNG', HB⟩
        case measure => simp [intOf]; omega
    · obtain rfl : k = Q.length := by omega
      have hng := HNG.out
      rw [List.take_length] at hng
      have HNG' := Lib.hid hng
      have HN2 := Lib.hid (HN1.out.go HB.out)
      obtain ⟨n0, n1, _, _, nz⟩ := HN2.out.two
      have HB2 := Lib.hid (HB1.out.trans (HB.out.mono hBw))
      have HF2 := Lib.hid (HF.out.below HB.out (Nat.le_refl _))
      obtain ⟨w2, hw2⟩ : ∃ x, x = wr := ⟨_, rfl⟩
      rw [← hw2] at HB2 HF2 HN2 n0 n1 nz ⊢
      have hz2 : w1.heap.size ≤ w2.heap.size := by rw [hw2]; exact hB1
      clear hng hw2 HB HN1 HB1 HF n0 n1 nz
      go_wp2
      go_loopw [9] (fun i wr => ∃ k : Nat, k ≤ caps.length ∧ i = .int .i64 k ∧ Hid ((List.range k).any (overB caps L) = false) ∧ Hid (Below w2.heap.size w2 wr)) (fun i _ => caps.length - (intOf i).toNat)
      case atStart => exact ⟨0, Nat.zero_le _, rfl, Lib.hid (by simp), Lib.hid (Below.refl _ _)⟩
      case round =>
        obtain ⟨k, hk, rfl, HOV, HB⟩ := hrel
        have HNK := Lib.hid (HN2.out.go HB.out)
        obtain ⟨n0, n1, _, _, nz⟩ := HNK.out.two
        have hB1 := HB.out.size
        have hBw := HB2.out.size
        by_cases hlt : k < caps.length
        · have k0 : (0 : Int) ≤ (k : Int) := by omega
          have hlk : k < L.length := by rw [HLL.out]; exact hlt
          obtain ⟨bl, ol, rfl, hbl, l0, l1⟩ := frs_q (HF2.out.below HB.out hz2) hlk
          obtain ⟨bc, oc, rfl, hbc, hcell⟩ := caps_get (HC.out.below (HB2.out.trans (HB.out.mono hBw)) hB) hlt
          have hov' := trivial
          have hqin : QIn (L.getD k 0) := HLI.out _ (by rw [List.getD_eq_getElem?_getD, List.getElem?_eq_getElem hlk]; exact List.getElem_mem hlk)
          have hcin := HKC.out _ (List.getElem_mem hlt)
          have hcg : caps.getD k 0 = caps[k] := by rw [List.getD_eq_getElem?_getD, List.getElem?_eq_getElem hlt]; rfl
          rw [← hcg] at hcin
          have hoe' : overB caps L k = decide (((caps.getD k 0 : Int) : Rat) < L.getD k 0) := rfl
          obtain ⟨cv, hcv⟩ : ∃ x, caps.getD k 0 = x := ⟨_, rfl⟩
          obtain ⟨q, hqq⟩ : ∃ q, L.getD k 0 = q := ⟨_, rfl⟩
          rw [hcv] at hcell hcin hoe'
          rw [hqq] at hqin l0 l1 hoe'
          have hcq : QIn (cv : Rat) := by unfold QIn FracIn; simp; omega
          have hol : (k : Int) < (caps.length : Int) := by omega
          have hblz : bl < wr.heap.size := by omega
          have hbcz : bc < wr.heap.size := by omega
          have HOR := Lib.hid fun (o : Int) (ho : ordQ q cv = o) (W : World) => (show Calls Tryd.prog 21 #[.agg #[.int .i64 q.num, .int .i64 q.den], .agg #[.int .i64 cv, .int .i64 1]] W fun e w' => e = .returned (.int .i64 o) ∧ Below W.heap.size W w' from by have := refOrder_q q cv o W hqin hcq ho; simpa using this)
          clear hqin hcin hcg hcv hqq hcq
          obtain ⟨o, ho⟩ : ∃ o : Int, ordQ q cv = o := ⟨_, rfl⟩
          have HO1 := Lib.hid (HOR.out o ho)
          have hoo : decide (0 < o) = overB caps L k := by
            rw [hoe', ← ho]; unfold ordQ
            by_cases h1 : q < (cv : Rat)
            · have h3 : ¬ (cv : Rat) < q := by grind
              rw [if_pos h1]; simp [h3]
            · by_cases h2 : (cv : Rat) < q
              · rw [if_neg h1, if_pos h2]; simp [h2]
              · rw [if_neg h1, if_neg h2]; simp [h2]
          have HOO := Lib.hid hoo
          clear hov' hoe' HOR ho hoo
          go_upto_region 12 with (fail)
          go_cut [48] (fun s48 wx => s48 = .bool (decide (0 < o)) ∧ Hid (Below wr.heap.size wr wx))
          case first =>
            go_region_law (first
              | (go_simp; go_at_call 52; refine (refWhole_any cv _).mono ?_; rintro e w5 ⟨rfl, hb5⟩; have HB5 : Hid (Below wr.heap.size wr w5) := Lib.hid (by first | exact hb5 | exact (Below.refl _ _).drew.trans hb5 | exact (Below.refl _ _).drew.drew.trans hb5); have y2 : w5.cell? ⟨bl, ol + k * 2, none⟩ = some (.int .i64 q.num) := (HB5.out.cell (p := ⟨bl, ol + k * 2, none⟩) hblz).trans l0; have y3 : w5.cell? ⟨bl, ol + k * 2 + 1, none⟩ = some (.int .i64 q.den) := (HB5.out.cell (p := ⟨bl, ol + k * 2 + 1, none⟩) hblz).trans l1; have hz5 := HB5.out.size; clear hb5)
              | (go_simp; go_at_call 21; refine (HO1.out _).mono ?_; rintro e w6 ⟨rfl, hb6⟩; have HB6 : Hid (Below wr.heap.size wr w6) := Lib.hid (HB5.out.trans ((show Below w5.heap.size w5 w6 by first | exact hb6 | exact (Below.refl _ _).drew.trans hb6 | exact (Below.refl _ _).drew.drew.trans hb6).mono HB5.out.size)); clear hb6))
            all_goals
              go_wp2
              go_meet
              exact ⟨rfl, Lib.hid (by first | exact HB6.out | exact HB6.out.drew | exact HB6.out.drew.drew)⟩
          case rest =>
            clear l0 l1 hcell HO1 n0 n1 nz
            obtain ⟨rfl, HBX⟩ := hcut
            rw [HOO.out]
            have HBY := Lib.hid (HB.out.trans (HBX.out.mono hB1))
            have hov := any_over caps L k
            rw [HOV.out, Bool.false_or] at hov
            cases hob : overB caps L k
            · rw [hob] at hov
              have HOV' := Lib.hid hov
              clear hov hob HOO
              go_wp2
              go_roundw
              case rel => exact ⟨k + 1, by omega, by go_num, HOV', HBY⟩
              case measure => simp [intOf]; omega
            · have hfb : Hid (bb = false) := Lib.hid (by
                rw [← HBB.out]; unfold fitsB
                have : (List.range caps.length).any (overB caps L) = true := by
                  rw [List.any_eq_true]; exact ⟨k, List.mem_range.2 hlt, hob⟩
                rw [this]; simp)
              clear hov hob HOO
              go_wp2
              go_ret2
              exact ⟨by rw [hfb.out]; rfl, HB2.out.trans (HBY.out.mono hBw)⟩
        · obtain rfl : k = caps.length := by omega
          have hfb : Hid (bb = true) := Lib.hid (by rw [← HBB.out]; unfold fitsB; rw [HNG'.out, HOV.out]; rfl)
          go_wp2
          go_ret2
          exact ⟨by rw [hfb.out]; rfl, HB2.out.trans (HB.out.mono hBw)⟩
set_option maxHeartbeats 8000000 in
set_option maxRecDepth 100000 in
theorem refFull_any (C : Option Addr) (cc : Nat) (caps : List Int) (Pv : Value) (A' : Option Addr) (c' n : Nat) (L : List Rat) (B : Nat) (w : World) (hB : B ≤ w.heap.size) (hc : Ints w B C cc caps) (hf : Frs w B A' c' (L.map frQ)) (hn : n = L.length) (hL : L.length = caps.length) (h6 : caps.length ≤ 1000) :
    Calls Tryd.prog 61 #[.agg #[.slice C caps.length cc, Pv], .slice A' n c'] w fun e w' => ∃ A' c', e = .returned (.slice A' (fulls caps L).length c') ∧ Ints w' w'.heap.size A' c' ((fulls caps L).map fun (i : Nat) => (i : Int)) ∧ Below w.heap.size w w' := by
  subst hn
  have HB0 : Hid (Below w.heap.size w (w.alloc (.cells #[.slice C caps.length cc, Pv] 43))) := Lib.hid ((Below.refl _ _).alloc (Nat.le_refl _) _)
  have HN0 := Lib.hid (Blk.new w 43 #[.slice C caps.length cc, Pv])
  have HLL := Lib.hid hL
  have HC := Lib.hid hc
  have hcm := hc.cap; have hcl := hc.le
  unfold maxLen at hcm
  have HF := Lib.hid hf
  have hcm' := hf.cap; have hcl' := hf.le
  rw [List.length_map, HLL.out] at hcl'
  unfold maxLen at hcm'
  rw [hL]
  clear hc hf hL
  go_enter Tryd.func61, Tryd.ntmps61
  go_wp2
  go_loopw [5, 6] (fun v i wr => ∃ k : Nat, k ≤ caps.length ∧ i = .int .i64 k ∧ Hid (wr.ownsRow w.heap.size 3 1 v (fullTo caps L k).length (((fullTo caps L k).map fun (i : Nat) => (i : Int)).map (Value.int .i64))) ∧ Hid (Below w.heap.size w wr) ∧ Hid (Blk wr w.heap.size 43 #[.slice C caps.length cc, Pv])) (fun _ i _ => caps.length - (intOf i).toNat)
  case atStart => exact ⟨0, Nat.zero_le _, rfl, Lib.hid (World.ownsRow_nil _ _ _ _), HB0, HN0⟩
  case round =>
    clear HB0 HN0
    obtain ⟨k, hk, rfl, HO, HB, HN⟩ := hrel
    have hB1 := HB.out.size
    obtain ⟨n0, n1, _, _, nz⟩ := HN.out.two
    by_cases hlt : k < caps.length
    · have k0 : (0 : Int) ≤ (k : Int) := by omega
      have hlk : k < L.length := by rw [HLL.out]; exact hlt
      have hol : (k : Int) < (caps.length : Int) := by omega
      obtain ⟨bl, ol, rfl, hbl, l0, l1⟩ := frs_q (HF.out.below HB.out hB) hlk
      obtain ⟨bc, oc, rfl, hbc, hcell⟩ := caps_get (HC.out.below HB.out hB) hlt
      have hsu := fullTo_succ caps L k
      have hfb : fullB caps L k = decide (L.getD k 0 = ((caps.getD k 0 : Int) : Rat)) := rfl
      have hfl := fullTo_le caps L k
      obtain ⟨cv, hcv⟩ : ∃ x, caps.getD k 0 = x := ⟨_, rfl⟩
      obtain ⟨q, hqq⟩ : ∃ q, L.getD k 0 = q := ⟨_, rfl⟩
      rw [hcv] at hcell
      rw [hqq] at l0 l1
      rw [hcv, hqq] at hfb
      have hiff := @q_int q cv
      obtain ⟨a, ha⟩ : ∃ a, q.num = a := ⟨_, rfl⟩
      obtain ⟨d, hd⟩ : ∃ d : Int, (q.den : Int) = d := ⟨_, rfl⟩
      rw [ha] at l0
      rw [hd] at l1
      rw [ha, hd] at hiff
      have hblz : bl < wr.heap.size := by omega
      have hbcz : bc < wr.heap.size := by omega
      have hW := fun W => refWhole_any cv W
      clear hcv hqq ha hd
      go_upto_region 5 with (fail)
      go_cut [23] (fun s23 wx => s23 = .bool (decide (q = (cv : Rat))) ∧ Hid (Below wr.heap.size wr wx))
      case first =>
        by_cases hfull : q = (cv : Rat)
        · obtain ⟨e1, e2⟩ := hiff.1 hfull
          have HFU := Lib.hid (decide_eq_true hfull)
          subst e1 e2
          clear hsu hfb hiff hfull
          go_region_law (go_simp; go_at_call 52; refine (refWhole_any a _).mono ?_; rintro e w5 ⟨rfl, hb5⟩; have HB5 : Hid (Below wr.heap.size wr w5) := Lib.hid (by first | exact hb5 | exact (Below.refl _ _).drew.trans hb5 | exact (Below.refl _ _).drew.drew.trans hb5); have y2 : w5.cell? ⟨bl, ol + k * 2, none⟩ = some (.int .i64 a) := (HB5.out.cell (p := ⟨bl, ol + k * 2, none⟩) hblz).trans l0; have y3 : w5.cell? ⟨bl, ol + k * 2 + 1, none⟩ = some (.int .i64 1) := (HB5.out.cell (p := ⟨bl, ol + k * 2 + 1, none⟩) hblz).trans l1; have hz5 := HB5.out.size; clear hb5)
          all_goals
            go_wp2
            go_meet
            exact ⟨by rw [HFU.out]; first | done | rfl | simp, Lib.hid (by first | exact HB5.out | exact HB5.out.drew | exact HB5.out.drew.drew)⟩
        · have hne : ¬ (a = cv ∧ d = 1) := fun h => hfull (hiff.2 h)
          have HFU := Lib.hid (decide_eq_false hfull)
          clear hsu hfb hiff hfull
          by_cases e1 : a = cv
          · have e2 : (d == 1) = false := beq_eq_false_iff_ne.2 fun h => hne ⟨e1, h⟩
            subst e1
            clear hne
            go_region_law (go_simp; go_at_call 52; refine (refWhole_any a _).mono ?_; rintro e w5 ⟨rfl, hb5⟩; have HB5 : Hid (Below wr.heap.size wr w5) := Lib.hid (by first | exact hb5 | exact (Below.refl _ _).drew.trans hb5 | exact (Below.refl _ _).drew.drew.trans hb5); have y2 : w5.cell? ⟨bl, ol + k * 2, none⟩ = some (.int .i64 a) := (HB5.out.cell (p := ⟨bl, ol + k * 2, none⟩) hblz).trans l0; have y3 : w5.cell? ⟨bl, ol + k * 2 + 1, none⟩ = some (.int .i64 d) := (HB5.out.cell (p := ⟨bl, ol + k * 2 + 1, none⟩) hblz).trans l1; have hz5 := HB5.out.size; clear hb5)
            all_goals
              go_wp2
              go_meet
              exact ⟨by rw [HFU.out]; first | done | rfl | simp, Lib.hid (by first | exact HB5.out | exact HB5.out.drew | exact HB5.out.drew.drew)⟩
          · have e2 : (a == cv) = false := beq_eq_false_iff_ne.2 e1
            clear hne e1
            go_region_law (go_simp; go_at_call 52; refine (refWhole_any cv _).mono ?_; rintro e w5 ⟨rfl, hb5⟩; have HB5 : Hid (Below wr.heap.size wr w5) := Lib.hid (by first | exact hb5 | exact (Below.refl _ _).drew.trans hb5 | exact (Below.refl _ _).drew.drew.trans hb5); have y2 : w5.cell? ⟨bl, ol + k * 2, none⟩ = some (.int .i64 a) := (HB5.out.cell (p := ⟨bl, ol + k * 2, none⟩) hblz).trans l0; have y3 : w5.cell? ⟨bl, ol + k * 2 + 1, none⟩ = some (.int .i64 d) := (HB5.out.cell (p := ⟨bl, ol + k * 2 + 1, none⟩) hblz).trans l1; have hz5 := HB5.out.size; clear hb5)
            all_goals
              go_wp2
              go_meet
              exact ⟨by rw [HFU.out]; first | done | rfl | simp, Lib.hid (by first | exact HB5.out | exact HB5.out.drew | exact HB5.out.drew.drew)⟩
      case rest =>
        clear l0 l1 hcell hiff n0 n1 nz
        obtain ⟨rfl, HBX⟩ := hcut
        rw [← hfb]
        have HO5 := Lib.hid (own_below HO.out HBX.out)
        have HB5 := Lib.hid (HB.out.trans (HBX.out.mono hB1))
        have HN5 := Lib.hid (HN.out.go HBX.out)
        have hz5 := HB5.out.size
        cases hfk : fullB caps L k
        · have HSU : Hid (fullTo caps L (k + 1) = fullTo caps L k) := Lib.hid (by rw [hsu, hfk]; simp)
          clear hsu hfb hfk
          go_wp2
          go_roundw
          case rel => exact ⟨k + 1, by omega, by go_num, by rw [HSU.out]; exact HO5, HB5, HN5⟩
          case measure => simp [intOf]; omega
        · have HSU : Hid (fullTo caps L (k + 1) = fullTo caps L k ++ [k]) := Lib.hid (by rw [hsu, hfk]; rfl)
          clear hsu hfb hfk
          obtain ⟨w5, hw5⟩ : ∃ x, x = wc := ⟨_, rfl⟩
          rw [← hw5] at HO5 HB5 HN5 hz5 ⊢
          clear hw5
          go_wp2_with (at_builtin; refine wpList_push w5 _ rfl (.tmp 24) (.tmp 26) 40 rfl w.heap.size 3 (.int .i64 0) 1 8 Tryd.underlying40 Tryd.info_int rfl (by omega) _ _ _ rfl HO5.out rfl rfl (by simp [Value.oneCell']) (by omega) (by omega) hz5 ?_; intro v' w7 hown7 hg7; have HO7 := Lib.hid hown7; have HB7 := Lib.hid (below_push HB5.out HO5.out hg7 (Nat.le_refl _) hz5); have HN7 := Lib.hid (HN5.out.grown hg7 fun e => own_blk_ne HO5.out HN5.out (by decide) e.symm); clear hown7 hg7)
          go_roundw
          case rel => exact ⟨k + 1, by omega, by go_num, by rw [HSU.out, List.length_append, List.map_append, List.map_append]; exact HO7, HB7, HN7⟩
          case measure => simp [intOf]; omega
    · obtain rfl : k = caps.length := by omega
      obtain ⟨A7, c7, hv7, _, hi7⟩ := owns_ints HO.out
      rw [List.length_map] at hv7
      have hfl7 := fullTo_le caps L caps.length
      subst hv7
      have HI7 := Lib.hid hi7
      clear hi7
      go_wp2
      go_ret
      exact ⟨A7, c7, rfl, HI7.out, HB.out⟩
end Go.Proofs.YtblanfaghnflkaaDoor
