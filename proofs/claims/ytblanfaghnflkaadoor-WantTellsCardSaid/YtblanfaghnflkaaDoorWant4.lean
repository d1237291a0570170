/- want.Sated: the forms for laws. -/
import Derived.Test.YtblanfaghnflkaaDoorWant3
import Derived.Test.YtblanfaghnflkaaDoorLibJ
import Derived.Test.YtblanfaghnflkaaDoorBls
namespace Go.Proofs.YtblanfaghnflkaaDoor
open Go.RowKit
/-- who is sated -/
def satB (want : List Int) (R : List Rat) (k : Nat) : Bool := decide (R.getD k 0 = ((want.getD k 0 : Int) : Rat))
def satTo (want : List Int) (R : List Rat) (k : Nat) : List Bool := (List.range k).map (satB want R)
theorem satTo_succ (want : List Int) (R : List Rat) (k : Nat) : satTo want R (k + 1) = satTo want R k ++ [satB want R k] := by simp [satTo, List.range_succ]
theorem satTo_len (want : List Int) (R : List Rat) (k : Nat) : (satTo want R k).length = k := by simp [satTo]
set_option maxHeartbeats 2000000 in
theorem wsated_er (C : Option Addr) (cc : Nat) (caps : List Int) (P : Option Addr) (cp m : Nat) (paths : List (List Int)) (A : Option Addr) (c n : Nat) (want : List Int) (B : Nat) (w : World) (er : Int) (hB : B ≤ w.heap.size)
    (hc : Ints w B C cc caps) (hp : Rows2 w B P cp paths) (hi : Ints w B A c want) (hm : m = paths.length) (hn : n = want.length) (he : wantsErr caps paths want = er) (h0 : er ≠ 0) :
    Calls Tryd.prog 59 #[.agg #[.slice C caps.length cc, .slice P m cp], .slice A n c] w fun e w' => e = .returned (.tuple #[.slice none 0 0, .iface 119 (.int .i64 er)]) ∧ Below w.heap.size w w' := by
  subst hm hn
  have HB0 : Hid (Below w.heap.size w (w.alloc (.cells #[.slice C caps.length cc, .slice P paths.length cp] 43))) := Lib.hid ((Below.refl _ _).alloc (Nat.le_refl _) _)
  have HA := Lib.hid (wrates_er C cc caps P cp _ paths A c _ want B _ er (by simp; omega) (hc.below HB0.out hB) (hp.below HB0.out hB) (hi.below HB0.out hB) rfl rfl he h0)
  clear hc hp hi he h0
  go_enter Tryd.func59, Tryd.ntmps59
  go_wp2_with fail
  refine HA.out.mono ?_; rintro e w1 ⟨rfl, hb1⟩
  have HB1 := Lib.hid (HB0.out.trans (hb1.mono HB0.out.size))
  clear hb1
  go_wp2
  go_ret2
  exact ⟨rfl, HB1.out⟩
set_option maxHeartbeats 16000000 in
set_option maxRecDepth 100000 in
theorem wsated_yes (C : Option Addr) (cc : Nat) (caps : List Int) (P : Option Addr) (cp m : Nat) (paths : List (List Int)) (A : Option Addr) (c n : Nat) (want : List Int) (B : Nat) (w : World) (K : Nat) (R : List Rat) (hB : B ≤ w.heap.size)
    (hc : Ints w B C cc caps) (hp : Rows2 w B P cp paths) (hi : Ints w B A c want) (hm : m = paths.length) (hn : n = want.length) (he : wantsErr caps paths want = 0) (hK : FillEnds (caps ++ want) (wideP paths caps.length) K R) :
    Calls Tryd.prog 59 #[.agg #[.slice C caps.length cc, .slice P m cp], .slice A n c] w fun e w' => ∃ A' c', e = .returned (.tuple #[.slice A' R.length c', .nilIface]) ∧ Bls w' w'.heap.size A' c' (satTo want R R.length) ∧ Below w.heap.size w w' := by
  subst hm hn
  have HB0 : Hid (Below w.heap.size w (w.alloc (.cells #[.slice C caps.length cc, .slice P paths.length cp] 43))) := Lib.hid ((Below.refl _ _).alloc (Nat.le_refl _) _)
  have HA := Lib.hid (wrates_yes C cc caps P cp _ paths A c _ want B _ K R (by simp; omega) (hc.below HB0.out hB) (hp.below HB0.out hB) (hi.below HB0.out hB) rfl rfl he hK)
  have HI := Lib.hid hi
  obtain ⟨hne, hwl, _⟩ := wants_ok he
  have h6 := (netErr_ok hne).2.2.2.1
  have hRl := hK.len (wide_netOk he)
  rw [wideP_len] at hRl
  have him := hi.cap; have hil := hi.le
  unfold maxLen at him
  have HRW : Hid (R.length = want.length) := Lib.hid (by omega)
  have hr6 : R.length ≤ 6 := by omega
  clear hc hp hi he hK hne hRl hwl h6
  go_enter Tryd.func59, Tryd.ntmps59
  go_wp2_with fail
  refine HA.out.mono ?_; rintro e w1 ⟨A1, c1, rfl, hf1, hb1⟩
  have HB1 := Lib.hid (HB0.out.trans (hb1.mono HB0.out.size))
  have HF := Lib.hid hf1
  have hfm := hf1.cap; have hfl := hf1.le
  rw [List.length_map] at hfl
  unfold maxLen at hfm
  have hBw := HB1.out.size
  clear hb1 hf1 HA HB0
  go_wp2
  go_loopw [8, 22] (fun v i wr => ∃ k : Nat, k ≤ R.length ∧ i = .int .i64 k ∧ Hid (wr.ownsRow w1.heap.size 4 1 v k ((satTo want R k).map Value.bool)) ∧ Hid (Below w1.heap.size w1 wr)) (fun _ i _ => R.length - (intOf i).toNat)
  case atStart => exact ⟨0, Nat.zero_le _, rfl, Lib.hid (World.ownsRow_nil _ _ _ _), Lib.hid (Below.refl _ _)⟩
  case round =>
    obtain ⟨k, hk, rfl, HO, HB⟩ := hrel
    have hB1 := HB.out.size
    by_cases hlt : k < R.length
    · have k0 : (0 : Int) ≤ (k : Int) := by omega
      have hkw : k < want.length := by have := HRW.out; omega
      have k1 : (k : Int) < (want.length : Int) := by omega
      obtain ⟨bl, ol, rfl, hbl, l0, l1⟩ := frs_q (HF.out.below HB.out (Nat.le_refl _)) hlt
      obtain ⟨bw, ow, x, rfl, hbw, hcell, _, _, HX⟩ := (HI.out.below (HB1.out.trans (HB.out.mono hBw)) hB).elem hkw
      have hfb : satB want R k = decide (R.getD k 0 = (x : Rat)) := by unfold satB; rw [HX.out]
      have hsu := satTo_succ want R k
      obtain ⟨q, hq⟩ : ∃ q, R.getD k 0 = q := ⟨_, rfl⟩
      rw [hq] at l0 l1 hfb
      have hiff := @q_int q x
      obtain ⟨a, ha⟩ : ∃ a, q.num = a := ⟨_, rfl⟩
      obtain ⟨d, hd⟩ : ∃ d : Int, (q.den : Int) = d := ⟨_, rfl⟩
      rw [ha] at l0
      rw [hd] at l1
      rw [ha, hd] at hiff
      have hblz : bl < wr.heap.size := by omega
      have hbwz : bw < wr.heap.size := by omega
      clear hq ha hd HX
      have HQ := Lib.hid (Blk.new wr 23 #[.int .i64 a, .int .i64 d])
      have HOQ := Lib.hid (HO.out.alloc (.cells #[.int .i64 a, .int .i64 d] 23))
      have HBQ := Lib.hid (HB.out.alloc hB1 (.cells #[.int .i64 a, .int .i64 d] 23))
      have hcq : (wr.alloc (.cells #[.int .i64 a, .int .i64 d] 23)).cell? ⟨bw, ow + k, none⟩ = some (.int .i64 x) := (((Below.refl wr.heap.size wr).alloc (Nat.le_refl _) (.cells #[.int .i64 a, .int .i64 d] 23)).cell (p := ⟨bw, ow + k, none⟩) hbwz).trans hcell
      obtain ⟨gq, hgq⟩ : ∃ g, g = wr.heap.size := ⟨_, rfl⟩
      rw [← hgq] at HQ
      go_upto_region 8 with (fail)
      (try rw [← hgq])
      obtain ⟨wq, hwq⟩ : ∃ y, y = wr.alloc (.cells #[.int .i64 a, .int .i64 d] 23) := ⟨_, rfl⟩
      rw [← hwq] at HQ HOQ HBQ hcq ⊢
      have hbwq : bw < wq.heap.size := by rw [hwq]; simp; omega
      have hBq := HBQ.out.size
      obtain ⟨q0, q1, _, _, qz⟩ := HQ.out.two
      clear hwq hgq l0 l1 hcell hblz hbwz HO HB hB1
      by_cases hx : q = (x : Rat)
      · obtain ⟨e1, e2⟩ := hiff.1 hx
        subst e1 e2
        have HSU : Hid (satTo want R (k + 1) = satTo want R k ++ [true]) := Lib.hid (by rw [hsu, hfb, decide_eq_true hx])
        have one1 : Hid (∀ u ∈ (#[Value.bool true] : Array Value).toList, u.oneCell' = true) := Lib.hid (by simp [Value.oneCell'])
        have hk6 : k ≤ 1000000 := by omega
        clear hsu hfb hiff hx
        go_region_law (first
          | (refine step_push rfl (.tmp 27) (.tmp 35) 99 rfl w1.heap.size 4 (.bool false) 1 1 Tryd.underlying99 Tryd.info_boolF rfl Nat.one_pos _ k _ rfl HOV.out w5.heap.size #[.bool true] rfl (heap_alloc_new _ _) rfl one1.out hk6 (by decide) hz6 ?_; intro v9 w9 hown9 hg9 hblk9; have HO9 := Lib.hid hown9; have HB9 := Lib.hid (below_push HBV.out HOV.out hg9 (Nat.le_refl _) hz6); clear hown9 hg9 hblk9)
          | (go_simp; go_at_call 107; refine (whole_any _ _).mono ?_; rintro e w5 ⟨rfl, hb5⟩; have HB5 : Hid (Below wq.heap.size wq w5) := Lib.hid ((Below.refl _ _).drew.trans hb5); have y0 : w5.cell? ⟨gq, 0, none⟩ = some (.int .i64 a) := (HB5.out.cell (p := ⟨gq, 0, none⟩) qz).trans q0; have y1 : w5.cell? ⟨gq, 1, none⟩ = some (.int .i64 1) := (HB5.out.cell (p := ⟨gq, 1, none⟩) qz).trans q1; have HOV := Lib.hid ((own_below HOQ.out HB5.out).alloc (.cells #[.bool true] 4)); have hb6 := HBQ.out.trans (HB5.out.mono hBq); have HBV := Lib.hid (hb6.alloc hb6.size (.cells #[.bool true] 4)); have hz6 := HBV.out.size; have hz5 := HB5.out.size; clear hb5 hb6))
        all_goals
          go_wp2
          go_roundw
          case rel => exact ⟨k + 1, by omega, by go_num, Lib.hid (by rw [HSU.out, List.map_append]; exact HO9.out), HB9⟩
          case measure => simp [intOf]; omega
      · have hne : ¬ (a = x ∧ d = 1) := fun h => hx (hiff.2 h)
        have HSU : Hid (satTo want R (k + 1) = satTo want R k ++ [false]) := Lib.hid (by rw [hsu, hfb, decide_eq_false hx])
        have one1 : Hid (∀ u ∈ (#[Value.bool false] : Array Value).toList, u.oneCell' = true) := Lib.hid (by simp [Value.oneCell'])
        have hk6 : k ≤ 1000000 := by omega
        clear hsu hfb hiff hx
        by_cases e1 : a = x
        · have e2 : (d == 1) = false := beq_eq_false_iff_ne.2 fun h => hne ⟨e1, h⟩
          subst e1
          clear hne
          go_region_law (first
          | (refine step_push rfl (.tmp 27) (.tmp 35) 99 rfl w1.heap.size 4 (.bool false) 1 1 Tryd.underlying99 Tryd.info_boolF rfl Nat.one_pos _ k _ rfl HOV.out w5.heap.size #[.bool false] rfl (heap_alloc_new _ _) rfl one1.out hk6 (by decide) hz6 ?_; intro v9 w9 hown9 hg9 hblk9; have HO9 := Lib.hid hown9; have HB9 := Lib.hid (below_push HBV.out HOV.out hg9 (Nat.le_refl _) hz6); clear hown9 hg9 hblk9)
          | (go_simp; go_at_call 107; refine (whole_any _ _).mono ?_; rintro e w5 ⟨rfl, hb5⟩; have HB5 : Hid (Below wq.heap.size wq w5) := Lib.hid ((Below.refl _ _).drew.trans hb5); have y0 : w5.cell? ⟨gq, 0, none⟩ = some (.int .i64 a) := (HB5.out.cell (p := ⟨gq, 0, none⟩) qz).trans q0; have y1 : w5.cell? ⟨gq, 1, none⟩ = some (.int .i64 d) := (HB5.out.cell (p := ⟨gq, 1, none⟩) qz).trans q1; have HOV := Lib.hid ((own_below HOQ.out HB5.out).alloc (.cells #[.bool false] 4)); have hb6 := HBQ.out.trans (HB5.out.mono hBq); have HBV := Lib.hid (hb6.alloc hb6.size (.cells #[.bool false] 4)); have hz6 := HBV.out.size; have hz5 := HB5.out.size; clear hb5 hb6))
          all_goals
            go_wp2
            go_roundw
            case rel => exact ⟨k + 1, by omega, by go_num, Lib.hid (by rw [HSU.out, List.map_append]; exact HO9.out), HB9⟩
            case measure => simp [intOf]; omega
        · have e2 : (a == x) = false := beq_eq_false_iff_ne.2 e1
          clear hne e1
          go_region_law (first
          | (refine step_push rfl (.tmp 27) (.tmp 35) 99 rfl w1.heap.size 4 (.bool false) 1 1 Tryd.underlying99 Tryd.info_boolF rfl Nat.one_pos _ k _ rfl HOV.out w5.heap.size #[.bool false] rfl (heap_alloc_new _ _) rfl one1.out hk6 (by decide) hz6 ?_; intro v9 w9 hown9 hg9 hblk9; have HO9 := Lib.hid hown9; have HB9 := Lib.hid (below_push HBV.out HOV.out hg9 (Nat.le_refl _) hz6); clear hown9 hg9 hblk9)
          | (go_simp; go_at_call 107; refine (whole_any _ _).mono ?_; rintro e w5 ⟨rfl, hb5⟩; have HB5 : Hid (Below wq.heap.size wq w5) := Lib.hid ((Below.refl _ _).drew.trans hb5); have y0 : w5.cell? ⟨gq, 0, none⟩ = some (.int .i64 a) := (HB5.out.cell (p := ⟨gq, 0, none⟩) qz).trans q0; have y1 : w5.cell? ⟨gq, 1, none⟩ = some (.int .i64 d) := (HB5.out.cell (p := ⟨gq, 1, none⟩) qz).trans q1; have HOV := Lib.hid ((own_below HOQ.out HB5.out).alloc (.cells #[.bool false] 4)); have hb6 := HBQ.out.trans (HB5.out.mono hBq); have HBV := Lib.hid (hb6.alloc hb6.size (.cells #[.bool false] 4)); have hz6 := HBV.out.size; have hz5 := HB5.out.size; clear hb5 hb6))
          all_goals
            go_wp2
            go_roundw
            case rel => exact ⟨k + 1, by omega, by go_num, Lib.hid (by rw [HSU.out, List.map_append]; exact HO9.out), HB9⟩
            case measure => simp [intOf]; omega
    · obtain rfl : k = R.length := by omega
      obtain ⟨A7, c7, hv7, hn7, hi7⟩ := owns_bls HO.out
      clear hn7
      rw [satTo_len] at hv7
      subst hv7
      have HI7 := Lib.hid hi7
      clear hi7
      go_wp2
      go_ret2
      exact ⟨A7, c7, rfl, HI7.out, HB1.out.trans (HB.out.mono hBw)⟩
end Go.Proofs.YtblanfaghnflkaaDoor
