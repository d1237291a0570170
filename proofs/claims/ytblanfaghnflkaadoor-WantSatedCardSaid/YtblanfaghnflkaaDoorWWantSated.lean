/- The walk of WantSated: it returns true for every input. -/
import Derived.Test.YtblanfaghnflkaaDoorWant4
import Derived.Test.YtblanfaghnflkaaDoorWant5
import Derived.Test.YtblanfaghnflkaaDoorLibJ
import Derived.Test.YtblanfaghnflkaaDoorPlSated
import Derived.Test.YtblanfaghnflkaaDoorFrSame
import Derived.Test.YtblanfaghnflkaaDoorTold
namespace Go.Proofs.YtblanfaghnflkaaDoor
open Go.RowKit
set_option maxHeartbeats 2000000 in
theorem wantSated_fact (W : World) : Calls Tryd.prog 58 #[.agg #[.slice (some ⟨W.heap.size, 0, none⟩) 1 1, .slice (some ⟨W.heap.size + 1 + 1 + 1, 0, none⟩) 2 2], .slice (some ⟨W.heap.size + 1 + 1 + 1 + 1, 0, none⟩) 2 2] (((((W.alloc (.cells #[.int .i64 10] 3)).alloc (.cells #[.int .i64 0] 3)).alloc (.cells #[.int .i64 0] 3)).alloc (.cells #[.slice (some ⟨W.heap.size + 1, 0, none⟩) 1 1, .slice (some ⟨W.heap.size + 1 + 1, 0, none⟩) 1 1] 40)).alloc (.cells #[.int .i64 2, .int .i64 100] 3)) fun e w' => ∃ A c, e = .returned (.tuple #[.slice A 2 c, .nilIface]) ∧ (∃ b off, A = some ⟨b, off, none⟩ ∧ b < w'.heap.size ∧ w'.cell? ⟨b, off, none⟩ = some (.int .i64 2) ∧ w'.cell? ⟨b, off + 2, none⟩ = some (.int .i64 8)) ∧ Below W.heap.size W w' := by
  have h1 : Blk (((((W.alloc (.cells #[.int .i64 10] 3)).alloc (.cells #[.int .i64 0] 3)).alloc (.cells #[.int .i64 0] 3)).alloc (.cells #[.slice (some ⟨W.heap.size + 1, 0, none⟩) 1 1, .slice (some ⟨W.heap.size + 1 + 1, 0, none⟩) 1 1] 40)).alloc (.cells #[.int .i64 2, .int .i64 100] 3)) W.heap.size 3 (List.map (Value.int .i64) [10]).toArray := ((((Blk.new _ _ _).alloc _).alloc _).alloc _).alloc _
  have h2 : Blk (((((W.alloc (.cells #[.int .i64 10] 3)).alloc (.cells #[.int .i64 0] 3)).alloc (.cells #[.int .i64 0] 3)).alloc (.cells #[.slice (some ⟨W.heap.size + 1, 0, none⟩) 1 1, .slice (some ⟨W.heap.size + 1 + 1, 0, none⟩) 1 1] 40)).alloc (.cells #[.int .i64 2, .int .i64 100] 3)) (W.heap.size + 1) 3 (List.map (Value.int .i64) [0]).toArray := (((Blk.new' _ _ _ (by simp)).alloc _).alloc _).alloc _
  have h3 : Blk (((((W.alloc (.cells #[.int .i64 10] 3)).alloc (.cells #[.int .i64 0] 3)).alloc (.cells #[.int .i64 0] 3)).alloc (.cells #[.slice (some ⟨W.heap.size + 1, 0, none⟩) 1 1, .slice (some ⟨W.heap.size + 1 + 1, 0, none⟩) 1 1] 40)).alloc (.cells #[.int .i64 2, .int .i64 100] 3)) (W.heap.size + 1 + 1) 3 (List.map (Value.int .i64) [0]).toArray := ((Blk.new' _ _ _ (by simp)).alloc _).alloc _
  have h4 : Blk (((((W.alloc (.cells #[.int .i64 10] 3)).alloc (.cells #[.int .i64 0] 3)).alloc (.cells #[.int .i64 0] 3)).alloc (.cells #[.slice (some ⟨W.heap.size + 1, 0, none⟩) 1 1, .slice (some ⟨W.heap.size + 1 + 1, 0, none⟩) 1 1] 40)).alloc (.cells #[.int .i64 2, .int .i64 100] 3)) (W.heap.size + 1 + 1 + 1) 40 #[.slice (some ⟨W.heap.size + 1, 0, none⟩) ([0] : List Int).length 1, .slice (some ⟨W.heap.size + 1 + 1, 0, none⟩) ([0] : List Int).length 1] := (Blk.new' _ _ _ (by simp)).alloc _
  have h5 : Blk (((((W.alloc (.cells #[.int .i64 10] 3)).alloc (.cells #[.int .i64 0] 3)).alloc (.cells #[.int .i64 0] 3)).alloc (.cells #[.slice (some ⟨W.heap.size + 1, 0, none⟩) 1 1, .slice (some ⟨W.heap.size + 1 + 1, 0, none⟩) 1 1] 40)).alloc (.cells #[.int .i64 2, .int .i64 100] 3)) (W.heap.size + 1 + 1 + 1 + 1) 3 (List.map (Value.int .i64) [2, 100]).toArray := Blk.new' _ _ _ (by simp)
  have hb : Below W.heap.size W (((((W.alloc (.cells #[.int .i64 10] 3)).alloc (.cells #[.int .i64 0] 3)).alloc (.cells #[.int .i64 0] 3)).alloc (.cells #[.slice (some ⟨W.heap.size + 1, 0, none⟩) 1 1, .slice (some ⟨W.heap.size + 1 + 1, 0, none⟩) 1 1] 40)).alloc (.cells #[.int .i64 2, .int .i64 100] 3)) := (((((Below.refl _ _).alloc (Nat.le_refl _) _).alloc (by simp) _).alloc (by simp; omega) _).alloc (by simp; omega) _).alloc (by simp; omega) _
  refine (wrates_yes (some ⟨W.heap.size, 0, none⟩) 1 [10] (some ⟨W.heap.size + 1 + 1 + 1, 0, none⟩) 2 2 [[0], [0]] (some ⟨W.heap.size + 1 + 1 + 1 + 1, 0, none⟩) 2 2 [2, 100] _ _ 2 [2, 8] (Nat.le_refl _) (Ints.blk h1 h1.lt (by decide)) (Rows2.blk2 h4 (Ints.blk h2 h2.lt (by decide)) (Ints.blk h3 h3.lt (by decide)) h4.lt) (Ints.blk h5 h5.lt (by decide)) rfl rfl (by decide) want_fact).mono ?_
  rintro e w' ⟨A, c, rfl, hf, hb2⟩
  obtain ⟨b, off, rfl, hbb, c0, _⟩ := frs_k hf 0 rfl
  obtain ⟨b', off', e', _, c1, _⟩ := frs_k hf 1 rfl
  injection e' with e'
  injection e' with e1 e2
  subst e1 e2
  exact ⟨_, c, rfl, ⟨b, off, rfl, hbb, c0, c1⟩, hb.trans (hb2.mono hb.size)⟩
theorem fcompare_int (q : Rat) (x o : Int) (w : World) (hq : QIn q) (hr : QIn (x : Rat)) (ho : ordQ q (x : Rat) = o) :
    Calls Tryd.prog 22 #[.agg #[.int .i64 q.num, .int .i64 q.den], .agg #[.int .i64 x, .int .i64 1]] w fun e w' => e = .returned (.tuple #[.int .i64 o, .nilIface]) ∧ Below w.heap.size w w' := fcompare_q q (x : Rat) o w hq hr ho
theorem int_in {x : Int} (h0 : 1 ≤ x) (h1 : x ≤ 1000) : QIn (x : Rat) := by
  unfold QIn FracIn
  refine ⟨?_, ?_, ?_, ?_⟩
  · show (1 : Int) ≤ 1; omega
  · show (1 : Int) ≤ _; omega
  · show _ ≤ x; omega
  · show x ≤ _; omega
theorem same_four (w : World) (hg : Laid w) : Calls Tryd.prog 15 #[.iface 119 (.int .i64 4), .int .i64 4] w fun e w' => e = .returned (.bool true) ∧ Below w.heap.size w w' := by
  have := same_yes 4 w hg
  rwa [errVal_pos (by decide)] at this
theorem ord_eq {q r : Rat} (h : q = r) : ordQ q r = 0 := by subst h; unfold ordQ; simp [Rat.lt_irrefl]
theorem ord_neg {q r : Rat} (h : q < r) : ordQ q r = -1 := by unfold ordQ; rw [if_pos h]
set_option maxHeartbeats 16000000 in
set_option maxRecDepth 100000 in
theorem wantSated_err (C : Option Addr) (cc : Nat) (caps : List Int) (P : Option Addr) (cp : Nat) (paths : List (List Int)) (A : Option Addr) (c : Nat) (want : List Int) (w : World) (hg : Laid w) (hc : Ints w w.heap.size C cc caps) (hp : Rows2 w w.heap.size P cp paths) (hi : Ints w w.heap.size A c want) (er : Int) (he : wantsErr caps paths want = er) (h0 : er ≠ 0) :
    Calls Tryd.prog 12 #[.agg #[.slice C caps.length cc, .slice P paths.length cp], .slice A want.length c] w fun e w' => e = .returned (.bool true) ∧ Below w.heap.size w w' := by
  have HE := Lib.hid he; have H0 := Lib.hid h0
  clear he h0
  have LAID := Lib.hid hg
  have HC := Lib.hid hc; have HP := Lib.hid hp; have HI := Lib.hid hi
  have him := hi.cap; have hil := hi.le
  unfold maxLen at him
  clear hg hc hp hi
  have HN0 := Lib.hid (Blk.new w 43 #[.slice C caps.length cc, .slice P paths.length cp])
  have HB0 := Lib.hid ((Below.refl w.heap.size w).alloc (Nat.le_refl _) (.cells #[.slice C caps.length cc, .slice P paths.length cp] 43))
  obtain ⟨wk0, hwk⟩ : ∃ x, x = w.alloc (.cells #[.slice C caps.length cc, .slice P paths.length cp] 43) := ⟨_, rfl⟩
  rw [← hwk] at HN0 HB0
  have HB := HB0; have HN := HN0
  clear HB0 HN0
  have hz := HB.out.size
  go_enter Tryd.func12, Tryd.ntmps12
  go_upto_region 1 with (fail)
  rw [← hwk]
  clear hwk
  obtain ⟨hn_0, hn_1, hn_2, hn_3, hn_4⟩ := HN.out.two
  go_wp2_with fail
  refine (wantSated_fact wk0).mono ?_; rintro e wk1 ⟨A0, c0, rfl, ⟨b0, off0, rfl, hb0, d0, d1⟩, hb⟩
  clear hz
  have HBx := Lib.hid (HB.out.trans (hb.mono HB.out.size))
  have HNx := Lib.hid (HN.out.go hb)
  clear hb hn_0 hn_1 hn_2 hn_3 hn_4 HB HN 
  have HB := HBx; have HN := HNx
  clear HBx HNx
  have hz := HB.out.size
  obtain ⟨hn_0, hn_1, hn_2, hn_3, hn_4⟩ := HN.out.two
  go_wp2_with fail
  refine (wrates_er C cc caps P cp _ paths A c _ want w.heap.size _ er hz (HC.out.below HB.out (Nat.le_refl _)) (HP.out.below HB.out (Nat.le_refl _)) (HI.out.below HB.out (Nat.le_refl _)) rfl rfl HE.out H0.out).mono ?_; rintro e wk2 ⟨rfl, hb⟩
  clear d0 d1 hb0
  clear hz
  have HBx := Lib.hid (HB.out.trans (hb.mono HB.out.size))
  have HNx := Lib.hid (HN.out.go hb)
  clear hb hn_0 hn_1 hn_2 hn_3 hn_4 HB HN 
  have HB := HBx; have HN := HNx
  clear HBx HNx
  have hz := HB.out.size
  obtain ⟨hn_0, hn_1, hn_2, hn_3, hn_4⟩ := HN.out.two
  go_wp2
  go_ret
  exact ⟨rfl, HB.out⟩
set_option maxHeartbeats 16000000 in
set_option maxRecDepth 100000 in
theorem wantSated_full (C : Option Addr) (cc : Nat) (caps : List Int) (P : Option Addr) (cp : Nat) (paths : List (List Int)) (A : Option Addr) (c : Nat) (want : List Int) (w : World) (hg : Laid w) (hc : Ints w w.heap.size C cc caps) (hp : Rows2 w w.heap.size P cp paths) (hi : Ints w w.heap.size A c want) (he : wantsErr caps paths want = 0) (h6 : 6 < caps.length + want.length) (K : Nat) (R L : List Rat) (hK : FillEnds (caps ++ want) (wideP paths caps.length) K R)
    (hl : R.length = paths.length) (hq : ∀ q ∈ R, QIn q) (hL : loadsTo paths R caps.length = some L) (hb : fitsB caps R L = true) (hs : ∀ f, f < paths.length → R.getD f 0 ≤ capQ want f ∧ (R.getD f 0 ≠ capQ want f → neckOf paths R ((fulls caps L).map fun (i : Nat) => (i : Int)) f ≠ -1)) :
    Calls Tryd.prog 12 #[.agg #[.slice C caps.length cc, .slice P paths.length cp], .slice A want.length c] w fun e w' => e = .returned (.bool true) ∧ Below w.heap.size w w' := by
  obtain ⟨hne, hwl, hwi⟩ := wants_ok he
  have hp6 := (netErr_ok hne).2.2.2.1
  obtain ⟨V, hV⟩ : ∃ V, necks paths R ((fulls caps L).map fun (i : Nat) => (i : Int)) paths.length = V := ⟨_, rfl⟩
  have hVl : V.length = paths.length := by rw [← hV, necks_len]
  have HVK := Lib.hid (show ∀ f, f < R.length → V[f]? = some (neckOf paths R ((fulls caps L).map fun (i : Nat) => (i : Int)) f) from fun f hf => by
    rw [← hV]; unfold necks
    have : f < paths.length := by omega
    simp [this])
  have hd1 : ((R.length : Int) != (want.length : Int)) = false := by rw [bne_eq_false_iff_eq]; omega
  have hd2 : ((V.length : Int) != (R.length : Int)) = false := by rw [bne_eq_false_iff_eq]; omega
  have hr6 : R.length ≤ 6 := by omega
  have HE := Lib.hid he; have HK := Lib.hid hK; have HQ := Lib.hid hq; have HL := Lib.hid hL; have HFB := Lib.hid hb; have HSS := Lib.hid hs; have HNE := Lib.hid hne; have HRL := Lib.hid hl; have HV := Lib.hid hV; have HWI := Lib.hid hwi; have HRW : Hid (R.length = want.length) := Lib.hid (by omega); have HVR : Hid (V.length = R.length) := Lib.hid (by omega)
  have H6 := Lib.hid h6
  clear he hK hl hq hL hb hs hne hwl hwi hp6 hV hVl h6
  have LAID := Lib.hid hg
  have HC := Lib.hid hc; have HP := Lib.hid hp; have HI := Lib.hid hi
  have him := hi.cap; have hil := hi.le
  unfold maxLen at him
  clear hg hc hp hi
  have HN0 := Lib.hid (Blk.new w 43 #[.slice C caps.length cc, .slice P paths.length cp])
  have HB0 := Lib.hid ((Below.refl w.heap.size w).alloc (Nat.le_refl _) (.cells #[.slice C caps.length cc, .slice P paths.length cp] 43))
  obtain ⟨wk0, hwk⟩ : ∃ x, x = w.alloc (.cells #[.slice C caps.length cc, .slice P paths.length cp] 43) := ⟨_, rfl⟩
  rw [← hwk] at HN0 HB0
  have HB := HB0; have HN := HN0
  clear HB0 HN0
  have hz := HB.out.size
  go_enter Tryd.func12, Tryd.ntmps12
  go_upto_region 1 with (fail)
  rw [← hwk]
  clear hwk
  obtain ⟨hn_0, hn_1, hn_2, hn_3, hn_4⟩ := HN.out.two
  go_wp2_with fail
  refine (wantSated_fact wk0).mono ?_; rintro e wk1 ⟨A0, c0, rfl, ⟨b0, off0, rfl, hb0, d0, d1⟩, hb⟩
  clear hz
  have HBx := Lib.hid (HB.out.trans (hb.mono HB.out.size))
  have HNx := Lib.hid (HN.out.go hb)
  clear hb hn_0 hn_1 hn_2 hn_3 hn_4 HB HN 
  have HB := HBx; have HN := HNx
  clear HBx HNx
  have hz := HB.out.size
  obtain ⟨hn_0, hn_1, hn_2, hn_3, hn_4⟩ := HN.out.two
  go_wp2_with fail
  refine (wrates_yes C cc caps P cp _ paths A c _ want w.heap.size _ K R hz (HC.out.below HB.out (Nat.le_refl _)) (HP.out.below HB.out (Nat.le_refl _)) (HI.out.below HB.out (Nat.le_refl _)) rfl rfl HE.out HK.out).mono ?_; rintro e wk2 ⟨A5, c5, rfl, hf5, hb⟩
  clear d0 d1 hb0
  clear hz
  have HBx := Lib.hid (HB.out.trans (hb.mono HB.out.size))
  have HNx := Lib.hid (HN.out.go hb)
  clear hb hn_0 hn_1 hn_2 hn_3 hn_4 HB HN 
  have HB := HBx; have HN := HNx
  clear HBx HNx
  have hz := HB.out.size
  obtain ⟨hn_0, hn_1, hn_2, hn_3, hn_4⟩ := HN.out.two
  have HFR := Lib.hid hf5
  clear hf5
  go_wp2_with fail
  refine (wsated_yes C cc caps P cp _ paths A c _ want w.heap.size _ K R hz (HC.out.below HB.out (Nat.le_refl _)) (HP.out.below HB.out (Nat.le_refl _)) (HI.out.below HB.out (Nat.le_refl _)) rfl rfl HE.out HK.out).mono ?_; rintro e wk3 ⟨A6, c6, rfl, hs6, hb⟩
  clear hz
  have HBx := Lib.hid (HB.out.trans (hb.mono HB.out.size))
  have HNx := Lib.hid (HN.out.go hb)
  have HFRx := Lib.hid (HFR.out.at' hb)
  clear hb hn_0 hn_1 hn_2 hn_3 hn_4 HB HN HFR 
  have HB := HBx; have HN := HNx; have HFR := HFRx
  clear HBx HNx HFRx
  have hz := HB.out.size
  obtain ⟨hn_0, hn_1, hn_2, hn_3, hn_4⟩ := HN.out.two
  have HST := Lib.hid hs6
  clear hs6
  go_wp2_with fail
  refine (fits_yes' C cc caps P cp _ paths A5 c5 _ R L true wk3.heap.size _ (Nat.le_refl _) ((HC.out.below HB.out (Nat.le_refl _)).more hz) ((HP.out.below HB.out (Nat.le_refl _)).more hz) HFR.out rfl rfl HNE.out HRL.out HQ.out HL.out HFB.out).mono ?_; rintro e wk4 ⟨rfl, hb⟩
  clear hz
  have HBx := Lib.hid (HB.out.trans (hb.mono HB.out.size))
  have HNx := Lib.hid (HN.out.go hb)
  have HFRx := Lib.hid (HFR.out.at' hb)
  have HSTx := Lib.hid (HST.out.at' hb)
  clear hb hn_0 hn_1 hn_2 hn_3 hn_4 HB HN HFR HST 
  have HB := HBx; have HN := HNx; have HFR := HFRx; have HST := HSTx
  clear HBx HNx HFRx HSTx
  have hz := HB.out.size
  obtain ⟨hn_0, hn_1, hn_2, hn_3, hn_4⟩ := HN.out.two
  go_wp2_with fail
  refine (necks_yes C cc caps P cp _ paths A5 c5 _ R L wk4.heap.size _ (Nat.le_refl _) ((HC.out.below HB.out (Nat.le_refl _)).more hz) ((HP.out.below HB.out (Nat.le_refl _)).more hz) HFR.out rfl rfl HNE.out HRL.out HQ.out HL.out V HV.out).mono ?_; rintro e wk5 ⟨A7, c7, rfl, hv7, hb⟩
  clear hz
  have HBx := Lib.hid (HB.out.trans (hb.mono HB.out.size))
  have HNx := Lib.hid (HN.out.go hb)
  have HFRx := Lib.hid (HFR.out.at' hb)
  have HSTx := Lib.hid (HST.out.at' hb)
  clear hb hn_0 hn_1 hn_2 hn_3 hn_4 HB HN HFR HST 
  have HB := HBx; have HN := HNx; have HFR := HFRx; have HST := HSTx
  clear HBx HNx HFRx HSTx
  have hz := HB.out.size
  obtain ⟨hn_0, hn_1, hn_2, hn_3, hn_4⟩ := HN.out.two
  have HVV := Lib.hid hv7
  clear hv7
  have hm5 := HFR.out.cap; have hl5 := HFR.out.le; have hm6 := HST.out.cap; have hl6 := HST.out.le; have hm7 := HVV.out.cap; have hl7 := HVV.out.le
  rw [List.length_map] at hl5
  rw [satTo_len] at hl6
  unfold maxLen at hm5 hm6 hm7
  go_wp2
  go_loopw [15] (fun i wr => ∃ j : Nat, j ≤ R.length ∧ i = .int .i64 j ∧ Hid (Below wk5.heap.size wk5 wr)) (fun i _ => R.length - (intOf i).toNat)
  case atStart => exact ⟨0, Nat.zero_le _, rfl, Lib.hid (Below.refl _ _)⟩
  case round =>
    obtain ⟨j, hj, rfl, HBL⟩ := hrel
    have hzl := HBL.out.size
    by_cases hjl : j < R.length
    · have j0 : (0 : Int) ≤ (j : Int) := by omega
      have j1 : (j : Int) < (R.length : Int) := by omega
      have hjw : j < want.length := by have := HRW.out; omega
      have j2 : (j : Int) < (want.length : Int) := by omega
      have hjv : j < V.length := by have := HVR.out; omega
      have j3 : (j : Int) < (V.length : Int) := by omega
      obtain ⟨b, off, rfl, hb, c0, c1⟩ := frs_q (HFR.out.below HBL.out (Nat.le_refl _)) hjl
      obtain ⟨b2, off2, x, rfl, hb2, x0, hxm, _, HXX⟩ := (HI.out.below (HB.out.trans (HBL.out.mono hz)) (Nat.le_refl _)).elem hjw
      obtain ⟨b3, off3, sx, rfl, hb3, s0, HX⟩ := (HST.out.below HBL.out (Nat.le_refl _)).elem (k := j) (by rw [satTo_len]; exact hjl)
      obtain ⟨b4, off4, v, rfl, hb4, v0, _, _, HVX⟩ := (HVV.out.below HBL.out (Nat.le_refl _)).elem hjv
      have hss := HSS.out j (by rw [← HRL.out]; exact hjl)
      have hcw : capQ want j = (x : Rat) := by unfold capQ; rw [HXX.out]
      have hvn : v = neckOf paths R ((fulls caps L).map fun (i : Nat) => (i : Int)) j := by
        have h1 := HVX.out
        rw [List.getD_eq_getElem?_getD, HVK.out j hjl] at h1
        exact h1.symm
      have hsx : sx = satB want R j := by
        have := HX.out
        simp [satTo, hjl] at this
        exact this.symm
      unfold satB at hsx
      rw [HXX.out] at hsx
      rw [hcw, ← hvn] at hss
      have hqi := HQ.out _ (show R.getD j 0 ∈ R by rw [List.getD_eq_getElem?_getD, List.getElem?_eq_getElem hjl]; exact List.getElem_mem hjl)
      have hxi := HWI.out x hxm
      obtain ⟨q, hqq⟩ : ∃ q, R.getD j 0 = q := ⟨_, rfl⟩
      rw [hqq] at c0 c1 hss hsx hqi
      have hz1 : b < wr.heap.size := by omega
      have hz2 : b2 < wr.heap.size := by have := HB.out.size; omega
      have hz3 : b3 < wr.heap.size := by omega
      have hz4 : b4 < wr.heap.size := by omega
      have hin := int_in hxi.1 hxi.2
      clear hqq hcw hvn HX HXX HVX hxm hjv hjw
      by_cases hx : q = (x : Rat)
      · have e3 : sx = true := by rw [hsx]; exact decide_eq_true hx
        subst e3
        have HCM := Lib.hid fun W => fcompare_int q x 0 W hqi hin (ord_eq hx)
        clear hss hsx hx hqi hin hxi
        go_wp2_with fail
        go_region_held3 (fun w' => w'.cell? ⟨b, off + j * 2, none⟩ = some (.int .i64 q.num) ∧ w'.cell? ⟨b, off + j * 2 + 1, none⟩ = some (.int .i64 q.den) ∧ w'.cell? ⟨b2, off2 + j, none⟩ = some (.int .i64 x)) (go_keep)
          (first
            | (go_simp; go_at_call 22; refine (HCM.out _).mono ?_; rintro e w5 ⟨rfl, hb5⟩; have HB5 : Hid (Below wr.heap.size wr w5) := Lib.hid (by first | exact hb5 | exact (Below.refl _ _).drew.trans hb5); have y0 : w5.cell? ⟨b, off + j * 2, none⟩ = some (.int .i64 q.num) := (HB5.out.cell (p := ⟨b, off + j * 2, none⟩) hz1).trans c0; have y1 : w5.cell? ⟨b, off + j * 2 + 1, none⟩ = some (.int .i64 q.den) := (HB5.out.cell (p := ⟨b, off + j * 2 + 1, none⟩) hz1).trans c1; have y2 : w5.cell? ⟨b2, off2 + j, none⟩ = some (.int .i64 x) := (HB5.out.cell (p := ⟨b2, off2 + j, none⟩) hz2).trans x0; have y3 : w5.cell? ⟨b3, off3 + j, none⟩ = some (.bool true) := (HB5.out.cell (p := ⟨b3, off3 + j, none⟩) hz3).trans s0; have y4 : w5.cell? ⟨b4, off4 + j, none⟩ = some (.int .i64 v) := (HB5.out.cell (p := ⟨b4, off4 + j, none⟩) hz4).trans v0; have hz5 := HB5.out.size; clear hb5; dsimp only))
        have HBX := Lib.hid (HBL.out.trans (HB5.out.mono hzl))
        go_wp2
        go_roundw
        case rel => exact ⟨j + 1, by omega, by go_num, HBX⟩
        case measure => simp [intOf]; omega
      · have e3 : sx = false := by rw [hsx]; exact decide_eq_false hx
        subst e3
        have hv1 : (v == -1) = false := beq_eq_false_iff_ne.2 (hss.2 hx)
        have HCM := Lib.hid fun W => fcompare_int q x (-1) W hqi hin (ord_neg (by have := hss.1; grind))
        clear hss hsx hx hqi hin hxi
        go_wp2_with fail
        go_region_held3 (fun w' => w'.cell? ⟨b, off + j * 2, none⟩ = some (.int .i64 q.num) ∧ w'.cell? ⟨b, off + j * 2 + 1, none⟩ = some (.int .i64 q.den) ∧ w'.cell? ⟨b2, off2 + j, none⟩ = some (.int .i64 x)) (go_keep)
          (first
            | (go_simp; go_at_call 22; refine (HCM.out _).mono ?_; rintro e w5 ⟨rfl, hb5⟩; have HB5 : Hid (Below wr.heap.size wr w5) := Lib.hid (by first | exact hb5 | exact (Below.refl _ _).drew.trans hb5); have y0 : w5.cell? ⟨b, off + j * 2, none⟩ = some (.int .i64 q.num) := (HB5.out.cell (p := ⟨b, off + j * 2, none⟩) hz1).trans c0; have y1 : w5.cell? ⟨b, off + j * 2 + 1, none⟩ = some (.int .i64 q.den) := (HB5.out.cell (p := ⟨b, off + j * 2 + 1, none⟩) hz1).trans c1; have y2 : w5.cell? ⟨b2, off2 + j, none⟩ = some (.int .i64 x) := (HB5.out.cell (p := ⟨b2, off2 + j, none⟩) hz2).trans x0; have y3 : w5.cell? ⟨b3, off3 + j, none⟩ = some (.bool false) := (HB5.out.cell (p := ⟨b3, off3 + j, none⟩) hz3).trans s0; have y4 : w5.cell? ⟨b4, off4 + j, none⟩ = some (.int .i64 v) := (HB5.out.cell (p := ⟨b4, off4 + j, none⟩) hz4).trans v0; have hz5 := HB5.out.size; clear hb5; dsimp only))
        have HBX := Lib.hid (HBL.out.trans (HB5.out.mono hzl))
        go_wp2
        go_roundw
        case rel => exact ⟨j + 1, by omega, by go_num, HBX⟩
        case measure => simp [intOf]; omega
    · obtain rfl : j = R.length := by omega
      have hb := HBL.out
      clear hjl hj hzl HBL
      obtain ⟨wk6, hwk⟩ : ∃ x, x = wr := ⟨_, rfl⟩
      rw [← hwk] at hb ⊢
      clear hwk hz
      have HBx := Lib.hid (HB.out.trans (hb.mono HB.out.size))
      have HNx := Lib.hid (HN.out.go hb)
      have HFRx := Lib.hid (HFR.out.at' hb)
      clear hb hn_0 hn_1 hn_2 hn_3 hn_4 HB HN HFR 
      have HB := HBx; have HN := HNx; have HFR := HFRx
      clear HBx HNx HFRx
      have hz := HB.out.size
      obtain ⟨hn_0, hn_1, hn_2, hn_3, hn_4⟩ := HN.out.two
      go_wp2_with fail
      refine (wnet_full C cc caps P cp paths A c want w.heap.size _ hz (HC.out.below HB.out (Nat.le_refl _)) (HP.out.below HB.out (Nat.le_refl _)) (HI.out.below HB.out (Nat.le_refl _)) HE.out H6.out).mono ?_; rintro e wk7 ⟨rfl, hb⟩
      clear hz
      have HBx := Lib.hid (HB.out.trans (hb.mono HB.out.size))
      have HNx := Lib.hid (HN.out.go hb)
      have HFRx := Lib.hid (HFR.out.at' hb)
      clear hb hn_0 hn_1 hn_2 hn_3 hn_4 HB HN HFR 
      have HB := HBx; have HN := HNx; have HFR := HFRx
      clear HBx HNx HFRx
      have hz := HB.out.size
      obtain ⟨hn_0, hn_1, hn_2, hn_3, hn_4⟩ := HN.out.two
      obtain ⟨wk8, hwk⟩ : ∃ x, x = wk7.alloc (.cells #[.slice none 0 0, .slice none 0 0] 43) := ⟨_, rfl⟩
      have hb : Below wk7.heap.size wk7 wk8 := by rw [hwk]; exact (Below.refl _ _).alloc (Nat.le_refl _) _
      have HX : Hid (Blk wk8 wk7.heap.size 43 #[.slice none 0 0, .slice none 0 0]) := Lib.hid (by rw [hwk]; exact Blk.new _ _ _)
      go_upto_region 19 with (fail)
      rw [← hwk]
      clear hwk hz
      obtain ⟨gHX, hgk⟩ : ∃ x, x = wk7.heap.size := ⟨_, rfl⟩
      rw [← hgk] at HX ⊢
      clear hgk
      have HBx := Lib.hid (HB.out.trans (hb.mono HB.out.size))
      have HNx := Lib.hid (HN.out.go hb)
      have HFRx := Lib.hid (HFR.out.at' hb)
      clear hb hn_0 hn_1 hn_2 hn_3 hn_4 HB HN HFR 
      have HB := HBx; have HN := HNx; have HFR := HFRx
      clear HBx HNx HFRx
      have hz := HB.out.size
      obtain ⟨hn_0, hn_1, hn_2, hn_3, hn_4⟩ := HN.out.two
      obtain ⟨hx_0, hx_1, hx_2, hx_3, hx_4⟩ := HX.out.two
      go_wp2_with fail
      refine (same_four _ (LAID.out.below HB.out)).mono ?_; rintro e wk9 ⟨rfl, hb⟩
      clear hz
      have HBx := Lib.hid (HB.out.trans (hb.mono HB.out.size))
      have HNx := Lib.hid (HN.out.go hb)
      have HXx := Lib.hid (HX.out.go hb)
      have HFRx := Lib.hid (HFR.out.at' hb)
      clear hb hn_0 hn_1 hn_2 hn_3 hn_4 hx_0 hx_1 hx_2 hx_3 hx_4 HB HN HX HFR 
      have HB := HBx; have HN := HNx; have HX := HXx; have HFR := HFRx
      clear HBx HNx HXx HFRx
      have hz := HB.out.size
      obtain ⟨hn_0, hn_1, hn_2, hn_3, hn_4⟩ := HN.out.two
      obtain ⟨hx_0, hx_1, hx_2, hx_3, hx_4⟩ := HX.out.two
      go_wp2
      go_ret
      exact ⟨rfl, HB.out⟩
set_option maxHeartbeats 16000000 in
set_option maxRecDepth 100000 in
theorem wantSated_yes (C : Option Addr) (cc : Nat) (caps : List Int) (P : Option Addr) (cp : Nat) (paths : List (List Int)) (A : Option Addr) (c : Nat) (want : List Int) (w : World) (hg : Laid w) (hc : Ints w w.heap.size C cc caps) (hp : Rows2 w w.heap.size P cp paths) (hi : Ints w w.heap.size A c want) (he : wantsErr caps paths want = 0) (h6 : caps.length + want.length ≤ 6) (K : Nat) (R L : List Rat) (hK : FillEnds (caps ++ want) (wideP paths caps.length) K R)
    (hl : R.length = paths.length) (hq : ∀ q ∈ R, QIn q) (hL : loadsTo paths R caps.length = some L) (hb : fitsB caps R L = true) (hs : ∀ f, f < paths.length → R.getD f 0 ≤ capQ want f ∧ (R.getD f 0 ≠ capQ want f → neckOf paths R ((fulls caps L).map fun (i : Nat) => (i : Int)) f ≠ -1)) :
    Calls Tryd.prog 12 #[.agg #[.slice C caps.length cc, .slice P paths.length cp], .slice A want.length c] w fun e w' => e = .returned (.bool true) ∧ Below w.heap.size w w' := by
  obtain ⟨hne, hwl, hwi⟩ := wants_ok he
  have hp6 := (netErr_ok hne).2.2.2.1
  obtain ⟨V, hV⟩ : ∃ V, necks paths R ((fulls caps L).map fun (i : Nat) => (i : Int)) paths.length = V := ⟨_, rfl⟩
  have hVl : V.length = paths.length := by rw [← hV, necks_len]
  have HVK := Lib.hid (show ∀ f, f < R.length → V[f]? = some (neckOf paths R ((fulls caps L).map fun (i : Nat) => (i : Int)) f) from fun f hf => by
    rw [← hV]; unfold necks
    have : f < paths.length := by omega
    simp [this])
  have hd1 : ((R.length : Int) != (want.length : Int)) = false := by rw [bne_eq_false_iff_eq]; omega
  have hd2 : ((V.length : Int) != (R.length : Int)) = false := by rw [bne_eq_false_iff_eq]; omega
  have hr6 : R.length ≤ 6 := by omega
  have HE := Lib.hid he; have HK := Lib.hid hK; have HQ := Lib.hid hq; have HL := Lib.hid hL; have HFB := Lib.hid hb; have HSS := Lib.hid hs; have HNE := Lib.hid hne; have HRL := Lib.hid hl; have HV := Lib.hid hV; have HWI := Lib.hid hwi; have HRW : Hid (R.length = want.length) := Lib.hid (by omega); have HVR : Hid (V.length = R.length) := Lib.hid (by omega)
  have H6 := Lib.hid h6
  have HWN := Lib.hid fun (W : World) (hz : w.heap.size ≤ W.heap.size) (h1 : Ints W w.heap.size C cc caps) (h2 : Rows2 W w.heap.size P cp paths) (h3 : Ints W w.heap.size A c want) => wnet_yes C cc caps P cp paths A c want w.heap.size W hz h1 h2 h3 he h6
  have HNW := Lib.hid (wide_netErr he h6)
  have HKW := Lib.hid hK
  obtain ⟨CW, hCW⟩ : ∃ l, caps ++ want = l := ⟨_, rfl⟩
  obtain ⟨PW, hPW⟩ : ∃ l, wideP paths caps.length = l := ⟨_, rfl⟩
  rw [hCW, hPW] at HWN HNW HKW
  clear hCW hPW
  clear he hK hl hq hL hb hs hne hwl hwi hp6 hV hVl h6
  have LAID := Lib.hid hg
  have HC := Lib.hid hc; have HP := Lib.hid hp; have HI := Lib.hid hi
  have him := hi.cap; have hil := hi.le
  unfold maxLen at him
  clear hg hc hp hi
  have HN0 := Lib.hid (Blk.new w 43 #[.slice C caps.length cc, .slice P paths.length cp])
  have HB0 := Lib.hid ((Below.refl w.heap.size w).alloc (Nat.le_refl _) (.cells #[.slice C caps.length cc, .slice P paths.length cp] 43))
  obtain ⟨wk0, hwk⟩ : ∃ x, x = w.alloc (.cells #[.slice C caps.length cc, .slice P paths.length cp] 43) := ⟨_, rfl⟩
  rw [← hwk] at HN0 HB0
  have HB := HB0; have HN := HN0
  clear HB0 HN0
  have hz := HB.out.size
  go_enter Tryd.func12, Tryd.ntmps12
  go_upto_region 1 with (fail)
  rw [← hwk]
  clear hwk
  obtain ⟨hn_0, hn_1, hn_2, hn_3, hn_4⟩ := HN.out.two
  go_wp2_with fail
  refine (wantSated_fact wk0).mono ?_; rintro e wk1 ⟨A0, c0, rfl, ⟨b0, off0, rfl, hb0, d0, d1⟩, hb⟩
  clear hz
  have HBx := Lib.hid (HB.out.trans (hb.mono HB.out.size))
  have HNx := Lib.hid (HN.out.go hb)
  clear hb hn_0 hn_1 hn_2 hn_3 hn_4 HB HN 
  have HB := HBx; have HN := HNx
  clear HBx HNx
  have hz := HB.out.size
  obtain ⟨hn_0, hn_1, hn_2, hn_3, hn_4⟩ := HN.out.two
  go_wp2_with fail
  refine (wrates_yes C cc caps P cp _ paths A c _ want w.heap.size _ K R hz (HC.out.below HB.out (Nat.le_refl _)) (HP.out.below HB.out (Nat.le_refl _)) (HI.out.below HB.out (Nat.le_refl _)) rfl rfl HE.out HK.out).mono ?_; rintro e wk2 ⟨A5, c5, rfl, hf5, hb⟩
  clear d0 d1 hb0
  clear hz
  have HBx := Lib.hid (HB.out.trans (hb.mono HB.out.size))
  have HNx := Lib.hid (HN.out.go hb)
  clear hb hn_0 hn_1 hn_2 hn_3 hn_4 HB HN 
  have HB := HBx; have HN := HNx
  clear HBx HNx
  have hz := HB.out.size
  obtain ⟨hn_0, hn_1, hn_2, hn_3, hn_4⟩ := HN.out.two
  have HFR := Lib.hid hf5
  clear hf5
  go_wp2_with fail
  refine (wsated_yes C cc caps P cp _ paths A c _ want w.heap.size _ K R hz (HC.out.below HB.out (Nat.le_refl _)) (HP.out.below HB.out (Nat.le_refl _)) (HI.out.below HB.out (Nat.le_refl _)) rfl rfl HE.out HK.out).mono ?_; rintro e wk3 ⟨A6, c6, rfl, hs6, hb⟩
  clear hz
  have HBx := Lib.hid (HB.out.trans (hb.mono HB.out.size))
  have HNx := Lib.hid (HN.out.go hb)
  have HFRx := Lib.hid (HFR.out.at' hb)
  clear hb hn_0 hn_1 hn_2 hn_3 hn_4 HB HN HFR 
  have HB := HBx; have HN := HNx; have HFR := HFRx
  clear HBx HNx HFRx
  have hz := HB.out.size
  obtain ⟨hn_0, hn_1, hn_2, hn_3, hn_4⟩ := HN.out.two
  have HST := Lib.hid hs6
  clear hs6
  go_wp2_with fail
  refine (fits_yes' C cc caps P cp _ paths A5 c5 _ R L true wk3.heap.size _ (Nat.le_refl _) ((HC.out.below HB.out (Nat.le_refl _)).more hz) ((HP.out.below HB.out (Nat.le_refl _)).more hz) HFR.out rfl rfl HNE.out HRL.out HQ.out HL.out HFB.out).mono ?_; rintro e wk4 ⟨rfl, hb⟩
  clear hz
  have HBx := Lib.hid (HB.out.trans (hb.mono HB.out.size))
  have HNx := Lib.hid (HN.out.go hb)
  have HFRx := Lib.hid (HFR.out.at' hb)
  have HSTx := Lib.hid (HST.out.at' hb)
  clear hb hn_0 hn_1 hn_2 hn_3 hn_4 HB HN HFR HST 
  have HB := HBx; have HN := HNx; have HFR := HFRx; have HST := HSTx
  clear HBx HNx HFRx HSTx
  have hz := HB.out.size
  obtain ⟨hn_0, hn_1, hn_2, hn_3, hn_4⟩ := HN.out.two
  go_wp2_with fail
  refine (necks_yes C cc caps P cp _ paths A5 c5 _ R L wk4.heap.size _ (Nat.le_refl _) ((HC.out.below HB.out (Nat.le_refl _)).more hz) ((HP.out.below HB.out (Nat.le_refl _)).more hz) HFR.out rfl rfl HNE.out HRL.out HQ.out HL.out V HV.out).mono ?_; rintro e wk5 ⟨A7, c7, rfl, hv7, hb⟩
  clear hz
  have HBx := Lib.hid (HB.out.trans (hb.mono HB.out.size))
  have HNx := Lib.hid (HN.out.go hb)
  have HFRx := Lib.hid (HFR.out.at' hb)
  have HSTx := Lib.hid (HST.out.at' hb)
  clear hb hn_0 hn_1 hn_2 hn_3 hn_4 HB HN HFR HST 
  have HB := HBx; have HN := HNx; have HFR := HFRx; have HST := HSTx
  clear HBx HNx HFRx HSTx
  have hz := HB.out.size
  obtain ⟨hn_0, hn_1, hn_2, hn_3, hn_4⟩ := HN.out.two
  have HVV := Lib.hid hv7
  clear hv7
  have hm5 := HFR.out.cap; have hl5 := HFR.out.le; have hm6 := HST.out.cap; have hl6 := HST.out.le; have hm7 := HVV.out.cap; have hl7 := HVV.out.le
  rw [List.length_map] at hl5
  rw [satTo_len] at hl6
  unfold maxLen at hm5 hm6 hm7
  go_wp2
  go_loopw [15] (fun i wr => ∃ j : Nat, j ≤ R.length ∧ i = .int .i64 j ∧ Hid (Below wk5.heap.size wk5 wr)) (fun i _ => R.length - (intOf i).toNat)
  case atStart => exact ⟨0, Nat.zero_le _, rfl, Lib.hid (Below.refl _ _)⟩
  case round =>
    obtain ⟨j, hj, rfl, HBL⟩ := hrel
    have hzl := HBL.out.size
    by_cases hjl : j < R.length
    · have j0 : (0 : Int) ≤ (j : Int) := by omega
      have j1 : (j : Int) < (R.length : Int) := by omega
      have hjw : j < want.length := by have := HRW.out; omega
      have j2 : (j : Int) < (want.length : Int) := by omega
      have hjv : j < V.length := by have := HVR.out; omega
      have j3 : (j : Int) < (V.length : Int) := by omega
      obtain ⟨b, off, rfl, hb, c0, c1⟩ := frs_q (HFR.out.below HBL.out (Nat.le_refl _)) hjl
      obtain ⟨b2, off2, x, rfl, hb2, x0, hxm, _, HXX⟩ := (HI.out.below (HB.out.trans (HBL.out.mono hz)) (Nat.le_refl _)).elem hjw
      obtain ⟨b3, off3, sx, rfl, hb3, s0, HX⟩ := (HST.out.below HBL.out (Nat.le_refl _)).elem (k := j) (by rw [satTo_len]; exact hjl)
      obtain ⟨b4, off4, v, rfl, hb4, v0, _, _, HVX⟩ := (HVV.out.below HBL.out (Nat.le_refl _)).elem hjv
      have hss := HSS.out j (by rw [← HRL.out]; exact hjl)
      have hcw : capQ want j = (x : Rat) := by unfold capQ; rw [HXX.out]
      have hvn : v = neckOf paths R ((fulls caps L).map fun (i : Nat) => (i : Int)) j := by
        have h1 := HVX.out
        rw [List.getD_eq_getElem?_getD, HVK.out j hjl] at h1
        exact h1.symm
      have hsx : sx = satB want R j := by
        have := HX.out
        simp [satTo, hjl] at this
        exact this.symm
      unfold satB at hsx
      rw [HXX.out] at hsx
      rw [hcw, ← hvn] at hss
      have hqi := HQ.out _ (show R.getD j 0 ∈ R by rw [List.getD_eq_getElem?_getD, List.getElem?_eq_getElem hjl]; exact List.getElem_mem hjl)
      have hxi := HWI.out x hxm
      obtain ⟨q, hqq⟩ : ∃ q, R.getD j 0 = q := ⟨_, rfl⟩
      rw [hqq] at c0 c1 hss hsx hqi
      have hz1 : b < wr.heap.size := by omega
      have hz2 : b2 < wr.heap.size := by have := HB.out.size; omega
      have hz3 : b3 < wr.heap.size := by omega
      have hz4 : b4 < wr.heap.size := by omega
      have hin := int_in hxi.1 hxi.2
      clear hqq hcw hvn HX HXX HVX hxm hjv hjw
      by_cases hx : q = (x : Rat)
      · have e3 : sx = true := by rw [hsx]; exact decide_eq_true hx
        subst e3
        have HCM := Lib.hid fun W => fcompare_int q x 0 W hqi hin (ord_eq hx)
        clear hss hsx hx hqi hin hxi
        go_wp2_with fail
        go_region_held3 (fun w' => w'.cell? ⟨b, off + j * 2, none⟩ = some (.int .i64 q.num) ∧ w'.cell? ⟨b, off + j * 2 + 1, none⟩ = some (.int .i64 q.den) ∧ w'.cell? ⟨b2, off2 + j, none⟩ = some (.int .i64 x)) (go_keep)
          (first
            | (go_simp; go_at_call 22; refine (HCM.out _).mono ?_; rintro e w5 ⟨rfl, hb5⟩; have HB5 : Hid (Below wr.heap.size wr w5) := Lib.hid (by first | exact hb5 | exact (Below.refl _ _).drew.trans hb5); have y0 : w5.cell? ⟨b, off + j * 2, none⟩ = some (.int .i64 q.num) := (HB5.out.cell (p := ⟨b, off + j * 2, none⟩) hz1).trans c0; have y1 : w5.cell? ⟨b, off + j * 2 + 1, none⟩ = some (.int .i64 q.den) := (HB5.out.cell (p := ⟨b, off + j * 2 + 1, none⟩) hz1).trans c1; have y2 : w5.cell? ⟨b2, off2 + j, none⟩ = some (.int .i64 x) := (HB5.out.cell (p := ⟨b2, off2 + j, none⟩) hz2).trans x0; have y3 : w5.cell? ⟨b3, off3 + j, none⟩ = some (.bool true) := (HB5.out.cell (p := ⟨b3, off3 + j, none⟩) hz3).trans s0; have y4 : w5.cell? ⟨b4, off4 + j, none⟩ = some (.int .i64 v) := (HB5.out.cell (p := ⟨b4, off4 + j, none⟩) hz4).trans v0; have hz5 := HB5.out.size; clear hb5; dsimp only))
        have HBX := Lib.hid (HBL.out.trans (HB5.out.mono hzl))
        go_wp2
        go_roundw
        case rel => exact ⟨j + 1, by omega, by go_num, HBX⟩
        case measure => simp [intOf]; omega
      · have e3 : sx = false := by rw [hsx]; exact decide_eq_false hx
        subst e3
        have hv1 : (v == -1) = false := beq_eq_false_iff_ne.2 (hss.2 hx)
        have HCM := Lib.hid fun W => fcompare_int q x (-1) W hqi hin (ord_neg (by have := hss.1; grind))
        clear hss hsx hx hqi hin hxi
        go_wp2_with fail
        go_region_held3 (fun w' => w'.cell? ⟨b, off + j * 2, none⟩ = some (.int .i64 q.num) ∧ w'.cell? ⟨b, off + j * 2 + 1, none⟩ = some (.int .i64 q.den) ∧ w'.cell? ⟨b2, off2 + j, none⟩ = some (.int .i64 x)) (go_keep)
          (first
            | (go_simp; go_at_call 22; refine (HCM.out _).mono ?_; rintro e w5 ⟨rfl, hb5⟩; have HB5 : Hid (Below wr.heap.size wr w5) := Lib.hid (by first | exact hb5 | exact (Below.refl _ _).drew.trans hb5); have y0 : w5.cell? ⟨b, off + j * 2, none⟩ = some (.int .i64 q.num) := (HB5.out.cell (p := ⟨b, off + j * 2, none⟩) hz1).trans c0; have y1 : w5.cell? ⟨b, off + j * 2 + 1, none⟩ = some (.int .i64 q.den) := (HB5.out.cell (p := ⟨b, off + j * 2 + 1, none⟩) hz1).trans c1; have y2 : w5.cell? ⟨b2, off2 + j, none⟩ = some (.int .i64 x) := (HB5.out.cell (p := ⟨b2, off2 + j, none⟩) hz2).trans x0; have y3 : w5.cell? ⟨b3, off3 + j, none⟩ = some (.bool false) := (HB5.out.cell (p := ⟨b3, off3 + j, none⟩) hz3).trans s0; have y4 : w5.cell? ⟨b4, off4 + j, none⟩ = some (.int .i64 v) := (HB5.out.cell (p := ⟨b4, off4 + j, none⟩) hz4).trans v0; have hz5 := HB5.out.size; clear hb5; dsimp only))
        have HBX := Lib.hid (HBL.out.trans (HB5.out.mono hzl))
        go_wp2
        go_roundw
        case rel => exact ⟨j + 1, by omega, by go_num, HBX⟩
        case measure => simp [intOf]; omega
    · obtain rfl : j = R.length := by omega
      have hb := HBL.out
      clear hjl hj hzl HBL
      obtain ⟨wk6, hwk⟩ : ∃ x, x = wr := ⟨_, rfl⟩
      rw [← hwk] at hb ⊢
      clear hwk hz
      have HBx := Lib.hid (HB.out.trans (hb.mono HB.out.size))
      have HNx := Lib.hid (HN.out.go hb)
      have HFRx := Lib.hid (HFR.out.at' hb)
      clear hb hn_0 hn_1 hn_2 hn_3 hn_4 HB HN HFR 
      have HB := HBx; have HN := HNx; have HFR := HFRx
      clear HBx HNx HFRx
      have hz := HB.out.size
      obtain ⟨hn_0, hn_1, hn_2, hn_3, hn_4⟩ := HN.out.two
      go_wp2_with fail
      refine (HWN.out _ hz (HC.out.below HB.out (Nat.le_refl _)) (HP.out.below HB.out (Nat.le_refl _)) (HI.out.below HB.out (Nat.le_refl _))).mono ?_; rintro e wk7 ⟨C8, c8, P8, d8, rfl, hi8, hp8, hb⟩
      clear hz
      have HBx := Lib.hid (HB.out.trans (hb.mono HB.out.size))
      have HNx := Lib.hid (HN.out.go hb)
      have HFRx := Lib.hid (HFR.out.at' hb)
      clear hb hn_0 hn_1 hn_2 hn_3 hn_4 HB HN HFR 
      have HB := HBx; have HN := HNx; have HFR := HFRx
      clear HBx HNx HFRx
      have hz := HB.out.size
      obtain ⟨hn_0, hn_1, hn_2, hn_3, hn_4⟩ := HN.out.two
      have HC8 := Lib.hid hi8
      have HP8 := Lib.hid hp8
      clear hi8 hp8
      obtain ⟨wk8, hwk⟩ : ∃ x, x = wk7.alloc (.cells #[.slice C8 CW.length c8, .slice P8 PW.length d8] 43) := ⟨_, rfl⟩
      have hb : Below wk7.heap.size wk7 wk8 := by rw [hwk]; exact (Below.refl _ _).alloc (Nat.le_refl _) _
      have HX : Hid (Blk wk8 wk7.heap.size 43 #[.slice C8 CW.length c8, .slice P8 PW.length d8]) := Lib.hid (by rw [hwk]; exact Blk.new _ _ _)
      go_upto_region 19 with (fail)
      rw [← hwk]
      clear hwk hz
      obtain ⟨gHX, hgk⟩ : ∃ x, x = wk7.heap.size := ⟨_, rfl⟩
      rw [← hgk] at HX ⊢
      clear hgk
      have HBx := Lib.hid (HB.out.trans (hb.mono HB.out.size))
      have HNx := Lib.hid (HN.out.go hb)
      have HFRx := Lib.hid (HFR.out.at' hb)
      have HC8x := Lib.hid (HC8.out.at' hb)
      have HP8x := Lib.hid (HP8.out.at' hb)
      clear hb hn_0 hn_1 hn_2 hn_3 hn_4 HB HN HFR HC8 HP8 
      have HB := HBx; have HN := HNx; have HFR := HFRx; have HC8 := HC8x; have HP8 := HP8x
      clear HBx HNx HFRx HC8x HP8x
      have hz := HB.out.size
      obtain ⟨hn_0, hn_1, hn_2, hn_3, hn_4⟩ := HN.out.two
      obtain ⟨hx_0, hx_1, hx_2, hx_3, hx_4⟩ := HX.out.two
      go_wp2_with fail
      refine (frates_yes C8 c8 CW P8 d8 _ PW wk8.heap.size _ K R (Nat.le_refl _) HC8.out HP8.out rfl HNW.out HKW.out).mono ?_; rintro e wk9 ⟨A9, c9, rfl, hf9, hb⟩
      clear hz
      have HBx := Lib.hid (HB.out.trans (hb.mono HB.out.size))
      have HNx := Lib.hid (HN.out.go hb)
      have HXx := Lib.hid (HX.out.go hb)
      have HFRx := Lib.hid (HFR.out.at' hb)
      have HC8x := Lib.hid (HC8.out.at' hb)
      have HP8x := Lib.hid (HP8.out.at' hb)
      clear hb hn_0 hn_1 hn_2 hn_3 hn_4 hx_0 hx_1 hx_2 hx_3 hx_4 HB HN HX HFR HC8 HP8 
      have HB := HBx; have HN := HNx; have HX := HXx; have HFR := HFRx; have HC8 := HC8x; have HP8 := HP8x
      clear HBx HNx HXx HFRx HC8x HP8x
      have hz := HB.out.size
      obtain ⟨hn_0, hn_1, hn_2, hn_3, hn_4⟩ := HN.out.two
      obtain ⟨hx_0, hx_1, hx_2, hx_3, hx_4⟩ := HX.out.two
      have HF9 := Lib.hid hf9
      clear hf9
      go_wp2_with fail
      refine (sameFr_any A9 A5 c9 c5 _ _ (R.map frQ) (R.map frQ) _ _ _ HF9.out HFR.out (by rw [List.length_map]) (by rw [List.length_map]) (Nat.le_refl _) (Nat.le_refl _) true (decide_eq_true rfl)).mono ?_; rintro e wk10 ⟨rfl, hb⟩
      clear hz
      have HBx := Lib.hid (HB.out.trans (hb.mono HB.out.size))
      have HNx := Lib.hid (HN.out.go hb)
      have HXx := Lib.hid (HX.out.go hb)
      have HFRx := Lib.hid (HFR.out.at' hb)
      have HC8x := Lib.hid (HC8.out.at' hb)
      have HP8x := Lib.hid (HP8.out.at' hb)
      have HF9x := Lib.hid (HF9.out.at' hb)
      clear hb hn_0 hn_1 hn_2 hn_3 hn_4 hx_0 hx_1 hx_2 hx_3 hx_4 HB HN HX HFR HC8 HP8 HF9 
      have HB := HBx; have HN := HNx; have HX := HXx; have HFR := HFRx; have HC8 := HC8x; have HP8 := HP8x; have HF9 := HF9x
      clear HBx HNx HXx HFRx HC8x HP8x HF9x
      have hz := HB.out.size
      obtain ⟨hn_0, hn_1, hn_2, hn_3, hn_4⟩ := HN.out.two
      obtain ⟨hx_0, hx_1, hx_2, hx_3, hx_4⟩ := HX.out.two
      go_wp2
      go_ret
      exact ⟨rfl, HB.out⟩
set_option maxHeartbeats 4000000 in
theorem wantSated_walk (w : World) (C : Option Addr) (cc : Nat) (caps : List Int) (hc : Ints w w.heap.size C cc caps) (_ : ∀ n ∈ caps, (Lit.int .i64 n).wf = true) (P : Option Addr) (cp : Nat) (paths : List (List Int)) (hp : Rows2 w w.heap.size P cp paths) (_ : ∀ l ∈ paths, ∀ n ∈ l, (Lit.int .i64 n).wf = true) (A : Option Addr) (c : Nat) (want : List Int) (hi : Ints w w.heap.size A c want) (_ : ∀ n ∈ want, (Lit.int .i64 n).wf = true) (hg : Laid w) :
    Calls Tryd.prog 12 #[.agg #[.slice C caps.length cc, .slice P paths.length cp], .slice A want.length c] w fun e w' => e = .returned (.bool true) ∧ Below w.heap.size w w' := by
  by_cases he : wantsErr caps paths want = 0
  · obtain ⟨K, R, hK⟩ := fill_ends (wide_netOk he)
    obtain ⟨hl, hq, L, hL, hb, hs⟩ := sated_pl he hK
    by_cases h6 : caps.length + want.length ≤ 6
    · exact wantSated_yes C cc caps P cp paths A c want w hg hc hp hi he h6 K R L hK hl hq hL hb hs
    · exact wantSated_full C cc caps P cp paths A c want w hg hc hp hi he (by omega) K R L hK hl hq hL hb hs
  · exact wantSated_err C cc caps P cp paths A c want w hg hc hp hi _ rfl he
end Go.Proofs.YtblanfaghnflkaaDoor
