/- The walk of RankBest: it returns true for every input. -/
import Derived.Test.YtblanfaghnflkaaRank3
import Derived.Test.YtblanfaghnflkaaLibK
import Derived.Test.YtblanfaghnflkaaLibM
import Derived.Test.YtblanfaghnflkaaPlGrowLess
import Derived.Test.YtblanfaghnflkaaFrSame
namespace Go.Proofs.Ytblanfaghnflkaa
open Go.RowKit
theorem two_in {a b : Rat} (ha : QIn a) (hb : QIn b) : ∀ q ∈ [a, b], QIn q := fun q h => by
  rcases List.mem_cons.1 h with rfl | h
  · exact ha
  · rcases List.mem_cons.1 h with rfl | h
    · exact hb
    · cases h
set_option maxHeartbeats 2000000 in
theorem rankBest_fact (W : World) : Calls Try.prog 24 #[.slice (some ⟨W.heap.size, 0, none⟩) 2 2, .slice (some ⟨W.heap.size + 1, 0, none⟩) 2 2] ((W.alloc (.cells #[.int .i64 9, .int .i64 1, .int .i64 1, .int .i64 1] 28)).alloc (.cells #[.int .i64 2, .int .i64 1, .int .i64 2, .int .i64 1] 28)) fun e w' => e = .returned (.tuple #[.int .i64 (-1), .nilIface]) ∧ Below W.heap.size W w' := by
  have h1 : Blk ((W.alloc (.cells #[.int .i64 9, .int .i64 1, .int .i64 1, .int .i64 1] 28)).alloc (.cells #[.int .i64 2, .int .i64 1, .int .i64 2, .int .i64 1] 28)) W.heap.size 28 #[.int .i64 9, .int .i64 1, .int .i64 1, .int .i64 1] := (Blk.new _ _ _).alloc _
  have h2 : Blk ((W.alloc (.cells #[.int .i64 9, .int .i64 1, .int .i64 1, .int .i64 1] 28)).alloc (.cells #[.int .i64 2, .int .i64 1, .int .i64 2, .int .i64 1] 28)) (W.heap.size + 1) 28 #[.int .i64 2, .int .i64 1, .int .i64 2, .int .i64 1] := Blk.new' _ _ _ (by simp)
  have hb : Below W.heap.size W ((W.alloc (.cells #[.int .i64 9, .int .i64 1, .int .i64 1, .int .i64 1] 28)).alloc (.cells #[.int .i64 2, .int .i64 1, .int .i64 2, .int .i64 1] 28)) := ((Below.refl _ _).alloc (Nat.le_refl _) _).alloc (by simp) _
  have f1 := Frs.blk2 h1 h1.lt
  have f2 := Frs.blk2 h2 h2.lt
  exact (rcmp_yes (some ⟨W.heap.size, 0, none⟩) (some ⟨W.heap.size + 1, 0, none⟩) 2 2 2 2 [9, 1] [2, 2] (-1) _ _ (Nat.le_refl _) f1 f2 rfl rfl rfl (by decide) (two_in (by unfold QIn FracIn; decide +kernel) (by unfold QIn FracIn; decide +kernel)) (two_in (by unfold QIn FracIn; decide +kernel) (by unfold QIn FracIn; decide +kernel)) (by decide +kernel)).mono fun _ _ ⟨a, b⟩ => ⟨a, hb.trans (b.mono hb.size)⟩
theorem lex_range : ∀ (a b : List Rat), -1 ≤ MM.lex a b ∧ MM.lex a b ≤ 1
  | [], [] => by unfold MM.lex; omega
  | [], _ :: _ => by unfold MM.lex; omega
  | _ :: _, [] => by unfold MM.lex; omega
  | x :: a, y :: b => by
    unfold MM.lex
    have := lex_range a b
    split
    · omega
    · split <;> omega
theorem ordq_le {q r : Rat} (h : q ≤ r) : ordQ q r ≤ 0 := by
  unfold ordQ
  split
  · omega
  · rw [if_neg (by grind)]; omega
set_option maxHeartbeats 8000000 in
set_option maxRecDepth 100000 in
theorem rankBest_err (C : Option Addr) (cc : Nat) (caps : List Int) (P : Option Addr) (cp : Nat) (paths : List (List Int)) (A : Option Addr) (c : Nat) (S : List Fr) (w : World) (hc : Ints w w.heap.size C cc caps) (hp : Rows2 w w.heap.size P cp paths) (hr : Frs w w.heap.size A c S) (er : Int) (hx : (chkErr caps paths S = er ∧ er ≠ 0) ∨ (∃ Q : List Rat, S = Q.map frQ ∧ netErr caps paths = 0 ∧ Q.length = paths.length ∧ (∀ q ∈ Q, QIn q) ∧ loadsTo paths Q caps.length = none ∧ er = 4)) :
    Calls Try.prog 8 #[.agg #[.slice C caps.length cc, .slice P paths.length cp], .slice A S.length c] w fun e w' => e = .returned (.bool true) ∧ Below w.heap.size w w' := by
  have HX := Lib.hid hx
  clear hx
  have HC := Lib.hid hc; have HP := Lib.hid hp; have HR := Lib.hid hr
  clear hc hp hr
  have HN0 := Lib.hid (Blk.new w 25 #[.slice C caps.length cc, .slice P paths.length cp])
  have HB0 := Lib.hid ((Below.refl w.heap.size w).alloc (Nat.le_refl _) (.cells #[.slice C caps.length cc, .slice P paths.length cp] 25))
  obtain ⟨wk0, hwk⟩ : ∃ x, x = w.alloc (.cells #[.slice C caps.length cc, .slice P paths.length cp] 25) := ⟨_, rfl⟩
  rw [← hwk] at HN0 HB0
  have HB := HB0; have HN := HN0
  clear HB0 HN0
  have hz := HB.out.size
  go_enter Try.func8, Try.ntmps8
  go_upto_region 1 with (fail)
  rw [← hwk]
  clear hwk
  obtain ⟨hn_0, hn_1, hn_2, hn_3, hn_4⟩ := HN.out.two
  go_wp2_with fail
  refine (rankBest_fact wk0).mono ?_; rintro e wk1 ⟨rfl, hb⟩
  clear hz
  have HBx := Lib.hid (HB.out.trans (hb.mono HB.out.size))
  have HNx := Lib.hid (HN.out.go hb)
  clear hb hn_0 hn_1 hn_2 hn_3 hn_4 HB HN 
  have HB := HBx; have HN := HNx
  clear HBx HNx
  have hz := HB.out.size
  obtain ⟨hn_0, hn_1, hn_2, hn_3, hn_4⟩ := HN.out.two
  go_wp2_with fail
  refine (fits_er C cc caps P cp _ paths A c _ S w.heap.size _ er hz (HC.out.below HB.out (Nat.le_refl _)) (HP.out.below HB.out (Nat.le_refl _)) (HR.out.below HB.out (Nat.le_refl _)) rfl rfl HX.out).mono ?_; rintro e wk2 ⟨rfl, hb⟩
  clear hz
  have HBx := Lib.hid (HB.out.trans (hb.mono HB.out.size))
  have HNx := Lib.hid (HN.out.go hb)
  clear hb hn_0 hn_1 hn_2 hn_3 hn_4 HB HN 
  have HB := HBx; have HN := HNx
  clear HBx HNx
  have hz := HB.out.size
  obtain ⟨hn_0, hn_1, hn_2, hn_3, hn_4⟩ := HN.out.two
  go_wp2
  go_ret
  exact ⟨rfl, HB.out⟩
set_option maxHeartbeats 8000000 in
set_option maxRecDepth 100000 in
theorem rankBest_true (C : Option Addr) (cc : Nat) (caps : List Int) (P : Option Addr) (cp : Nat) (paths : List (List Int)) (A : Option Addr) (c : Nat) (S : List Fr) (w : World) (hc : Ints w w.heap.size C cc caps) (hp : Rows2 w w.heap.size P cp paths) (hr : Frs w w.heap.size A c S) (Q L : List Rat) (hS : S = Q.map frQ) (he : netErr caps paths = 0) (hl : Q.length = paths.length) (hq : ∀ q ∈ Q, QIn q) (hL : loadsTo paths Q caps.length = some L) (hb : fitsB caps Q L = true) :
    Calls Try.prog 8 #[.agg #[.slice C caps.length cc, .slice P paths.length cp], .slice A S.length c] w fun e w' => e = .returned (.bool true) ∧ Below w.heap.size w w' := by
  subst hS
  rw [List.length_map]
  obtain ⟨K, R, hK⟩ := fill_ends (netOk_of he)
  have ok := netOk_of he
  have hRl := hK.len ok
  have hRi : ∀ q ∈ R, QIn q := fun q h => (hK.rates ok q h).1
  have h6 := ok.F1; have hF0 := ok.F0
  obtain ⟨o, ho⟩ : ∃ o, MM.lex (MM.srt Q) (MM.srt R) = o := ⟨_, rfl⟩
  obtain ⟨p, hp'⟩ : ∃ p, MM.lex (MM.srt R) (MM.srt Q) = p := ⟨_, rfl⟩
  have hop : o = -p := by rw [← ho, ← hp']; exact MM.lex_anti _ _
  have hpr := lex_range (MM.srt R) (MM.srt Q)
  rw [hp'] at hpr
  have hneg : IntKind.i64.wrap (-p) = o := by rw [hop]; exact IntWalk.i64_in _ (by omega)
  obtain ⟨ma, hma⟩ := srt_head (Q := Q) (by omega)
  obtain ⟨mb, hmb⟩ := srt_head (Q := R) (by omega)
  obtain ⟨k, hk⟩ : ∃ k, ordQ ma mb = k := ⟨_, rfl⟩
  have hbest := fill_best ok hK hl hL hb
  rw [ho] at hbest
  have hgt : decide (0 < o) = false := decide_eq_false (by omega)
  have hk0 : k ≤ 0 := by
    rw [← hk]; exact ordq_le (QS.lex_head (by rw [ho]; exact hbest) hma hmb)
  clear hbest
  have HQ := Lib.hid hq; have HL := Lib.hid hL; have HFB := Lib.hid hb; have HE := Lib.hid he; have HK := Lib.hid hK; have HRI := Lib.hid hRi
  have HO := Lib.hid ho; have HPP := Lib.hid hp'; have HMA := Lib.hid hma; have HMB := Lib.hid hmb; have HKK := Lib.hid hk
  have HLQ := Lib.hid hl; have HRL := Lib.hid hRl; have HQR : Hid (Q.length = R.length) := Lib.hid (by omega); have HQ6 : Hid (Q.length ≤ 6) := Lib.hid (by omega); have HR6 : Hid (R.length ≤ 6) := Lib.hid (by omega)
  have HMAI := Lib.hid (hq ma (QS.head_le hma).1); have HMBI := Lib.hid (hRi mb (QS.head_le hmb).1)
  clear hq hL hb he hK hRi ho hp' hma hmb hk hl hRl h6 hF0 ok hop hpr
  have HC := Lib.hid hc; have HP := Lib.hid hp; have HR := Lib.hid hr
  clear hc hp hr
  have HN0 := Lib.hid (Blk.new w 25 #[.slice C caps.length cc, .slice P paths.length cp])
  have HB0 := Lib.hid ((Below.refl w.heap.size w).alloc (Nat.le_refl _) (.cells #[.slice C caps.length cc, .slice P paths.length cp] 25))
  obtain ⟨wk0, hwk⟩ : ∃ x, x = w.alloc (.cells #[.slice C caps.length cc, .slice P paths.length cp] 25) := ⟨_, rfl⟩
  rw [← hwk] at HN0 HB0
  have HB := HB0; have HN := HN0
  clear HB0 HN0
  have hz := HB.out.size
  go_enter Try.func8, Try.ntmps8
  go_upto_region 1 with (fail)
  rw [← hwk]
  clear hwk
  obtain ⟨hn_0, hn_1, hn_2, hn_3, hn_4⟩ := HN.out.two
  go_wp2_with fail
  refine (rankBest_fact wk0).mono ?_; rintro e wk1 ⟨rfl, hb⟩
  clear hz
  have HBx := Lib.hid (HB.out.trans (hb.mono HB.out.size))
  have HNx := Lib.hid (HN.out.go hb)
  clear hb hn_0 hn_1 hn_2 hn_3 hn_4 HB HN 
  have HB := HBx; have HN := HNx
  clear HBx HNx
  have hz := HB.out.size
  obtain ⟨hn_0, hn_1, hn_2, hn_3, hn_4⟩ := HN.out.two
  go_wp2_with fail
  refine (fits_yes' C cc caps P cp _ paths A c _ Q L true w.heap.size _ hz (HC.out.below HB.out (Nat.le_refl _)) (HP.out.below HB.out (Nat.le_refl _)) (HR.out.below HB.out (Nat.le_refl _)) rfl rfl HE.out HLQ.out HQ.out HL.out HFB.out).mono ?_; rintro e wk2 ⟨rfl, hb⟩
  clear hz
  have HBx := Lib.hid (HB.out.trans (hb.mono HB.out.size))
  have HNx := Lib.hid (HN.out.go hb)
  clear hb hn_0 hn_1 hn_2 hn_3 hn_4 HB HN 
  have HB := HBx; have HN := HNx
  clear HBx HNx
  have hz := HB.out.size
  obtain ⟨hn_0, hn_1, hn_2, hn_3, hn_4⟩ := HN.out.two
  go_wp2_with fail
  refine (frates_yes C cc caps P cp _ paths w.heap.size _ K R hz (HC.out.below HB.out (Nat.le_refl _)) (HP.out.below HB.out (Nat.le_refl _)) rfl HE.out HK.out).mono ?_; rintro e wk3 ⟨A5, c5, rfl, hf5, hb⟩
  clear hz
  have HBx := Lib.hid (HB.out.trans (hb.mono HB.out.size))
  have HNx := Lib.hid (HN.out.go hb)
  clear hb hn_0 hn_1 hn_2 hn_3 hn_4 HB HN 
  have HB := HBx; have HN := HNx
  clear HBx HNx
  have hz := HB.out.size
  obtain ⟨hn_0, hn_1, hn_2, hn_3, hn_4⟩ := HN.out.two
  have HF := Lib.hid hf5
  clear hf5
  go_wp2_with fail
  refine (rcmp_yes A A5 c c5 _ _ Q R o wk3.heap.size _ (Nat.le_refl _) ((HR.out.below HB.out (Nat.le_refl _)).more hz) HF.out rfl rfl HQR.out HQ6.out HQ.out HRI.out HO.out).mono ?_; rintro e wk4 ⟨rfl, hb⟩
  clear hz
  have HBx := Lib.hid (HB.out.trans (hb.mono HB.out.size))
  have HNx := Lib.hid (HN.out.go hb)
  have HFx := Lib.hid (HF.out.at' hb)
  clear hb hn_0 hn_1 hn_2 hn_3 hn_4 HB HN HF 
  have HB := HBx; have HN := HNx; have HF := HFx
  clear HBx HNx HFx
  have hz := HB.out.size
  obtain ⟨hn_0, hn_1, hn_2, hn_3, hn_4⟩ := HN.out.two
  go_wp2_with fail
  refine (rcmp_yes A5 A c5 c _ _ R Q p wk4.heap.size _ (Nat.le_refl _) HF.out ((HR.out.below HB.out (Nat.le_refl _)).more hz) rfl rfl HQR.out.symm HR6.out HRI.out HQ.out HPP.out).mono ?_; rintro e wk5 ⟨rfl, hb⟩
  clear hz
  have HBx := Lib.hid (HB.out.trans (hb.mono HB.out.size))
  have HNx := Lib.hid (HN.out.go hb)
  have HFx := Lib.hid (HF.out.at' hb)
  clear hb hn_0 hn_1 hn_2 hn_3 hn_4 HB HN HF 
  have HB := HBx; have HN := HNx; have HF := HFx
  clear HBx HNx HFx
  have hz := HB.out.size
  obtain ⟨hn_0, hn_1, hn_2, hn_3, hn_4⟩ := HN.out.two
  go_wp2_with fail
  refine (rleast_yes A c _ Q ma w.heap.size _ hz (HR.out.below HB.out (Nat.le_refl _)) rfl HQ6.out HQ.out HMA.out).mono ?_; rintro e wk6 ⟨rfl, hb⟩
  clear hz
  have HBx := Lib.hid (HB.out.trans (hb.mono HB.out.size))
  have HNx := Lib.hid (HN.out.go hb)
  have HFx := Lib.hid (HF.out.at' hb)
  clear hb hn_0 hn_1 hn_2 hn_3 hn_4 HB HN HF 
  have HB := HBx; have HN := HNx; have HF := HFx
  clear HBx HNx HFx
  have hz := HB.out.size
  obtain ⟨hn_0, hn_1, hn_2, hn_3, hn_4⟩ := HN.out.two
  obtain ⟨wk7, hwk⟩ : ∃ x, x = wk6.alloc (.cells #[.int .i64 ma.num, .int .i64 ma.den] 28) := ⟨_, rfl⟩
  have hb : Below wk6.heap.size wk6 wk7 := by rw [hwk]; exact (Below.refl _ _).alloc (Nat.le_refl _) _
  have HX : Hid (Blk wk7 wk6.heap.size 28 #[.int .i64 ma.num, .int .i64 ma.den]) := Lib.hid (by rw [hwk]; exact Blk.new _ _ _)
  go_upto_region 15 with (fail)
  rw [← hwk]
  clear hwk hz
  obtain ⟨gHX, hgk⟩ : ∃ x, x = wk6.heap.size := ⟨_, rfl⟩
  rw [← hgk] at HX ⊢
  clear hgk
  have HBx := Lib.hid (HB.out.trans (hb.mono HB.out.size))
  have HNx := Lib.hid (HN.out.go hb)
  have HFx := Lib.hid (HF.out.at' hb)
  clear hb hn_0 hn_1 hn_2 hn_3 hn_4 HB HN HF 
  have HB := HBx; have HN := HNx; have HF := HFx
  clear HBx HNx HFx
  have hz := HB.out.size
  obtain ⟨hn_0, hn_1, hn_2, hn_3, hn_4⟩ := HN.out.two
  obtain ⟨hx_0, hx_1, hx_2, hx_3, hx_4⟩ := HX.out.two
  go_wp2_with fail
  refine (rleast_yes A5 c5 _ R mb wk7.heap.size _ (Nat.le_refl _) HF.out rfl HR6.out HRI.out HMB.out).mono ?_; rintro e wk8 ⟨rfl, hb⟩
  clear hz
  have HBx := Lib.hid (HB.out.trans (hb.mono HB.out.size))
  have HNx := Lib.hid (HN.out.go hb)
  have HXx := Lib.hid (HX.out.go hb)
  have HFx := Lib.hid (HF.out.at' hb)
  clear hb hn_0 hn_1 hn_2 hn_3 hn_4 hx_0 hx_1 hx_2 hx_3 hx_4 HB HN HX HF 
  have HB := HBx; have HN := HNx; have HX := HXx; have HF := HFx
  clear HBx HNx HXx HFx
  have hz := HB.out.size
  obtain ⟨hn_0, hn_1, hn_2, hn_3, hn_4⟩ := HN.out.two
  obtain ⟨hx_0, hx_1, hx_2, hx_3, hx_4⟩ := HX.out.two
  obtain ⟨wk9, hwk⟩ : ∃ x, x = wk8.alloc (.cells #[.int .i64 mb.num, .int .i64 mb.den] 28) := ⟨_, rfl⟩
  have hb : Below wk8.heap.size wk8 wk9 := by rw [hwk]; exact (Below.refl _ _).alloc (Nat.le_refl _) _
  have HY : Hid (Blk wk9 wk8.heap.size 28 #[.int .i64 mb.num, .int .i64 mb.den]) := Lib.hid (by rw [hwk]; exact Blk.new _ _ _)
  go_upto_region 16 with (fail)
  rw [← hwk]
  clear hwk hz
  obtain ⟨gHY, hgk⟩ : ∃ x, x = wk8.heap.size := ⟨_, rfl⟩
  rw [← hgk] at HY ⊢
  clear hgk
  have HBx := Lib.hid (HB.out.trans (hb.mono HB.out.size))
  have HNx := Lib.hid (HN.out.go hb)
  have HXx := Lib.hid (HX.out.go hb)
  have HFx := Lib.hid (HF.out.at' hb)
  clear hb hn_0 hn_1 hn_2 hn_3 hn_4 hx_0 hx_1 hx_2 hx_3 hx_4 HB HN HX HF 
  have HB := HBx; have HN := HNx; have HX := HXx; have HF := HFx
  clear HBx HNx HXx HFx
  have hz := HB.out.size
  obtain ⟨hn_0, hn_1, hn_2, hn_3, hn_4⟩ := HN.out.two
  obtain ⟨hx_0, hx_1, hx_2, hx_3, hx_4⟩ := HX.out.two
  obtain ⟨hy_0, hy_1, hy_2, hy_3, hy_4⟩ := HY.out.two
  go_wp2_with fail
  refine (fcompare_q ma mb k _ HMAI.out HMBI.out HKK.out).mono ?_; rintro e wk10 ⟨rfl, hb⟩
  clear hz
  have HBx := Lib.hid (HB.out.trans (hb.mono HB.out.size))
  have HNx := Lib.hid (HN.out.go hb)
  have HXx := Lib.hid (HX.out.go hb)
  have HYx := Lib.hid (HY.out.go hb)
  have HFx := Lib.hid (HF.out.at' hb)
  clear hb hn_0 hn_1 hn_2 hn_3 hn_4 hx_0 hx_1 hx_2 hx_3 hx_4 hy_0 hy_1 hy_2 hy_3 hy_4 HB HN HX HY HF 
  have HB := HBx; have HN := HNx; have HX := HXx; have HY := HYx; have HF := HFx
  clear HBx HNx HXx HYx HFx
  have hz := HB.out.size
  obtain ⟨hn_0, hn_1, hn_2, hn_3, hn_4⟩ := HN.out.two
  obtain ⟨hx_0, hx_1, hx_2, hx_3, hx_4⟩ := HX.out.two
  obtain ⟨hy_0, hy_1, hy_2, hy_3, hy_4⟩ := HY.out.two
  go_wp2
  go_ret
  exact ⟨rfl, HB.out⟩
set_option maxHeartbeats 8000000 in
set_option maxRecDepth 100000 in
theorem rankBest_false (C : Option Addr) (cc : Nat) (caps : List Int) (P : Option Addr) (cp : Nat) (paths : List (List Int)) (A : Option Addr) (c : Nat) (S : List Fr) (w : World) (hc : Ints w w.heap.size C cc caps) (hp : Rows2 w w.heap.size P cp paths) (hr : Frs w w.heap.size A c S) (Q L : List Rat) (hS : S = Q.map frQ) (he : netErr caps paths = 0) (hl : Q.length = paths.length) (hq : ∀ q ∈ Q, QIn q) (hL : loadsTo paths Q caps.length = some L) (hb : fitsB caps Q L = false) :
    Calls Try.prog 8 #[.agg #[.slice C caps.length cc, .slice P paths.length cp], .slice A S.length c] w fun e w' => e = .returned (.bool true) ∧ Below w.heap.size w w' := by
  subst hS
  rw [List.length_map]
  obtain ⟨K, R, hK⟩ := fill_ends (netOk_of he)
  have ok := netOk_of he
  have hRl := hK.len ok
  have hRi : ∀ q ∈ R, QIn q := fun q h => (hK.rates ok q h).1
  have h6 := ok.F1; have hF0 := ok.F0
  obtain ⟨o, ho⟩ : ∃ o, MM.lex (MM.srt Q) (MM.srt R) = o := ⟨_, rfl⟩
  obtain ⟨p, hp'⟩ : ∃ p, MM.lex (MM.srt R) (MM.srt Q) = p := ⟨_, rfl⟩
  have hop : o = -p := by rw [← ho, ← hp']; exact MM.lex_anti _ _
  have hpr := lex_range (MM.srt R) (MM.srt Q)
  rw [hp'] at hpr
  have hneg : IntKind.i64.wrap (-p) = o := by rw [hop]; exact IntWalk.i64_in _ (by omega)
  obtain ⟨ma, hma⟩ := srt_head (Q := Q) (by omega)
  obtain ⟨mb, hmb⟩ := srt_head (Q := R) (by omega)
  obtain ⟨k, hk⟩ : ∃ k, ordQ ma mb = k := ⟨_, rfl⟩
  have HQ := Lib.hid hq; have HL := Lib.hid hL; have HFB := Lib.hid hb; have HE := Lib.hid he; have HK := Lib.hid hK; have HRI := Lib.hid hRi
  have HO := Lib.hid ho; have HPP := Lib.hid hp'; have HMA := Lib.hid hma; have HMB := Lib.hid hmb; have HKK := Lib.hid hk
  have HLQ := Lib.hid hl; have HRL := Lib.hid hRl; have HQR : Hid (Q.length = R.length) := Lib.hid (by omega); have HQ6 : Hid (Q.length ≤ 6) := Lib.hid (by omega); have HR6 : Hid (R.length ≤ 6) := Lib.hid (by omega)
  have HMAI := Lib.hid (hq ma (QS.head_le hma).1); have HMBI := Lib.hid (hRi mb (QS.head_le hmb).1)
  clear hq hL hb he hK hRi ho hp' hma hmb hk hl hRl h6 hF0 ok hop hpr
  have HC := Lib.hid hc; have HP := Lib.hid hp; have HR := Lib.hid hr
  clear hc hp hr
  have HN0 := Lib.hid (Blk.new w 25 #[.slice C caps.length cc, .slice P paths.length cp])
  have HB0 := Lib.hid ((Below.refl w.heap.size w).alloc (Nat.le_refl _) (.cells #[.slice C caps.length cc, .slice P paths.length cp] 25))
  obtain ⟨wk0, hwk⟩ : ∃ x, x = w.alloc (.cells #[.slice C caps.length cc, .slice P paths.length cp] 25) := ⟨_, rfl⟩
  rw [← hwk] at HN0 HB0
  have HB := HB0; have HN := HN0
  clear HB0 HN0
  have hz := HB.out.size
  go_enter Try.func8, Try.ntmps8
  go_upto_region 1 with (fail)
  rw [← hwk]
  clear hwk
  obtain ⟨hn_0, hn_1, hn_2, hn_3, hn_4⟩ := HN.out.two
  go_wp2_with fail
  refine (rankBest_fact wk0).mono ?_; rintro e wk1 ⟨rfl, hb⟩
  clear hz
  have HBx := Lib.hid (HB.out.trans (hb.mono HB.out.size))
  have HNx := Lib.hid (HN.out.go hb)
  clear hb hn_0 hn_1 hn_2 hn_3 hn_4 HB HN 
  have HB := HBx; have HN := HNx
  clear HBx HNx
  have hz := HB.out.size
  obtain ⟨hn_0, hn_1, hn_2, hn_3, hn_4⟩ := HN.out.two
  go_wp2_with fail
  refine (fits_yes' C cc caps P cp _ paths A c _ Q L false w.heap.size _ hz (HC.out.below HB.out (Nat.le_refl _)) (HP.out.below HB.out (Nat.le_refl _)) (HR.out.below HB.out (Nat.le_refl _)) rfl rfl HE.out HLQ.out HQ.out HL.out HFB.out).mono ?_; rintro e wk2 ⟨rfl, hb⟩
  clear hz
  have HBx := Lib.hid (HB.out.trans (hb.mono HB.out.size))
  have HNx := Lib.hid (HN.out.go hb)
  clear hb hn_0 hn_1 hn_2 hn_3 hn_4 HB HN 
  have HB := HBx; have HN := HNx
  clear HBx HNx
  have hz := HB.out.size
  obtain ⟨hn_0, hn_1, hn_2, hn_3, hn_4⟩ := HN.out.two
  go_wp2_with fail
  refine (frates_yes C cc caps P cp _ paths w.heap.size _ K R hz (HC.out.below HB.out (Nat.le_refl _)) (HP.out.below HB.out (Nat.le_refl _)) rfl HE.out HK.out).mono ?_; rintro e wk3 ⟨A5, c5, rfl, hf5, hb⟩
  clear hz
  have HBx := Lib.hid (HB.out.trans (hb.mono HB.out.size))
  have HNx := Lib.hid (HN.out.go hb)
  clear hb hn_0 hn_1 hn_2 hn_3 hn_4 HB HN 
  have HB := HBx; have HN := HNx
  clear HBx HNx
  have hz := HB.out.size
  obtain ⟨hn_0, hn_1, hn_2, hn_3, hn_4⟩ := HN.out.two
  have HF := Lib.hid hf5
  clear hf5
  go_wp2_with fail
  refine (rcmp_yes A A5 c c5 _ _ Q R o wk3.heap.size _ (Nat.le_refl _) ((HR.out.below HB.out (Nat.le_refl _)).more hz) HF.out rfl rfl HQR.out HQ6.out HQ.out HRI.out HO.out).mono ?_; rintro e wk4 ⟨rfl, hb⟩
  clear hz
  have HBx := Lib.hid (HB.out.trans (hb.mono HB.out.size))
  have HNx := Lib.hid (HN.out.go hb)
  have HFx := Lib.hid (HF.out.at' hb)
  clear hb hn_0 hn_1 hn_2 hn_3 hn_4 HB HN HF 
  have HB := HBx; have HN := HNx; have HF := HFx
  clear HBx HNx HFx
  have hz := HB.out.size
  obtain ⟨hn_0, hn_1, hn_2, hn_3, hn_4⟩ := HN.out.two
  go_wp2_with fail
  refine (rcmp_yes A5 A c5 c _ _ R Q p wk4.heap.size _ (Nat.le_refl _) HF.out ((HR.out.below HB.out (Nat.le_refl _)).more hz) rfl rfl HQR.out.symm HR6.out HRI.out HQ.out HPP.out).mono ?_; rintro e wk5 ⟨rfl, hb⟩
  clear hz
  have HBx := Lib.hid (HB.out.trans (hb.mono HB.out.size))
  have HNx := Lib.hid (HN.out.go hb)
  have HFx := Lib.hid (HF.out.at' hb)
  clear hb hn_0 hn_1 hn_2 hn_3 hn_4 HB HN HF 
  have HB := HBx; have HN := HNx; have HF := HFx
  clear HBx HNx HFx
  have hz := HB.out.size
  obtain ⟨hn_0, hn_1, hn_2, hn_3, hn_4⟩ := HN.out.two
  go_wp2_with fail
  refine (rleast_yes A c _ Q ma w.heap.size _ hz (HR.out.below HB.out (Nat.le_refl _)) rfl HQ6.out HQ.out HMA.out).mono ?_; rintro e wk6 ⟨rfl, hb⟩
  clear hz
  have HBx := Lib.hid (HB.out.trans (hb.mono HB.out.size))
  have HNx := Lib.hid (HN.out.go hb)
  have HFx := Lib.hid (HF.out.at' hb)
  clear hb hn_0 hn_1 hn_2 hn_3 hn_4 HB HN HF 
  have HB := HBx; have HN := HNx; have HF := HFx
  clear HBx HNx HFx
  have hz := HB.out.size
  obtain ⟨hn_0, hn_1, hn_2, hn_3, hn_4⟩ := HN.out.two
  obtain ⟨wk7, hwk⟩ : ∃ x, x = wk6.alloc (.cells #[.int .i64 ma.num, .int .i64 ma.den] 28) := ⟨_, rfl⟩
  have hb : Below wk6.heap.size wk6 wk7 := by rw [hwk]; exact (Below.refl _ _).alloc (Nat.le_refl _) _
  have HX : Hid (Blk wk7 wk6.heap.size 28 #[.int .i64 ma.num, .int .i64 ma.den]) := Lib.hid (by rw [hwk]; exact Blk.new _ _ _)
  go_upto_region 15 with (fail)
  rw [← hwk]
  clear hwk hz
  obtain ⟨gHX, hgk⟩ : ∃ x, x = wk6.heap.size := ⟨_, rfl⟩
  rw [← hgk] at HX ⊢
  clear hgk
  have HBx := Lib.hid (HB.out.trans (hb.mono HB.out.size))
  have HNx := Lib.hid (HN.out.go hb)
  have HFx := Lib.hid (HF.out.at' hb)
  clear hb hn_0 hn_1 hn_2 hn_3 hn_4 HB HN HF 
  have HB := HBx; have HN := HNx; have HF := HFx
  clear HBx HNx HFx
  have hz := HB.out.size
  obtain ⟨hn_0, hn_1, hn_2, hn_3, hn_4⟩ := HN.out.two
  obtain ⟨hx_0, hx_1, hx_2, hx_3, hx_4⟩ := HX.out.two
  go_wp2_with fail
  refine (rleast_yes A5 c5 _ R mb wk7.heap.size _ (Nat.le_refl _) HF.out rfl HR6.out HRI.out HMB.out).mono ?_; rintro e wk8 ⟨rfl, hb⟩
  clear hz
  have HBx := Lib.hid (HB.out.trans (hb.mono HB.out.size))
  have HNx := Lib.hid (HN.out.go hb)
  have HXx := Lib.hid (HX.out.go hb)
  have HFx := Lib.hid (HF.out.at' hb)
  clear hb hn_0 hn_1 hn_2 hn_3 hn_4 hx_0 hx_1 hx_2 hx_3 hx_4 HB HN HX HF 
  have HB := HBx; have HN := HNx; have HX := HXx; have HF := HFx
  clear HBx HNx HXx HFx
  have hz := HB.out.size
  obtain ⟨hn_0, hn_1, hn_2, hn_3, hn_4⟩ := HN.out.two
  obtain ⟨hx_0, hx_1, hx_2, hx_3, hx_4⟩ := HX.out.two
  obtain ⟨wk9, hwk⟩ : ∃ x, x = wk8.alloc (.cells #[.int .i64 mb.num, .int .i64 mb.den] 28) := ⟨_, rfl⟩
  have hb : Below wk8.heap.size wk8 wk9 := by rw [hwk]; exact (Below.refl _ _).alloc (Nat.le_refl _) _
  have HY : Hid (Blk wk9 wk8.heap.size 28 #[.int .i64 mb.num, .int .i64 mb.den]) := Lib.hid (by rw [hwk]; exact Blk.new _ _ _)
  go_upto_region 16 with (fail)
  rw [← hwk]
  clear hwk hz
  obtain ⟨gHY, hgk⟩ : ∃ x, x = wk8.heap.size := ⟨_, rfl⟩
  rw [← hgk] at HY ⊢
  clear hgk
  have HBx := Lib.hid (HB.out.trans (hb.mono HB.out.size))
  have HNx := Lib.hid (HN.out.go hb)
  have HXx := Lib.hid (HX.out.go hb)
  have HFx := Lib.hid (HF.out.at' hb)
  clear hb hn_0 hn_1 hn_2 hn_3 hn_4 hx_0 hx_1 hx_2 hx_3 hx_4 HB HN HX HF 
  have HB := HBx; have HN := HNx; have HX := HXx; have HF := HFx
  clear HBx HNx HXx HFx
  have hz := HB.out.size
  obtain ⟨hn_0, hn_1, hn_2, hn_3, hn_4⟩ := HN.out.two
  obtain ⟨hx_0, hx_1, hx_2, hx_3, hx_4⟩ := HX.out.two
  obtain ⟨hy_0, hy_1, hy_2, hy_3, hy_4⟩ := HY.out.two
  go_wp2_with fail
  refine (fcompare_q ma mb k _ HMAI.out HMBI.out HKK.out).mono ?_; rintro e wk10 ⟨rfl, hb⟩
  clear hz
  have HBx := Lib.hid (HB.out.trans (hb.mono HB.out.size))
  have HNx := Lib.hid (HN.out.go hb)
  have HXx := Lib.hid (HX.out.go hb)
  have HYx := Lib.hid (HY.out.go hb)
  have HFx := Lib.hid (HF.out.at' hb)
  clear hb hn_0 hn_1 hn_2 hn_3 hn_4 hx_0 hx_1 hx_2 hx_3 hx_4 hy_0 hy_1 hy_2 hy_3 hy_4 HB HN HX HY HF 
  have HB := HBx; have HN := HNx; have HX := HXx; have HY := HYx; have HF := HFx
  clear HBx HNx HXx HYx HFx
  have hz := HB.out.size
  obtain ⟨hn_0, hn_1, hn_2, hn_3, hn_4⟩ := HN.out.two
  obtain ⟨hx_0, hx_1, hx_2, hx_3, hx_4⟩ := HX.out.two
  obtain ⟨hy_0, hy_1, hy_2, hy_3, hy_4⟩ := HY.out.two
  go_wp2
  go_ret
  exact ⟨rfl, HB.out⟩
set_option maxHeartbeats 4000000 in
theorem rankBest_walk (w : World) (C : Option Addr) (cc : Nat) (caps : List Int) (hc : Ints w w.heap.size C cc caps) (_ : ∀ n ∈ caps, (Lit.int .i64 n).wf = true) (P : Option Addr) (cp : Nat) (paths : List (List Int)) (hp : Rows2 w w.heap.size P cp paths) (_ : ∀ l ∈ paths, ∀ n ∈ l, (Lit.int .i64 n).wf = true) (A : Option Addr) (c : Nat) (S : List Fr) (hr : Frs w w.heap.size A c S) (_ : True) :
    Calls Try.prog 8 #[.agg #[.slice C caps.length cc, .slice P paths.length cp], .slice A S.length c] w fun e w' => e = .returned (.bool true) ∧ Below w.heap.size w w' := by
  rcases lof_cases caps paths S with ⟨er, h0, hx⟩ | ⟨Q, L, hS, he, hl, hq, hL⟩
  · exact rankBest_err C cc caps P cp paths A c S w hc hp hr er hx
  · cases hb : fitsB caps Q L
    · exact rankBest_false C cc caps P cp paths A c S w hc hp hr Q L hS he hl hq hL hb
    · exact rankBest_true C cc caps P cp paths A c S w hc hp hr Q L hS he hl hq hL hb
end Go.Proofs.Ytblanfaghnflkaa
