/- The walk of GrowLess: it returns true for every input. -/
import Derived.Test.YtblanfaghnflkaaRank3
import Derived.Test.YtblanfaghnflkaaGrowTot0
import Derived.Test.YtblanfaghnflkaaTopOne
import Derived.Test.YtblanfaghnflkaaPlGrowLess
namespace Go.Proofs.Ytblanfaghnflkaa
open Go.RowKit
theorem more_one : FillEnds [6] ([[0], [0]] ++ [[0]]) 1 [2, 2, 2] := ends_dec (by decide +kernel) (by decide +kernel) (by decide +kernel)
set_option maxHeartbeats 2000000 in
theorem growLess_fact (W : World) : Calls Try.prog 27 #[.agg #[.slice (some ⟨W.heap.size, 0, none⟩) 1 1, .slice (some ⟨W.heap.size + 1 + 1 + 1, 0, none⟩) 2 2], .slice (some ⟨W.heap.size + 1 + 1 + 1 + 1, 0, none⟩) 1 1] (((((W.alloc (.cells #[.int .i64 6] 3)).alloc (.cells #[.int .i64 0] 3)).alloc (.cells #[.int .i64 0] 3)).alloc (.cells #[.slice (some ⟨W.heap.size + 1, 0, none⟩) 1 1, .slice (some ⟨W.heap.size + 1 + 1, 0, none⟩) 1 1] 22)).alloc (.cells #[.int .i64 0] 3)) fun e w' => ∃ A c, e = .returned (.tuple #[.slice A 3 c, .nilIface]) ∧ (∃ b off, A = some ⟨b, off, none⟩ ∧ b < w'.heap.size ∧ w'.cell? ⟨b, off, none⟩ = some (.int .i64 2) ∧ w'.cell? ⟨b, off + 4, none⟩ = some (.int .i64 2)) ∧ Below W.heap.size W w' := by
  have h1 : Blk (((((W.alloc (.cells #[.int .i64 6] 3)).alloc (.cells #[.int .i64 0] 3)).alloc (.cells #[.int .i64 0] 3)).alloc (.cells #[.slice (some ⟨W.heap.size + 1, 0, none⟩) 1 1, .slice (some ⟨W.heap.size + 1 + 1, 0, none⟩) 1 1] 22)).alloc (.cells #[.int .i64 0] 3)) W.heap.size 3 (List.map (Value.int .i64) [6]).toArray := ((((Blk.new _ _ _).alloc _).alloc _).alloc _).alloc _
  have h2 : Blk (((((W.alloc (.cells #[.int .i64 6] 3)).alloc (.cells #[.int .i64 0] 3)).alloc (.cells #[.int .i64 0] 3)).alloc (.cells #[.slice (some ⟨W.heap.size + 1, 0, none⟩) 1 1, .slice (some ⟨W.heap.size + 1 + 1, 0, none⟩) 1 1] 22)).alloc (.cells #[.int .i64 0] 3)) (W.heap.size + 1) 3 (List.map (Value.int .i64) [0]).toArray := (((Blk.new' _ _ _ (by simp)).alloc _).alloc _).alloc _
  have h3 : Blk (((((W.alloc (.cells #[.int .i64 6] 3)).alloc (.cells #[.int .i64 0] 3)).alloc (.cells #[.int .i64 0] 3)).alloc (.cells #[.slice (some ⟨W.heap.size + 1, 0, none⟩) 1 1, .slice (some ⟨W.heap.size + 1 + 1, 0, none⟩) 1 1] 22)).alloc (.cells #[.int .i64 0] 3)) (W.heap.size + 1 + 1) 3 (List.map (Value.int .i64) [0]).toArray := ((Blk.new' _ _ _ (by simp)).alloc _).alloc _
  have h4 : Blk (((((W.alloc (.cells #[.int .i64 6] 3)).alloc (.cells #[.int .i64 0] 3)).alloc (.cells #[.int .i64 0] 3)).alloc (.cells #[.slice (some ⟨W.heap.size + 1, 0, none⟩) 1 1, .slice (some ⟨W.heap.size + 1 + 1, 0, none⟩) 1 1] 22)).alloc (.cells #[.int .i64 0] 3)) (W.heap.size + 1 + 1 + 1) 22 #[.slice (some ⟨W.heap.size + 1, 0, none⟩) ([0] : List Int).length 1, .slice (some ⟨W.heap.size + 1 + 1, 0, none⟩) ([0] : List Int).length 1] := (Blk.new' _ _ _ (by simp)).alloc _
  have h5 : Blk (((((W.alloc (.cells #[.int .i64 6] 3)).alloc (.cells #[.int .i64 0] 3)).alloc (.cells #[.int .i64 0] 3)).alloc (.cells #[.slice (some ⟨W.heap.size + 1, 0, none⟩) 1 1, .slice (some ⟨W.heap.size + 1 + 1, 0, none⟩) 1 1] 22)).alloc (.cells #[.int .i64 0] 3)) (W.heap.size + 1 + 1 + 1 + 1) 3 (List.map (Value.int .i64) [0]).toArray := Blk.new' _ _ _ (by simp)
  have hb : Below W.heap.size W (((((W.alloc (.cells #[.int .i64 6] 3)).alloc (.cells #[.int .i64 0] 3)).alloc (.cells #[.int .i64 0] 3)).alloc (.cells #[.slice (some ⟨W.heap.size + 1, 0, none⟩) 1 1, .slice (some ⟨W.heap.size + 1 + 1, 0, none⟩) 1 1] 22)).alloc (.cells #[.int .i64 0] 3)) := (((((Below.refl _ _).alloc (Nat.le_refl _) _).alloc (by simp) _).alloc (by simp; omega) _).alloc (by simp; omega) _).alloc (by simp; omega) _
  refine (more_yes (some ⟨W.heap.size, 0, none⟩) 1 [6] (some ⟨W.heap.size + 1 + 1 + 1, 0, none⟩) 2 2 [[0], [0]] (some ⟨W.heap.size + 1 + 1 + 1 + 1, 0, none⟩) 1 [0] _ _ 1 [2, 2, 2] (Nat.le_refl _) (Ints.blk h1 h1.lt (by decide)) (Rows2.blk2 h4 (Ints.blk h2 h2.lt (by decide)) (Ints.blk h3 h3.lt (by decide)) h4.lt) (Ints.blk h5 h5.lt (by decide)) rfl (by decide) more_one).mono ?_
  rintro e w' ⟨A, c, rfl, hf, hb2⟩
  obtain ⟨b, off, rfl, hbb, c0, _⟩ := frs_k hf 0 rfl
  obtain ⟨b', off', e', _, c1, _⟩ := frs_k hf 2 rfl
  injection e' with e'
  injection e' with e1 e2
  subst e1 e2
  exact ⟨_, c, rfl, ⟨b, off, rfl, hbb, c0, c1⟩, hb.trans (hb2.mono hb.size)⟩
theorem fewer_ok' (C : Option Addr) (cc : Nat) (caps : List Int) (P : Option Addr) (cp : Nat) (paths : List (List Int)) (flow : Int) (B : Nat) (w : World) (K : Nat) (R : List Rat) (hB : B ≤ w.heap.size) (hc : Ints w B C cc caps) (hp : Rows2 w B P cp paths) (he : dropErr caps paths flow = 0) (hK : FillEnds caps (paths.eraseIdx flow.toNat) K R) :
    Calls Try.prog 28 #[.agg #[.slice C caps.length cc, .slice P paths.length cp], .int .i64 flow] w fun r w' => ∃ A1 c1, r = .returned (.tuple #[.slice A1 R.length c1, .nilIface]) ∧ Frs w' w'.heap.size A1 c1 (R.map frQ) ∧ Below w.heap.size w w' := by
  have := fewer_tot C cc caps P cp paths flow B w hB hc hp 0 (R.map frQ) he ⟨fun h => absurd rfl h, fun _ => ⟨netOk_of (dropErr_ok he), K, R, hK, rfl⟩⟩
  rwa [List.length_map, errVal_zero] at this
theorem wider_ok' (C : Option Addr) (cc : Nat) (caps : List Int) (P : Option Addr) (cp : Nat) (paths : List (List Int)) (link by_ : Int) (B : Nat) (w : World) (K : Nat) (R : List Rat) (hB : B ≤ w.heap.size) (hc : Ints w B C cc caps) (hp : Rows2 w B P cp paths) (he : widerErr caps paths link by_ = 0) (hK : FillEnds (caps.set link.toNat (caps.getD link.toNat 0 + by_)) paths K R) :
    Calls Try.prog 29 #[.agg #[.slice C caps.length cc, .slice P paths.length cp], .int .i64 link, .int .i64 by_] w fun r w' => ∃ A1 c1, r = .returned (.tuple #[.slice A1 R.length c1, .nilIface]) ∧ Frs w' w'.heap.size A1 c1 (R.map frQ) ∧ Below w.heap.size w w' := by
  have := wider_tot C cc caps P cp paths link by_ B w hB hc hp 0 (R.map frQ) he ⟨fun h => absurd rfl h, fun _ => ⟨netOk_of (widerErr_ok he), K, R, hK, rfl⟩⟩
  rwa [List.length_map, errVal_zero] at this
theorem wider_er' (C : Option Addr) (cc : Nat) (caps : List Int) (P : Option Addr) (cp : Nat) (paths : List (List Int)) (link by_ : Int) (B : Nat) (w : World) (er : Int) (hB : B ≤ w.heap.size) (hc : Ints w B C cc caps) (hp : Rows2 w B P cp paths) (he : widerErr caps paths link by_ = er) (h0 : er ≠ 0) :
    Calls Try.prog 29 #[.agg #[.slice C caps.length cc, .slice P paths.length cp], .int .i64 link, .int .i64 by_] w fun r w' => ∃ A1 c1, r = .returned (.tuple #[.slice A1 0 c1, .iface 71 (.int .i64 er)]) ∧ Below w.heap.size w w' := by
  have := wider_tot C cc caps P cp paths link by_ B w hB hc hp er [] he ⟨fun _ => rfl, fun h => absurd h h0⟩
  rw [errVal_pos h0] at this
  exact this.mono fun _ _ ⟨a, b, h1, _, h2⟩ => ⟨a, b, h1, h2⟩
theorem wider_le {caps : List Int} {paths : List (List Int)} {link by_ : Int} (h : widerErr caps paths link by_ = 0) (l : Nat) : capQ caps l ≤ capQ (caps.set link.toNat (caps.getD link.toNat 0 + by_)) l := by
  have h0 : 0 ≤ by_ ∧ link.toNat < caps.length := by
    unfold widerErr at h
    split at h
    · split at h
      · omega
      · rename_i ho
        exact ⟨by omega, by omega⟩
    · rename_i hn; exact absurd h hn
  unfold capQ
  by_cases e : link.toNat = l
  · subst e
    have : (caps.set link.toNat (caps.getD link.toNat 0 + by_)).getD link.toNat 0 = caps.getD link.toNat 0 + by_ := by
      rw [List.getD_eq_getElem?_getD, List.getElem?_set_self h0.2]; rfl
    rw [this]
    exact Rat.intCast_le_intCast.2 (by omega)
  · have : (caps.set link.toNat (caps.getD link.toNat 0 + by_)).getD l 0 = caps.getD l 0 := by
      rw [List.getD_eq_getElem?_getD, List.getElem?_set_ne e, ← List.getD_eq_getElem?_getD]
    rw [this]; exact Rat.le_refl
theorem append_erase (paths : List (List Int)) (p : List Int) : (paths ++ [p]).eraseIdx paths.length = paths := by
  rw [List.eraseIdx_append_of_length_le (Nat.le_refl _), Nat.sub_self]
  exact List.append_nil _
theorem more_least {caps : List Int} {paths : List (List Int)} {path : List Int} {K K' : Nat} {R R' : List Rat} {m m' : Rat} (he : addErr caps paths path = 0) (h' : FillEnds caps (paths ++ [path]) K' R') (h : FillEnds caps paths K R) (hm' : (MM.srt R')[0]? = some m') (hm : (MM.srt R)[0]? = some m) : m' ≤ m := by
  obtain ⟨h1, _, _, h4⟩ := addErr_ok he
  have e := append_erase paths path
  exact least_erase (paths := paths ++ [path]) (k := paths.length) (netOk_of h4) (by rw [e]; exact netOk_of h1) (by rw [List.length_append, List.length_singleton]; omega) h' (by rw [e]; exact h) hm' hm
theorem drop_in {caps : List Int} {paths : List (List Int)} {flow : Int} (h : dropErr caps paths flow = 0) : flow.toNat < paths.length := by
  unfold dropErr at h
  split at h
  · split at h
    · omega
    · omega
  · rename_i hn; exact absurd h hn
theorem ordq_le {q r : Rat} (h : q ≤ r) : ordQ q r ≤ 0 := by
  unfold ordQ
  split
  · omega
  · rw [if_neg (by grind)]; omega
theorem ordq_ge {q r : Rat} (h : r ≤ q) : 0 ≤ ordQ q r := by
  unfold ordQ
  rw [if_neg (by grind)]
  split <;> omega
set_option maxHeartbeats 16000000 in
set_option maxRecDepth 100000 in
theorem growLess_err (C : Option Addr) (cc : Nat) (caps : List Int) (P : Option Addr) (cp : Nat) (paths : List (List Int)) (A : Option Addr) (c : Nat) (path : List Int) (flow link by_ : Int) (w : World) (hc : Ints w w.heap.size C cc caps) (hp : Rows2 w w.heap.size P cp paths) (hi : Ints w w.heap.size A c path) (er : Int) (he : netErr caps paths = er) (h0 : er ≠ 0) :
    Calls Try.prog 9 #[.agg #[.slice C caps.length cc, .slice P paths.length cp], .slice A path.length c, .int .i64 flow, .int .i64 link, .int .i64 by_] w fun e w' => e = .returned (.bool true) ∧ Below w.heap.size w w' := by
  have HE := Lib.hid he; have H0 := Lib.hid h0
  clear he h0
  have HC := Lib.hid hc; have HP := Lib.hid hp; have HI := Lib.hid hi
  have him := hi.cap; have hil := hi.le
  unfold maxLen at him
  clear hc hp hi
  have HN0 := Lib.hid (Blk.new w 25 #[.slice C caps.length cc, .slice P paths.length cp])
  have HB0 := Lib.hid ((Below.refl w.heap.size w).alloc (Nat.le_refl _) (.cells #[.slice C caps.length cc, .slice P paths.length cp] 25))
  obtain ⟨wk0, hwk⟩ : ∃ x, x = w.alloc (.cells #[.slice C caps.length cc, .slice P paths.length cp] 25) := ⟨_, rfl⟩
  rw [← hwk] at HN0 HB0
  have HB := HB0; have HN := HN0
  clear HB0 HN0
  have hz := HB.out.size
  go_enter Try.func9, Try.ntmps9
  go_upto_region 1 with (fail)
  rw [← hwk]
  clear hwk
  obtain ⟨hn_0, hn_1, hn_2, hn_3, hn_4⟩ := HN.out.two
  go_wp2_with fail
  refine (growLess_fact wk0).mono ?_; rintro e wk1 ⟨A0, c0, rfl, ⟨b0, off0, rfl, hb0, d0, d1⟩, hb⟩
  clear hz
  have HBx := Lib.hid (HB.out.trans (hb.mono HB.out.size))
  have HNx := Lib.hid (HN.out.go hb)
  clear hb hn_0 hn_1 hn_2 hn_3 hn_4 HB HN 
  have HB := HBx; have HN := HNx
  clear HBx HNx
  have hz := HB.out.size
  obtain ⟨hn_0, hn_1, hn_2, hn_3, hn_4⟩ := HN.out.two
  go_wp2_with fail
  refine (frates_no C cc caps P cp _ paths w.heap.size _ er hz (HC.out.below HB.out (Nat.le_refl _)) (HP.out.below HB.out (Nat.le_refl _)) rfl HE.out H0.out).mono ?_; rintro e wk2 ⟨rfl, hb⟩
  clear d0 d1 hb0
  clear hz
  have HBx := Lib.hid (HB.out.trans (hb.mono HB.out.size))
  have HNx := Lib.hid (HN.out.go hb)
  clear hb hn_0 hn_1 hn_2 hn_3 hn_4 HB HN 
  have HB := HBx; have HN := HNx
  clear HBx HNx
  have hz := HB.out.size
  obtain ⟨hn_0, hn_1, hn_2, hn_3, hn_4⟩ := HN.out.two
  go_wp2
  go_ret
  exact ⟨rfl, HB.out⟩
set_option maxHeartbeats 16000000 in
set_option maxRecDepth 100000 in
theorem growLess_111 (C : Option Addr) (cc : Nat) (caps : List Int) (P : Option Addr) (cp : Nat) (paths : List (List Int)) (A : Option Addr) (c : Nat) (path : List Int) (flow link by_ : Int) (w : World) (hc : Ints w w.heap.size C cc caps) (hp : Rows2 w w.heap.size P cp paths) (hi : Ints w w.heap.size A c path) (he : netErr caps paths = 0) (K : Nat) (R : List Rat) (hK : FillEnds caps paths K R) (K1 : Nat) (R1 : List Rat) (hm : addErr caps paths path = 0) (hK1 : FillEnds caps (paths ++ [path]) K1 R1) (K2 : Nat) (R2 : List Rat) (hf : dropErr caps paths flow = 0) (hK2 : FillEnds caps (paths.eraseIdx flow.toNat) K2 R2) (K3 : Nat) (R3 : List Rat) (hd : widerErr caps paths link by_ = 0) (hK3 : FillEnds (caps.set link.toNat (caps.getD link.toNat 0 + by_)) paths K3 R3) :
    Calls Try.prog 9 #[.agg #[.slice C caps.length cc, .slice P paths.length cp], .slice A path.length c, .int .i64 flow, .int .i64 link, .int .i64 by_] w fun e w' => e = .returned (.bool true) ∧ Below w.heap.size w w' := by
  have ok := netOk_of he
  have hRl := hK.len ok
  have hRi : ∀ q ∈ R, QIn q := fun q h => (hK.rates ok q h).1
  have h6 := ok.F1; have hF0 := ok.F0
  obtain ⟨ma, hma⟩ := srt_head (Q := R) (by omega)
  have HE := Lib.hid he; have HK := Lib.hid hK; have HRI := Lib.hid hRi; have HMA := Lib.hid hma; have HMAI := Lib.hid (hRi ma (QS.head_le hma).1)
  have HR6 : Hid (R.length ≤ 6) := Lib.hid (by omega)
  have hr6 : R.length ≤ 6 := by omega
  have hr0 : 0 < R.length := by omega
  have ok1 := netOk_of (addErr_ok hm).2.2.2
  have hl1 := hK1.len ok1
  rw [List.length_append, List.length_singleton] at hl1
  have hi1 : ∀ q ∈ R1, QIn q := fun q h => (hK1.rates ok1 q h).1
  have h61 := ok1.F1
  rw [List.length_append, List.length_singleton] at h61
  obtain ⟨mb, hmb⟩ := srt_head (Q := R1) (by omega)
  obtain ⟨k1, hk1⟩ : ∃ k, ordQ mb ma = k := ⟨_, rfl⟩
  have hk1' : decide (0 < k1) = false := decide_eq_false (by rw [← hk1]; have := ordq_le (more_least hm hK1 hK hmb hma); omega)
  have hn1 : ((R1.length : Int) != (R.length : Int) + 1) = false := by rw [bne_eq_false_iff_eq]; omega
  have HM := Lib.hid hm; have HK1 := Lib.hid hK1; have HI1 := Lib.hid hi1; have HMB := Lib.hid hmb; have HMBI := Lib.hid (hi1 mb (QS.head_le hmb).1); have HKK1 := Lib.hid hk1; have H61 : Hid (R1.length ≤ 6) := Lib.hid (by omega)
  clear hm hK1 hl1 hi1 hmb hk1 ok1 h61
  have ok2 := netOk_of (dropErr_ok hf)
  have hl2 := hK2.len ok2
  rw [List.length_eraseIdx, if_pos (drop_in hf)] at hl2
  have hi2 : ∀ q ∈ R2, QIn q := fun q h => (hK2.rates ok2 q h).1
  have h02 := ok2.F0
  rw [List.length_eraseIdx, if_pos (drop_in hf)] at h02
  obtain ⟨mc, hmc⟩ := srt_head (Q := R2) (by omega)
  obtain ⟨k2, hk2⟩ : ∃ k, ordQ mc ma = k := ⟨_, rfl⟩
  have hk2' : decide (k2 < 0) = false := decide_eq_false (by rw [← hk2]; have := ordq_ge (least_erase ok ok2 (drop_in hf) hK hK2 hma hmc); omega)
  have hn2 : ((R2.length : Int) != (R.length : Int) - 1) = false := by rw [bne_eq_false_iff_eq]; omega
  have HF := Lib.hid hf; have HK2 := Lib.hid hK2; have HI2 := Lib.hid hi2; have HMC := Lib.hid hmc; have HMCI := Lib.hid (hi2 mc (QS.head_le hmc).1); have HKK2 := Lib.hid hk2; have H62 : Hid (R2.length ≤ 6) := Lib.hid (by omega)
  clear hf hK2 hl2 hi2 hmc hk2 ok2 h02
  have ok3 := netOk_of (widerErr_ok hd)
  have hl3 := hK3.len ok3
  have hi3 : ∀ q ∈ R3, QIn q := fun q h => (hK3.rates ok3 q h).1
  obtain ⟨o, ho⟩ : ∃ o, MM.lex (MM.srt R3) (MM.srt R) = o := ⟨_, rfl⟩
  have ho' : decide (0 ≤ o) = true := decide_eq_true (by rw [← ho]; exact wider_lex ok ok3 (by rw [List.length_set]) (wider_le hd) hK hK3)
  have HD := Lib.hid hd; have HK3 := Lib.hid hK3; have HI3 := Lib.hid hi3; have HO := Lib.hid ho; have H63 : Hid (R3.length ≤ 6) := Lib.hid (by omega); have HL3 : Hid (R3.length = R.length) := Lib.hid (by omega)
  clear hd hK3 hl3 hi3 ho ok3
  clear he hK hRi hma hRl h6 hF0 ok
  have HC := Lib.hid hc; have HP := Lib.hid hp; have HI := Lib.hid hi
  have him := hi.cap; have hil := hi.le
  unfold maxLen at him
  clear hc hp hi
  have HN0 := Lib.hid (Blk.new w 25 #[.slice C caps.length cc, .slice P paths.length cp])
  have HB0 := Lib.hid ((Below.refl w.heap.size w).alloc (Nat.le_refl _) (.cells #[.slice C caps.length cc, .slice P paths.length cp] 25))
  obtain ⟨wk0, hwk⟩ : ∃ x, x = w.alloc (.cells #[.slice C caps.length cc, .slice P paths.length cp] 25) := ⟨_, rfl⟩
  rw [← hwk] at HN0 HB0
  have HB := HB0; have HN := HN0
  clear HB0 HN0
  have hz := HB.out.size
  go_enter Try.func9, Try.ntmps9
  go_upto_region 1 with (fail)
  rw [← hwk]
  clear hwk
  obtain ⟨hn_0, hn_1, hn_2, hn_3, hn_4⟩ := HN.out.two
  go_wp2_with fail
  refine (growLess_fact wk0).mono ?_; rintro e wk1 ⟨A0, c0, rfl, ⟨b0, off0, rfl, hb0, d0, d1⟩, hb⟩
  clear hz
  have HBx := Lib.hid (HB.out.trans (hb.mono HB.out.size))
  have HNx := Lib.hid (HN.out.go hb)
  clear hb hn_0 hn_1 hn_2 hn_3 hn_4 HB HN 
  have HB := HBx; have HN := HNx
  clear HBx HNx
  have hz := HB.out.size
  obtain ⟨hn_0, hn_1, hn_2, hn_3, hn_4⟩ := HN.out.two
  go_wp2_with fail
  refine (frates_yes C cc caps P cp _ paths w.heap.size _ K R hz (HC.out.below HB.out (Nat.le_refl _)) (HP.out.below HB.out (Nat.le_refl _)) rfl HE.out HK.out).mono ?_; rintro e wk2 ⟨A5, c5, rfl, hf5, hb⟩
  clear d0 d1 hb0
  clear hz
  have HBx := Lib.hid (HB.out.trans (hb.mono HB.out.size))
  have HNx := Lib.hid (HN.out.go hb)
  clear hb hn_0 hn_1 hn_2 hn_3 hn_4 HB HN 
  have HB := HBx; have HN := HNx
  clear HBx HNx
  have hz := HB.out.size
  obtain ⟨hn_0, hn_1, hn_2, hn_3, hn_4⟩ := HN.out.two
  have HFR := Lib.hid hf5
  clear hf5
  go_wp2_with fail
  refine (rleast_yes A5 c5 _ R ma wk2.heap.size _ (Nat.le_refl _) HFR.out rfl HR6.out HRI.out HMA.out).mono ?_; rintro e wk3 ⟨rfl, hb⟩
  clear hz
  have HBx := Lib.hid (HB.out.trans (hb.mono HB.out.size))
  have HNx := Lib.hid (HN.out.go hb)
  have HFRx := Lib.hid (HFR.out.at' hb)
  clear hb hn_0 hn_1 hn_2 hn_3 hn_4 HB HN HFR 
  have HB := HBx; have HN := HNx; have HFR := HFRx
  clear HBx HNx HFRx
  have hz := HB.out.size
  obtain ⟨hn_0, hn_1, hn_2, hn_3, hn_4⟩ := HN.out.two
  obtain ⟨wk4, hwk⟩ : ∃ x, x = wk3.alloc (.cells #[.int .i64 ma.num, .int .i64 ma.den] 28) := ⟨_, rfl⟩
  have hb : Below wk3.heap.size wk3 wk4 := by rw [hwk]; exact (Below.refl _ _).alloc (Nat.le_refl _) _
  have HX : Hid (Blk wk4 wk3.heap.size 28 #[.int .i64 ma.num, .int .i64 ma.den]) := Lib.hid (by rw [hwk]; exact Blk.new _ _ _)
  go_upto_region 8 with (fail)
  rw [← hwk]
  clear hwk hz
  obtain ⟨gHX, hgk⟩ : ∃ x, x = wk3.heap.size := ⟨_, rfl⟩
  rw [← hgk] at HX ⊢
  clear hgk
  have HBx := Lib.hid (HB.out.trans (hb.mono HB.out.size))
  have HNx := Lib.hid (HN.out.go hb)
  have HFRx := Lib.hid (HFR.out.at' hb)
  clear hb hn_0 hn_1 hn_2 hn_3 hn_4 HB HN HFR 
  have HB := HBx; have HN := HNx; have HFR := HFRx
  clear HBx HNx HFRx
  have hz := HB.out.size
  obtain ⟨hn_0, hn_1, hn_2, hn_3, hn_4⟩ := HN.out.two
  obtain ⟨hx_0, hx_1, hx_2, hx_3, hx_4⟩ := HX.out.two
  go_wp2_with fail
  refine (more_yes C cc caps P cp _ paths A c path w.heap.size _ K1 R1 hz (HC.out.below HB.out (Nat.le_refl _)) (HP.out.below HB.out (Nat.le_refl _)) (HI.out.below HB.out (Nat.le_refl _)) rfl HM.out HK1.out).mono ?_; rintro e wk5 ⟨A6, c6, rfl, hf6, hb⟩
  clear hz
  have HBx := Lib.hid (HB.out.trans (hb.mono HB.out.size))
  have HNx := Lib.hid (HN.out.go hb)
  have HXx := Lib.hid (HX.out.go hb)
  have HFRx := Lib.hid (HFR.out.at' hb)
  clear hb hn_0 hn_1 hn_2 hn_3 hn_4 hx_0 hx_1 hx_2 hx_3 hx_4 HB HN HX HFR 
  have HB := HBx; have HN := HNx; have HX := HXx; have HFR := HFRx
  clear HBx HNx HXx HFRx
  have hz := HB.out.size
  obtain ⟨hn_0, hn_1, hn_2, hn_3, hn_4⟩ := HN.out.two
  obtain ⟨hx_0, hx_1, hx_2, hx_3, hx_4⟩ := HX.out.two
  have HFS := Lib.hid hf6
  clear hf6
  go_wp2_with fail
  refine (rleast_yes A6 c6 _ R1 mb wk5.heap.size _ (Nat.le_refl _) HFS.out rfl H61.out HI1.out HMB.out).mono ?_; rintro e wk6 ⟨rfl, hb⟩
  clear hz
  have HBx := Lib.hid (HB.out.trans (hb.mono HB.out.size))
  have HNx := Lib.hid (HN.out.go hb)
  have HXx := Lib.hid (HX.out.go hb)
  have HFRx := Lib.hid (HFR.out.at' hb)
  have HFSx := Lib.hid (HFS.out.at' hb)
  clear hb hn_0 hn_1 hn_2 hn_3 hn_4 hx_0 hx_1 hx_2 hx_3 hx_4 HB HN HX HFR HFS 
  have HB := HBx; have HN := HNx; have HX := HXx; have HFR := HFRx; have HFS := HFSx
  clear HBx HNx HXx HFRx HFSx
  have hz := HB.out.size
  obtain ⟨hn_0, hn_1, hn_2, hn_3, hn_4⟩ := HN.out.two
  obtain ⟨hx_0, hx_1, hx_2, hx_3, hx_4⟩ := HX.out.two
  obtain ⟨wk7, hwk⟩ : ∃ x, x = wk6.alloc (.cells #[.int .i64 mb.num, .int .i64 mb.den] 28) := ⟨_, rfl⟩
  have hb : Below wk6.heap.size wk6 wk7 := by rw [hwk]; exact (Below.refl _ _).alloc (Nat.le_refl _) _
  have HY : Hid (Blk wk7 wk6.heap.size 28 #[.int .i64 mb.num, .int .i64 mb.den]) := Lib.hid (by rw [hwk]; exact Blk.new _ _ _)
  go_upto_region 13 with (fail)
  rw [← hwk]
  clear hwk hz
  obtain ⟨gHY, hgk⟩ : ∃ x, x = wk6.heap.size := ⟨_, rfl⟩
  rw [← hgk] at HY ⊢
  clear hgk
  have HBx := Lib.hid (HB.out.trans (hb.mono HB.out.size))
  have HNx := Lib.hid (HN.out.go hb)
  have HXx := Lib.hid (HX.out.go hb)
  have HFRx := Lib.hid (HFR.out.at' hb)
  have HFSx := Lib.hid (HFS.out.at' hb)
  clear hb hn_0 hn_1 hn_2 hn_3 hn_4 hx_0 hx_1 hx_2 hx_3 hx_4 HB HN HX HFR HFS 
  have HB := HBx; have HN := HNx; have HX := HXx; have HFR := HFRx; have HFS := HFSx
  clear HBx HNx HXx HFRx HFSx
  have hz := HB.out.size
  obtain ⟨hn_0, hn_1, hn_2, hn_3, hn_4⟩ := HN.out.two
  obtain ⟨hx_0, hx_1, hx_2, hx_3, hx_4⟩ := HX.out.two
  obtain ⟨hy_0, hy_1, hy_2, hy_3, hy_4⟩ := HY.out.two
  go_wp2_with fail
  refine (fcompare_q mb ma k1 _ HMBI.out HMAI.out HKK1.out).mono ?_; rintro e wk8 ⟨rfl, hb⟩
  clear hz
  have HBx := Lib.hid (HB.out.trans (hb.mono HB.out.size))
  have HNx := Lib.hid (HN.out.go hb)
  have HXx := Lib.hid (HX.out.go hb)
  have HYx := Lib.hid (HY.out.go hb)
  have HFRx := Lib.hid (HFR.out.at' hb)
  have HFSx := Lib.hid (HFS.out.at' hb)
  clear hb hn_0 hn_1 hn_2 hn_3 hn_4 hx_0 hx_1 hx_2 hx_3 hx_4 hy_0 hy_1 hy_2 hy_3 hy_4 HB HN HX HY HFR HFS 
  have HB := HBx; have HN := HNx; have HX := HXx; have HY := HYx; have HFR := HFRx; have HFS := HFSx
  clear HBx HNx HXx HYx HFRx HFSx
  have hz := HB.out.size
  obtain ⟨hn_0, hn_1, hn_2, hn_3, hn_4⟩ := HN.out.two
  obtain ⟨hx_0, hx_1, hx_2, hx_3, hx_4⟩ := HX.out.two
  obtain ⟨hy_0, hy_1, hy_2, hy_3, hy_4⟩ := HY.out.two
  go_wp2_with fail
  refine (fewer_ok' C cc caps P cp paths flow w.heap.size _ K2 R2 hz (HC.out.below HB.out (Nat.le_refl _)) (HP.out.below HB.out (Nat.le_refl _)) HF.out HK2.out).mono ?_; rintro e wk9 ⟨A7, c7, rfl, hf7, hb⟩
  clear hz
  have HBx := Lib.hid (HB.out.trans (hb.mono HB.out.size))
  have HNx := Lib.hid (HN.out.go hb)
  have HXx := Lib.hid (HX.out.go hb)
  have HYx := Lib.hid (HY.out.go hb)
  have HFRx := Lib.hid (HFR.out.at' hb)
  have HFSx := Lib.hid (HFS.out.at' hb)
  clear hb hn_0 hn_1 hn_2 hn_3 hn_4 hx_0 hx_1 hx_2 hx_3 hx_4 hy_0 hy_1 hy_2 hy_3 hy_4 HB HN HX HY HFR HFS 
  have HB := HBx; have HN := HNx; have HX := HXx; have HY := HYx; have HFR := HFRx; have HFS := HFSx
  clear HBx HNx HXx HYx HFRx HFSx
  have hz := HB.out.size
  obtain ⟨hn_0, hn_1, hn_2, hn_3, hn_4⟩ := HN.out.two
  obtain ⟨hx_0, hx_1, hx_2, hx_3, hx_4⟩ := HX.out.two
  obtain ⟨hy_0, hy_1, hy_2, hy_3, hy_4⟩ := HY.out.two
  have HFT := Lib.hid hf7
  clear hf7
  go_wp2_with fail
  refine (rleast_yes A7 c7 _ R2 mc wk9.heap.size _ (Nat.le_refl _) HFT.out rfl H62.out HI2.out HMC.out).mono ?_; rintro e wk10 ⟨rfl, hb⟩
  clear hz
  have HBx := Lib.hid (HB.out.trans (hb.mono HB.out.size))
  have HNx := Lib.hid (HN.out.go hb)
  have HXx := Lib.hid (HX.out.go hb)
  have HYx := Lib.hid (HY.out.go hb)
  have HFRx := Lib.hid (HFR.out.at' hb)
  have HFSx := Lib.hid (HFS.out.at' hb)
  have HFTx := Lib.hid (HFT.out.at' hb)
  clear hb hn_0 hn_1 hn_2 hn_3 hn_4 hx_0 hx_1 hx_2 hx_3 hx_4 hy_0 hy_1 hy_2 hy_3 hy_4 HB HN HX HY HFR HFS HFT 
  have HB := HBx; have HN := HNx; have HX := HXx; have HY := HYx; have HFR := HFRx; have HFS := HFSx; have HFT := HFTx
  clear HBx HNx HXx HYx HFRx HFSx HFTx
  have hz := HB.out.size
  obtain ⟨hn_0, hn_1, hn_2, hn_3, hn_4⟩ := HN.out.two
  obtain ⟨hx_0, hx_1, hx_2, hx_3, hx_4⟩ := HX.out.two
  obtain ⟨hy_0, hy_1, hy_2, hy_3, hy_4⟩ := HY.out.two
  obtain ⟨wk11, hwk⟩ : ∃ x, x = wk10.alloc (.cells #[.int .i64 mc.num, .int .i64 mc.den] 28) := ⟨_, rfl⟩
  have hb : Below wk10.heap.size wk10 wk11 := by rw [hwk]; exact (Below.refl _ _).alloc (Nat.le_refl _) _
  have HZ : Hid (Blk wk11 wk10.heap.size 28 #[.int .i64 mc.num, .int .i64 mc.den]) := Lib.hid (by rw [hwk]; exact Blk.new _ _ _)
  go_upto_region 19 with (fail)
  rw [← hwk]
  clear hwk hz
  obtain ⟨gHZ, hgk⟩ : ∃ x, x = wk10.heap.size := ⟨_, rfl⟩
  rw [← hgk] at HZ ⊢
  clear hgk
  have HBx := Lib.hid (HB.out.trans (hb.mono HB.out.size))
  have HNx := Lib.hid (HN.out.go hb)
  have HXx := Lib.hid (HX.out.go hb)
  have HYx := Lib.hid (HY.out.go hb)
  have HFRx := Lib.hid (HFR.out.at' hb)
  have HFSx := Lib.hid (HFS.out.at' hb)
  have HFTx := Lib.hid (HFT.out.at' hb)
  clear hb hn_0 hn_1 hn_2 hn_3 hn_4 hx_0 hx_1 hx_2 hx_3 hx_4 hy_0 hy_1 hy_2 hy_3 hy_4 HB HN HX HY HFR HFS HFT 
  have HB := HBx; have HN := HNx; have HX := HXx; have HY := HYx; have HFR := HFRx; have HFS := HFSx; have HFT := HFTx
  clear HBx HNx HXx HYx HFRx HFSx HFTx
  have hz := HB.out.size
  obtain ⟨hn_0, hn_1, hn_2, hn_3, hn_4⟩ := HN.out.two
  obtain ⟨hx_0, hx_1, hx_2, hx_3, hx_4⟩ := HX.out.two
  obtain ⟨hy_0, hy_1, hy_2, hy_3, hy_4⟩ := HY.out.two
  obtain ⟨hz_0, hz_1, hz_2, hz_3, hz_4⟩ := HZ.out.two
  go_wp2_with fail
  refine (fcompare_q mc ma k2 _ HMCI.out HMAI.out HKK2.out).mono ?_; rintro e wk12 ⟨rfl, hb⟩
  clear hz
  have HBx := Lib.hid (HB.out.trans (hb.mono HB.out.size))
  have HNx := Lib.hid (HN.out.go hb)
  have HXx := Lib.hid (HX.out.go hb)
  have HYx := Lib.hid (HY.out.go hb)
  have HZx := Lib.hid (HZ.out.go hb)
  have HFRx := Lib.hid (HFR.out.at' hb)
  have HFSx := Lib.hid (HFS.out.at' hb)
  have HFTx := Lib.hid (HFT.out.at' hb)
  clear hb hn_0 hn_1 hn_2 hn_3 hn_4 hx_0 hx_1 hx_2 hx_3 hx_4 hy_0 hy_1 hy_2 hy_3 hy_4 hz_0 hz_1 hz_2 hz_3 hz_4 HB HN HX HY HZ HFR HFS HFT 
  have HB := HBx; have HN := HNx; have HX := HXx; have HY := HYx; have HZ := HZx; have HFR := HFRx; have HFS := HFSx; have HFT := HFTx
  clear HBx HNx HXx HYx HZx HFRx HFSx HFTx
  have hz := HB.out.size
  obtain ⟨hn_0, hn_1, hn_2, hn_3, hn_4⟩ := HN.out.two
  obtain ⟨hx_0, hx_1, hx_2, hx_3, hx_4⟩ := HX.out.two
  obtain ⟨hy_0, hy_1, hy_2, hy_3, hy_4⟩ := HY.out.two
  obtain ⟨hz_0, hz_1, hz_2, hz_3, hz_4⟩ := HZ.out.two
  go_wp2_with fail
  refine (wider_ok' C cc caps P cp paths link by_ w.heap.size _ K3 R3 hz (HC.out.below HB.out (Nat.le_refl _)) (HP.out.below HB.out (Nat.le_refl _)) HD.out HK3.out).mono ?_; rintro e wk13 ⟨A8, c8, rfl, hf8, hb⟩
  clear hz
  have HBx := Lib.hid (HB.out.trans (hb.mono HB.out.size))
  have HNx := Lib.hid (HN.out.go hb)
  have HXx := Lib.hid (HX.out.go hb)
  have HYx := Lib.hid (HY.out.go hb)
  have HZx := Lib.hid (HZ.out.go hb)
  have HFRx := Lib.hid (HFR.out.at' hb)
  have HFSx := Lib.hid (HFS.out.at' hb)
  have HFTx := Lib.hid (HFT.out.at' hb)
  clear hb hn_0 hn_1 hn_2 hn_3 hn_4 hx_0 hx_1 hx_2 hx_3 hx_4 hy_0 hy_1 hy_2 hy_3 hy_4 hz_0 hz_1 hz_2 hz_3 hz_4 HB HN HX HY HZ HFR HFS HFT 
  have HB := HBx; have HN := HNx; have HX := HXx; have HY := HYx; have HZ := HZx; have HFR := HFRx; have HFS := HFSx; have HFT := HFTx
  clear HBx HNx HXx HYx HZx HFRx HFSx HFTx
  have hz := HB.out.size
  obtain ⟨hn_0, hn_1, hn_2, hn_3, hn_4⟩ := HN.out.two
  obtain ⟨hx_0, hx_1, hx_2, hx_3, hx_4⟩ := HX.out.two
  obtain ⟨hy_0, hy_1, hy_2, hy_3, hy_4⟩ := HY.out.two
  obtain ⟨hz_0, hz_1, hz_2, hz_3, hz_4⟩ := HZ.out.two
  have HFU := Lib.hid hf8
  clear hf8
  go_wp2_with fail
  refine (rcmp_yes A8 A5 c8 c5 _ _ R3 R o wk13.heap.size _ (Nat.le_refl _) HFU.out HFR.out rfl rfl HL3.out H63.out HI3.out HRI.out HO.out).mono ?_; rintro e wk14 ⟨rfl, hb⟩
  clear hz
  have HBx := Lib.hid (HB.out.trans (hb.mono HB.out.size))
  have HNx := Lib.hid (HN.out.go hb)
  have HXx := Lib.hid (HX.out.go hb)
  have HYx := Lib.hid (HY.out.go hb)
  have HZx := Lib.hid (HZ.out.go hb)
  have HFRx := Lib.hid (HFR.out.at' hb)
  have HFSx := Lib.hid (HFS.out.at' hb)
  have HFTx := Lib.hid (HFT.out.at' hb)
  have HFUx := Lib.hid (HFU.out.at' hb)
  clear hb hn_0 hn_1 hn_2 hn_3 hn_4 hx_0 hx_1 hx_2 hx_3 hx_4 hy_0 hy_1 hy_2 hy_3 hy_4 hz_0 hz_1 hz_2 hz_3 hz_4 HB HN HX HY HZ HFR HFS HFT HFU 
  have HB := HBx; have HN := HNx; have HX := HXx; have HY := HYx; have HZ := HZx; have HFR := HFRx; have HFS := HFSx; have HFT := HFTx; have HFU := HFUx
  clear HBx HNx HXx HYx HZx HFRx HFSx HFTx HFUx
  have hz := HB.out.size
  obtain ⟨hn_0, hn_1, hn_2, hn_3, hn_4⟩ := HN.out.two
  obtain ⟨hx_0, hx_1, hx_2, hx_3, hx_4⟩ := HX.out.two
  obtain ⟨hy_0, hy_1, hy_2, hy_3, hy_4⟩ := HY.out.two
  obtain ⟨hz_0, hz_1, hz_2, hz_3, hz_4⟩ := HZ.out.two
  go_wp2
  go_ret
  exact ⟨rfl, HB.out⟩
set_option maxHeartbeats 16000000 in
set_option maxRecDepth 100000 in
theorem growLess_110 (C : Option Addr) (cc : Nat) (caps : List Int) (P : Option Addr) (cp : Nat) (paths : List (List Int)) (A : Option Addr) (c : Nat) (path : List Int) (flow link by_ : Int) (w : World) (hc : Ints w w.heap.size C cc caps) (hp : Rows2 w w.heap.size P cp paths) (hi : Ints w w.heap.size A c path) (he : netErr caps paths = 0) (K : Nat) (R : List Rat) (hK : FillEnds caps paths K R) (K1 : Nat) (R1 : List Rat) (hm : addErr caps paths path = 0) (hK1 : FillEnds caps (paths ++ [path]) K1 R1) (K2 : Nat) (R2 : List Rat) (hf : dropErr caps paths flow = 0) (hK2 : FillEnds caps (paths.eraseIdx flow.toNat) K2 R2) (e3 : Int) (hd : widerErr caps paths link by_ = e3) (h3 : e3 ≠ 0) :
    Calls Try.prog 9 #[.agg #[.slice C caps.length cc, .slice P paths.length cp], .slice A path.length c, .int .i64 flow, .int .i64 link, .int .i64 by_] w fun e w' => e = .returned (.bool true) ∧ Below w.heap.size w w' := by
  have ok := netOk_of he
  have hRl := hK.len ok
  have hRi : ∀ q ∈ R, QIn q := fun q h => (hK.rates ok q h).1
  have h6 := ok.F1; have hF0 := ok.F0
  obtain ⟨ma, hma⟩ := srt_head (Q := R) (by omega)
  have HE := Lib.hid he; have HK := Lib.hid hK; have HRI := Lib.hid hRi; have HMA := Lib.hid hma; have HMAI := Lib.hid (hRi ma (QS.head_le hma).1)
  have HR6 : Hid (R.length ≤ 6) := Lib.hid (by omega)
  have hr6 : R.length ≤ 6 := by omega
  have hr0 : 0 < R.length := by omega
  have ok1 := netOk_of (addErr_ok hm).2.2.2
  have hl1 := hK1.len ok1
  rw [List.length_append, List.length_singleton] at hl1
  have hi1 : ∀ q ∈ R1, QIn q := fun q h => (hK1.rates ok1 q h).1
  have h61 := ok1.F1
  rw [List.length_append, List.length_singleton] at h61
  obtain ⟨mb, hmb⟩ := srt_head (Q := R1) (by omega)
  obtain ⟨k1, hk1⟩ : ∃ k, ordQ mb ma = k := ⟨_, rfl⟩
  have hk1' : decide (0 < k1) = false := decide_eq_false (by rw [← hk1]; have := ordq_le (more_least hm hK1 hK hmb hma); omega)
  have hn1 : ((R1.length : Int) != (R.length : Int) + 1) = false := by rw [bne_eq_false_iff_eq]; omega
  have HM := Lib.hid hm; have HK1 := Lib.hid hK1; have HI1 := Lib.hid hi1; have HMB := Lib.hid hmb; have HMBI := Lib.hid (hi1 mb (QS.head_le hmb).1); have HKK1 := Lib.hid hk1; have H61 : Hid (R1.length ≤ 6) := Lib.hid (by omega)
  clear hm hK1 hl1 hi1 hmb hk1 ok1 h61
  have ok2 := netOk_of (dropErr_ok hf)
  have hl2 := hK2.len ok2
  rw [List.length_eraseIdx, if_pos (drop_in hf)] at hl2
  have hi2 : ∀ q ∈ R2, QIn q := fun q h => (hK2.rates ok2 q h).1
  have h02 := ok2.F0
  rw [List.length_eraseIdx, if_pos (drop_in hf)] at h02
  obtain ⟨mc, hmc⟩ := srt_head (Q := R2) (by omega)
  obtain ⟨k2, hk2⟩ : ∃ k, ordQ mc ma = k := ⟨_, rfl⟩
  have hk2' : decide (k2 < 0) = false := decide_eq_false (by rw [← hk2]; have := ordq_ge (least_erase ok ok2 (drop_in hf) hK hK2 hma hmc); omega)
  have hn2 : ((R2.length : Int) != (R.length : Int) - 1) = false := by rw [bne_eq_false_iff_eq]; omega
  have HF := Lib.hid hf; have HK2 := Lib.hid hK2; have HI2 := Lib.hid hi2; have HMC := Lib.hid hmc; have HMCI := Lib.hid (hi2 mc (QS.head_le hmc).1); have HKK2 := Lib.hid hk2; have H62 : Hid (R2.length ≤ 6) := Lib.hid (by omega)
  clear hf hK2 hl2 hi2 hmc hk2 ok2 h02
  have HD := Lib.hid hd; have H3 := Lib.hid h3
  clear hd h3
  clear he hK hRi hma hRl h6 hF0 ok
  have HC := Lib.hid hc; have HP := Lib.hid hp; have HI := Lib.hid hi
  have him := hi.cap; have hil := hi.le
  unfold maxLen at him
  clear hc hp hi
  have HN0 := Lib.hid (Blk.new w 25 #[.slice C caps.length cc, .slice P paths.length cp])
  have HB0 := Lib.hid ((Below.refl w.heap.size w).alloc (Nat.le_refl _) (.cells #[.slice C caps.length cc, .slice P paths.length cp] 25))
  obtain ⟨wk0, hwk⟩ : ∃ x, x = w.alloc (.cells #[.slice C caps.length cc, .slice P paths.length cp] 25) := ⟨_, rfl⟩
  rw [← hwk] at HN0 HB0
  have HB := HB0; have HN := HN0
  clear HB0 HN0
  have hz := HB.out.size
  go_enter Try.func9, Try.ntmps9
  go_upto_region 1 with (fail)
  rw [← hwk]
  clear hwk
  obtain ⟨hn_0, hn_1, hn_2, hn_3, hn_4⟩ := HN.out.two
  go_wp2_with fail
  refine (growLess_fact wk0).mono ?_; rintro e wk1 ⟨A0, c0, rfl, ⟨b0, off0, rfl, hb0, d0, d1⟩, hb⟩
  clear hz
  have HBx := Lib.hid (HB.out.trans (hb.mono HB.out.size))
  have HNx := Lib.hid (HN.out.go hb)
  clear hb hn_0 hn_1 hn_2 hn_3 hn_4 HB HN 
  have HB := HBx; have HN := HNx
  clear HBx HNx
  have hz := HB.out.size
  obtain ⟨hn_0, hn_1, hn_2, hn_3, hn_4⟩ := HN.out.two
  go_wp2_with fail
  refine (frates_yes C cc caps P cp _ paths w.heap.size _ K R hz (HC.out.below HB.out (Nat.le_refl _)) (HP.out.below HB.out (Nat.le_refl _)) rfl HE.out HK.out).mono ?_; rintro e wk2 ⟨A5, c5, rfl, hf5, hb⟩
  clear d0 d1 hb0
  clear hz
  have HBx := Lib.hid (HB.out.trans (hb.mono HB.out.size))
  have HNx := Lib.hid (HN.out.go hb)
  clear hb hn_0 hn_1 hn_2 hn_3 hn_4 HB HN 
  have HB := HBx; have HN := HNx
  clear HBx HNx
  have hz := HB.out.size
  obtain ⟨hn_0, hn_1, hn_2, hn_3, hn_4⟩ := HN.out.two
  have HFR := Lib.hid hf5
  clear hf5
  go_wp2_with fail
  refine (rleast_yes A5 c5 _ R ma wk2.heap.size _ (Nat.le_refl _) HFR.out rfl HR6.out HRI.out HMA.out).mono ?_; rintro e wk3 ⟨rfl, hb⟩
  clear hz
  have HBx := Lib.hid (HB.out.trans (hb.mono HB.out.size))
  have HNx := Lib.hid (HN.out.go hb)
  have HFRx := Lib.hid (HFR.out.at' hb)
  clear hb hn_0 hn_1 hn_2 hn_3 hn_4 HB HN HFR 
  have HB := HBx; have HN := HNx; have HFR := HFRx
  clear HBx HNx HFRx
  have hz := HB.out.size
  obtain ⟨hn_0, hn_1, hn_2, hn_3, hn_4⟩ := HN.out.two
  obtain ⟨wk4, hwk⟩ : ∃ x, x = wk3.alloc (.cells #[.int .i64 ma.num, .int .i64 ma.den] 28) := ⟨_, rfl⟩
  have hb : Below wk3.heap.size wk3 wk4 := by rw [hwk]; exact (Below.refl _ _).alloc (Nat.le_refl _) _
  have HX : Hid (Blk wk4 wk3.heap.size 28 #[.int .i64 ma.num, .int .i64 ma.den]) := Lib.hid (by rw [hwk]; exact Blk.new _ _ _)
  go_upto_region 8 with (fail)
  rw [← hwk]
  clear hwk hz
  obtain ⟨gHX, hgk⟩ : ∃ x, x = wk3.heap.size := ⟨_, rfl⟩
  rw [← hgk] at HX ⊢
  clear hgk
  have HBx := Lib.hid (HB.out.trans (hb.mono HB.out.size))
  have HNx := Lib.hid (HN.out.go hb)
  have HFRx := Lib.hid (HFR.out.at' hb)
  clear hb hn_0 hn_1 hn_2 hn_3 hn_4 HB HN HFR 
  have HB := HBx; have HN := HNx; have HFR := HFRx
  clear HBx HNx HFRx
  have hz := HB.out.size
  obtain ⟨hn_0, hn_1, hn_2, hn_3, hn_4⟩ := HN.out.two
  obtain ⟨hx_0, hx_1, hx_2, hx_3, hx_4⟩ := HX.out.two
  go_wp2_with fail
  refine (more_yes C cc caps P cp _ paths A c path w.heap.size _ K1 R1 hz (HC.out.below HB.out (Nat.le_refl _)) (HP.out.below HB.out (Nat.le_refl _)) (HI.out.below HB.out (Nat.le_refl _)) rfl HM.out HK1.out).mono ?_; rintro e wk5 ⟨A6, c6, rfl, hf6, hb⟩
  clear hz
  have HBx := Lib.hid (HB.out.trans (hb.mono HB.out.size))
  have HNx := Lib.hid (HN.out.go hb)
  have HXx := Lib.hid (HX.out.go hb)
  have HFRx := Lib.hid (HFR.out.at' hb)
  clear hb hn_0 hn_1 hn_2 hn_3 hn_4 hx_0 hx_1 hx_2 hx_3 hx_4 HB HN HX HFR 
  have HB := HBx; have HN := HNx; have HX := HXx; have HFR := HFRx
  clear HBx HNx HXx HFRx
  have hz := HB.out.size
  obtain ⟨hn_0, hn_1, hn_2, hn_3, hn_4⟩ := HN.out.two
  obtain ⟨hx_0, hx_1, hx_2, hx_3, hx_4⟩ := HX.out.two
  have HFS := Lib.hid hf6
  clear hf6
  go_wp2_with fail
  refine (rleast_yes A6 c6 _ R1 mb wk5.heap.size _ (Nat.le_refl _) HFS.out rfl H61.out HI1.out HMB.out).mono ?_; rintro e wk6 ⟨rfl, hb⟩
  clear hz
  have HBx := Lib.hid (HB.out.trans (hb.mono HB.out.size))
  have HNx := Lib.hid (HN.out.go hb)
  have HXx := Lib.hid (HX.out.go hb)
  have HFRx := Lib.hid (HFR.out.at' hb)
  have HFSx := Lib.hid (HFS.out.at' hb)
  clear hb hn_0 hn_1 hn_2 hn_3 hn_4 hx_0 hx_1 hx_2 hx_3 hx_4 HB HN HX HFR HFS 
  have HB := HBx; have HN := HNx; have HX := HXx; have HFR := HFRx; have HFS := HFSx
  clear HBx HNx HXx HFRx HFSx
  have hz := HB.out.size
  obtain ⟨hn_0, hn_1, hn_2, hn_3, hn_4⟩ := HN.out.two
  obtain ⟨hx_0, hx_1, hx_2, hx_3, hx_4⟩ := HX.out.two
  obtain ⟨wk7, hwk⟩ : ∃ x, x = wk6.alloc (.cells #[.int .i64 mb.num, .int .i64 mb.den] 28) := ⟨_, rfl⟩
  have hb : Below wk6.heap.size wk6 wk7 := by rw [hwk]; exact (Below.refl _ _).alloc (Nat.le_refl _) _
  have HY : Hid (Blk wk7 wk6.heap.size 28 #[.int .i64 mb.num, .int .i64 mb.den]) := Lib.hid (by rw [hwk]; exact Blk.new _ _ _)
  go_upto_region 13 with (fail)
  rw [← hwk]
  clear hwk hz
  obtain ⟨gHY, hgk⟩ : ∃ x, x = wk6.heap.size := ⟨_, rfl⟩
  rw [← hgk] at HY ⊢
  clear hgk
  have HBx := Lib.hid (HB.out.trans (hb.mono HB.out.size))
  have HNx := Lib.hid (HN.out.go hb)
  have HXx := Lib.hid (HX.out.go hb)
  have HFRx := Lib.hid (HFR.out.at' hb)
  have HFSx := Lib.hid (HFS.out.at' hb)
  clear hb hn_0 hn_1 hn_2 hn_3 hn_4 hx_0 hx_1 hx_2 hx_3 hx_4 HB HN HX HFR HFS 
  have HB := HBx; have HN := HNx; have HX := HXx; have HFR := HFRx; have HFS := HFSx
  clear HBx HNx HXx HFRx HFSx
  have hz := HB.out.size
  obtain ⟨hn_0, hn_1, hn_2, hn_3, hn_4⟩ := HN.out.two
  obtain ⟨hx_0, hx_1, hx_2, hx_3, hx_4⟩ := HX.out.two
  obtain ⟨hy_0, hy_1, hy_2, hy_3, hy_4⟩ := HY.out.two
  go_wp2_with fail
  refine (fcompare_q mb ma k1 _ HMBI.out HMAI.out HKK1.out).mono ?_; rintro e wk8 ⟨rfl, hb⟩
  clear hz
  have HBx := Lib.hid (HB.out.trans (hb.mono HB.out.size))
  have HNx := Lib.hid (HN.out.go hb)
  have HXx := Lib.hid (HX.out.go hb)
  have HYx := Lib.hid (HY.out.go hb)
  have HFRx := Lib.hid (HFR.out.at' hb)
  have HFSx := Lib.hid (HFS.out.at' hb)
  clear hb hn_0 hn_1 hn_2 hn_3 hn_4 hx_0 hx_1 hx_2 hx_3 hx_4 hy_0 hy_1 hy_2 hy_3 hy_4 HB HN HX HY HFR HFS 
  have HB := HBx; have HN := HNx; have HX := HXx; have HY := HYx; have HFR := HFRx; have HFS := HFSx
  clear HBx HNx HXx HYx HFRx HFSx
  have hz := HB.out.size
  obtain ⟨hn_0, hn_1, hn_2, hn_3, hn_4⟩ := HN.out.two
  obtain ⟨hx_0, hx_1, hx_2, hx_3, hx_4⟩ := HX.out.two
  obtain ⟨hy_0, hy_1, hy_2, hy_3, hy_4⟩ := HY.out.two
  go_wp2_with fail
  refine (fewer_ok' C cc caps P cp paths flow w.heap.size _ K2 R2 hz (HC.out.below HB.out (Nat.le_refl _)) (HP.out.below HB.out (Nat.le_refl _)) HF.out HK2.out).mono ?_; rintro e wk9 ⟨A7, c7, rfl, hf7, hb⟩
  clear hz
  have HBx := Lib.hid (HB.out.trans (hb.mono HB.out.size))
  have HNx := Lib.hid (HN.out.go hb)
  have HXx := Lib.hid (HX.out.go hb)
  have HYx := Lib.hid (HY.out.go hb)
  have HFRx := Lib.hid (HFR.out.at' hb)
  have HFSx := Lib.hid (HFS.out.at' hb)
  clear hb hn_0 hn_1 hn_2 hn_3 hn_4 hx_0 hx_1 hx_2 hx_3 hx_4 hy_0 hy_1 hy_2 hy_3 hy_4 HB HN HX HY HFR HFS 
  have HB := HBx; have HN := HNx; have HX := HXx; have HY := HYx; have HFR := HFRx; have HFS := HFSx
  clear HBx HNx HXx HYx HFRx HFSx
  have hz := HB.out.size
  obtain ⟨hn_0, hn_1, hn_2, hn_3, hn_4⟩ := HN.out.two
  obtain ⟨hx_0, hx_1, hx_2, hx_3, hx_4⟩ := HX.out.two
  obtain ⟨hy_0, hy_1, hy_2, hy_3, hy_4⟩ := HY.out.two
  have HFT := Lib.hid hf7
  clear hf7
  go_wp2_with fail
  refine (rleast_yes A7 c7 _ R2 mc wk9.heap.size _ (Nat.le_refl _) HFT.out rfl H62.out HI2.out HMC.out).mono ?_; rintro e wk10 ⟨rfl, hb⟩
  clear hz
  have HBx := Lib.hid (HB.out.trans (hb.mono HB.out.size))
  have HNx := Lib.hid (HN.out.go hb)
  have HXx := Lib.hid (HX.out.go hb)
  have HYx := Lib.hid (HY.out.go hb)
  have HFRx := Lib.hid (HFR.out.at' hb)
  have HFSx := Lib.hid (HFS.out.at' hb)
  have HFTx := Lib.hid (HFT.out.at' hb)
  clear hb hn_0 hn_1 hn_2 hn_3 hn_4 hx_0 hx_1 hx_2 hx_3 hx_4 hy_0 hy_1 hy_2 hy_3 hy_4 HB HN HX HY HFR HFS HFT 
  have HB := HBx; have HN := HNx; have HX := HXx; have HY := HYx; have HFR := HFRx; have HFS := HFSx; have HFT := HFTx
  clear HBx HNx HXx HYx HFRx HFSx HFTx
  have hz := HB.out.size
  obtain ⟨hn_0, hn_1, hn_2, hn_3, hn_4⟩ := HN.out.two
  obtain ⟨hx_0, hx_1, hx_2, hx_3, hx_4⟩ := HX.out.two
  obtain ⟨hy_0, hy_1, hy_2, hy_3, hy_4⟩ := HY.out.two
  obtain ⟨wk11, hwk⟩ : ∃ x, x = wk10.alloc (.cells #[.int .i64 mc.num, .int .i64 mc.den] 28) := ⟨_, rfl⟩
  have hb : Below wk10.heap.size wk10 wk11 := by rw [hwk]; exact (Below.refl _ _).alloc (Nat.le_refl _) _
  have HZ : Hid (Blk wk11 wk10.heap.size 28 #[.int .i64 mc.num, .int .i64 mc.den]) := Lib.hid (by rw [hwk]; exact Blk.new _ _ _)
  go_upto_region 19 with (fail)
  rw [← hwk]
  clear hwk hz
  obtain ⟨gHZ, hgk⟩ : ∃ x, x = wk10.heap.size := ⟨_, rfl⟩
  rw [← hgk] at HZ ⊢
  clear hgk
  have HBx := Lib.hid (HB.out.trans (hb.mono HB.out.size))
  have HNx := Lib.hid (HN.out.go hb)
  have HXx := Lib.hid (HX.out.go hb)
  have HYx := Lib.hid (HY.out.go hb)
  have HFRx := Lib.hid (HFR.out.at' hb)
  have HFSx := Lib.hid (HFS.out.at' hb)
  have HFTx := Lib.hid (HFT.out.at' hb)
  clear hb hn_0 hn_1 hn_2 hn_3 hn_4 hx_0 hx_1 hx_2 hx_3 hx_4 hy_0 hy_1 hy_2 hy_3 hy_4 HB HN HX HY HFR HFS HFT 
  have HB := HBx; have HN := HNx; have HX := HXx; have HY := HYx; have HFR := HFRx; have HFS := HFSx; have HFT := HFTx
  clear HBx HNx HXx HYx HFRx HFSx HFTx
  have hz := HB.out.size
  obtain ⟨hn_0, hn_1, hn_2, hn_3, hn_4⟩ := HN.out.two
  obtain ⟨hx_0, hx_1, hx_2, hx_3, hx_4⟩ := HX.out.two
  obtain ⟨hy_0, hy_1, hy_2, hy_3, hy_4⟩ := HY.out.two
  obtain ⟨hz_0, hz_1, hz_2, hz_3, hz_4⟩ := HZ.out.two
  go_wp2_with fail
  refine (fcompare_q mc ma k2 _ HMCI.out HMAI.out HKK2.out).mono ?_; rintro e wk12 ⟨rfl, hb⟩
  clear hz
  have HBx := Lib.hid (HB.out.trans (hb.mono HB.out.size))
  have HNx := Lib.hid (HN.out.go hb)
  have HXx := Lib.hid (HX.out.go hb)
  have HYx := Lib.hid (HY.out.go hb)
  have HZx := Lib.hid (HZ.out.go hb)
  have HFRx := Lib.hid (HFR.out.at' hb)
  have HFSx := Lib.hid (HFS.out.at' hb)
  have HFTx := Lib.hid (HFT.out.at' hb)
  clear hb hn_0 hn_1 hn_2 hn_3 hn_4 hx_0 hx_1 hx_2 hx_3 hx_4 hy_0 hy_1 hy_2 hy_3 hy_4 hz_0 hz_1 hz_2 hz_3 hz_4 HB HN HX HY HZ HFR HFS HFT 
  have HB := HBx; have HN := HNx; have HX := HXx; have HY := HYx; have HZ := HZx; have HFR := HFRx; have HFS := HFSx; have HFT := HFTx
  clear HBx HNx HXx HYx HZx HFRx HFSx HFTx
  have hz := HB.out.size
  obtain ⟨hn_0, hn_1, hn_2, hn_3, hn_4⟩ := HN.out.two
  obtain ⟨hx_0, hx_1, hx_2, hx_3, hx_4⟩ := HX.out.two
  obtain ⟨hy_0, hy_1, hy_2, hy_3, hy_4⟩ := HY.out.two
  obtain ⟨hz_0, hz_1, hz_2, hz_3, hz_4⟩ := HZ.out.two
  go_wp2_with fail
  refine (wider_er' C cc caps P cp paths link by_ w.heap.size _ e3 hz (HC.out.below HB.out (Nat.le_refl _)) (HP.out.below HB.out (Nat.le_refl _)) HD.out H3.out).mono ?_; rintro e wk13 ⟨A8, c8, rfl, hb⟩
  clear hz
  have HBx := Lib.hid (HB.out.trans (hb.mono HB.out.size))
  have HNx := Lib.hid (HN.out.go hb)
  have HXx := Lib.hid (HX.out.go hb)
  have HYx := Lib.hid (HY.out.go hb)
  have HZx := Lib.hid (HZ.out.go hb)
  have HFRx := Lib.hid (HFR.out.at' hb)
  have HFSx := Lib.hid (HFS.out.at' hb)
  have HFTx := Lib.hid (HFT.out.at' hb)
  clear hb hn_0 hn_1 hn_2 hn_3 hn_4 hx_0 hx_1 hx_2 hx_3 hx_4 hy_0 hy_1 hy_2 hy_3 hy_4 hz_0 hz_1 hz_2 hz_3 hz_4 HB HN HX HY HZ HFR HFS HFT 
  have HB := HBx; have HN := HNx; have HX := HXx; have HY := HYx; have HZ := HZx; have HFR := HFRx; have HFS := HFSx; have HFT := HFTx
  clear HBx HNx HXx HYx HZx HFRx HFSx HFTx
  have hz := HB.out.size
  obtain ⟨hn_0, hn_1, hn_2, hn_3, hn_4⟩ := HN.out.two
  obtain ⟨hx_0, hx_1, hx_2, hx_3, hx_4⟩ := HX.out.two
  obtain ⟨hy_0, hy_1, hy_2, hy_3, hy_4⟩ := HY.out.two
  obtain ⟨hz_0, hz_1, hz_2, hz_3, hz_4⟩ := HZ.out.two
  go_wp2
  go_ret
  exact ⟨rfl, HB.out⟩
set_option maxHeartbeats 16000000 in
set_option maxRecDepth 100000 in
theorem growLess_101 (C : Option Addr) (cc : Nat) (caps : List Int) (P : Option Addr) (cp : Nat) (paths : List (List Int)) (A : Option Addr) (c : Nat) (path : List Int) (flow link by_ : Int) (w : World) (hc : Ints w w.heap.size C cc caps) (hp : Rows2 w w.heap.size P cp paths) (hi : Ints w w.heap.size A c path) (he : netErr caps paths = 0) (K : Nat) (R : List Rat) (hK : FillEnds caps paths K R) (K1 : Nat) (R1 : List Rat) (hm : addErr caps paths path = 0) (hK1 : FillEnds caps (paths ++ [path]) K1 R1) (e2 : Int) (hf : dropErr caps paths flow = e2) (h2 : e2 ≠ 0) (K3 : Nat) (R3 : List Rat) (hd : widerErr caps paths link by_ = 0) (hK3 : FillEnds (caps.set link.toNat (caps.getD link.toNat 0 + by_)) paths K3 R3) :
    Calls Try.prog 9 #[.agg #[.slice C caps.length cc, .slice P paths.length cp], .slice A path.length c, .int .i64 flow, .int .i64 link, .int .i64 by_] w fun e w' => e = .returned (.bool true) ∧ Below w.heap.size w w' := by
  have ok := netOk_of he
  have hRl := hK.len ok
  have hRi : ∀ q ∈ R, QIn q := fun q h => (hK.rates ok q h).1
  have h6 := ok.F1; have hF0 := ok.F0
  obtain ⟨ma, hma⟩ := srt_head (Q := R) (by omega)
  have HE := Lib.hid he; have HK := Lib.hid hK; have HRI := Lib.hid hRi; have HMA := Lib.hid hma; have HMAI := Lib.hid (hRi ma (QS.head_le hma).1)
  have HR6 : Hid (R.length ≤ 6) := Lib.hid (by omega)
  have hr6 : R.length ≤ 6 := by omega
  have hr0 : 0 < R.length := by omega
  have ok1 := netOk_of (addErr_ok hm).2.2.2
  have hl1 := hK1.len ok1
  rw [List.length_append, List.length_singleton] at hl1
  have hi1 : ∀ q ∈ R1, QIn q := fun q h => (hK1.rates ok1 q h).1
  have h61 := ok1.F1
  rw [List.length_append, List.length_singleton] at h61
  obtain ⟨mb, hmb⟩ := srt_head (Q := R1) (by omega)
  obtain ⟨k1, hk1⟩ : ∃ k, ordQ mb ma = k := ⟨_, rfl⟩
  have hk1' : decide (0 < k1) = false := decide_eq_false (by rw [← hk1]; have := ordq_le (more_least hm hK1 hK hmb hma); omega)
  have hn1 : ((R1.length : Int) != (R.length : Int) + 1) = false := by rw [bne_eq_false_iff_eq]; omega
  have HM := Lib.hid hm; have HK1 := Lib.hid hK1; have HI1 := Lib.hid hi1; have HMB := Lib.hid hmb; have HMBI := Lib.hid (hi1 mb (QS.head_le hmb).1); have HKK1 := Lib.hid hk1; have H61 : Hid (R1.length ≤ 6) := Lib.hid (by omega)
  clear hm hK1 hl1 hi1 hmb hk1 ok1 h61
  have HF := Lib.hid hf; have H2 := Lib.hid h2
  clear hf h2
  have ok3 := netOk_of (widerErr_ok hd)
  have hl3 := hK3.len ok3
  have hi3 : ∀ q ∈ R3, QIn q := fun q h => (hK3.rates ok3 q h).1
  obtain ⟨o, ho⟩ : ∃ o, MM.lex (MM.srt R3) (MM.srt R) = o := ⟨_, rfl⟩
  have ho' : decide (0 ≤ o) = true := decide_eq_true (by rw [← ho]; exact wider_lex ok ok3 (by rw [List.length_set]) (wider_le hd) hK hK3)
  have HD := Lib.hid hd; have HK3 := Lib.hid hK3; have HI3 := Lib.hid hi3; have HO := Lib.hid ho; have H63 : Hid (R3.length ≤ 6) := Lib.hid (by omega); have HL3 : Hid (R3.length = R.length) := Lib.hid (by omega)
  clear hd hK3 hl3 hi3 ho ok3
  clear he hK hRi hma hRl h6 hF0 ok
  have HC := Lib.hid hc; have HP := Lib.hid hp; have HI := Lib.hid hi
  have him := hi.cap; have hil := hi.le
  unfold maxLen at him
  clear hc hp hi
  have HN0 := Lib.hid (Blk.new w 25 #[.slice C caps.length cc, .slice P paths.length cp])
  have HB0 := Lib.hid ((Below.refl w.heap.size w).alloc (Nat.le_refl _) (.cells #[.slice C caps.length cc, .slice P paths.length cp] 25))
  obtain ⟨wk0, hwk⟩ : ∃ x, x = w.alloc (.cells #[.slice C caps.length cc, .slice P paths.length cp] 25) := ⟨_, rfl⟩
  rw [← hwk] at HN0 HB0
  have HB := HB0; have HN := HN0
  clear HB0 HN0
  have hz := HB.out.size
  go_enter Try.func9, Try.ntmps9
  go_upto_region 1 with (fail)
  rw [← hwk]
  clear hwk
  obtain ⟨hn_0, hn_1, hn_2, hn_3, hn_4⟩ := HN.out.two
  go_wp2_with fail
  refine (growLess_fact wk0).mono ?_; rintro e wk1 ⟨A0, c0, rfl, ⟨b0, off0, rfl, hb0, d0, d1⟩, hb⟩
  clear hz
  have HBx := Lib.hid (HB.out.trans (hb.mono HB.out.size))
  have HNx := Lib.hid (HN.out.go hb)
  clear hb hn_0 hn_1 hn_2 hn_3 hn_4 HB HN 
  have HB := HBx; have HN := HNx
  clear HBx HNx
  have hz := HB.out.size
  obtain ⟨hn_0, hn_1, hn_2, hn_3, hn_4⟩ := HN.out.two
  go_wp2_with fail
  refine (frates_yes C cc caps P cp _ paths w.heap.size _ K R hz (HC.out.below HB.out (Nat.le_refl _)) (HP.out.below HB.out (Nat.le_refl _)) rfl HE.out HK.out).mono ?_; rintro e wk2 ⟨A5, c5, rfl, hf5, hb⟩
  clear d0 d1 hb0
  clear hz
  have HBx := Lib.hid (HB.out.trans (hb.mono HB.out.size))
  have HNx := Lib.hid (HN.out.go hb)
  clear hb hn_0 hn_1 hn_2 hn_3 hn_4 HB HN 
  have HB := HBx; have HN := HNx
  clear HBx HNx
  have hz := HB.out.size
  obtain ⟨hn_0, hn_1, hn_2, hn_3, hn_4⟩ := HN.out.two
  have HFR := Lib.hid hf5
  clear hf5
  go_wp2_with fail
  refine (rleast_yes A5 c5 _ R ma wk2.heap.size _ (Nat.le_refl _) HFR.out rfl HR6.out HRI.out HMA.out).mono ?_; rintro e wk3 ⟨rfl, hb⟩
  clear hz
  have HBx := Lib.hid (HB.out.trans (hb.mono HB.out.size))
  have HNx := Lib.hid (HN.out.go hb)
  have HFRx := Lib.hid (HFR.out.at' hb)
  clear hb hn_0 hn_1 hn_2 hn_3 hn_4 HB HN HFR 
  have HB := HBx; have HN := HNx; have HFR := HFRx
  clear HBx HNx HFRx
  have hz := HB.out.size
  obtain ⟨hn_0, hn_1, hn_2, hn_3, hn_4⟩ := HN.out.two
  obtain ⟨wk4, hwk⟩ : ∃ x, x = wk3.alloc (.cells #[.int .i64 ma.num, .int .i64 ma.den] 28) := ⟨_, rfl⟩
  have hb : Below wk3.heap.size wk3 wk4 := by rw [hwk]; exact (Below.refl _ _).alloc (Nat.le_refl _) _
  have HX : Hid (Blk wk4 wk3.heap.size 28 #[.int .i64 ma.num, .int .i64 ma.den]) := Lib.hid (by rw [hwk]; exact Blk.new _ _ _)
  go_upto_region 8 with (fail)
  rw [← hwk]
  clear hwk hz
  obtain ⟨gHX, hgk⟩ : ∃ x, x = wk3.heap.size := ⟨_, rfl⟩
  rw [← hgk] at HX ⊢
  clear hgk
  have HBx := Lib.hid (HB.out.trans (hb.mono HB.out.size))
  have HNx := Lib.hid (HN.out.go hb)
  have HFRx := Lib.hid (HFR.out.at' hb)
  clear hb hn_0 hn_1 hn_2 hn_3 hn_4 HB HN HFR 
  have HB := HBx; have HN := HNx; have HFR := HFRx
  clear HBx HNx HFRx
  have hz := HB.out.size
  obtain ⟨hn_0, hn_1, hn_2, hn_3, hn_4⟩ := HN.out.two
  obtain ⟨hx_0, hx_1, hx_2, hx_3, hx_4⟩ := HX.out.two
  go_wp2_with fail
  refine (more_yes C cc caps P cp _ paths A c path w.heap.size _ K1 R1 hz (HC.out.below HB.out (Nat.le_refl _)) (HP.out.below HB.out (Nat.le_refl _)) (HI.out.below HB.out (Nat.le_refl _)) rfl HM.out HK1.out).mono ?_; rintro e wk5 ⟨A6, c6, rfl, hf6, hb⟩
  clear hz
  have HBx := Lib.hid (HB.out.trans (hb.mono HB.out.size))
  have HNx := Lib.hid (HN.out.go hb)
  have HXx := Lib.hid (HX.out.go hb)
  have HFRx := Lib.hid (HFR.out.at' hb)
  clear hb hn_0 hn_1 hn_2 hn_3 hn_4 hx_0 hx_1 hx_2 hx_3 hx_4 HB HN HX HFR 
  have HB := HBx; have HN := HNx; have HX := HXx; have HFR := HFRx
  clear HBx HNx HXx HFRx
  have hz := HB.out.size
  obtain ⟨hn_0, hn_1, hn_2, hn_3, hn_4⟩ := HN.out.two
  obtain ⟨hx_0, hx_1, hx_2, hx_3, hx_4⟩ := HX.out.two
  have HFS := Lib.hid hf6
  clear hf6
  go_wp2_with fail
  refine (rleast_yes A6 c6 _ R1 mb wk5.heap.size _ (Nat.le_refl _) HFS.out rfl H61.out HI1.out HMB.out).mono ?_; rintro e wk6 ⟨rfl, hb⟩
  clear hz
  have HBx := Lib.hid (HB.out.trans (hb.mono HB.out.size))
  have HNx := Lib.hid (HN.out.go hb)
  have HXx := Lib.hid (HX.out.go hb)
  have HFRx := Lib.hid (HFR.out.at' hb)
  have HFSx := Lib.hid (HFS.out.at' hb)
  clear hb hn_0 hn_1 hn_2 hn_3 hn_4 hx_0 hx_1 hx_2 hx_3 hx_4 HB HN HX HFR HFS 
  have HB := HBx; have HN := HNx; have HX := HXx; have HFR := HFRx; have HFS := HFSx
  clear HBx HNx HXx HFRx HFSx
  have hz := HB.out.size
  obtain ⟨hn_0, hn_1, hn_2, hn_3, hn_4⟩ := HN.out.two
  obtain ⟨hx_0, hx_1, hx_2, hx_3, hx_4⟩ := HX.out.two
  obtain ⟨wk7, hwk⟩ : ∃ x, x = wk6.alloc (.cells #[.int .i64 mb.num, .int .i64 mb.den] 28) := ⟨_, rfl⟩
  have hb : Below wk6.heap.size wk6 wk7 := by rw [hwk]; exact (Below.refl _ _).alloc (Nat.le_refl _) _
  have HY : Hid (Blk wk7 wk6.heap.size 28 #[.int .i64 mb.num, .int .i64 mb.den]) := Lib.hid (by rw [hwk]; exact Blk.new _ _ _)
  go_upto_region 13 with (fail)
  rw [← hwk]
  clear hwk hz
  obtain ⟨gHY, hgk⟩ : ∃ x, x = wk6.heap.size := ⟨_, rfl⟩
  rw [← hgk] at HY ⊢
  clear hgk
  have HBx := Lib.hid (HB.out.trans (hb.mono HB.out.size))
  have HNx := Lib.hid (HN.out.go hb)
  have HXx := Lib.hid (HX.out.go hb)
  have HFRx := Lib.hid (HFR.out.at' hb)
  have HFSx := Lib.hid (HFS.out.at' hb)
  clear hb hn_0 hn_1 hn_2 hn_3 hn_4 hx_0 hx_1 hx_2 hx_3 hx_4 HB HN HX HFR HFS 
  have HB := HBx; have HN := HNx; have HX := HXx; have HFR := HFRx; have HFS := HFSx
  clear HBx HNx HXx HFRx HFSx
  have hz := HB.out.size
  obtain ⟨hn_0, hn_1, hn_2, hn_3, hn_4⟩ := HN.out.two
  obtain ⟨hx_0, hx_1, hx_2, hx_3, hx_4⟩ := HX.out.two
  obtain ⟨hy_0, hy_1, hy_2, hy_3, hy_4⟩ := HY.out.two
  go_wp2_with fail
  refine (fcompare_q mb ma k1 _ HMBI.out HMAI.out HKK1.out).mono ?_; rintro e wk8 ⟨rfl, hb⟩
  clear hz
  have HBx := Lib.hid (HB.out.trans (hb.mono HB.out.size))
  have HNx := Lib.hid (HN.out.go hb)
  have HXx := Lib.hid (HX.out.go hb)
  have HYx := Lib.hid (HY.out.go hb)
  have HFRx := Lib.hid (HFR.out.at' hb)
  have HFSx := Lib.hid (HFS.out.at' hb)
  clear hb hn_0 hn_1 hn_2 hn_3 hn_4 hx_0 hx_1 hx_2 hx_3 hx_4 hy_0 hy_1 hy_2 hy_3 hy_4 HB HN HX HY HFR HFS 
  have HB := HBx; have HN := HNx; have HX := HXx; have HY := HYx; have HFR := HFRx; have HFS := HFSx
  clear HBx HNx HXx HYx HFRx HFSx
  have hz := HB.out.size
  obtain ⟨hn_0, hn_1, hn_2, hn_3, hn_4⟩ := HN.out.two
  obtain ⟨hx_0, hx_1, hx_2, hx_3, hx_4⟩ := HX.out.two
  obtain ⟨hy_0, hy_1, hy_2, hy_3, hy_4⟩ := HY.out.two
  go_wp2_with fail
  refine (fewer_er C cc caps P cp _ paths flow w.heap.size _ e2 hz (HC.out.below HB.out (Nat.le_refl _)) (HP.out.below HB.out (Nat.le_refl _)) rfl HF.out H2.out).mono ?_; rintro e wk9 ⟨rfl, hb⟩
  clear hz
  have HBx := Lib.hid (HB.out.trans (hb.mono HB.out.size))
  have HNx := Lib.hid (HN.out.go hb)
  have HXx := Lib.hid (HX.out.go hb)
  have HYx := Lib.hid (HY.out.go hb)
  have HFRx := Lib.hid (HFR.out.at' hb)
  have HFSx := Lib.hid (HFS.out.at' hb)
  clear hb hn_0 hn_1 hn_2 hn_3 hn_4 hx_0 hx_1 hx_2 hx_3 hx_4 hy_0 hy_1 hy_2 hy_3 hy_4 HB HN HX HY HFR HFS 
  have HB := HBx; have HN := HNx; have HX := HXx; have HY := HYx; have HFR := HFRx; have HFS := HFSx
  clear HBx HNx HXx HYx HFRx HFSx
  have hz := HB.out.size
  obtain ⟨hn_0, hn_1, hn_2, hn_3, hn_4⟩ := HN.out.two
  obtain ⟨hx_0, hx_1, hx_2, hx_3, hx_4⟩ := HX.out.two
  obtain ⟨hy_0, hy_1, hy_2, hy_3, hy_4⟩ := HY.out.two
  go_wp2_with fail
  refine (wider_ok' C cc caps P cp paths link by_ w.heap.size _ K3 R3 hz (HC.out.below HB.out (Nat.le_refl _)) (HP.out.below HB.out (Nat.le_refl _)) HD.out HK3.out).mono ?_; rintro e wk10 ⟨A8, c8, rfl, hf8, hb⟩
  clear hz
  have HBx := Lib.hid (HB.out.trans (hb.mono HB.out.size))
  have HNx := Lib.hid (HN.out.go hb)
  have HXx := Lib.hid (HX.out.go hb)
  have HYx := Lib.hid (HY.out.go hb)
  have HFRx := Lib.hid (HFR.out.at' hb)
  have HFSx := Lib.hid (HFS.out.at' hb)
  clear hb hn_0 hn_1 hn_2 hn_3 hn_4 hx_0 hx_1 hx_2 hx_3 hx_4 hy_0 hy_1 hy_2 hy_3 hy_4 HB HN HX HY HFR HFS 
  have HB := HBx; have HN := HNx; have HX := HXx; have HY := HYx; have HFR := HFRx; have HFS := HFSx
  clear HBx HNx HXx HYx HFRx HFSx
  have hz := HB.out.size
  obtain ⟨hn_0, hn_1, hn_2, hn_3, hn_4⟩ := HN.out.two
  obtain ⟨hx_0, hx_1, hx_2, hx_3, hx_4⟩ := HX.out.two
  obtain ⟨hy_0, hy_1, hy_2, hy_3, hy_4⟩ := HY.out.two
  have HFU := Lib.hid hf8
  clear hf8
  go_wp2_with fail
  refine (rcmp_yes A8 A5 c8 c5 _ _ R3 R o wk10.heap.size _ (Nat.le_refl _) HFU.out HFR.out rfl rfl HL3.out H63.out HI3.out HRI.out HO.out).mono ?_; rintro e wk11 ⟨rfl, hb⟩
  clear hz
  have HBx := Lib.hid (HB.out.trans (hb.mono HB.out.size))
  have HNx := Lib.hid (HN.out.go hb)
  have HXx := Lib.hid (HX.out.go hb)
  have HYx := Lib.hid (HY.out.go hb)
  have HFRx := Lib.hid (HFR.out.at' hb)
  have HFSx := Lib.hid (HFS.out.at' hb)
  have HFUx := Lib.hid (HFU.out.at' hb)
  clear hb hn_0 hn_1 hn_2 hn_3 hn_4 hx_0 hx_1 hx_2 hx_3 hx_4 hy_0 hy_1 hy_2 hy_3 hy_4 HB HN HX HY HFR HFS HFU 
  have HB := HBx; have HN := HNx; have HX := HXx; have HY := HYx; have HFR := HFRx; have HFS := HFSx; have HFU := HFUx
  clear HBx HNx HXx HYx HFRx HFSx HFUx
  have hz := HB.out.size
  obtain ⟨hn_0, hn_1, hn_2, hn_3, hn_4⟩ := HN.out.two
  obtain ⟨hx_0, hx_1, hx_2, hx_3, hx_4⟩ := HX.out.two
  obtain ⟨hy_0, hy_1, hy_2, hy_3, hy_4⟩ := HY.out.two
  go_wp2
  go_ret
  exact ⟨rfl, HB.out⟩
set_option maxHeartbeats 16000000 in
set_option maxRecDepth 100000 in
theorem growLess_100 (C : Option Addr) (cc : Nat) (caps : List Int) (P : Option Addr) (cp : Nat) (paths : List (List Int)) (A : Option Addr) (c : Nat) (path : List Int) (flow link by_ : Int) (w : World) (hc : Ints w w.heap.size C cc caps) (hp : Rows2 w w.heap.size P cp paths) (hi : Ints w w.heap.size A c path) (he : netErr caps paths = 0) (K : Nat) (R : List Rat) (hK : FillEnds caps paths K R) (K1 : Nat) (R1 : List Rat) (hm : addErr caps paths path = 0) (hK1 : FillEnds caps (paths ++ [path]) K1 R1) (e2 : Int) (hf : dropErr caps paths flow = e2) (h2 : e2 ≠ 0) (e3 : Int) (hd : widerErr caps paths link by_ = e3) (h3 : e3 ≠ 0) :
    Calls Try.prog 9 #[.agg #[.slice C caps.length cc, .slice P paths.length cp], .slice A path.length c, .int .i64 flow, .int .i64 link, .int .i64 by_] w fun e w' => e = .returned (.bool true) ∧ Below w.heap.size w w' := by
  have ok := netOk_of he
  have hRl := hK.len ok
  have hRi : ∀ q ∈ R, QIn q := fun q h => (hK.rates ok q h).1
  have h6 := ok.F1; have hF0 := ok.F0
  obtain ⟨ma, hma⟩ := srt_head (Q := R) (by omega)
  have HE := Lib.hid he; have HK := Lib.hid hK; have HRI := Lib.hid hRi; have HMA := Lib.hid hma; have HMAI := Lib.hid (hRi ma (QS.head_le hma).1)
  have HR6 : Hid (R.length ≤ 6) := Lib.hid (by omega)
  have hr6 : R.length ≤ 6 := by omega
  have hr0 : 0 < R.length := by omega
  have ok1 := netOk_of (addErr_ok hm).2.2.2
  have hl1 := hK1.len ok1
  rw [List.length_append, List.length_singleton] at hl1
  have hi1 : ∀ q ∈ R1, QIn q := fun q h => (hK1.rates ok1 q h).1
  have h61 := ok1.F1
  rw [List.length_append, List.length_singleton] at h61
  obtain ⟨mb, hmb⟩ := srt_head (Q := R1) (by omega)
  obtain ⟨k1, hk1⟩ : ∃ k, ordQ mb ma = k := ⟨_, rfl⟩
  have hk1' : decide (0 < k1) = false := decide_eq_false (by rw [← hk1]; have := ordq_le (more_least hm hK1 hK hmb hma); omega)
  have hn1 : ((R1.length : Int) != (R.length : Int) + 1) = false := by rw [bne_eq_false_iff_eq]; omega
  have HM := Lib.hid hm; have HK1 := Lib.hid hK1; have HI1 := Lib.hid hi1; have HMB := Lib.hid hmb; have HMBI := Lib.hid (hi1 mb (QS.head_le hmb).1); have HKK1 := Lib.hid hk1; have H61 : Hid (R1.length ≤ 6) := Lib.hid (by omega)
  clear hm hK1 hl1 hi1 hmb hk1 ok1 h61
  have HF := Lib.hid hf; have H2 := Lib.hid h2
  clear hf h2
  have HD := Lib.hid hd; have H3 := Lib.hid h3
  clear hd h3
  clear he hK hRi hma hRl h6 hF0 ok
  have HC := Lib.hid hc; have HP := Lib.hid hp; have HI := Lib.hid hi
  have him := hi.cap; have hil := hi.le
  unfold maxLen at him
  clear hc hp hi
  have HN0 := Lib.hid (Blk.new w 25 #[.slice C caps.length cc, .slice P paths.length cp])
  have HB0 := Lib.hid ((Below.refl w.heap.size w).alloc (Nat.le_refl _) (.cells #[.slice C caps.length cc, .slice P paths.length cp] 25))
  obtain ⟨wk0, hwk⟩ : ∃ x, x = w.alloc (.cells #[.slice C caps.length cc, .slice P paths.length cp] 25) := ⟨_, rfl⟩
  rw [← hwk] at HN0 HB0
  have HB := HB0; have HN := HN0
  clear HB0 HN0
  have hz := HB.out.size
  go_enter Try.func9, Try.ntmps9
  go_upto_region 1 with (fail)
  rw [← hwk]
  clear hwk
  obtain ⟨hn_0, hn_1, hn_2, hn_3, hn_4⟩ := HN.out.two
  go_wp2_with fail
  refine (growLess_fact wk0).mono ?_; rintro e wk1 ⟨A0, c0, rfl, ⟨b0, off0, rfl, hb0, d0, d1⟩, hb⟩
  clear hz
  have HBx := Lib.hid (HB.out.trans (hb.mono HB.out.size))
  have HNx := Lib.hid (HN.out.go hb)
  clear hb hn_0 hn_1 hn_2 hn_3 hn_4 HB HN 
  have HB := HBx; have HN := HNx
  clear HBx HNx
  have hz := HB.out.size
  obtain ⟨hn_0, hn_1, hn_2, hn_3, hn_4⟩ := HN.out.two
  go_wp2_with fail
  refine (frates_yes C cc caps P cp _ paths w.heap.size _ K R hz (HC.out.below HB.out (Nat.le_refl _)) (HP.out.below HB.out (Nat.le_refl _)) rfl HE.out HK.out).mono ?_; rintro e wk2 ⟨A5, c5, rfl, hf5, hb⟩
  clear d0 d1 hb0
  clear hz
  have HBx := Lib.hid (HB.out.trans (hb.mono HB.out.size))
  have HNx := Lib.hid (HN.out.go hb)
  clear hb hn_0 hn_1 hn_2 hn_3 hn_4 HB HN 
  have HB := HBx; have HN := HNx
  clear HBx HNx
  have hz := HB.out.size
  obtain ⟨hn_0, hn_1, hn_2, hn_3, hn_4⟩ := HN.out.two
  have HFR := Lib.hid hf5
  clear hf5
  go_wp2_with fail
  refine (rleast_yes A5 c5 _ R ma wk2.heap.size _ (Nat.le_refl _) HFR.out rfl HR6.out HRI.out HMA.out).mono ?_; rintro e wk3 ⟨rfl, hb⟩
  clear hz
  have HBx := Lib.hid (HB.out.trans (hb.mono HB.out.size))
  have HNx := Lib.hid (HN.out.go hb)
  have HFRx := Lib.hid (HFR.out.at' hb)
  clear hb hn_0 hn_1 hn_2 hn_3 hn_4 HB HN HFR 
  have HB := HBx; have HN := HNx; have HFR := HFRx
  clear HBx HNx HFRx
  have hz := HB.out.size
  obtain ⟨hn_0, hn_1, hn_2, hn_3, hn_4⟩ := HN.out.two
  obtain ⟨wk4, hwk⟩ : ∃ x, x = wk3.alloc (.cells #[.int .i64 ma.num, .int .i64 ma.den] 28) := ⟨_, rfl⟩
  have hb : Below wk3.heap.size wk3 wk4 := by rw [hwk]; exact (Below.refl _ _).alloc (Nat.le_refl _) _
  have HX : Hid (Blk wk4 wk3.heap.size 28 #[.int .i64 ma.num, .int .i64 ma.den]) := Lib.hid (by rw [hwk]; exact Blk.new _ _ _)
  go_upto_region 8 with (fail)
  rw [← hwk]
  clear hwk hz
  obtain ⟨gHX, hgk⟩ : ∃ x, x = wk3.heap.size := ⟨_, rfl⟩
  rw [← hgk] at HX ⊢
  clear hgk
  have HBx := Lib.hid (HB.out.trans (hb.mono HB.out.size))
  have HNx := Lib.hid (HN.out.go hb)
  have HFRx := Lib.hid (HFR.out.at' hb)
  clear hb hn_0 hn_1 hn_2 hn_3 hn_4 HB HN HFR 
  have HB := HBx; have HN := HNx; have HFR := HFRx
  clear HBx HNx HFRx
  have hz := HB.out.size
  obtain ⟨hn_0, hn_1, hn_2, hn_3, hn_4⟩ := HN.out.two
  obtain ⟨hx_0, hx_1, hx_2, hx_3, hx_4⟩ := HX.out.two
  go_wp2_with fail
  refine (more_yes C cc caps P cp _ paths A c path w.heap.size _ K1 R1 hz (HC.out.below HB.out (Nat.le_refl _)) (HP.out.below HB.out (Nat.le_refl _)) (HI.out.below HB.out (Nat.le_refl _)) rfl HM.out HK1.out).mono ?_; rintro e wk5 ⟨A6, c6, rfl, hf6, hb⟩
  clear hz
  have HBx := Lib.hid (HB.out.trans (hb.mono HB.out.size))
  have HNx := Lib.hid (HN.out.go hb)
  have HXx := Lib.hid (HX.out.go hb)
  have HFRx := Lib.hid (HFR.out.at' hb)
  clear hb hn_0 hn_1 hn_2 hn_3 hn_4 hx_0 hx_1 hx_2 hx_3 hx_4 HB HN HX HFR 
  have HB := HBx; have HN := HNx; have HX := HXx; have HFR := HFRx
  clear HBx HNx HXx HFRx
  have hz := HB.out.size
  obtain ⟨hn_0, hn_1, hn_2, hn_3, hn_4⟩ := HN.out.two
  obtain ⟨hx_0, hx_1, hx_2, hx_3, hx_4⟩ := HX.out.two
  have HFS := Lib.hid hf6
  clear hf6
  go_wp2_with fail
  refine (rleast_yes A6 c6 _ R1 mb wk5.heap.size _ (Nat.le_refl _) HFS.out rfl H61.out HI1.out HMB.out).mono ?_; rintro e wk6 ⟨rfl, hb⟩
  clear hz
  have HBx := Lib.hid (HB.out.trans (hb.mono HB.out.size))
  have HNx := Lib.hid (HN.out.go hb)
  have HXx := Lib.hid (HX.out.go hb)
  have HFRx := Lib.hid (HFR.out.at' hb)
  have HFSx := Lib.hid (HFS.out.at' hb)
  clear hb hn_0 hn_1 hn_2 hn_3 hn_4 hx_0 hx_1 hx_2 hx_3 hx_4 HB HN HX HFR HFS 
  have HB := HBx; have HN := HNx; have HX := HXx; have HFR := HFRx; have HFS := HFSx
  clear HBx HNx HXx HFRx HFSx
  have hz := HB.out.size
  obtain ⟨hn_0, hn_1, hn_2, hn_3, hn_4⟩ := HN.out.two
  obtain ⟨hx_0, hx_1, hx_2, hx_3, hx_4⟩ := HX.out.two
  obtain ⟨wk7, hwk⟩ : ∃ x, x = wk6.alloc (.cells #[.int .i64 mb.num, .int .i64 mb.den] 28) := ⟨_, rfl⟩
  have hb : Below wk6.heap.size wk6 wk7 := by rw [hwk]; exact (Below.refl _ _).alloc (Nat.le_refl _) _
  have HY : Hid (Blk wk7 wk6.heap.size 28 #[.int .i64 mb.num, .int .i64 mb.den]) := Lib.hid (by rw [hwk]; exact Blk.new _ _ _)
  go_upto_region 13 with (fail)
  rw [← hwk]
  clear hwk hz
  obtain ⟨gHY, hgk⟩ : ∃ x, x = wk6.heap.size := ⟨_, rfl⟩
  rw [← hgk] at HY ⊢
  clear hgk
  have HBx := Lib.hid (HB.out.trans (hb.mono HB.out.size))
  have HNx := Lib.hid (HN.out.go hb)
  have HXx := Lib.hid (HX.out.go hb)
  have HFRx := Lib.hid (HFR.out.at' hb)
  have HFSx := Lib.hid (HFS.out.at' hb)
  clear hb hn_0 hn_1 hn_2 hn_3 hn_4 hx_0 hx_1 hx_2 hx_3 hx_4 HB HN HX HFR HFS 
  have HB := HBx; have HN := HNx; have HX := HXx; have HFR := HFRx; have HFS := HFSx
  clear HBx HNx HXx HFRx HFSx
  have hz := HB.out.size
  obtain ⟨hn_0, hn_1, hn_2, hn_3, hn_4⟩ := HN.out.two
  obtain ⟨hx_0, hx_1, hx_2, hx_3, hx_4⟩ := HX.out.two
  obtain ⟨hy_0, hy_1, hy_2, hy_3, hy_4⟩ := HY.out.two
  go_wp2_with fail
  refine (fcompare_q mb ma k1 _ HMBI.out HMAI.out HKK1.out).mono ?_; rintro e wk8 ⟨rfl, hb⟩
  clear hz
  have HBx := Lib.hid (HB.out.trans (hb.mono HB.out.size))
  have HNx := Lib.hid (HN.out.go hb)
  have HXx := Lib.hid (HX.out.go hb)
  have HYx := Lib.hid (HY.out.go hb)
  have HFRx := Lib.hid (HFR.out.at' hb)
  have HFSx := Lib.hid (HFS.out.at' hb)
  clear hb hn_0 hn_1 hn_2 hn_3 hn_4 hx_0 hx_1 hx_2 hx_3 hx_4 hy_0 hy_1 hy_2 hy_3 hy_4 HB HN HX HY HFR HFS 
  have HB := HBx; have HN := HNx; have HX := HXx; have HY := HYx; have HFR := HFRx; have HFS := HFSx
  clear HBx HNx HXx HYx HFRx HFSx
  have hz := HB.out.size
  obtain ⟨hn_0, hn_1, hn_2, hn_3, hn_4⟩ := HN.out.two
  obtain ⟨hx_0, hx_1, hx_2, hx_3, hx_4⟩ := HX.out.two
  obtain ⟨hy_0, hy_1, hy_2, hy_3, hy_4⟩ := HY.out.two
  go_wp2_with fail
  refine (fewer_er C cc caps P cp _ paths flow w.heap.size _ e2 hz (HC.out.below HB.out (Nat.le_refl _)) (HP.out.below HB.out (Nat.le_refl _)) rfl HF.out H2.out).mono ?_; rintro e wk9 ⟨rfl, hb⟩
  clear hz
  have HBx := Lib.hid (HB.out.trans (hb.mono HB.out.size))
  have HNx := Lib.hid (HN.out.go hb)
  have HXx := Lib.hid (HX.out.go hb)
  have HYx := Lib.hid (HY.out.go hb)
  have HFRx := Lib.hid (HFR.out.at' hb)
  have HFSx := Lib.hid (HFS.out.at' hb)
  clear hb hn_0 hn_1 hn_2 hn_3 hn_4 hx_0 hx_1 hx_2 hx_3 hx_4 hy_0 hy_1 hy_2 hy_3 hy_4 HB HN HX HY HFR HFS 
  have HB := HBx; have HN := HNx; have HX := HXx; have HY := HYx; have HFR := HFRx; have HFS := HFSx
  clear HBx HNx HXx HYx HFRx HFSx
  have hz := HB.out.size
  obtain ⟨hn_0, hn_1, hn_2, hn_3, hn_4⟩ := HN.out.two
  obtain ⟨hx_0, hx_1, hx_2, hx_3, hx_4⟩ := HX.out.two
  obtain ⟨hy_0, hy_1, hy_2, hy_3, hy_4⟩ := HY.out.two
  go_wp2_with fail
  refine (wider_er' C cc caps P cp paths link by_ w.heap.size _ e3 hz (HC.out.below HB.out (Nat.le_refl _)) (HP.out.below HB.out (Nat.le_refl _)) HD.out H3.out).mono ?_; rintro e wk10 ⟨A8, c8, rfl, hb⟩
  clear hz
  have HBx := Lib.hid (HB.out.trans (hb.mono HB.out.size))
  have HNx := Lib.hid (HN.out.go hb)
  have HXx := Lib.hid (HX.out.go hb)
  have HYx := Lib.hid (HY.out.go hb)
  have HFRx := Lib.hid (HFR.out.at' hb)
  have HFSx := Lib.hid (HFS.out.at' hb)
  clear hb hn_0 hn_1 hn_2 hn_3 hn_4 hx_0 hx_1 hx_2 hx_3 hx_4 hy_0 hy_1 hy_2 hy_3 hy_4 HB HN HX HY HFR HFS 
  have HB := HBx; have HN := HNx; have HX := HXx; have HY := HYx; have HFR := HFRx; have HFS := HFSx
  clear HBx HNx HXx HYx HFRx HFSx
  have hz := HB.out.size
  obtain ⟨hn_0, hn_1, hn_2, hn_3, hn_4⟩ := HN.out.two
  obtain ⟨hx_0, hx_1, hx_2, hx_3, hx_4⟩ := HX.out.two
  obtain ⟨hy_0, hy_1, hy_2, hy_3, hy_4⟩ := HY.out.two
  go_wp2
  go_ret
  exact ⟨rfl, HB.out⟩
set_option maxHeartbeats 16000000 in
set_option maxRecDepth 100000 in
theorem growLess_011 (C : Option Addr) (cc : Nat) (caps : List Int) (P : Option Addr) (cp : Nat) (paths : List (List Int)) (A : Option Addr) (c : Nat) (path : List Int) (flow link by_ : Int) (w : World) (hc : Ints w w.heap.size C cc caps) (hp : Rows2 w w.heap.size P cp paths) (hi : Ints w w.heap.size A c path) (he : netErr caps paths = 0) (K : Nat) (R : List Rat) (hK : FillEnds caps paths K R) (e1 : Int) (hm : addErr caps paths path = e1) (h1 : e1 ≠ 0) (K2 : Nat) (R2 : List Rat) (hf : dropErr caps paths flow = 0) (hK2 : FillEnds caps (paths.eraseIdx flow.toNat) K2 R2) (K3 : Nat) (R3 : List Rat) (hd : widerErr caps paths link by_ = 0) (hK3 : FillEnds (caps.set link.toNat (caps.getD link.toNat 0 + by_)) paths K3 R3) :
    Calls Try.prog 9 #[.agg #[.slice C caps.length cc, .slice P paths.length cp], .slice A path.length c, .int .i64 flow, .int .i64 link, .int .i64 by_] w fun e w' => e = .returned (.bool true) ∧ Below w.heap.size w w' := by
  have ok := netOk_of he
  have hRl := hK.len ok
  have hRi : ∀ q ∈ R, QIn q := fun q h => (hK.rates ok q h).1
  have h6 := ok.F1; have hF0 := ok.F0
  obtain ⟨ma, hma⟩ := srt_head (Q := R) (by omega)
  have HE := Lib.hid he; have HK := Lib.hid hK; have HRI := Lib.hid hRi; have HMA := Lib.hid hma; have HMAI := Lib.hid (hRi ma (QS.head_le hma).1)
  have HR6 : Hid (R.length ≤ 6) := Lib.hid (by omega)
  have hr6 : R.length ≤ 6 := by omega
  have hr0 : 0 < R.length := by omega
  have HM := Lib.hid hm; have H1 := Lib.hid h1
  clear hm h1
  have ok2 := netOk_of (dropErr_ok hf)
  have hl2 := hK2.len ok2
  rw [List.length_eraseIdx, if_pos (drop_in hf)] at hl2
  have hi2 : ∀ q ∈ R2, QIn q := fun q h => (hK2.rates ok2 q h).1
  have h02 := ok2.F0
  rw [List.length_eraseIdx, if_pos (drop_in hf)] at h02
  obtain ⟨mc, hmc⟩ := srt_head (Q := R2) (by omega)
  obtain ⟨k2, hk2⟩ : ∃ k, ordQ mc ma = k := ⟨_, rfl⟩
  have hk2' : decide (k2 < 0) = false := decide_eq_false (by rw [← hk2]; have := ordq_ge (least_erase ok ok2 (drop_in hf) hK hK2 hma hmc); omega)
  have hn2 : ((R2.length : Int) != (R.length : Int) - 1) = false := by rw [bne_eq_false_iff_eq]; omega
  have HF := Lib.hid hf; have HK2 := Lib.hid hK2; have HI2 := Lib.hid hi2; have HMC := Lib.hid hmc; have HMCI := Lib.hid (hi2 mc (QS.head_le hmc).1); have HKK2 := Lib.hid hk2; have H62 : Hid (R2.length ≤ 6) := Lib.hid (by omega)
  clear hf hK2 hl2 hi2 hmc hk2 ok2 h02
  have ok3 := netOk_of (widerErr_ok hd)
  have hl3 := hK3.len ok3
  have hi3 : ∀ q ∈ R3, QIn q := fun q h => (hK3.rates ok3 q h).1
  obtain ⟨o, ho⟩ : ∃ o, MM.lex (MM.srt R3) (MM.srt R) = o := ⟨_, rfl⟩
  have ho' : decide (0 ≤ o) = true := decide_eq_true (by rw [← ho]; exact wider_lex ok ok3 (by rw [List.length_set]) (wider_le hd) hK hK3)
  have HD := Lib.hid hd; have HK3 := Lib.hid hK3; have HI3 := Lib.hid hi3; have HO := Lib.hid ho; have H63 : Hid (R3.length ≤ 6) := Lib.hid (by omega); have HL3 : Hid (R3.length = R.length) := Lib.hid (by omega)
  clear hd hK3 hl3 hi3 ho ok3
  clear he hK hRi hma hRl h6 hF0 ok
  have HC := Lib.hid hc; have HP := Lib.hid hp; have HI := Lib.hid hi
  have him := hi.cap; have hil := hi.le
  unfold maxLen at him
  clear hc hp hi
  have HN0 := Lib.hid (Blk.new w 25 #[.slice C caps.length cc, .slice P paths.length cp])
  have HB0 := Lib.hid ((Below.refl w.heap.size w).alloc (Nat.le_refl _) (.cells #[.slice C caps.length cc, .slice P paths.length cp] 25))
  obtain ⟨wk0, hwk⟩ : ∃ x, x = w.alloc (.cells #[.slice C caps.length cc, .slice P paths.length cp] 25) := ⟨_, rfl⟩
  rw [← hwk] at HN0 HB0
  have HB := HB0; have HN := HN0
  clear HB0 HN0
  have hz := HB.out.size
  go_enter Try.func9, Try.ntmps9
  go_upto_region 1 with (fail)
  rw [← hwk]
  clear hwk
  obtain ⟨hn_0, hn_1, hn_2, hn_3, hn_4⟩ := HN.out.two
  go_wp2_with fail
  refine (growLess_fact wk0).mono ?_; rintro e wk1 ⟨A0, c0, rfl, ⟨b0, off0, rfl, hb0, d0, d1⟩, hb⟩
  clear hz
  have HBx := Lib.hid (HB.out.trans (hb.mono HB.out.size))
  have HNx := Lib.hid (HN.out.go hb)
  clear hb hn_0 hn_1 hn_2 hn_3 hn_4 HB HN 
  have HB := HBx; have HN := HNx
  clear HBx HNx
  have hz := HB.out.size
  obtain ⟨hn_0, hn_1, hn_2, hn_3, hn_4⟩ := HN.out.two
  go_wp2_with fail
  refine (frates_yes C cc caps P cp _ paths w.heap.size _ K R hz (HC.out.below HB.out (Nat.le_refl _)) (HP.out.below HB.out (Nat.le_refl _)) rfl HE.out HK.out).mono ?_; rintro e wk2 ⟨A5, c5, rfl, hf5, hb⟩
  clear d0 d1 hb0
  clear hz
  have HBx := Lib.hid (HB.out.trans (hb.mono HB.out.size))
  have HNx := Lib.hid (HN.out.go hb)
  clear hb hn_0 hn_1 hn_2 hn_3 hn_4 HB HN 
  have HB := HBx; have HN := HNx
  clear HBx HNx
  have hz := HB.out.size
  obtain ⟨hn_0, hn_1, hn_2, hn_3, hn_4⟩ := HN.out.two
  have HFR := Lib.hid hf5
  clear hf5
  go_wp2_with fail
  refine (rleast_yes A5 c5 _ R ma wk2.heap.size _ (Nat.le_refl _) HFR.out rfl HR6.out HRI.out HMA.out).mono ?_; rintro e wk3 ⟨rfl, hb⟩
  clear hz
  have HBx := Lib.hid (HB.out.trans (hb.mono HB.out.size))
  have HNx := Lib.hid (HN.out.go hb)
  have HFRx := Lib.hid (HFR.out.at' hb)
  clear hb hn_0 hn_1 hn_2 hn_3 hn_4 HB HN HFR 
  have HB := HBx; have HN := HNx; have HFR := HFRx
  clear HBx HNx HFRx
  have hz := HB.out.size
  obtain ⟨hn_0, hn_1, hn_2, hn_3, hn_4⟩ := HN.out.two
  obtain ⟨wk4, hwk⟩ : ∃ x, x = wk3.alloc (.cells #[.int .i64 ma.num, .int .i64 ma.den] 28) := ⟨_, rfl⟩
  have hb : Below wk3.heap.size wk3 wk4 := by rw [hwk]; exact (Below.refl _ _).alloc (Nat.le_refl _) _
  have HX : Hid (Blk wk4 wk3.heap.size 28 #[.int .i64 ma.num, .int .i64 ma.den]) := Lib.hid (by rw [hwk]; exact Blk.new _ _ _)
  go_upto_region 8 with (fail)
  rw [← hwk]
  clear hwk hz
  obtain ⟨gHX, hgk⟩ : ∃ x, x = wk3.heap.size := ⟨_, rfl⟩
  rw [← hgk] at HX ⊢
  clear hgk
  have HBx := Lib.hid (HB.out.trans (hb.mono HB.out.size))
  have HNx := Lib.hid (HN.out.go hb)
  have HFRx := Lib.hid (HFR.out.at' hb)
  clear hb hn_0 hn_1 hn_2 hn_3 hn_4 HB HN HFR 
  have HB := HBx; have HN := HNx; have HFR := HFRx
  clear HBx HNx HFRx
  have hz := HB.out.size
  obtain ⟨hn_0, hn_1, hn_2, hn_3, hn_4⟩ := HN.out.two
  obtain ⟨hx_0, hx_1, hx_2, hx_3, hx_4⟩ := HX.out.two
  go_wp2_with fail
  refine (more_er C cc caps P cp _ paths A c path w.heap.size _ e1 hz (HC.out.below HB.out (Nat.le_refl _)) (HP.out.below HB.out (Nat.le_refl _)) (HI.out.below HB.out (Nat.le_refl _)) rfl HM.out H1.out).mono ?_; rintro e wk5 ⟨rfl, hb⟩
  clear hz
  have HBx := Lib.hid (HB.out.trans (hb.mono HB.out.size))
  have HNx := Lib.hid (HN.out.go hb)
  have HXx := Lib.hid (HX.out.go hb)
  have HFRx := Lib.hid (HFR.out.at' hb)
  clear hb hn_0 hn_1 hn_2 hn_3 hn_4 hx_0 hx_1 hx_2 hx_3 hx_4 HB HN HX HFR 
  have HB := HBx; have HN := HNx; have HX := HXx; have HFR := HFRx
  clear HBx HNx HXx HFRx
  have hz := HB.out.size
  obtain ⟨hn_0, hn_1, hn_2, hn_3, hn_4⟩ := HN.out.two
  obtain ⟨hx_0, hx_1, hx_2, hx_3, hx_4⟩ := HX.out.two
  go_wp2_with fail
  refine (fewer_ok' C cc caps P cp paths flow w.heap.size _ K2 R2 hz (HC.out.below HB.out (Nat.le_refl _)) (HP.out.below HB.out (Nat.le_refl _)) HF.out HK2.out).mono ?_; rintro e wk6 ⟨A7, c7, rfl, hf7, hb⟩
  clear hz
  have HBx := Lib.hid (HB.out.trans (hb.mono HB.out.size))
  have HNx := Lib.hid (HN.out.go hb)
  have HXx := Lib.hid (HX.out.go hb)
  have HFRx := Lib.hid (HFR.out.at' hb)
  clear hb hn_0 hn_1 hn_2 hn_3 hn_4 hx_0 hx_1 hx_2 hx_3 hx_4 HB HN HX HFR 
  have HB := HBx; have HN := HNx; have HX := HXx; have HFR := HFRx
  clear HBx HNx HXx HFRx
  have hz := HB.out.size
  obtain ⟨hn_0, hn_1, hn_2, hn_3, hn_4⟩ := HN.out.two
  obtain ⟨hx_0, hx_1, hx_2, hx_3, hx_4⟩ := HX.out.two
  have HFT := Lib.hid hf7
  clear hf7
  go_wp2_with fail
  refine (rleast_yes A7 c7 _ R2 mc wk6.heap.size _ (Nat.le_refl _) HFT.out rfl H62.out HI2.out HMC.out).mono ?_; rintro e wk7 ⟨rfl, hb⟩
  clear hz
  have HBx := Lib.hid (HB.out.trans (hb.mono HB.out.size))
  have HNx := Lib.hid (HN.out.go hb)
  have HXx := Lib.hid (HX.out.go hb)
  have HFRx := Lib.hid (HFR.out.at' hb)
  have HFTx := Lib.hid (HFT.out.at' hb)
  clear hb hn_0 hn_1 hn_2 hn_3 hn_4 hx_0 hx_1 hx_2 hx_3 hx_4 HB HN HX HFR HFT 
  have HB := HBx; have HN := HNx; have HX := HXx; have HFR := HFRx; have HFT := HFTx
  clear HBx HNx HXx HFRx HFTx
  have hz := HB.out.size
  obtain ⟨hn_0, hn_1, hn_2, hn_3, hn_4⟩ := HN.out.two
  obtain ⟨hx_0, hx_1, hx_2, hx_3, hx_4⟩ := HX.out.two
  obtain ⟨wk8, hwk⟩ : ∃ x, x = wk7.alloc (.cells #[.int .i64 mc.num, .int .i64 mc.den] 28) := ⟨_, rfl⟩
  have hb : Below wk7.heap.size wk7 wk8 := by rw [hwk]; exact (Below.refl _ _).alloc (Nat.le_refl _) _
  have HZ : Hid (Blk wk8 wk7.heap.size 28 #[.int .i64 mc.num, .int .i64 mc.den]) := Lib.hid (by rw [hwk]; exact Blk.new _ _ _)
  go_upto_region 19 with (fail)
  rw [← hwk]
  clear hwk hz
  obtain ⟨gHZ, hgk⟩ : ∃ x, x = wk7.heap.size := ⟨_, rfl⟩
  rw [← hgk] at HZ ⊢
  clear hgk
  have HBx := Lib.hid (HB.out.trans (hb.mono HB.out.size))
  have HNx := Lib.hid (HN.out.go hb)
  have HXx := Lib.hid (HX.out.go hb)
  have HFRx := Lib.hid (HFR.out.at' hb)
  have HFTx := Lib.hid (HFT.out.at' hb)
  clear hb hn_0 hn_1 hn_2 hn_3 hn_4 hx_0 hx_1 hx_2 hx_3 hx_4 HB HN HX HFR HFT 
  have HB := HBx; have HN := HNx; have HX := HXx; have HFR := HFRx; have HFT := HFTx
  clear HBx HNx HXx HFRx HFTx
  have hz := HB.out.size
  obtain ⟨hn_0, hn_1, hn_2, hn_3, hn_4⟩ := HN.out.two
  obtain ⟨hx_0, hx_1, hx_2, hx_3, hx_4⟩ := HX.out.two
  obtain ⟨hz_0, hz_1, hz_2, hz_3, hz_4⟩ := HZ.out.two
  go_wp2_with fail
  refine (fcompare_q mc ma k2 _ HMCI.out HMAI.out HKK2.out).mono ?_; rintro e wk9 ⟨rfl, hb⟩
  clear hz
  have HBx := Lib.hid (HB.out.trans (hb.mono HB.out.size))
  have HNx := Lib.hid (HN.out.go hb)
  have HXx := Lib.hid (HX.out.go hb)
  have HZx := Lib.hid (HZ.out.go hb)
  have HFRx := Lib.hid (HFR.out.at' hb)
  have HFTx := Lib.hid (HFT.out.at' hb)
  clear hb hn_0 hn_1 hn_2 hn_3 hn_4 hx_0 hx_1 hx_2 hx_3 hx_4 hz_0 hz_1 hz_2 hz_3 hz_4 HB HN HX HZ HFR HFT 
  have HB := HBx; have HN := HNx; have HX := HXx; have HZ := HZx; have HFR := HFRx; have HFT := HFTx
  clear HBx HNx HXx HZx HFRx HFTx
  have hz := HB.out.size
  obtain ⟨hn_0, hn_1, hn_2, hn_3, hn_4⟩ := HN.out.two
  obtain ⟨hx_0, hx_1, hx_2, hx_3, hx_4⟩ := HX.out.two
  obtain ⟨hz_0, hz_1, hz_2, hz_3, hz_4⟩ := HZ.out.two
  go_wp2_with fail
  refine (wider_ok' C cc caps P cp paths link by_ w.heap.size _ K3 R3 hz (HC.out.below HB.out (Nat.le_refl _)) (HP.out.below HB.out (Nat.le_refl _)) HD.out HK3.out).mono ?_; rintro e wk10 ⟨A8, c8, rfl, hf8, hb⟩
  clear hz
  have HBx := Lib.hid (HB.out.trans (hb.mono HB.out.size))
  have HNx := Lib.hid (HN.out.go hb)
  have HXx := Lib.hid (HX.out.go hb)
  have HZx := Lib.hid (HZ.out.go hb)
  have HFRx := Lib.hid (HFR.out.at' hb)
  have HFTx := Lib.hid (HFT.out.at' hb)
  clear hb hn_0 hn_1 hn_2 hn_3 hn_4 hx_0 hx_1 hx_2 hx_3 hx_4 hz_0 hz_1 hz_2 hz_3 hz_4 HB HN HX HZ HFR HFT 
  have HB := HBx; have HN := HNx; have HX := HXx; have HZ := HZx; have HFR := HFRx; have HFT := HFTx
  clear HBx HNx HXx HZx HFRx HFTx
  have hz := HB.out.size
  obtain ⟨hn_0, hn_1, hn_2, hn_3, hn_4⟩ := HN.out.two
  obtain ⟨hx_0, hx_1, hx_2, hx_3, hx_4⟩ := HX.out.two
  obtain ⟨hz_0, hz_1, hz_2, hz_3, hz_4⟩ := HZ.out.two
  have HFU := Lib.hid hf8
  clear hf8
  go_wp2_with fail
  refine (rcmp_yes A8 A5 c8 c5 _ _ R3 R o wk10.heap.size _ (Nat.le_refl _) HFU.out HFR.out rfl rfl HL3.out H63.out HI3.out HRI.out HO.out).mono ?_; rintro e wk11 ⟨rfl, hb⟩
  clear hz
  have HBx := Lib.hid (HB.out.trans (hb.mono HB.out.size))
  have HNx := Lib.hid (HN.out.go hb)
  have HXx := Lib.hid (HX.out.go hb)
  have HZx := Lib.hid (HZ.out.go hb)
  have HFRx := Lib.hid (HFR.out.at' hb)
  have HFTx := Lib.hid (HFT.out.at' hb)
  have HFUx := Lib.hid (HFU.out.at' hb)
  clear hb hn_0 hn_1 hn_2 hn_3 hn_4 hx_0 hx_1 hx_2 hx_3 hx_4 hz_0 hz_1 hz_2 hz_3 hz_4 HB HN HX HZ HFR HFT HFU 
  have HB := HBx; have HN := HNx; have HX := HXx; have HZ := HZx; have HFR := HFRx; have HFT := HFTx; have HFU := HFUx
  clear HBx HNx HXx HZx HFRx HFTx HFUx
  have hz := HB.out.size
  obtain ⟨hn_0, hn_1, hn_2, hn_3, hn_4⟩ := HN.out.two
  obtain ⟨hx_0, hx_1, hx_2, hx_3, hx_4⟩ := HX.out.two
  obtain ⟨hz_0, hz_1, hz_2, hz_3, hz_4⟩ := HZ.out.two
  go_wp2
  go_ret
  exact ⟨rfl, HB.out⟩
set_option maxHeartbeats 16000000 in
set_option maxRecDepth 100000 in
theorem growLess_010 (C : Option Addr) (cc : Nat) (caps : List Int) (P : Option Addr) (cp : Nat) (paths : List (List Int)) (A : Option Addr) (c : Nat) (path : List Int) (flow link by_ : Int) (w : World) (hc : Ints w w.heap.size C cc caps) (hp : Rows2 w w.heap.size P cp paths) (hi : Ints w w.heap.size A c path) (he : netErr caps paths = 0) (K : Nat) (R : List Rat) (hK : FillEnds caps paths K R) (e1 : Int) (hm : addErr caps paths path = e1) (h1 : e1 ≠ 0) (K2 : Nat) (R2 : List Rat) (hf : dropErr caps paths flow = 0) (hK2 : FillEnds caps (paths.eraseIdx flow.toNat) K2 R2) (e3 : Int) (hd : widerErr caps paths link by_ = e3) (h3 : e3 ≠ 0) :
    Calls Try.prog 9 #[.agg #[.slice C caps.length cc, .slice P paths.length cp], .slice A path.length c, .int .i64 flow, .int .i64 link, .int .i64 by_] w fun e w' => e = .returned (.bool true) ∧ Below w.heap.size w w' := by
  have ok := netOk_of he
  have hRl := hK.len ok
  have hRi : ∀ q ∈ R, QIn q := fun q h => (hK.rates ok q h).1
  have h6 := ok.F1; have hF0 := ok.F0
  obtain ⟨ma, hma⟩ := srt_head (Q := R) (by omega)
  have HE := Lib.hid he; have HK := Lib.hid hK; have HRI := Lib.hid hRi; have HMA := Lib.hid hma; have HMAI := Lib.hid (hRi ma (QS.head_le hma).1)
  have HR6 : Hid (R.length ≤ 6) := Lib.hid (by omega)
  have hr6 : R.length ≤ 6 := by omega
  have hr0 : 0 < R.length := by omega
  have HM := Lib.hid hm; have H1 := Lib.hid h1
  clear hm h1
  have ok2 := netOk_of (dropErr_ok hf)
  have hl2 := hK2.len ok2
  rw [List.length_eraseIdx, if_pos (drop_in hf)] at hl2
  have hi2 : ∀ q ∈ R2, QIn q := fun q h => (hK2.rates ok2 q h).1
  have h02 := ok2.F0
  rw [List.length_eraseIdx, if_pos (drop_in hf)] at h02
  obtain ⟨mc, hmc⟩ := srt_head (Q := R2) (by omega)
  obtain ⟨k2, hk2⟩ : ∃ k, ordQ mc ma = k := ⟨_, rfl⟩
  have hk2' : decide (k2 < 0) = false := decide_eq_false (by rw [← hk2]; have := ordq_ge (least_erase ok ok2 (drop_in hf) hK hK2 hma hmc); omega)
  have hn2 : ((R2.length : Int) != (R.length : Int) - 1) = false := by rw [bne_eq_false_iff_eq]; omega
  have HF := Lib.hid hf; have HK2 := Lib.hid hK2; have HI2 := Lib.hid hi2; have HMC := Lib.hid hmc; have HMCI := Lib.hid (hi2 mc (QS.head_le hmc).1); have HKK2 := Lib.hid hk2; have H62 : Hid (R2.length ≤ 6) := Lib.hid (by omega)
  clear hf hK2 hl2 hi2 hmc hk2 ok2 h02
  have HD := Lib.hid hd; have H3 := Lib.hid h3
  clear hd h3
  clear he hK hRi hma hRl h6 hF0 ok
  have HC := Lib.hid hc; have HP := Lib.hid hp; have HI := Lib.hid hi
  have him := hi.cap; have hil := hi.le
  unfold maxLen at him
  clear hc hp hi
  have HN0 := Lib.hid (Blk.new w 25 #[.slice C caps.length cc, .slice P paths.length cp])
  have HB0 := Lib.hid ((Below.refl w.heap.size w).alloc (Nat.le_refl _) (.cells #[.slice C caps.length cc, .slice P paths.length cp] 25))
  obtain ⟨wk0, hwk⟩ : ∃ x, x = w.alloc (.cells #[.slice C caps.length cc, .slice P paths.length cp] 25) := ⟨_, rfl⟩
  rw [← hwk] at HN0 HB0
  have HB := HB0; have HN := HN0
  clear HB0 HN0
  have hz := HB.out.size
  go_enter Try.func9, Try.ntmps9
  go_upto_region 1 with (fail)
  rw [← hwk]
  clear hwk
  obtain ⟨hn_0, hn_1, hn_2, hn_3, hn_4⟩ := HN.out.two
  go_wp2_with fail
  refine (growLess_fact wk0).mono ?_; rintro e wk1 ⟨A0, c0, rfl, ⟨b0, off0, rfl, hb0, d0, d1⟩, hb⟩
  clear hz
  have HBx := Lib.hid (HB.out.trans (hb.mono HB.out.size))
  have HNx := Lib.hid (HN.out.go hb)
  clear hb hn_0 hn_1 hn_2 hn_3 hn_4 HB HN 
  have HB := HBx; have HN := HNx
  clear HBx HNx
  have hz := HB.out.size
  obtain ⟨hn_0, hn_1, hn_2, hn_3, hn_4⟩ := HN.out.two
  go_wp2_with fail
  refine (frates_yes C cc caps P cp _ paths w.heap.size _ K R hz (HC.out.below HB.out (Nat.le_refl _)) (HP.out.below HB.out (Nat.le_refl _)) rfl HE.out HK.out).mono ?_; rintro e wk2 ⟨A5, c5, rfl, hf5, hb⟩
  clear d0 d1 hb0
  clear hz
  have HBx := Lib.hid (HB.out.trans (hb.mono HB.out.size))
  have HNx := Lib.hid (HN.out.go hb)
  clear hb hn_0 hn_1 hn_2 hn_3 hn_4 HB HN 
  have HB := HBx; have HN := HNx
  clear HBx HNx
  have hz := HB.out.size
  obtain ⟨hn_0, hn_1, hn_2, hn_3, hn_4⟩ := HN.out.two
  have HFR := Lib.hid hf5
  clear hf5
  go_wp2_with fail
  refine (rleast_yes A5 c5 _ R ma wk2.heap.size _ (Nat.le_refl _) HFR.out rfl HR6.out HRI.out HMA.out).mono ?_; rintro e wk3 ⟨rfl, hb⟩
  clear hz
  have HBx := Lib.hid (HB.out.trans (hb.mono HB.out.size))
  have HNx := Lib.hid (HN.out.go hb)
  have HFRx := Lib.hid (HFR.out.at' hb)
  clear hb hn_0 hn_1 hn_2 hn_3 hn_4 HB HN HFR 
  have HB := HBx; have HN := HNx; have HFR := HFRx
  clear HBx HNx HFRx
  have hz := HB.out.size
  obtain ⟨hn_0, hn_1, hn_2, hn_3, hn_4⟩ := HN.out.two
  obtain ⟨wk4, hwk⟩ : ∃ x, x = wk3.alloc (.cells #[.int .i64 ma.num, .int .i64 ma.den] 28) := ⟨_, rfl⟩
  have hb : Below wk3.heap.size wk3 wk4 := by rw [hwk]; exact (Below.refl _ _).alloc (Nat.le_refl _) _
  have HX : Hid (Blk wk4 wk3.heap.size 28 #[.int .i64 ma.num, .int .i64 ma.den]) := Lib.hid (by rw [hwk]; exact Blk.new _ _ _)
  go_upto_region 8 with (fail)
  rw [← hwk]
  clear hwk hz
  obtain ⟨gHX, hgk⟩ : ∃ x, x = wk3.heap.size := ⟨_, rfl⟩
  rw [← hgk] at HX ⊢
  clear hgk
  have HBx := Lib.hid (HB.out.trans (hb.mono HB.out.size))
  have HNx := Lib.hid (HN.out.go hb)
  have HFRx := Lib.hid (HFR.out.at' hb)
  clear hb hn_0 hn_1 hn_2 hn_3 hn_4 HB HN HFR 
  have HB := HBx; have HN := HNx; have HFR := HFRx
  clear HBx HNx HFRx
  have hz := HB.out.size
  obtain ⟨hn_0, hn_1, hn_2, hn_3, hn_4⟩ := HN.out.two
  obtain ⟨hx_0, hx_1, hx_2, hx_3, hx_4⟩ := HX.out.two
  go_wp2_with fail
  refine (more_er C cc caps P cp _ paths A c path w.heap.size _ e1 hz (HC.out.below HB.out (Nat.le_refl _)) (HP.out.below HB.out (Nat.le_refl _)) (HI.out.below HB.out (Nat.le_refl _)) rfl HM.out H1.out).mono ?_; rintro e wk5 ⟨rfl, hb⟩
  clear hz
  have HBx := Lib.hid (HB.out.trans (hb.mono HB.out.size))
  have HNx := Lib.hid (HN.out.go hb)
  have HXx := Lib.hid (HX.out.go hb)
  have HFRx := Lib.hid (HFR.out.at' hb)
  clear hb hn_0 hn_1 hn_2 hn_3 hn_4 hx_0 hx_1 hx_2 hx_3 hx_4 HB HN HX HFR 
  have HB := HBx; have HN := HNx; have HX := HXx; have HFR := HFRx
  clear HBx HNx HXx HFRx
  have hz := HB.out.size
  obtain ⟨hn_0, hn_1, hn_2, hn_3, hn_4⟩ := HN.out.two
  obtain ⟨hx_0, hx_1, hx_2, hx_3, hx_4⟩ := HX.out.two
  go_wp2_with fail
  refine (fewer_ok' C cc caps P cp paths flow w.heap.size _ K2 R2 hz (HC.out.below HB.out (Nat.le_refl _)) (HP.out.below HB.out (Nat.le_refl _)) HF.out HK2.out).mono ?_; rintro e wk6 ⟨A7, c7, rfl, hf7, hb⟩
  clear hz
  have HBx := Lib.hid (HB.out.trans (hb.mono HB.out.size))
  have HNx := Lib.hid (HN.out.go hb)
  have HXx := Lib.hid (HX.out.go hb)
  have HFRx := Lib.hid (HFR.out.at' hb)
  clear hb hn_0 hn_1 hn_2 hn_3 hn_4 hx_0 hx_1 hx_2 hx_3 hx_4 HB HN HX HFR 
  have HB := HBx; have HN := HNx; have HX := HXx; have HFR := HFRx
  clear HBx HNx HXx HFRx
  have hz := HB.out.size
  obtain ⟨hn_0, hn_1, hn_2, hn_3, hn_4⟩ := HN.out.two
  obtain ⟨hx_0, hx_1, hx_2, hx_3, hx_4⟩ := HX.out.two
  have HFT := Lib.hid hf7
  clear hf7
  go_wp2_with fail
  refine (rleast_yes A7 c7 _ R2 mc wk6.heap.size _ (Nat.le_refl _) HFT.out rfl H62.out HI2.out HMC.out).mono ?_; rintro e wk7 ⟨rfl, hb⟩
  clear hz
  have HBx := Lib.hid (HB.out.trans (hb.mono HB.out.size))
  have HNx := Lib.hid (HN.out.go hb)
  have HXx := Lib.hid (HX.out.go hb)
  have HFRx := Lib.hid (HFR.out.at' hb)
  have HFTx := Lib.hid (HFT.out.at' hb)
  clear hb hn_0 hn_1 hn_2 hn_3 hn_4 hx_0 hx_1 hx_2 hx_3 hx_4 HB HN HX HFR HFT 
  have HB := HBx; have HN := HNx; have HX := HXx; have HFR := HFRx; have HFT := HFTx
  clear HBx HNx HXx HFRx HFTx
  have hz := HB.out.size
  obtain ⟨hn_0, hn_1, hn_2, hn_3, hn_4⟩ := HN.out.two
  obtain ⟨hx_0, hx_1, hx_2, hx_3, hx_4⟩ := HX.out.two
  obtain ⟨wk8, hwk⟩ : ∃ x, x = wk7.alloc (.cells #[.int .i64 mc.num, .int .i64 mc.den] 28) := ⟨_, rfl⟩
  have hb : Below wk7.heap.size wk7 wk8 := by rw [hwk]; exact (Below.refl _ _).alloc (Nat.le_refl _) _
  have HZ : Hid (Blk wk8 wk7.heap.size 28 #[.int .i64 mc.num, .int .i64 mc.den]) := Lib.hid (by rw [hwk]; exact Blk.new _ _ _)
  go_upto_region 19 with (fail)
  rw [← hwk]
  clear hwk hz
  obtain ⟨gHZ, hgk⟩ : ∃ x, x = wk7.heap.size := ⟨_, rfl⟩
  rw [← hgk] at HZ ⊢
  clear hgk
  have HBx := Lib.hid (HB.out.trans (hb.mono HB.out.size))
  have HNx := Lib.hid (HN.out.go hb)
  have HXx := Lib.hid (HX.out.go hb)
  have HFRx := Lib.hid (HFR.out.at' hb)
  have HFTx := Lib.hid (HFT.out.at' hb)
  clear hb hn_0 hn_1 hn_2 hn_3 hn_4 hx_0 hx_1 hx_2 hx_3 hx_4 HB HN HX HFR HFT 
  have HB := HBx; have HN := HNx; have HX := HXx; have HFR := HFRx; have HFT := HFTx
  clear HBx HNx HXx HFRx HFTx
  have hz := HB.out.size
  obtain ⟨hn_0, hn_1, hn_2, hn_3, hn_4⟩ := HN.out.two
  obtain ⟨hx_0, hx_1, hx_2, hx_3, hx_4⟩ := HX.out.two
  obtain ⟨hz_0, hz_1, hz_2, hz_3, hz_4⟩ := HZ.out.two
  go_wp2_with fail
  refine (fcompare_q mc ma k2 _ HMCI.out HMAI.out HKK2.out).mono ?_; rintro e wk9 ⟨rfl, hb⟩
  clear hz
  have HBx := Lib.hid (HB.out.trans (hb.mono HB.out.size))
  have HNx := Lib.hid (HN.out.go hb)
  have HXx := Lib.hid (HX.out.go hb)
  have HZx := Lib.hid (HZ.out.go hb)
  have HFRx := Lib.hid (HFR.out.at' hb)
  have HFTx := Lib.hid (HFT.out.at' hb)
  clear hb hn_0 hn_1 hn_2 hn_3 hn_4 hx_0 hx_1 hx_2 hx_3 hx_4 hz_0 hz_1 hz_2 hz_3 hz_4 HB HN HX HZ HFR HFT 
  have HB := HBx; have HN := HNx; have HX := HXx; have HZ := HZx; have HFR := HFRx; have HFT := HFTx
  clear HBx HNx HXx HZx HFRx HFTx
  have hz := HB.out.size
  obtain ⟨hn_0, hn_1, hn_2, hn_3, hn_4⟩ := HN.out.two
  obtain ⟨hx_0, hx_1, hx_2, hx_3, hx_4⟩ := HX.out.two
  obtain ⟨hz_0, hz_1, hz_2, hz_3, hz_4⟩ := HZ.out.two
  go_wp2_with fail
  refine (wider_er' C cc caps P cp paths link by_ w.heap.size _ e3 hz (HC.out.below HB.out (Nat.le_refl _)) (HP.out.below HB.out (Nat.le_refl _)) HD.out H3.out).mono ?_; rintro e wk10 ⟨A8, c8, rfl, hb⟩
  clear hz
  have HBx := Lib.hid (HB.out.trans (hb.mono HB.out.size))
  have HNx := Lib.hid (HN.out.go hb)
  have HXx := Lib.hid (HX.out.go hb)
  have HZx := Lib.hid (HZ.out.go hb)
  have HFRx := Lib.hid (HFR.out.at' hb)
  have HFTx := Lib.hid (HFT.out.at' hb)
  clear hb hn_0 hn_1 hn_2 hn_3 hn_4 hx_0 hx_1 hx_2 hx_3 hx_4 hz_0 hz_1 hz_2 hz_3 hz_4 HB HN HX HZ HFR HFT 
  have HB := HBx; have HN := HNx; have HX := HXx; have HZ := HZx; have HFR := HFRx; have HFT := HFTx
  clear HBx HNx HXx HZx HFRx HFTx
  have hz := HB.out.size
  obtain ⟨hn_0, hn_1, hn_2, hn_3, hn_4⟩ := HN.out.two
  obtain ⟨hx_0, hx_1, hx_2, hx_3, hx_4⟩ := HX.out.two
  obtain ⟨hz_0, hz_1, hz_2, hz_3, hz_4⟩ := HZ.out.two
  go_wp2
  go_ret
  exact ⟨rfl, HB.out⟩
set_option maxHeartbeats 16000000 in
set_option maxRecDepth 100000 in
theorem growLess_001 (C : Option Addr) (cc : Nat) (caps : List Int) (P : Option Addr) (cp : Nat) (paths : List (List Int)) (A : Option Addr) (c : Nat) (path : List Int) (flow link by_ : Int) (w : World) (hc : Ints w w.heap.size C cc caps) (hp : Rows2 w w.heap.size P cp paths) (hi : Ints w w.heap.size A c path) (he : netErr caps paths = 0) (K : Nat) (R : List Rat) (hK : FillEnds caps paths K R) (e1 : Int) (hm : addErr caps paths path = e1) (h1 : e1 ≠ 0) (e2 : Int) (hf : dropErr caps paths flow = e2) (h2 : e2 ≠ 0) (K3 : Nat) (R3 : List Rat) (hd : widerErr caps paths link by_ = 0) (hK3 : FillEnds (caps.set link.toNat (caps.getD link.toNat 0 + by_)) paths K3 R3) :
    Calls Try.prog 9 #[.agg #[.slice C caps.length cc, .slice P paths.length cp], .slice A path.length c, .int .i64 flow, .int .i64 link, .int .i64 by_] w fun e w' => e = .returned (.bool true) ∧ Below w.heap.size w w' := by
  have ok := netOk_of he
  have hRl := hK.len ok
  have hRi : ∀ q ∈ R, QIn q := fun q h => (hK.rates ok q h).1
  have h6 := ok.F1; have hF0 := ok.F0
  obtain ⟨ma, hma⟩ := srt_head (Q := R) (by omega)
  have HE := Lib.hid he; have HK := Lib.hid hK; have HRI := Lib.hid hRi; have HMA := Lib.hid hma; have HMAI := Lib.hid (hRi ma (QS.head_le hma).1)
  have HR6 : Hid (R.length ≤ 6) := Lib.hid (by omega)
  have hr6 : R.length ≤ 6 := by omega
  have hr0 : 0 < R.length := by omega
  have HM := Lib.hid hm; have H1 := Lib.hid h1
  clear hm h1
  have HF := Lib.hid hf; have H2 := Lib.hid h2
  clear hf h2
  have ok3 := netOk_of (widerErr_ok hd)
  have hl3 := hK3.len ok3
  have hi3 : ∀ q ∈ R3, QIn q := fun q h => (hK3.rates ok3 q h).1
  obtain ⟨o, ho⟩ : ∃ o, MM.lex (MM.srt R3) (MM.srt R) = o := ⟨_, rfl⟩
  have ho' : decide (0 ≤ o) = true := decide_eq_true (by rw [← ho]; exact wider_lex ok ok3 (by rw [List.length_set]) (wider_le hd) hK hK3)
  have HD := Lib.hid hd; have HK3 := Lib.hid hK3; have HI3 := Lib.hid hi3; have HO := Lib.hid ho; have H63 : Hid (R3.length ≤ 6) := Lib.hid (by omega); have HL3 : Hid (R3.length = R.length) := Lib.hid (by omega)
  clear hd hK3 hl3 hi3 ho ok3
  clear he hK hRi hma hRl h6 hF0 ok
  have HC := Lib.hid hc; have HP := Lib.hid hp; have HI := Lib.hid hi
  have him := hi.cap; have hil := hi.le
  unfold maxLen at him
  clear hc hp hi
  have HN0 := Lib.hid (Blk.new w 25 #[.slice C caps.length cc, .slice P paths.length cp])
  have HB0 := Lib.hid ((Below.refl w.heap.size w).alloc (Nat.le_refl _) (.cells #[.slice C caps.length cc, .slice P paths.length cp] 25))
  obtain ⟨wk0, hwk⟩ : ∃ x, x = w.alloc (.cells #[.slice C caps.length cc, .slice P paths.length cp] 25) := ⟨_, rfl⟩
  rw [← hwk] at HN0 HB0
  have HB := HB0; have HN := HN0
  clear HB0 HN0
  have hz := HB.out.size
  go_enter Try.func9, Try.ntmps9
  go_upto_region 1 with (fail)
  rw [← hwk]
  clear hwk
  obtain ⟨hn_0, hn_1, hn_2, hn_3, hn_4⟩ := HN.out.two
  go_wp2_with fail
  refine (growLess_fact wk0).mono ?_; rintro e wk1 ⟨A0, c0, rfl, ⟨b0, off0, rfl, hb0, d0, d1⟩, hb⟩
  clear hz
  have HBx := Lib.hid (HB.out.trans (hb.mono HB.out.size))
  have HNx := Lib.hid (HN.out.go hb)
  clear hb hn_0 hn_1 hn_2 hn_3 hn_4 HB HN 
  have HB := HBx; have HN := HNx
  clear HBx HNx
  have hz := HB.out.size
  obtain ⟨hn_0, hn_1, hn_2, hn_3, hn_4⟩ := HN.out.two
  go_wp2_with fail
  refine (frates_yes C cc caps P cp _ paths w.heap.size _ K R hz (HC.out.below HB.out (Nat.le_refl _)) (HP.out.below HB.out (Nat.le_refl _)) rfl HE.out HK.out).mono ?_; rintro e wk2 ⟨A5, c5, rfl, hf5, hb⟩
  clear d0 d1 hb0
  clear hz
  have HBx := Lib.hid (HB.out.trans (hb.mono HB.out.size))
  have HNx := Lib.hid (HN.out.go hb)
  clear hb hn_0 hn_1 hn_2 hn_3 hn_4 HB HN 
  have HB := HBx; have HN := HNx
  clear HBx HNx
  have hz := HB.out.size
  obtain ⟨hn_0, hn_1, hn_2, hn_3, hn_4⟩ := HN.out.two
  have HFR := Lib.hid hf5
  clear hf5
  go_wp2_with fail
  refine (rleast_yes A5 c5 _ R ma wk2.heap.size _ (Nat.le_refl _) HFR.out rfl HR6.out HRI.out HMA.out).mono ?_; rintro e wk3 ⟨rfl, hb⟩
  clear hz
  have HBx := Lib.hid (HB.out.trans (hb.mono HB.out.size))
  have HNx := Lib.hid (HN.out.go hb)
  have HFRx := Lib.hid (HFR.out.at' hb)
  clear hb hn_0 hn_1 hn_2 hn_3 hn_4 HB HN HFR 
  have HB := HBx; have HN := HNx; have HFR := HFRx
  clear HBx HNx HFRx
  have hz := HB.out.size
  obtain ⟨hn_0, hn_1, hn_2, hn_3, hn_4⟩ := HN.out.two
  obtain ⟨wk4, hwk⟩ : ∃ x, x = wk3.alloc (.cells #[.int .i64 ma.num, .int .i64 ma.den] 28) := ⟨_, rfl⟩
  have hb : Below wk3.heap.size wk3 wk4 := by rw [hwk]; exact (Below.refl _ _).alloc (Nat.le_refl _) _
  have HX : Hid (Blk wk4 wk3.heap.size 28 #[.int .i64 ma.num, .int .i64 ma.den]) := Lib.hid (by rw [hwk]; exact Blk.new _ _ _)
  go_upto_region 8 with (fail)
  rw [← hwk]
  clear hwk hz
  obtain ⟨gHX, hgk⟩ : ∃ x, x = wk3.heap.size := ⟨_, rfl⟩
  rw [← hgk] at HX ⊢
  clear hgk
  have HBx := Lib.hid (HB.out.trans (hb.mono HB.out.size))
  have HNx := Lib.hid (HN.out.go hb)
  have HFRx := Lib.hid (HFR.out.at' hb)
  clear hb hn_0 hn_1 hn_2 hn_3 hn_4 HB HN HFR 
  have HB := HBx; have HN := HNx; have HFR := HFRx
  clear HBx HNx HFRx
  have hz := HB.out.size
  obtain ⟨hn_0, hn_1, hn_2, hn_3, hn_4⟩ := HN.out.two
  obtain ⟨hx_0, hx_1, hx_2, hx_3, hx_4⟩ := HX.out.two
  go_wp2_with fail
  refine (more_er C cc caps P cp _ paths A c path w.heap.size _ e1 hz (HC.out.below HB.out (Nat.le_refl _)) (HP.out.below HB.out (Nat.le_refl _)) (HI.out.below HB.out (Nat.le_refl _)) rfl HM.out H1.out).mono ?_; rintro e wk5 ⟨rfl, hb⟩
  clear hz
  have HBx := Lib.hid (HB.out.trans (hb.mono HB.out.size))
  have HNx := Lib.hid (HN.out.go hb)
  have HXx := Lib.hid (HX.out.go hb)
  have HFRx := Lib.hid (HFR.out.at' hb)
  clear hb hn_0 hn_1 hn_2 hn_3 hn_4 hx_0 hx_1 hx_2 hx_3 hx_4 HB HN HX HFR 
  have HB := HBx; have HN := HNx; have HX := HXx; have HFR := HFRx
  clear HBx HNx HXx HFRx
  have hz := HB.out.size
  obtain ⟨hn_0, hn_1, hn_2, hn_3, hn_4⟩ := HN.out.two
  obtain ⟨hx_0, hx_1, hx_2, hx_3, hx_4⟩ := HX.out.two
  go_wp2_with fail
  refine (fewer_er C cc caps P cp _ paths flow w.heap.size _ e2 hz (HC.out.below HB.out (Nat.le_refl _)) (HP.out.below HB.out (Nat.le_refl _)) rfl HF.out H2.out).mono ?_; rintro e wk6 ⟨rfl, hb⟩
  clear hz
  have HBx := Lib.hid (HB.out.trans (hb.mono HB.out.size))
  have HNx := Lib.hid (HN.out.go hb)
  have HXx := Lib.hid (HX.out.go hb)
  have HFRx := Lib.hid (HFR.out.at' hb)
  clear hb hn_0 hn_1 hn_2 hn_3 hn_4 hx_0 hx_1 hx_2 hx_3 hx_4 HB HN HX HFR 
  have HB := HBx; have HN := HNx; have HX := HXx; have HFR := HFRx
  clear HBx HNx HXx HFRx
  have hz := HB.out.size
  obtain ⟨hn_0, hn_1, hn_2, hn_3, hn_4⟩ := HN.out.two
  obtain ⟨hx_0, hx_1, hx_2, hx_3, hx_4⟩ := HX.out.two
  go_wp2_with fail
  refine (wider_ok' C cc caps P cp paths link by_ w.heap.size _ K3 R3 hz (HC.out.below HB.out (Nat.le_refl _)) (HP.out.below HB.out (Nat.le_refl _)) HD.out HK3.out).mono ?_; rintro e wk7 ⟨A8, c8, rfl, hf8, hb⟩
  clear hz
  have HBx := Lib.hid (HB.out.trans (hb.mono HB.out.size))
  have HNx := Lib.hid (HN.out.go hb)
  have HXx := Lib.hid (HX.out.go hb)
  have HFRx := Lib.hid (HFR.out.at' hb)
  clear hb hn_0 hn_1 hn_2 hn_3 hn_4 hx_0 hx_1 hx_2 hx_3 hx_4 HB HN HX HFR 
  have HB := HBx; have HN := HNx; have HX := HXx; have HFR := HFRx
  clear HBx HNx HXx HFRx
  have hz := HB.out.size
  obtain ⟨hn_0, hn_1, hn_2, hn_3, hn_4⟩ := HN.out.two
  obtain ⟨hx_0, hx_1, hx_2, hx_3, hx_4⟩ := HX.out.two
  have HFU := Lib.hid hf8
  clear hf8
  go_wp2_with fail
  refine (rcmp_yes A8 A5 c8 c5 _ _ R3 R o wk7.heap.size _ (Nat.le_refl _) HFU.out HFR.out rfl rfl HL3.out H63.out HI3.out HRI.out HO.out).mono ?_; rintro e wk8 ⟨rfl, hb⟩
  clear hz
  have HBx := Lib.hid (HB.out.trans (hb.mono HB.out.size))
  have HNx := Lib.hid (HN.out.go hb)
  have HXx := Lib.hid (HX.out.go hb)
  have HFRx := Lib.hid (HFR.out.at' hb)
  have HFUx := Lib.hid (HFU.out.at' hb)
  clear hb hn_0 hn_1 hn_2 hn_3 hn_4 hx_0 hx_1 hx_2 hx_3 hx_4 HB HN HX HFR HFU 
  have HB := HBx; have HN := HNx; have HX := HXx; have HFR := HFRx; have HFU := HFUx
  clear HBx HNx HXx HFRx HFUx
  have hz := HB.out.size
  obtain ⟨hn_0, hn_1, hn_2, hn_3, hn_4⟩ := HN.out.two
  obtain ⟨hx_0, hx_1, hx_2, hx_3, hx_4⟩ := HX.out.two
  go_wp2
  go_ret
  exact ⟨rfl, HB.out⟩
set_option maxHeartbeats 16000000 in
set_option maxRecDepth 100000 in
theorem growLess_000 (C : Option Addr) (cc : Nat) (caps : List Int) (P : Option Addr) (cp : Nat) (paths : List (List Int)) (A : Option Addr) (c : Nat) (path : List Int) (flow link by_ : Int) (w : World) (hc : Ints w w.heap.size C cc caps) (hp : Rows2 w w.heap.size P cp paths) (hi : Ints w w.heap.size A c path) (he : netErr caps paths = 0) (K : Nat) (R : List Rat) (hK : FillEnds caps paths K R) (e1 : Int) (hm : addErr caps paths path = e1) (h1 : e1 ≠ 0) (e2 : Int) (hf : dropErr caps paths flow = e2) (h2 : e2 ≠ 0) (e3 : Int) (hd : widerErr caps paths link by_ = e3) (h3 : e3 ≠ 0) :
    Calls Try.prog 9 #[.agg #[.slice C caps.length cc, .slice P paths.length cp], .slice A path.length c, .int .i64 flow, .int .i64 link, .int .i64 by_] w fun e w' => e = .returned (.bool true) ∧ Below w.heap.size w w' := by
  have ok := netOk_of he
  have hRl := hK.len ok
  have hRi : ∀ q ∈ R, QIn q := fun q h => (hK.rates ok q h).1
  have h6 := ok.F1; have hF0 := ok.F0
  obtain ⟨ma, hma⟩ := srt_head (Q := R) (by omega)
  have HE := Lib.hid he; have HK := Lib.hid hK; have HRI := Lib.hid hRi; have HMA := Lib.hid hma; have HMAI := Lib.hid (hRi ma (QS.head_le hma).1)
  have HR6 : Hid (R.length ≤ 6) := Lib.hid (by omega)
  have hr6 : R.length ≤ 6 := by omega
  have hr0 : 0 < R.length := by omega
  have HM := Lib.hid hm; have H1 := Lib.hid h1
  clear hm h1
  have HF := Lib.hid hf; have H2 := Lib.hid h2
  clear hf h2
  have HD := Lib.hid hd; have H3 := Lib.hid h3
  clear hd h3
  clear he hK hRi hma hRl h6 hF0 ok
  have HC := Lib.hid hc; have HP := Lib.hid hp; have HI := Lib.hid hi
  have him := hi.cap; have hil := hi.le
  unfold maxLen at him
  clear hc hp hi
  have HN0 := Lib.hid (Blk.new w 25 #[.slice C caps.length cc, .slice P paths.length cp])
  have HB0 := Lib.hid ((Below.refl w.heap.size w).alloc (Nat.le_refl _) (.cells #[.slice C caps.length cc, .slice P paths.length cp] 25))
  obtain ⟨wk0, hwk⟩ : ∃ x, x = w.alloc (.cells #[.slice C caps.length cc, .slice P paths.length cp] 25) := ⟨_, rfl⟩
  rw [← hwk] at HN0 HB0
  have HB := HB0; have HN := HN0
  clear HB0 HN0
  have hz := HB.out.size
  go_enter Try.func9, Try.ntmps9
  go_upto_region 1 with (fail)
  rw [← hwk]
  clear hwk
  obtain ⟨hn_0, hn_1, hn_2, hn_3, hn_4⟩ := HN.out.two
  go_wp2_with fail
  refine (growLess_fact wk0).mono ?_; rintro e wk1 ⟨A0, c0, rfl, ⟨b0, off0, rfl, hb0, d0, d1⟩, hb⟩
  clear hz
  have HBx := Lib.hid (HB.out.trans (hb.mono HB.out.size))
  have HNx := Lib.hid (HN.out.go hb)
  clear hb hn_0 hn_1 hn_2 hn_3 hn_4 HB HN 
  have HB := HBx; have HN := HNx
  clear HBx HNx
  have hz := HB.out.size
  obtain ⟨hn_0, hn_1, hn_2, hn_3, hn_4⟩ := HN.out.two
  go_wp2_with fail
  refine (frates_yes C cc caps P cp _ paths w.heap.size _ K R hz (HC.out.below HB.out (Nat.le_refl _)) (HP.out.below HB.out (Nat.le_refl _)) rfl HE.out HK.out).mono ?_; rintro e wk2 ⟨A5, c5, rfl, hf5, hb⟩
  clear d0 d1 hb0
  clear hz
  have HBx := Lib.hid (HB.out.trans (hb.mono HB.out.size))
  have HNx := Lib.hid (HN.out.go hb)
  clear hb hn_0 hn_1 hn_2 hn_3 hn_4 HB HN 
  have HB := HBx; have HN := HNx
  clear HBx HNx
  have hz := HB.out.size
  obtain ⟨hn_0, hn_1, hn_2, hn_3, hn_4⟩ := HN.out.two
  have HFR := Lib.hid hf5
  clear hf5
  go_wp2_with fail
  refine (rleast_yes A5 c5 _ R ma wk2.heap.size _ (Nat.le_refl _) HFR.out rfl HR6.out HRI.out HMA.out).mono ?_; rintro e wk3 ⟨rfl, hb⟩
  clear hz
  have HBx := Lib.hid (HB.out.trans (hb.mono HB.out.size))
  have HNx := Lib.hid (HN.out.go hb)
  have HFRx := Lib.hid (HFR.out.at' hb)
  clear hb hn_0 hn_1 hn_2 hn_3 hn_4 HB HN HFR 
  have HB := HBx; have HN := HNx; have HFR := HFRx
  clear HBx HNx HFRx
  have hz := HB.out.size
  obtain ⟨hn_0, hn_1, hn_2, hn_3, hn_4⟩ := HN.out.two
  obtain ⟨wk4, hwk⟩ : ∃ x, x = wk3.alloc (.cells #[.int .i64 ma.num, .int .i64 ma.den] 28) := ⟨_, rfl⟩
  have hb : Below wk3.heap.size wk3 wk4 := by rw [hwk]; exact (Below.refl _ _).alloc (Nat.le_refl _) _
  have HX : Hid (Blk wk4 wk3.heap.size 28 #[.int .i64 ma.num, .int .i64 ma.den]) := Lib.hid (by rw [hwk]; exact Blk.new _ _ _)
  go_upto_region 8 with (fail)
  rw [← hwk]
  clear hwk hz
  obtain ⟨gHX, hgk⟩ : ∃ x, x = wk3.heap.size := ⟨_, rfl⟩
  rw [← hgk] at HX ⊢
  clear hgk
  have HBx := Lib.hid (HB.out.trans (hb.mono HB.out.size))
  have HNx := Lib.hid (HN.out.go hb)
  have HFRx := Lib.hid (HFR.out.at' hb)
  clear hb hn_0 hn_1 hn_2 hn_3 hn_4 HB HN HFR 
  have HB := HBx; have HN := HNx; have HFR := HFRx
  clear HBx HNx HFRx
  have hz := HB.out.size
  obtain ⟨hn_0, hn_1, hn_2, hn_3, hn_4⟩ := HN.out.two
  obtain ⟨hx_0, hx_1, hx_2, hx_3, hx_4⟩ := HX.out.two
  go_wp2_with fail
  refine (more_er C cc caps P cp _ paths A c path w.heap.size _ e1 hz (HC.out.below HB.out (Nat.le_refl _)) (HP.out.below HB.out (Nat.le_refl _)) (HI.out.below HB.out (Nat.le_refl _)) rfl HM.out H1.out).mono ?_; rintro e wk5 ⟨rfl, hb⟩
  clear hz
  have HBx := Lib.hid (HB.out.trans (hb.mono HB.out.size))
  have HNx := Lib.hid (HN.out.go hb)
  have HXx := Lib.hid (HX.out.go hb)
  have HFRx := Lib.hid (HFR.out.at' hb)
  clear hb hn_0 hn_1 hn_2 hn_3 hn_4 hx_0 hx_1 hx_2 hx_3 hx_4 HB HN HX HFR 
  have HB := HBx; have HN := HNx; have HX := HXx; have HFR := HFRx
  clear HBx HNx HXx HFRx
  have hz := HB.out.size
  obtain ⟨hn_0, hn_1, hn_2, hn_3, hn_4⟩ := HN.out.two
  obtain ⟨hx_0, hx_1, hx_2, hx_3, hx_4⟩ := HX.out.two
  go_wp2_with fail
  refine (fewer_er C cc caps P cp _ paths flow w.heap.size _ e2 hz (HC.out.below HB.out (Nat.le_refl _)) (HP.out.below HB.out (Nat.le_refl _)) rfl HF.out H2.out).mono ?_; rintro e wk6 ⟨rfl, hb⟩
  clear hz
  have HBx := Lib.hid (HB.out.trans (hb.mono HB.out.size))
  have HNx := Lib.hid (HN.out.go hb)
  have HXx := Lib.hid (HX.out.go hb)
  have HFRx := Lib.hid (HFR.out.at' hb)
  clear hb hn_0 hn_1 hn_2 hn_3 hn_4 hx_0 hx_1 hx_2 hx_3 hx_4 HB HN HX HFR 
  have HB := HBx; have HN := HNx; have HX := HXx; have HFR := HFRx
  clear HBx HNx HXx HFRx
  have hz := HB.out.size
  obtain ⟨hn_0, hn_1, hn_2, hn_3, hn_4⟩ := HN.out.two
  obtain ⟨hx_0, hx_1, hx_2, hx_3, hx_4⟩ := HX.out.two
  go_wp2_with fail
  refine (wider_er' C cc caps P cp paths link by_ w.heap.size _ e3 hz (HC.out.below HB.out (Nat.le_refl _)) (HP.out.below HB.out (Nat.le_refl _)) HD.out H3.out).mono ?_; rintro e wk7 ⟨A8, c8, rfl, hb⟩
  clear hz
  have HBx := Lib.hid (HB.out.trans (hb.mono HB.out.size))
  have HNx := Lib.hid (HN.out.go hb)
  have HXx := Lib.hid (HX.out.go hb)
  have HFRx := Lib.hid (HFR.out.at' hb)
  clear hb hn_0 hn_1 hn_2 hn_3 hn_4 hx_0 hx_1 hx_2 hx_3 hx_4 HB HN HX HFR 
  have HB := HBx; have HN := HNx; have HX := HXx; have HFR := HFRx
  clear HBx HNx HXx HFRx
  have hz := HB.out.size
  obtain ⟨hn_0, hn_1, hn_2, hn_3, hn_4⟩ := HN.out.two
  obtain ⟨hx_0, hx_1, hx_2, hx_3, hx_4⟩ := HX.out.two
  go_wp2
  go_ret
  exact ⟨rfl, HB.out⟩
set_option maxHeartbeats 4000000 in
theorem growLess_walk (w : World) (C : Option Addr) (cc : Nat) (caps : List Int) (hc : Ints w w.heap.size C cc caps) (_ : ∀ n ∈ caps, (Lit.int .i64 n).wf = true) (P : Option Addr) (cp : Nat) (paths : List (List Int)) (hp : Rows2 w w.heap.size P cp paths) (_ : ∀ l ∈ paths, ∀ n ∈ l, (Lit.int .i64 n).wf = true) (A : Option Addr) (c : Nat) (path : List Int) (hi : Ints w w.heap.size A c path) (_ : ∀ n ∈ path, (Lit.int .i64 n).wf = true) (flow : Int) (_ : (Lit.int .i64 flow).wf = true) (link : Int) (_ : (Lit.int .i64 link).wf = true) (by_ : Int) (_ : (Lit.int .i64 by_).wf = true) :
    Calls Try.prog 9 #[.agg #[.slice C caps.length cc, .slice P paths.length cp], .slice A path.length c, .int .i64 flow, .int .i64 link, .int .i64 by_] w fun e w' => e = .returned (.bool true) ∧ Below w.heap.size w w' := by
  by_cases he : netErr caps paths = 0
  · obtain ⟨K, R, hK⟩ := fill_ends (netOk_of he)
    by_cases hm : addErr caps paths path = 0 <;> by_cases hf : dropErr caps paths flow = 0 <;> by_cases hd : widerErr caps paths link by_ = 0
    · obtain ⟨K1, R1, hK1⟩ := fill_ends (netOk_of (addErr_ok hm).2.2.2)
      obtain ⟨K2, R2, hK2⟩ := fill_ends (netOk_of (dropErr_ok hf))
      obtain ⟨K3, R3, hK3⟩ := fill_ends (netOk_of (widerErr_ok hd))
      exact growLess_111 C cc caps P cp paths A c path flow link by_ w hc hp hi he K R hK K1 R1 hm hK1 K2 R2 hf hK2 K3 R3 hd hK3
    · obtain ⟨K1, R1, hK1⟩ := fill_ends (netOk_of (addErr_ok hm).2.2.2)
      obtain ⟨K2, R2, hK2⟩ := fill_ends (netOk_of (dropErr_ok hf))
      exact growLess_110 C cc caps P cp paths A c path flow link by_ w hc hp hi he K R hK K1 R1 hm hK1 K2 R2 hf hK2 _ rfl hd
    · obtain ⟨K1, R1, hK1⟩ := fill_ends (netOk_of (addErr_ok hm).2.2.2)
      obtain ⟨K3, R3, hK3⟩ := fill_ends (netOk_of (widerErr_ok hd))
      exact growLess_101 C cc caps P cp paths A c path flow link by_ w hc hp hi he K R hK K1 R1 hm hK1 _ rfl hf K3 R3 hd hK3
    · obtain ⟨K1, R1, hK1⟩ := fill_ends (netOk_of (addErr_ok hm).2.2.2)
      exact growLess_100 C cc caps P cp paths A c path flow link by_ w hc hp hi he K R hK K1 R1 hm hK1 _ rfl hf _ rfl hd
    · obtain ⟨K2, R2, hK2⟩ := fill_ends (netOk_of (dropErr_ok hf))
      obtain ⟨K3, R3, hK3⟩ := fill_ends (netOk_of (widerErr_ok hd))
      exact growLess_011 C cc caps P cp paths A c path flow link by_ w hc hp hi he K R hK _ rfl hm K2 R2 hf hK2 K3 R3 hd hK3
    · obtain ⟨K2, R2, hK2⟩ := fill_ends (netOk_of (dropErr_ok hf))
      exact growLess_010 C cc caps P cp paths A c path flow link by_ w hc hp hi he K R hK _ rfl hm K2 R2 hf hK2 _ rfl hd
    · obtain ⟨K3, R3, hK3⟩ := fill_ends (netOk_of (widerErr_ok hd))
      exact growLess_001 C cc caps P cp paths A c path flow link by_ w hc hp hi he K R hK _ rfl hm _ rfl hf K3 R3 hd hK3
    · exact growLess_000 C cc caps P cp paths A c path flow link by_ w hc hp hi he K R hK _ rfl hm _ rfl hf _ rfl hd
  · exact growLess_err C cc caps P cp paths A c path flow link by_ w hc hp hi _ rfl he
end Go.Proofs.Ytblanfaghnflkaa
