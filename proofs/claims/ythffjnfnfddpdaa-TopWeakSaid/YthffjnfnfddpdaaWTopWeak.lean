/- The walk of TopWeak: it returns true for every input. -/
import Derived.Test.YthffjnfnfddpdaaTopOne
import Derived.Test.YthffjnfnfddpdaaLibK
namespace Go.Proofs.Ythffjnfnfddpdaa
open Go.RowKit
theorem weak_all {caps : List Int} {paths : List (List Int)} {K : Nat} {R Q L : List Rat} (hn : netErr caps paths = 0) (hK : FillEnds caps paths K R) (hl : Q.length = paths.length) (hL : loadsTo paths Q caps.length = some L) (hf : fitsB caps Q L = true) {f : Nat} (hfl : f < paths.length) (hlt : R.getD f 0 < Q.getD f 0) :
    ∃ u, u < Q.length ∧ u ≠ f ∧ R.getD u 0 ≤ R.getD f 0 ∧ Q.getD u 0 < R.getD u 0 := by
  have ok := netOk_of hn
  have hfair := hK.fair ok
  have hfit := (fitsB_iff hL hl).1 hf
  obtain ⟨l, hneck⟩ := hfair.2 f hfl
  obtain ⟨u, h1, h2, h3, h4⟩ := MM.weak (r := rateOf Q) hfit.cap hfl hneck hlt
  exact ⟨u, by rw [hl]; exact h1, h2, h3, h4⟩
theorem ord_pos {q r : Rat} (h : r < q) : ordQ q r = 1 := by unfold ordQ; rw [if_neg (by grind), if_pos h]
theorem ord_neg {q r : Rat} (h : q < r) : ordQ q r = -1 := by unfold ordQ; rw [if_pos h]
theorem ord_le {q r : Rat} : ordQ q r ≤ 0 ↔ q ≤ r := by
  unfold ordQ; split
  · constructor <;> intro <;> grind
  · split
    · constructor <;> intro <;> grind
    · constructor <;> intro <;> grind
theorem ord_lt {q r : Rat} : ordQ q r < 0 ↔ q < r := by
  unfold ordQ; split
  · constructor <;> intro <;> grind
  · split
    · constructor <;> intro <;> grind
    · constructor <;> intro <;> grind
theorem getD_in {Q : List Rat} (h : ∀ q ∈ Q, QIn q) {k : Nat} (hk : k < Q.length) : QIn (Q.getD k 0) := h _ (by rw [List.getD_eq_getElem?_getD, List.getElem?_eq_getElem hk]; exact List.getElem_mem hk)
set_option maxHeartbeats 16000000 in
set_option maxRecDepth 100000 in
theorem topWeak_err (C : Option Addr) (cc : Nat) (caps : List Int) (P : Option Addr) (cp : Nat) (paths : List (List Int)) (f : Int) (A : Option Addr) (c : Nat) (S : List Fr) (w : World) (hc : Ints w w.heap.size C cc caps) (hp : Rows2 w w.heap.size P cp paths) (hr : Frs w w.heap.size A c S) (er : Int) (he : netErr caps paths = er) (h0 : er ≠ 0) :
    Calls Try.prog 11 #[.agg #[.slice C caps.length cc, .slice P paths.length cp], .int .i64 f, .slice A S.length c] w fun e w' => e = .returned (.bool true) ∧ Below w.heap.size w w' := by
  have HC := Lib.hid hc; have HP := Lib.hid hp; have HR := Lib.hid hr
  have hrm := hr.cap; have hrl := hr.le
  unfold maxLen at hrm
  clear hc hp hr
  have HN0 := Lib.hid (Blk.new w 56 #[.slice C caps.length cc, .slice P paths.length cp])
  have HB0 := Lib.hid ((Below.refl w.heap.size w).alloc (Nat.le_refl _) (.cells #[.slice C caps.length cc, .slice P paths.length cp] 56))
  have HE := Lib.hid he; have H0 := Lib.hid h0
  clear he h0
  go_enter Try.func11, Try.ntmps11
  go_wp2_with fail
  refine (one_any _).mono ?_; rintro e w1 ⟨rfl, hb1⟩
  have HB1 := Lib.hid (HB0.out.trans (hb1.mono HB0.out.size)); have HN1 := Lib.hid (HN0.out.go hb1)
  have hz1 := HB1.out.size
  clear hb1 HB0 HN0
  obtain ⟨n0, n1, _, _, nz⟩ := HN1.out.two
  go_wp2_with fail
  refine (frates_no C cc caps P cp _ paths w.heap.size _ er hz1 (HC.out.below HB1.out (Nat.le_refl _)) (HP.out.below HB1.out (Nat.le_refl _)) rfl HE.out H0.out).mono ?_; rintro e w2 ⟨rfl, hb2⟩
  have HB2 := Lib.hid (HB1.out.trans (hb2.mono hz1))
  clear hb2
  go_wp2
  go_ret
  exact ⟨rfl, HB2.out⟩
set_option maxHeartbeats 16000000 in
set_option maxRecDepth 100000 in
theorem topWeak_out (C : Option Addr) (cc : Nat) (caps : List Int) (P : Option Addr) (cp : Nat) (paths : List (List Int)) (f : Int) (A : Option Addr) (c : Nat) (S : List Fr) (w : World) (hc : Ints w w.heap.size C cc caps) (hp : Rows2 w w.heap.size P cp paths) (hr : Frs w w.heap.size A c S) (he : netErr caps paths = 0) (hf : f < 0 ∨ (paths.length : Int) ≤ f) :
    Calls Try.prog 11 #[.agg #[.slice C caps.length cc, .slice P paths.length cp], .int .i64 f, .slice A S.length c] w fun e w' => e = .returned (.bool true) ∧ Below w.heap.size w w' := by
  have HC := Lib.hid hc; have HP := Lib.hid hp; have HR := Lib.hid hr
  have hrm := hr.cap; have hrl := hr.le
  unfold maxLen at hrm
  clear hc hp hr
  have HN0 := Lib.hid (Blk.new w 56 #[.slice C caps.length cc, .slice P paths.length cp])
  have HB0 := Lib.hid ((Below.refl w.heap.size w).alloc (Nat.le_refl _) (.cells #[.slice C caps.length cc, .slice P paths.length cp] 56))
  obtain ⟨K, R, hK⟩ := fill_ends (netOk_of he)
  have hRl := hK.len (netOk_of he)
  have hf' : f < 0 ∨ (R.length : Int) ≤ f := by omega
  have HE := Lib.hid he; have HK := Lib.hid hK
  clear he hK hf hRl
  go_enter Try.func11, Try.ntmps11
  go_wp2_with fail
  refine (one_any _).mono ?_; rintro e w1 ⟨rfl, hb1⟩
  have HB1 := Lib.hid (HB0.out.trans (hb1.mono HB0.out.size)); have HN1 := Lib.hid (HN0.out.go hb1)
  have hz1 := HB1.out.size
  clear hb1 HB0 HN0
  obtain ⟨n0, n1, _, _, nz⟩ := HN1.out.two
  go_wp2_with fail
  refine (frates_yes C cc caps P cp _ paths w.heap.size _ K R hz1 (HC.out.below HB1.out (Nat.le_refl _)) (HP.out.below HB1.out (Nat.le_refl _)) rfl HE.out HK.out).mono ?_; rintro e w2 ⟨A2, c2, rfl, hf2, hb2⟩
  have HB2 := Lib.hid (HB1.out.trans (hb2.mono hz1)); have HN2 := Lib.hid (HN1.out.go hb2); have HX2 := Lib.hid hf2
  have hz2 := HB2.out.size
  have hxm := hf2.cap; have hxl := hf2.le
  rw [List.length_map] at hxl
  unfold maxLen at hxm
  clear hb2 hf2 HB1 HN1 n0 n1 nz
  obtain ⟨n0, n1, _, _, nz⟩ := HN2.out.two
  rcases hf' with hf | hf
  · go_wp2
    go_ret
    exact ⟨rfl, HB2.out⟩
  · by_cases h0 : f < 0
    · go_wp2
      go_ret
      exact ⟨rfl, HB2.out⟩
    · go_wp2
      go_ret
      exact ⟨rfl, HB2.out⟩
set_option maxHeartbeats 16000000 in
set_option maxRecDepth 100000 in
theorem topWeak_full (C : Option Addr) (cc : Nat) (caps : List Int) (P : Option Addr) (cp : Nat) (paths : List (List Int)) (f : Int) (A : Option Addr) (c : Nat) (S : List Fr) (w : World) (hc : Ints w w.heap.size C cc caps) (hp : Rows2 w w.heap.size P cp paths) (hr : Frs w w.heap.size A c S) (he : netErr caps paths = 0) (k : Nat) (hk : k < paths.length) (hfk : f = (k : Int)) (er : Int) (hx : (chkErr caps paths S = er ∧ er ≠ 0) ∨ (∃ Q : List Rat, S = Q.map frQ ∧ netErr caps paths = 0 ∧ Q.length = paths.length ∧ (∀ q ∈ Q, QIn q) ∧ loadsTo paths Q caps.length = none ∧ er = 4)) (h0 : er ≠ 0) :
    Calls Try.prog 11 #[.agg #[.slice C caps.length cc, .slice P paths.length cp], .int .i64 f, .slice A S.length c] w fun e w' => e = .returned (.bool true) ∧ Below w.heap.size w w' := by
  have HC := Lib.hid hc; have HP := Lib.hid hp; have HR := Lib.hid hr
  have hrm := hr.cap; have hrl := hr.le
  unfold maxLen at hrm
  clear hc hp hr
  have HN0 := Lib.hid (Blk.new w 56 #[.slice C caps.length cc, .slice P paths.length cp])
  have HB0 := Lib.hid ((Below.refl w.heap.size w).alloc (Nat.le_refl _) (.cells #[.slice C caps.length cc, .slice P paths.length cp] 56))
  subst hfk
  obtain ⟨K, R, hK⟩ := fill_ends (netOk_of he)
  have hRl := hK.len (netOk_of he)
  have k0 : (0 : Int) ≤ (k : Int) := by omega
  have k1 : (k : Int) < (R.length : Int) := by omega
  have hR6 : R.length ≤ 6 := by have := (netOk_of he).F1; omega
  have HE := Lib.hid he; have HK := Lib.hid hK; have HX := Lib.hid hx; have H0 := Lib.hid h0
  clear he hK hx h0 hRl
  go_enter Try.func11, Try.ntmps11
  go_wp2_with fail
  refine (one_any _).mono ?_; rintro e w1 ⟨rfl, hb1⟩
  have HB1 := Lib.hid (HB0.out.trans (hb1.mono HB0.out.size)); have HN1 := Lib.hid (HN0.out.go hb1)
  have hz1 := HB1.out.size
  clear hb1 HB0 HN0
  obtain ⟨n0, n1, _, _, nz⟩ := HN1.out.two
  go_wp2_with fail
  refine (frates_yes C cc caps P cp _ paths w.heap.size _ K R hz1 (HC.out.below HB1.out (Nat.le_refl _)) (HP.out.below HB1.out (Nat.le_refl _)) rfl HE.out HK.out).mono ?_; rintro e w2 ⟨A2, c2, rfl, hf2, hb2⟩
  have HB2 := Lib.hid (HB1.out.trans (hb2.mono hz1)); have HN2 := Lib.hid (HN1.out.go hb2); have HX2 := Lib.hid hf2
  have hz2 := HB2.out.size
  have hxm := hf2.cap; have hxl := hf2.le
  rw [List.length_map] at hxl
  unfold maxLen at hxm
  clear hb2 hf2 HB1 HN1 n0 n1 nz
  obtain ⟨n0, n1, _, _, nz⟩ := HN2.out.two
  go_wp2_with fail
  refine (fits_er C cc caps P cp _ paths A c _ S w.heap.size _ er hz2 (HC.out.below HB2.out (Nat.le_refl _)) (HP.out.below HB2.out (Nat.le_refl _)) (HR.out.below HB2.out (Nat.le_refl _)) rfl rfl HX.out).mono ?_; rintro e w3 ⟨rfl, hb3⟩
  have HB3 := Lib.hid (HB2.out.trans (hb3.mono hz2))
  have hne := H0.out
  clear hb3
  go_wp2
  go_ret
  exact ⟨rfl, HB3.out⟩
set_option maxHeartbeats 16000000 in
set_option maxRecDepth 100000 in
theorem topWeak_nofit (C : Option Addr) (cc : Nat) (caps : List Int) (P : Option Addr) (cp : Nat) (paths : List (List Int)) (f : Int) (A : Option Addr) (c : Nat) (S : List Fr) (w : World) (hc : Ints w w.heap.size C cc caps) (hp : Rows2 w w.heap.size P cp paths) (hr : Frs w w.heap.size A c S) (he : netErr caps paths = 0) (k : Nat) (hk : k < paths.length) (hfk : f = (k : Int)) (Q L : List Rat) (hS : S = Q.map frQ) (hl : Q.length = paths.length) (hq : ∀ q ∈ Q, QIn q) (hL : loadsTo paths Q caps.length = some L) (hf : fitsB caps Q L = false) :
    Calls Try.prog 11 #[.agg #[.slice C caps.length cc, .slice P paths.length cp], .int .i64 f, .slice A S.length c] w fun e w' => e = .returned (.bool true) ∧ Below w.heap.size w w' := by
  have HC := Lib.hid hc; have HP := Lib.hid hp; have HR := Lib.hid hr
  have hrm := hr.cap; have hrl := hr.le
  unfold maxLen at hrm
  clear hc hp hr
  have HN0 := Lib.hid (Blk.new w 56 #[.slice C caps.length cc, .slice P paths.length cp])
  have HB0 := Lib.hid ((Below.refl w.heap.size w).alloc (Nat.le_refl _) (.cells #[.slice C caps.length cc, .slice P paths.length cp] 56))
  subst hfk
  obtain ⟨K, R, hK⟩ := fill_ends (netOk_of he)
  have hRl := hK.len (netOk_of he)
  have k0 : (0 : Int) ≤ (k : Int) := by omega
  have k1 : (k : Int) < (R.length : Int) := by omega
  have hR6 : R.length ≤ 6 := by have := (netOk_of he).F1; omega
  subst hS
  rw [List.length_map]
  rw [List.length_map] at hrl
  have HE := Lib.hid he; have HK := Lib.hid hK; have HQL := Lib.hid hl; have HQ := Lib.hid hq; have HL := Lib.hid hL
  have HF := Lib.hid hf
  clear he hK hl hq hL hf hRl
  go_enter Try.func11, Try.ntmps11
  go_wp2_with fail
  refine (one_any _).mono ?_; rintro e w1 ⟨rfl, hb1⟩
  have HB1 := Lib.hid (HB0.out.trans (hb1.mono HB0.out.size)); have HN1 := Lib.hid (HN0.out.go hb1)
  have hz1 := HB1.out.size
  clear hb1 HB0 HN0
  obtain ⟨n0, n1, _, _, nz⟩ := HN1.out.two
  go_wp2_with fail
  refine (frates_yes C cc caps P cp _ paths w.heap.size _ K R hz1 (HC.out.below HB1.out (Nat.le_refl _)) (HP.out.below HB1.out (Nat.le_refl _)) rfl HE.out HK.out).mono ?_; rintro e w2 ⟨A2, c2, rfl, hf2, hb2⟩
  have HB2 := Lib.hid (HB1.out.trans (hb2.mono hz1)); have HN2 := Lib.hid (HN1.out.go hb2); have HX2 := Lib.hid hf2
  have hz2 := HB2.out.size
  have hxm := hf2.cap; have hxl := hf2.le
  rw [List.length_map] at hxl
  unfold maxLen at hxm
  clear hb2 hf2 HB1 HN1 n0 n1 nz
  obtain ⟨n0, n1, _, _, nz⟩ := HN2.out.two
  go_wp2_with fail
  refine (fits_yes' C cc caps P cp _ paths A c _ Q L false w.heap.size _ hz2 (HC.out.below HB2.out (Nat.le_refl _)) (HP.out.below HB2.out (Nat.le_refl _)) (HR.out.below HB2.out (Nat.le_refl _)) rfl rfl HE.out HQL.out HQ.out HL.out HF.out).mono ?_; rintro e w3 ⟨rfl, hb3⟩
  have HB3 := Lib.hid (HB2.out.trans (hb3.mono hz2)); have HX3 := Lib.hid (HX2.out.below hb3 (Nat.le_refl _)); have hz23 := hb3.size
  have hz3 := HB3.out.size
  clear hb3 HB2 HX2 HN2 n0 n1 nz
  go_wp2
  go_ret
  exact ⟨rfl, HB3.out⟩
set_option maxHeartbeats 16000000 in
set_option maxRecDepth 100000 in
theorem topWeak_fit (C : Option Addr) (cc : Nat) (caps : List Int) (P : Option Addr) (cp : Nat) (paths : List (List Int)) (f : Int) (A : Option Addr) (c : Nat) (S : List Fr) (w : World) (hc : Ints w w.heap.size C cc caps) (hp : Rows2 w w.heap.size P cp paths) (hr : Frs w w.heap.size A c S) (he : netErr caps paths = 0) (k : Nat) (hk : k < paths.length) (hfk : f = (k : Int)) (Q L : List Rat) (hS : S = Q.map frQ) (hl : Q.length = paths.length) (hq : ∀ q ∈ Q, QIn q) (hL : loadsTo paths Q caps.length = some L) (hf : fitsB caps Q L = true) :
    Calls Try.prog 11 #[.agg #[.slice C caps.length cc, .slice P paths.length cp], .int .i64 f, .slice A S.length c] w fun e w' => e = .returned (.bool true) ∧ Below w.heap.size w w' := by
  have HC := Lib.hid hc; have HP := Lib.hid hp; have HR := Lib.hid hr
  have hrm := hr.cap; have hrl := hr.le
  unfold maxLen at hrm
  clear hc hp hr
  have HN0 := Lib.hid (Blk.new w 56 #[.slice C caps.length cc, .slice P paths.length cp])
  have HB0 := Lib.hid ((Below.refl w.heap.size w).alloc (Nat.le_refl _) (.cells #[.slice C caps.length cc, .slice P paths.length cp] 56))
  subst hfk
  obtain ⟨K, R, hK⟩ := fill_ends (netOk_of he)
  have hRl := hK.len (netOk_of he)
  have k0 : (0 : Int) ≤ (k : Int) := by omega
  have k1 : (k : Int) < (R.length : Int) := by omega
  have hR6 : R.length ≤ 6 := by have := (netOk_of he).F1; omega
  subst hS
  rw [List.length_map]
  rw [List.length_map] at hrl
  have HE := Lib.hid he; have HK := Lib.hid hK; have HQL := Lib.hid hl; have HQ := Lib.hid hq; have HL := Lib.hid hL
  have HF := Lib.hid hf
  have HRI := Lib.hid fun q hq => (hK.rates (netOk_of he) q hq).1
  have HW := Lib.hid (weak_all he hK hl hL hf hk)
  have hQR : Q.length = R.length := by omega
  have HQR := Lib.hid hQR
  have hQ6 : Q.length ≤ 6 := by omega
  have k2 : (k : Int) < (Q.length : Int) := by omega
  have hne : ((Q.length : Int) != (R.length : Int)) = false := by rw [hQR]; simp
  clear he hK hl hq hL hf hRl hQR
  go_enter Try.func11, Try.ntmps11
  go_wp2_with fail
  refine (one_any _).mono ?_; rintro e w1 ⟨rfl, hb1⟩
  have HB1 := Lib.hid (HB0.out.trans (hb1.mono HB0.out.size)); have HN1 := Lib.hid (HN0.out.go hb1)
  have hz1 := HB1.out.size
  clear hb1 HB0 HN0
  obtain ⟨n0, n1, _, _, nz⟩ := HN1.out.two
  go_wp2_with fail
  refine (frates_yes C cc caps P cp _ paths w.heap.size _ K R hz1 (HC.out.below HB1.out (Nat.le_refl _)) (HP.out.below HB1.out (Nat.le_refl _)) rfl HE.out HK.out).mono ?_; rintro e w2 ⟨A2, c2, rfl, hf2, hb2⟩
  have HB2 := Lib.hid (HB1.out.trans (hb2.mono hz1)); have HN2 := Lib.hid (HN1.out.go hb2); have HX2 := Lib.hid hf2
  have hz2 := HB2.out.size
  have hxm := hf2.cap; have hxl := hf2.le
  rw [List.length_map] at hxl
  unfold maxLen at hxm
  clear hb2 hf2 HB1 HN1 n0 n1 nz
  obtain ⟨n0, n1, _, _, nz⟩ := HN2.out.two
  go_wp2_with fail
  refine (fits_yes' C cc caps P cp _ paths A c _ Q L true w.heap.size _ hz2 (HC.out.below HB2.out (Nat.le_refl _)) (HP.out.below HB2.out (Nat.le_refl _)) (HR.out.below HB2.out (Nat.le_refl _)) rfl rfl HE.out HQL.out HQ.out HL.out HF.out).mono ?_; rintro e w3 ⟨rfl, hb3⟩
  have HB3 := Lib.hid (HB2.out.trans (hb3.mono hz2)); have HX3 := Lib.hid (HX2.out.below hb3 (Nat.le_refl _)); have hz23 := hb3.size
  have hz3 := HB3.out.size
  clear hb3 HB2 HX2 HN2 n0 n1 nz
  obtain ⟨bq, oq, rfl, hbq, c0, c1⟩ := frs_q (HR.out.below HB3.out (Nat.le_refl _)) (show k < Q.length by omega)
  obtain ⟨bx, ox, rfl, hbx, d0, d1⟩ := frs_q HX3.out (show k < R.length by omega)
  have hqi := getD_in HQ.out (k := k) (by omega)
  have hxi := getD_in HRI.out (k := k) (by omega)
  obtain ⟨q, hq⟩ : ∃ q, Q.getD k 0 = q := ⟨_, rfl⟩
  obtain ⟨x, hx⟩ : ∃ x, R.getD k 0 = x := ⟨_, rfl⟩
  rw [hq] at c0 c1 hqi HW
  rw [hx] at d0 d1 hxi HW
  have HXK := Lib.hid hx
  have HXI := Lib.hid hxi
  have zq : bq < w3.heap.size := by omega
  have zx : bx < w3.heap.size := by omega
  by_cases hlt : x < q
  · have HC1 := Lib.hid fun W => fcompare_q q x 1 W hqi hxi (ord_pos hlt)
    have HW1 := Lib.hid (HW.out hlt)
    clear hq hx hqi hxi hlt HW
    go_wp2_with fail
    go_region_held3 (fun w' => w'.cell? ⟨bq, oq + k * 2, none⟩ = some (.int .i64 q.num) ∧ w'.cell? ⟨bq, oq + k * 2 + 1, none⟩ = some (.int .i64 q.den) ∧ w'.cell? ⟨bx, ox + k * 2, none⟩ = some (.int .i64 x.num) ∧ w'.cell? ⟨bx, ox + k * 2 + 1, none⟩ = some (.int .i64 x.den)) (go_keep)
      (first
        | (go_simp; go_at_call 33; refine (HC1.out _).mono ?_; rintro e w4 ⟨rfl, hbw4⟩; have HBw4 : Hid (Below w3.heap.size w3 w4) := Lib.hid (by first | exact hbw4 | exact (Below.refl _ _).drew.trans hbw4); have yy0 : w4.cell? ⟨bq, oq + k * 2, none⟩ = some (.int .i64 q.num) := (HBw4.out.cell (p := ⟨bq, oq + k * 2, none⟩) zq).trans c0; have yy1 : w4.cell? ⟨bq, oq + k * 2 + 1, none⟩ = some (.int .i64 q.den) := (HBw4.out.cell (p := ⟨bq, oq + k * 2 + 1, none⟩) zq).trans c1; have yy2 : w4.cell? ⟨bx, ox + k * 2, none⟩ = some (.int .i64 x.num) := (HBw4.out.cell (p := ⟨bx, ox + k * 2, none⟩) zx).trans d0; have yy3 : w4.cell? ⟨bx, ox + k * 2 + 1, none⟩ = some (.int .i64 x.den) := (HBw4.out.cell (p := ⟨bx, ox + k * 2 + 1, none⟩) zx).trans d1; have hzw4 := HBw4.out.size; clear hbw4; dsimp only))
    have HB5 := Lib.hid (HB3.out.trans (HBw4.out.mono hz3)); have HX5 := Lib.hid (HX3.out.below HBw4.out hz23)
    clear c0 c1 d0 d1 yy0 yy1 yy2 yy3 HB3 HX3 HC1
    have hz5 := HB5.out.size
    obtain ⟨w5, hw5⟩ : ∃ x, x = w4 := ⟨_, rfl⟩
    rw [← hw5] at HB5 HX5 hz5 ⊢
    have hz25 : w2.heap.size ≤ w5.heap.size := by rw [hw5]; omega
    clear hw5 HBw4
    go_wp2
    go_loopw [13] (fun i wr => ∃ j : Nat, j ≤ Q.length ∧ i = .int .i64 j ∧ Hid (∀ u, u < j → ¬ (u ≠ k ∧ R.getD u 0 ≤ x ∧ Q.getD u 0 < R.getD u 0)) ∧ Hid (Below w5.heap.size w5 wr)) (fun i _ => Q.length - (intOf i).toNat)
    case atStart => exact ⟨0, Nat.zero_le _, rfl, Lib.hid fun u hu => absurd hu (by omega), Lib.hid (Below.refl _ _)⟩
    case round =>
      obtain ⟨j, hj, rfl, HNO, HBJ⟩ := hrel
      have hBJ := HBJ.out.size
      by_cases hjl : j < Q.length
      · have j0 : (0 : Int) ≤ (j : Int) := by omega
        have j1 : (j : Int) < (R.length : Int) := by have := HQR.out; omega
        have hjR : j < R.length := by omega
        have HB6 := Lib.hid (HB5.out.trans (HBJ.out.mono hz5))
        obtain ⟨bq', oq', e1, hbq', c0, c1⟩ := frs_q (HR.out.below HB6.out (Nat.le_refl _)) hjl
        injection e1 with e1
        injection e1 with e1 e2
        subst e1 e2
        obtain ⟨bx', ox', e1, hbx', d0, d1⟩ := frs_q (HX5.out.below HBJ.out hz25) hjR
        injection e1 with e1
        injection e1 with e1 e2
        subst e1 e2
        obtain ⟨bx'', ox'', e1, _, f0, f1⟩ := frs_q (HX5.out.below HBJ.out hz25) (show k < R.length by omega)
        injection e1 with e1
        injection e1 with e1 e2
        subst e1 e2
        rw [HXK.out] at f0 f1
        have hqi := getD_in HQ.out hjl
        have hxi := getD_in HRI.out hjR
        have hno' : ¬ (j ≠ k ∧ R.getD j 0 ≤ x ∧ Q.getD j 0 < R.getD j 0) → ∀ u, u < j + 1 → ¬ (u ≠ k ∧ R.getD u 0 ≤ x ∧ Q.getD u 0 < R.getD u 0) := fun h u hu => by
          by_cases e : u = j
          · rw [e]; exact h
          · exact HNO.out u (by omega)
        obtain ⟨qj, hqj⟩ : ∃ q, Q.getD j 0 = q := ⟨_, rfl⟩
        obtain ⟨xj, hxj⟩ : ∃ x, R.getD j 0 = x := ⟨_, rfl⟩
        rw [hqj, hxj] at hno'
        rw [hqj] at c0 c1 hqi
        rw [hxj] at d0 d1 hxi
        have HNO' := Lib.hid hno'
        have zq : bq < wr.heap.size := by omega
        have zx : bx < wr.heap.size := by omega
        obtain ⟨oa, hoa⟩ : ∃ o, ordQ xj x = o := ⟨_, rfl⟩
        obtain ⟨ob, hob⟩ : ∃ o, ordQ qj xj = o := ⟨_, rfl⟩
        have HC1 := Lib.hid fun W => fcompare_q xj x oa W hxi HXI.out hoa
        have HC2 := Lib.hid fun W => fcompare_q qj xj ob W hqi hxi hob
        have HOA := Lib.hid hoa; have HOB := Lib.hid hob
        clear hno' hqj hxj hqi hxi hoa hob
        go_wp2_with fail
        go_region_held3 (fun w' => w'.cell? ⟨bx, ox + j * 2, none⟩ = some (.int .i64 xj.num) ∧ w'.cell? ⟨bx, ox + j * 2 + 1, none⟩ = some (.int .i64 xj.den) ∧ w'.cell? ⟨bx, ox + k * 2, none⟩ = some (.int .i64 x.num) ∧ w'.cell? ⟨bx, ox + k * 2 + 1, none⟩ = some (.int .i64 x.den)) (go_keep)
          (first
            | (go_simp; go_at_call 33; refine (HC1.out _).mono ?_; rintro e w6 ⟨rfl, hbw6⟩; have HBw6 : Hid (Below wr.heap.size wr w6) := Lib.hid (by first | exact hbw6 | exact (Below.refl _ _).drew.trans hbw6); have yy0 : w6.cell? ⟨bx, ox + j * 2, none⟩ = some (.int .i64 xj.num) := (HBw6.out.cell (p := ⟨bx, ox + j * 2, none⟩) zx).trans d0; have yy1 : w6.cell? ⟨bx, ox + j * 2 + 1, none⟩ = some (.int .i64 xj.den) := (HBw6.out.cell (p := ⟨bx, ox + j * 2 + 1, none⟩) zx).trans d1; have yy2 : w6.cell? ⟨bx, ox + k * 2, none⟩ = some (.int .i64 x.num) := (HBw6.out.cell (p := ⟨bx, ox + k * 2, none⟩) zx).trans f0; have yy3 : w6.cell? ⟨bx, ox + k * 2 + 1, none⟩ = some (.int .i64 x.den) := (HBw6.out.cell (p := ⟨bx, ox + k * 2 + 1, none⟩) zx).trans f1; have hzw6 := HBw6.out.size; clear hbw6; dsimp only))
        have g0 := (HBw6.out.cell (p := ⟨bq, oq + j * 2, none⟩) zq).trans c0
        have g1 := (HBw6.out.cell (p := ⟨bq, oq + j * 2 + 1, none⟩) zq).trans c1
        have zq6 : bq < w6.heap.size := by omega
        have zx6 : bx < w6.heap.size := by omega
        clear c0 c1 d0 d1 f0 f1
        go_wp2_with fail
        go_region_held3 (fun w' => w'.cell? ⟨bq, oq + j * 2, none⟩ = some (.int .i64 qj.num) ∧ w'.cell? ⟨bq, oq + j * 2 + 1, none⟩ = some (.int .i64 qj.den) ∧ w'.cell? ⟨bx, ox + j * 2, none⟩ = some (.int .i64 xj.num) ∧ w'.cell? ⟨bx, ox + j * 2 + 1, none⟩ = some (.int .i64 xj.den)) (go_keep)
          (first
            | (go_simp; go_at_call 33; refine (HC2.out _).mono ?_; rintro e w7 ⟨rfl, hbw7⟩; have HBw7 : Hid (Below w6.heap.size w6 w7) := Lib.hid (by first | exact hbw7 | exact (Below.refl _ _).drew.trans hbw7); have xx0 : w7.cell? ⟨bq, oq + j * 2, none⟩ = some (.int .i64 qj.num) := (HBw7.out.cell (p := ⟨bq, oq + j * 2, none⟩) zq6).trans g0; have xx1 : w7.cell? ⟨bq, oq + j * 2 + 1, none⟩ = some (.int .i64 qj.den) := (HBw7.out.cell (p := ⟨bq, oq + j * 2 + 1, none⟩) zq6).trans g1; have xx2 : w7.cell? ⟨bx, ox + j * 2, none⟩ = some (.int .i64 xj.num) := (HBw7.out.cell (p := ⟨bx, ox + j * 2, none⟩) zx6).trans yy0; have xx3 : w7.cell? ⟨bx, ox + j * 2 + 1, none⟩ = some (.int .i64 xj.den) := (HBw7.out.cell (p := ⟨bx, ox + j * 2 + 1, none⟩) zx6).trans yy1; have hzw7 := HBw7.out.size; clear hbw7; dsimp only))
        have HB7 := Lib.hid (HBJ.out.trans ((HBw6.out.trans (HBw7.out.mono hzw6)).mono hBJ))
        clear yy0 yy1 yy2 yy3 xx0 xx1 xx2 xx3 g0 g1 HC1 HC2 HBw6 HBw7
        by_cases hjk : j = k
        · have e1 : ((j : Int) != (k : Int)) = false := by rw [hjk]; simp
          have HN2 := Lib.hid (HNO'.out fun h => h.1 hjk)
          clear hjk HNO' HOA HOB
          go_wp2
          go_roundw
          case rel => exact ⟨j + 1, by omega, by go_num, HN2, HB7⟩
          case measure => simp [intOf]; omega
        · have e1 : ((j : Int) != (k : Int)) = true := by rw [bne_iff_ne]; omega
          by_cases ha : oa ≤ 0
          · by_cases hb : ob < 0
            · clear hjk
              go_wp2
              go_ret
              exact ⟨rfl, HB5.out.trans (HB7.out.mono hz5)⟩
            · have HN2 := Lib.hid (HNO'.out fun h => hb (by rw [← HOB.out]; exact ord_lt.2 h.2.2))
              have hd : decide (ob < 0) = false := decide_eq_false hb
              clear hjk HNO' HOA HOB
              go_wp2
              go_roundw
              case rel => exact ⟨j + 1, by omega, by go_num, HN2, HB7⟩
              case measure => simp [intOf]; omega
          · have HN2 := Lib.hid (HNO'.out fun h => ha (by rw [← HOA.out]; exact ord_le.2 h.2.1))
            have hd : decide (oa ≤ 0) = false := decide_eq_false ha
            clear hjk HNO' HOA HOB
            go_wp2
            go_roundw
            case rel => exact ⟨j + 1, by omega, by go_num, HN2, HB7⟩
            case measure => simp [intOf]; omega
      · exfalso
        obtain ⟨u, h1, h2, h3, h4⟩ := HW1.out
        exact HNO.out u (by omega) ⟨h2, h3, h4⟩
  · obtain ⟨o, ho, ho0⟩ : ∃ o, ordQ q x = o ∧ o ≤ 0 := ⟨_, rfl, ord_le.2 (by grind)⟩
    have HC1 := Lib.hid fun W => fcompare_q q x o W hqi hxi ho
    clear hq hx hqi hxi hlt HW ho
    go_wp2_with fail
    go_region_held3 (fun w' => w'.cell? ⟨bq, oq + k * 2, none⟩ = some (.int .i64 q.num) ∧ w'.cell? ⟨bq, oq + k * 2 + 1, none⟩ = some (.int .i64 q.den) ∧ w'.cell? ⟨bx, ox + k * 2, none⟩ = some (.int .i64 x.num) ∧ w'.cell? ⟨bx, ox + k * 2 + 1, none⟩ = some (.int .i64 x.den)) (go_keep)
      (first
        | (go_simp; go_at_call 33; refine (HC1.out _).mono ?_; rintro e w4 ⟨rfl, hbw4⟩; have HBw4 : Hid (Below w3.heap.size w3 w4) := Lib.hid (by first | exact hbw4 | exact (Below.refl _ _).drew.trans hbw4); have yy0 : w4.cell? ⟨bq, oq + k * 2, none⟩ = some (.int .i64 q.num) := (HBw4.out.cell (p := ⟨bq, oq + k * 2, none⟩) zq).trans c0; have yy1 : w4.cell? ⟨bq, oq + k * 2 + 1, none⟩ = some (.int .i64 q.den) := (HBw4.out.cell (p := ⟨bq, oq + k * 2 + 1, none⟩) zq).trans c1; have yy2 : w4.cell? ⟨bx, ox + k * 2, none⟩ = some (.int .i64 x.num) := (HBw4.out.cell (p := ⟨bx, ox + k * 2, none⟩) zx).trans d0; have yy3 : w4.cell? ⟨bx, ox + k * 2 + 1, none⟩ = some (.int .i64 x.den) := (HBw4.out.cell (p := ⟨bx, ox + k * 2 + 1, none⟩) zx).trans d1; have hzw4 := HBw4.out.size; clear hbw4; dsimp only))
    have HB5 := Lib.hid (HB3.out.trans (HBw4.out.mono hz3))
    go_wp2
    go_ret
    exact ⟨rfl, HB5.out⟩
theorem topWeak_walk (w : World) (C : Option Addr) (cc : Nat) (caps : List Int) (hc : Ints w w.heap.size C cc caps) (_ : ∀ n ∈ caps, (Lit.int .i64 n).wf = true) (P : Option Addr) (cp : Nat) (paths : List (List Int)) (hp : Rows2 w w.heap.size P cp paths) (_ : ∀ l ∈ paths, ∀ n ∈ l, (Lit.int .i64 n).wf = true) (f : Int) (_ : (Lit.int .i64 f).wf = true) (A : Option Addr) (c : Nat) (S : List Fr) (hr : Frs w w.heap.size A c S) (_ : True) :
    Calls Try.prog 11 #[.agg #[.slice C caps.length cc, .slice P paths.length cp], .int .i64 f, .slice A S.length c] w fun e w' => e = .returned (.bool true) ∧ Below w.heap.size w w' := by
  by_cases he : netErr caps paths = 0
  · by_cases hf : f < 0 ∨ (paths.length : Int) ≤ f
    · exact topWeak_out C cc caps P cp paths f A c S w hc hp hr he hf
    · obtain ⟨k, hk⟩ := Int.eq_ofNat_of_zero_le (show 0 ≤ f by omega)
      have hkl : k < paths.length := by omega
      rcases lof_cases caps paths S with ⟨er, h0, hx⟩ | ⟨Q, L, hS, _, hl, hq, hL⟩
      · exact topWeak_full C cc caps P cp paths f A c S w hc hp hr he k hkl hk er hx h0
      · cases hb : fitsB caps Q L
        · exact topWeak_nofit C cc caps P cp paths f A c S w hc hp hr he k hkl hk Q L hS hl hq hL hb
        · exact topWeak_fit C cc caps P cp paths f A c S w hc hp hr he k hkl hk Q L hS hl hq hL hb
  · exact topWeak_err C cc caps P cp paths f A c S w hc hp hr _ rfl he
end Go.Proofs.Ythffjnfnfddpdaa
