/- The walk of TopKept: it returns true for every input. -/
import Derived.Test.YtaijpiebjhhkjaaGreatDoorKeptOps
import Derived.Test.YtaijpiebjhhkjaaGreatDoorTopOne
import Derived.Test.YtaijpiebjhhkjaaGreatDoorLogLaidS
import Derived.Test.YtaijpiebjhhkjaaGreatDoorWRankBest
namespace Go.Proofs.YtaijpiebjhhkjaaGreatDoor
open Go.RowKit
set_option maxHeartbeats 4000000 in
theorem topKept_no (w : World) (C : Option Addr) (cc : Nat) (caps : List Int) (hc : Ints w w.heap.size C cc caps) (P : Option Addr) (cp : Nat) (paths : List (List Int)) (keep : Int) (A : Option Addr) (c : Nat) (S : List Fr) (er : Int) (he : linksErr caps = er) (h0 : er ≠ 0) :
    Calls Tryz.prog 7 #[.slice C caps.length cc, .slice P paths.length cp, .int .i64 keep, .slice A S.length c] w fun e w' => e = .returned (.bool true) ∧ Below w.heap.size w w' := by
  have HC := Lib.hid hc
  clear hc
  go_enter Tryz.func7, Tryz.ntmps7
  go_wp2_with fail
  refine (one_any w).mono ?_; rintro e w1 ⟨rfl, hb⟩
  have HB := Lib.hid hb
  clear hb
  go_wp2_with fail
  refine (log_no C cc caps w.heap.size w1 (HC.out.below HB.out (Nat.le_refl _)) er he h0).mono ?_; rintro e w2 ⟨rfl, hb⟩
  have HB2 := Lib.hid (HB.out.trans (hb.mono HB.out.size))
  clear hb HB
  go_wp2
  go_ret
  exact ⟨rfl, HB2.out⟩
set_option maxHeartbeats 16000000 in
set_option maxRecDepth 100000 in
theorem topKept_yes (w : World) (C : Option Addr) (cc : Nat) (caps : List Int) (hc : Ints w w.heap.size C cc caps) (P : Option Addr) (cp : Nat) (paths : List (List Int)) (hp : Rows2 w w.heap.size P cp paths) (keep : Int) (A : Option Addr) (c : Nat) (S : List Fr) (hr : Frs w w.heap.size A c S) (he : linksErr caps = 0) (hc6 : caps.length ≤ 6) (hg : LaidLog w) :
    Calls Tryz.prog 7 #[.slice C caps.length cc, .slice P paths.length cp, .int .i64 keep, .slice A S.length c] w fun e w' => e = .returned (.bool true) ∧ Below w.heap.size w w' := by
  have HC := Lib.hid hc; have HP := Lib.hid hp; have HR := Lib.hid hr; have HE := Lib.hid he; have HG := Lib.hid hg
  have hm := hp.cap; have hm2 := hp.le
  unfold maxLen at hm
  clear hc hp hr he hg
  go_enter Tryz.func7, Tryz.ntmps7
  go_wp2_with fail
  refine (one_any w).mono ?_; rintro e w1 ⟨rfl, hb⟩
  have HB1 := Lib.hid hb
  clear hb
  go_wp2_with fail
  refine (knew_yes w1 C cc caps ((HC.out.below HB1.out (Nat.le_refl _)).more HB1.out.size) HE.out).mono ?_; rintro e w2 ⟨g, C', cc', rfl, hI, hb⟩
  obtain ⟨b0, hb0⟩ : ∃ x, x = w1.heap.size := ⟨_, rfl⟩
  rw [← hb0] at hI
  have HI2 := Lib.hid hI
  have hwb : w.heap.size ≤ b0 := by rw [hb0]; exact HB1.out.size
  have HB2 := Lib.hid (HB1.out.trans (hb.mono HB1.out.size))
  clear hb hI hb0 HB1
  go_wp2
  go_loopw [12] (fun iv wr => ∃ (i : Nat) (O : List LG.Op), i ≤ 12 ∧ iv = .int .i64 i ∧ Hid (LogI wr b0 g C' cc' caps i O) ∧ Hid (Below w.heap.size w wr)) (fun iv _ => 12 - (intOf iv).toNat)
  case atStart => exact ⟨0, [], by decide, rfl, HI2, HB2⟩
  case round =>
    clear HI2 HB2
    obtain ⟨i, O, hi, rfl, HI, HB⟩ := hrel
    by_cases hlt : i < paths.length ∧ i < 12
    · obtain ⟨hl1, hl2⟩ := hlt
      obtain ⟨b, off, A', c', l, rfl, hb, hcell, hl, _⟩ := (HP.out.below HB.out (Nat.le_refl _)).elem hl1
      have HL := Lib.hid hl
      clear hl
      have d1 : decide ((i : Int) < (paths.length : Int)) = true := decide_eq_true (by omega)
      have d2 : decide ((i : Int) < 12) = true := decide_eq_true (by omega)
      have hmod : ((i : Int).tmod 4) = ((i % 4 : Nat) : Int) := by rw [Int.tmod_eq_emod_of_nonneg (by omega)]; omega
      by_cases h3 : i % 4 = 3
      · have d3 : ((i : Int).tmod 4 == 3) = true := by rw [hmod, h3]; rfl
        have d4 : ((i : Int) == 2) = false := beq_eq_false_iff_ne.2 (by omega)
        clear hmod
        go_wp2_with fail
        refine (kdrop_any wr b0 g C' cc' caps i O HI.out (by omega)).mono ?_; rintro e w3 ⟨v, O', rfl, hI, hb⟩
        have HI3 := Lib.hid hI
        have HB3 := Lib.hid (HB.out.trans (hb.mono hwb))
        clear hb hI
        go_wp2
        go_roundw
        case rel => exact ⟨i + 1, O', by omega, by go_num, HI3, HB3⟩
        case measure => (simp [intOf] <;> omega)
      · have d3 : ((i : Int).tmod 4 == 3) = false := beq_eq_false_iff_ne.2 (by rw [hmod]; omega)
        clear hmod
        go_wp2_with fail
        refine (kadd_any wr b0 g C' cc' caps i O HI.out (by omega) hc6 A' c' l w.heap.size HL.out hwb).mono ?_; rintro e w3 ⟨v, O', rfl, hI, hb⟩
        have HI3 := Lib.hid hI
        have HB3 := Lib.hid (HB.out.trans (hb.mono hwb))
        clear hb hI
        by_cases h2 : i = 2
        · have d4 : ((i : Int) == 2) = true := by rw [h2]; rfl
          go_wp2_with fail
          refine (ksync_any w3 b0 g C' cc' caps (i + 1) O' HI3.out (by omega)).mono ?_; rintro e w4 ⟨rfl, hI, hb⟩
          have HI4 := Lib.hid hI
          have HB4 := Lib.hid (HB3.out.trans (hb.mono hwb))
          clear hb hI
          go_wp2
          go_roundw
          case rel => exact ⟨i + 1, O', by omega, by go_num, HI4, HB4⟩
          case measure => (simp [intOf] <;> omega)
        · have d4 : ((i : Int) == 2) = false := beq_eq_false_iff_ne.2 (by omega)
          go_wp2
          go_roundw
          case rel => exact ⟨i + 1, O', by omega, by go_num, HI3, HB3⟩
          case measure => (simp [intOf] <;> omega)
    · have hd : (decide (i < paths.length) = false ∧ ¬ i < paths.length) ∨ (decide (i < paths.length) = true ∧ i < paths.length ∧ i = 12) := by
        by_cases h1 : i < paths.length
        · exact .inr ⟨decide_eq_true h1, h1, by omega⟩
        · exact .inl ⟨decide_eq_false h1, h1⟩
      have HCR := Lib.hid (kcrash_any wr b0 g C' cc' caps i O HI.out (by omega) (var?_below (g := 2) HB.out (by kernel_rfl) HG.out.lt HG.out.tab) (Nat.lt_of_lt_of_le HG.out.lt HB.out.size) keep)
      clear hlt
      rcases hd with ⟨h1, h2⟩ | ⟨h1, h2, rfl⟩
      all_goals
        go_wp2_with fail
        refine HCR.out.mono ?_; rintro e w5 ⟨O5, rfl, hI, hb⟩
        have HI5 := Lib.hid hI
        have HB5 := Lib.hid (HB.out.trans (hb.mono hwb))
        clear hI hb HCR HI HB
        go_wp2_with fail
        refine (kpaths_any w5 b0 g C' cc' caps _ O5 HI5.out hc6).mono ?_; rintro e w6 ⟨P6, cp6, rfl, hr6, hb⟩
        obtain ⟨w7, hw7⟩ : ∃ x, x = w6.alloc (.cells #[.slice C caps.length cc, .slice P6 (LG.runs O5).length cp6] 42) := ⟨_, rfl⟩
        have hb7 : Below w6.heap.size w6 w7 := by rw [hw7]; exact (Below.refl _ _).alloc (Nat.le_refl _) _
        have HN7 : Hid (Blk w7 w6.heap.size 42 #[.slice C caps.length cc, .slice P6 (LG.runs O5).length cp6]) := Lib.hid (by rw [hw7]; exact Blk.new _ _ _)
        have HI7 := Lib.hid ((HI5.out.below hb).below hb7)
        have HB7 := Lib.hid ((HB5.out.trans (hb.mono HB5.out.size)).trans (hb7.mono (Nat.le_trans HB5.out.size hb.size)))
        have HR7 := Lib.hid (hr6.at' hb7)
        clear hr6 hb hb7 HI5 HB5
        go_upto_region 17 with (fail)
        rw [← hw7]
        clear hw7
        obtain ⟨gn, hgn⟩ : ∃ x, x = w6.heap.size := ⟨_, rfl⟩
        rw [← hgn] at HN7 ⊢
        clear hgn
        by_cases hnil : LG.runs O5 = []
        · have he5 : netErr caps (LG.runs O5) = 5 := by rw [HI7.out.ok.net HE.out, if_pos hnil]
          have d5 : (((LG.runs O5).length : Int) == 0) = true := by rw [hnil]; rfl
          have HK := Lib.hid (krates_no w7 b0 g C' cc' caps _ O5 HI7.out 5 he5 (by decide))
          clear hnil he5
          go_wp2_with fail
          refine HK.out.mono ?_; rintro e w8 ⟨rfl, hb⟩
          have HB8 := Lib.hid (HB7.out.trans (hb.mono HB7.out.size))
          obtain ⟨n0, n1, nf0, nf1, nz⟩ := (HN7.out.go hb).two
          clear hb
          go_wp2_with fail
          refine (same_hit 5 w8 (HG.out.laid.below HB8.out)).mono ?_; rintro e w9 ⟨rfl, hb⟩
          have HB9 := Lib.hid (HB8.out.trans (hb.mono HB8.out.size))
          clear hb
          go_wp2
          go_ret
          exact ⟨rfl, HB9.out⟩
        · have he0 : netErr caps (LG.runs O5) = 0 := by rw [HI7.out.ok.net HE.out, if_neg hnil]
          obtain ⟨K, R, hK⟩ := fill_ends (netOk_of he0)
          have ok := netOk_of he0
          have hRl := hK.len ok
          have hRi : ∀ q ∈ R, QIn q := fun q h => (hK.rates ok q h).1
          have h6 := ok.F1
          have hx := lof_cases caps (LG.runs O5) S
          have hbest := fun (Q L : List Rat) (hl : Q.length = (LG.runs O5).length) (hL : loadsTo (LG.runs O5) Q caps.length = some L) (hb : fitsB caps Q L = true) => fill_best ok hK hl hL hb
          have HBEST := Lib.hid hbest; have HX := Lib.hid hx; have HE0 := Lib.hid he0; have HK := Lib.hid hK; have HRI := Lib.hid hRi; have HRL := Lib.hid hRl
          have HKR := Lib.hid (krates_yes w7 b0 g C' cc' caps _ O5 HI7.out he0 K R hK)
          clear hnil he0 hK ok hRl hRi hx hbest
          go_wp2_with fail
          refine HKR.out.mono ?_; rintro e w8 ⟨A8, c8, rfl, hf, hb⟩
          have HB8 := Lib.hid (HB7.out.trans (hb.mono HB7.out.size))
          have HN8 := Lib.hid (HN7.out.go hb)
          have HR8 := Lib.hid (HR7.out.at' hb)
          have HF8 := Lib.hid hf
          clear hf hb HB7 HN7 HR7 HI7 HKR
          obtain ⟨n0, n1, nf0, nf1, nz⟩ := HN8.out.two
          go_wp2_with fail
          refine (frates_yes C cc caps P6 cp6 _ (LG.runs O5) w8.heap.size w8 K R (Nat.le_refl _) ((HC.out.below HB8.out (Nat.le_refl _)).more HB8.out.size) HR8.out rfl HE0.out HK.out).mono ?_; rintro e w9 ⟨A9, c9, rfl, hf, hb⟩
          have HB9 := Lib.hid (HB8.out.trans (hb.mono HB8.out.size))
          have HN9 := Lib.hid (HN8.out.go hb)
          have HR9 := Lib.hid (HR8.out.at' hb)
          have HF9 := Lib.hid (HF8.out.at' hb)
          have HY9 := Lib.hid hf
          clear hf hb HB8 HN8 HR8 HF8 n0 n1 nf0 nf1 nz
          obtain ⟨n0, n1, nf0, nf1, nz⟩ := HN9.out.two
          go_wp2_with fail
          refine (sameFr_any A8 A9 c8 c9 R.length R.length (R.map frQ) (R.map frQ) _ _ w9 HF9.out HY9.out (by simp) (by simp) (Nat.le_refl _) (Nat.le_refl _) true (by simp)).mono ?_; rintro e w10 ⟨rfl, hb⟩
          have HB10 := Lib.hid (HB9.out.trans (hb.mono HB9.out.size))
          have HN10 := Lib.hid (HN9.out.go hb)
          have HR10 := Lib.hid (HR9.out.at' hb)
          have HF10 := Lib.hid (HF9.out.at' hb)
          clear hb HB9 HN9 HR9 HF9 HY9 n0 n1 nf0 nf1 nz
          obtain ⟨n0, n1, nf0, nf1, nz⟩ := HN10.out.two
          go_wp2_with fail
          refine (ncheck_ok C cc caps P6 cp6 (LG.runs O5) w10.heap.size w10 (Nat.le_refl _) ((HC.out.below HB10.out (Nat.le_refl _)).more HB10.out.size) HR10.out HE0.out).mono ?_; rintro e w11 ⟨rfl, hb⟩
          have HB11 := Lib.hid (HB10.out.trans (hb.mono HB10.out.size))
          have HN11 := Lib.hid (HN10.out.go hb)
          have HR11 := Lib.hid (HR10.out.at' hb)
          have HF11 := Lib.hid (HF10.out.at' hb)
          clear hb HB10 HN10 HR10 HF10 n0 n1 nf0 nf1 nz
          obtain ⟨n0, n1, nf0, nf1, nz⟩ := HN11.out.two
          have HC11 := Lib.hid ((HC.out.below HB11.out (Nat.le_refl _)).more HB11.out.size)
          have HS11 := Lib.hid ((HR.out.below HB11.out (Nat.le_refl _)).more HB11.out.size)
          rcases HX.out with ⟨er, her, hx⟩ | ⟨Q, L, hS, _, hl, hq, hL⟩
          · have HXX := Lib.hid hx
            clear hx
            go_wp2_with fail
            refine (fits_er C cc caps P6 cp6 _ (LG.runs O5) A c _ S w11.heap.size w11 er (Nat.le_refl _) HC11.out HR11.out HS11.out rfl rfl HXX.out).mono ?_; rintro e w12 ⟨rfl, hb⟩
            have HB12 := Lib.hid (HB11.out.trans (hb.mono HB11.out.size))
            clear hb
            go_wp2
            go_ret
            exact ⟨rfl, HB12.out⟩
          · have HSQ : Hid (Frs w11 w11.heap.size A c (Q.map frQ)) := Lib.hid (by rw [← hS]; exact HS11.out)
            have HSL : Hid (S.length = Q.length) := Lib.hid (by rw [hS, List.length_map])
            have HQ := Lib.hid hq; have HL := Lib.hid hL; have HLQ := Lib.hid hl
            clear hS hq hL hl HS11
            cases hfb : fitsB caps Q L
            · have HFB := Lib.hid hfb
              clear hfb
              go_wp2_with fail
              refine (fits_yes' C cc caps P6 cp6 _ (LG.runs O5) A c _ Q L false w11.heap.size w11 (Nat.le_refl _) HC11.out HR11.out HSQ.out rfl HSL.out HE0.out HLQ.out HQ.out HL.out HFB.out).mono ?_; rintro e w12 ⟨rfl, hb⟩
              have HB12 := Lib.hid (HB11.out.trans (hb.mono HB11.out.size))
              clear hb
              go_wp2
              go_ret
              exact ⟨rfl, HB12.out⟩
            · have hle := HBEST.out Q L HLQ.out HL.out hfb
              obtain ⟨o, ho⟩ : ∃ o, MM.lex (MM.srt Q) (MM.srt R) = o := ⟨_, rfl⟩
              rw [ho] at hle
              have HFB := Lib.hid hfb; have HO := Lib.hid ho
              have d9 : decide (o ≤ 0) = true := decide_eq_true hle
              clear hfb ho
              go_wp2_with fail
              refine (fits_yes' C cc caps P6 cp6 _ (LG.runs O5) A c _ Q L true w11.heap.size w11 (Nat.le_refl _) HC11.out HR11.out HSQ.out rfl HSL.out HE0.out HLQ.out HQ.out HL.out HFB.out).mono ?_; rintro e w12 ⟨rfl, hb⟩
              have HB12 := Lib.hid (HB11.out.trans (hb.mono HB11.out.size))
              have HF12 := Lib.hid (HF11.out.at' hb)
              have HS12 := Lib.hid (HSQ.out.at' hb)
              clear hb HF11
              go_wp2_with fail
              refine (rcmp_yes A A8 c c8 _ _ Q R o w12.heap.size w12 (Nat.le_refl _) HS12.out HF12.out HSL.out rfl (HLQ.out.trans HRL.out.symm) (by rw [HLQ.out]; exact h6) HQ.out HRI.out HO.out).mono ?_; rintro e w13 ⟨rfl, hb⟩
              have HB13 := Lib.hid (HB12.out.trans (hb.mono HB12.out.size))
              clear hb
              go_wp2
              go_ret
              exact ⟨rfl, HB13.out⟩
theorem topKept_walk (w : World) (C : Option Addr) (cc : Nat) (caps : List Int) (hc : Ints w w.heap.size C cc caps) (_ : ∀ n ∈ caps, (Lit.int .i64 n).wf = true) (P : Option Addr) (cp : Nat) (paths : List (List Int)) (hp : Rows2 w w.heap.size P cp paths) (_ : ∀ l ∈ paths, ∀ n ∈ l, (Lit.int .i64 n).wf = true) (keep : Int) (_ : (Lit.int .i64 keep).wf = true) (A : Option Addr) (c : Nat) (S : List Fr) (hr : Frs w w.heap.size A c S) (_ : True) (hg : LaidLog w) :
    Calls Tryz.prog 7 #[.slice C caps.length cc, .slice P paths.length cp, .int .i64 keep, .slice A S.length c] w fun e w' => e = .returned (.bool true) ∧ Below w.heap.size w w' := by
  by_cases he : linksErr caps = 0
  · have hc6 : caps.length ≤ 6 := by
      unfold linksErr at he
      split at he
      · omega
      · split at he <;> omega
    exact topKept_yes w C cc caps hc P cp paths hp keep A c S hr he hc6 hg
  · exact topKept_no w C cc caps hc P cp paths keep A c S _ rfl he
end Go.Proofs.YtaijpiebjhhkjaaGreatDoor
