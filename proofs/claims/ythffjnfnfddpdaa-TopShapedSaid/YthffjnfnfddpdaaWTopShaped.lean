/- The walk of TopShaped: it returns true for every input. -/
import Derived.Test.YthffjnfnfddpdaaTopOne
import Derived.Test.YthffjnfnfddpdaaBucket
import Derived.Test.YthffjnfnfddpdaaPoolRun
namespace Go.Proofs.Ythffjnfnfddpdaa
open Go.RowKit
/-- shaped ahead of an empty pool: nothing is lost; what went and what waits is all -/
theorem shaped_all {s r h ro c : Int} {l : List Int} (hb : BucketOk s r h) (hp : PoolOk ro c 0) (hl : l.any badRate = false) (h1 : r ≤ c) (h2 : s ≤ ro + c) :
    (PP.run ro c 0 (PB.send s r h 0 l)).2.1 = 0 ∧ (PP.run ro c 0 (PB.send s r h 0 l)).1 + (PP.run ro c 0 (PB.send s r h 0 l)).2.2 = tot (PB.send s r h 0 l) ∧ (∀ x ∈ PB.send s r h 0 l, 0 ≤ x ∧ x ≤ 10000) ∧ 0 ≤ (PP.run ro c 0 (PB.send s r h 0 l)).1 ∧ 0 ≤ (PP.run ro c 0 (PB.send s r h 0 l)).2.2 := by
  obtain ⟨a1, a2, a3, a4, a5, a6⟩ := hb
  obtain ⟨b1, b2, b3, b4, _, _⟩ := hp
  have hn : ∀ n ∈ l, 0 ≤ n := fun n hn => (ticks_in hl n hn).1
  have hf := PB.facts s r h l (by omega) a3 a5 a6 hn
  have hr : ∀ x ∈ PB.send s r h 0 l, 0 ≤ x ∧ x ≤ 10000 := fun x hx => ⟨(hf.range x hx).1, by have := (hf.range x hx).2; omega⟩
  have hs := PB.shaped s r ro c (by omega) a3 h1 h2 b1 l h 0 0 a5 a6 (Int.le_refl _) (Int.le_refl _) b1 (by omega) hn
  have hk := PP.keeps ro c b1 b3 (PB.send s r h 0 l) 0 (Int.le_refl _) b1 fun x hx => (hr x hx).1
  refine ⟨hs, ?_, hr, ?_, ?_⟩
  · have := hk.2.2.2.2.2; omega
  · exact hk.1
  · exact hk.2.2.1
set_option maxHeartbeats 8000000 in
set_option maxRecDepth 100000 in
theorem topShaped_walk {w : World} (s r h : Int) (_ : (Lit.int .i64 s).wf = true) (_ : (Lit.int .i64 r).wf = true) (_ : (Lit.int .i64 h).wf = true) (ro c k : Int) (_ : (Lit.int .i64 ro).wf = true) (_ : (Lit.int .i64 c).wf = true) (_ : (Lit.int .i64 k).wf = true) (A : Option Addr) (cp : Nat) (l : List Int) (hi : Ints w w.heap.size A cp l) (_ : ∀ n ∈ l, (Lit.int .i64 n).wf = true) :
    Calls Try.prog 8 #[.agg #[.int .i64 s, .int .i64 r, .int .i64 h], .agg #[.int .i64 ro, .int .i64 c, .int .i64 k], .slice A l.length cp] w fun e w' => e = .returned (.bool true) ∧ Below w.heap.size w w' := by
  have HI := Lib.hid hi
  have hB0 : Below w.heap.size w ((w.alloc (.cells #[.int .i64 s, .int .i64 r, .int .i64 h] 66)).alloc (.cells #[.int .i64 ro, .int .i64 c, .int .i64 k] 23)) := ((Below.refl _ _).alloc (Nat.le_refl _) _).alloc (by simp) _
  have HB0 := Lib.hid hB0
  have HK0 := Lib.hid ((Blk.new w 66 #[.int .i64 s, .int .i64 r, .int .i64 h]).alloc (.cells #[.int .i64 ro, .int .i64 c, .int .i64 k] 23))
  have HP0 := Lib.hid (Blk.new' (w.alloc (.cells #[.int .i64 s, .int .i64 r, .int .i64 h] 66)) 23 #[.int .i64 ro, .int .i64 c, .int .i64 k] (g := w.heap.size + 1) (by simp))
  clear hi hB0
  go_enter Try.func8, Try.ntmps8
  go_wp2_with fail
  refine (one_any _).mono ?_; rintro e w1 ⟨rfl, hb1⟩
  have HB1 := Lib.hid (HB0.out.trans (hb1.mono HB0.out.size)); have HK1 := Lib.hid (HK0.out.go hb1); have HP1 := Lib.hid (HP0.out.go hb1)
  have hz1 := HB1.out.size
  clear hb1 HB0 HK0 HP0
  obtain ⟨k0, k1, k2, _, _, _, kz⟩ := HK1.out.three
  go_wp2_with fail
  refine (bsend_any s r h A cp l _ ((HI.out.below HB1.out (Nat.le_refl _)).more hz1)).mono ?_; rintro e w2 ⟨v, rfl, hv, hb2⟩
  have HB2 := Lib.hid (HB1.out.trans (hb2.mono hz1)); have HK2 := Lib.hid (HK1.out.go hb2); have HP2 := Lib.hid (HP1.out.go hb2)
  have hz2 := HB2.out.size
  clear hb2 HB1 HK1 HP1 k0 k1 k2 kz
  rcases hv with ⟨hok, hl, hbad, _, u, rfl, hu⟩ | ⟨_, er, rfl⟩
  · obtain ⟨A5, c5, rfl, _, hi5⟩ := owns_ints hu
    obtain ⟨xs, hxs⟩ : ∃ xs, PB.send s r h 0 l = xs := ⟨_, rfl⟩
    have hxl : xs.length ≤ 60 := by rw [← hxs, PB.len_send]; exact hl
    rw [hxs] at hi5
    rw [hxs]
    have HX := Lib.hid hi5
    have hcm := hi5.cap; have hcl := hi5.le
    unfold maxLen at hcm
    have HOK := Lib.hid hok; have HBAD := Lib.hid hbad; have HXS := Lib.hid hxs
    clear hu hi5 hok hbad hxs
    obtain ⟨k0, k1, k2, _, _, _, kz⟩ := HK2.out.three
    obtain ⟨p0, p1, p2, _, _, _, pz⟩ := HP2.out.three
    by_cases hp : PoolOk ro c k
    · have HPO := Lib.hid hp
      obtain ⟨b1, b2, b3, b4, b5, b6⟩ := hp
      have hg := HOK.out
      obtain ⟨a1, a2, a3, a4, a5, a6⟩ := hg
      have HB3 := Lib.hid (HB2.out.alloc hz2 (.cells #[.int .i64 ro, .int .i64 c, .int .i64 k] 23))
      by_cases hk : k = 0
      · subst hk
        by_cases hrc : r ≤ c
        · have hd1 : decide (c < r) = false := decide_eq_false (by omega)
          by_cases hsz : s ≤ ro + c
          · have hd2 : decide (ro + c < s) = false := decide_eq_false (by omega)
            have hall := shaped_all HOK.out HPO.out HBAD.out hrc hsz
            rw [HXS.out] at hall
            obtain ⟨f1, f2, f3, f4, f5⟩ := hall
            have HF3 := Lib.hid f3
            have HK3 := Lib.hid (HK2.out.alloc (.cells #[.int .i64 ro, .int .i64 c, .int .i64 0] 23))
            have HP3 := Lib.hid (HP2.out.alloc (.cells #[.int .i64 ro, .int .i64 c, .int .i64 0] 23))
            have HX3 := Lib.hid (HX.out.below ((Below.refl w2.heap.size w2).alloc (Nat.le_refl _) (.cells #[.int .i64 ro, .int .i64 c, .int .i64 0] 23)) (Nat.le_refl _))
            have hnb : xs.any badRate = false := by
              rw [List.any_eq_false]
              intro x hx
              have := f3 x hx
              simp only [badRate, Bool.not_eq_true, Bool.not_eq_false', Bool.and_eq_true, decide_eq_true_eq]; exact this
            have HNB := Lib.hid hnb
            have hrun := fun W hi => prun_yes ro c 0 A5 c5 xs W HPO.out hi hxl hnb
            rw [f1] at hrun
            obtain ⟨pw, hpw⟩ : ∃ x, (PP.run ro c 0 xs).1 = x := ⟨_, rfl⟩
            obtain ⟨pl, hpl⟩ : ∃ x, (PP.run ro c 0 xs).2.2 = x := ⟨_, rfl⟩
            rw [hpw, hpl] at hrun
            rw [hpw] at f2 f4
            rw [hpl] at f2 f5
            have HRUN := Lib.hid hrun
            have HF2 := Lib.hid f2
            have htb := tot_bound xs 10000 f3
            have hpw1 : pw ≤ 600000 := by omega
            have hpl1 : pl ≤ 600000 := by omega
            clear f1 f3 hnb hrun hpw hpl f2 htb
            go_wp2_with fail
            refine (pcheck_yes ro c 0 _ HPO.out).mono ?_; rintro e w3 ⟨rfl, rfl⟩
            clear k0 k1 k2 kz p0 p1 p2 pz
            obtain ⟨k0, k1, k2, _, _, _, kz⟩ := HK3.out.three
            obtain ⟨p0, p1, p2, _, _, _, pz⟩ := HP3.out.three
            go_wp2_with fail
            refine (HRUN.out _ (HX3.out.more (by simp))).mono ?_; rintro e w4 ⟨rfl, hb4⟩
            have HB4 := Lib.hid ((HB3.out.trans (hb4.mono HB3.out.size)).alloc (Nat.le_trans HB3.out.size hb4.size) (.cells #[.int .i64 pw, .int .i64 0, .int .i64 pl] 33))
            have HG4 := Lib.hid (Blk.new w4 33 #[.int .i64 pw, .int .i64 0, .int .i64 pl])
            have HX4 := Lib.hid ((HX3.out.below hb4 (by simp)).below ((Below.refl w2.heap.size w4).alloc (by have := hb4.size; simp at this; omega) (.cells #[.int .i64 pw, .int .i64 0, .int .i64 pl] 33)) (Nat.le_refl _))
            clear hb4 k0 k1 k2 kz p0 p1 p2 pz HX3 HX HB3 HB2
            obtain ⟨g0, g1, g2, _, _, _, gz⟩ := HG4.out.three
            go_wp2
            go_loop [11, 12] (fun su i => ∃ j : Nat, j ≤ xs.length ∧ i = .int .i64 j ∧ su = .int .i64 (tot (xs.take j))) (fun _ i => xs.length - (intOf i).toNat)
            case atStart => exact ⟨0, Nat.zero_le _, rfl, rfl⟩
            case round =>
              obtain ⟨j, hj, rfl, rfl⟩ := hrel
              by_cases hlt : j < xs.length
              · obtain ⟨b1', o1, a, rfl, _, hc1, ha, HTa, HXa⟩ := HX4.out.elem hlt
                have ba := HF3.out a ha
                have t1 := tot_bound_take xs 10000 HF3.out j
                have t3 : (xs.take j).length ≤ j := List.length_take_le _ _
                have HTa' : Hid (tot (xs.take (j + 1)) = tot (xs.take j) + a) := Lib.hid (by rw [HTa.out, tot_snoc])
                have j0 : (0 : Int) ≤ (j : Int) := by omega
                clear HTa HXa ha
                go_wp2
                go_round
                case rel => exact ⟨j + 1, by omega, by go_num, by rw [HTa'.out]⟩
                case measure => simp [intOf]; omega
              · obtain rfl : j = xs.length := by omega
                have hf := HF2.out
                rw [List.take_length]
                rw [← hf]
                clear hf
                go_wp2
                go_ret
                exact ⟨rfl, HB4.out⟩
          · have hd2 : decide (ro + c < s) = true := decide_eq_true (by omega)
            clear hsz
            go_wp2_with fail
            refine (pcheck_yes ro c 0 _ HPO.out).mono ?_; rintro e w3 ⟨rfl, rfl⟩
            go_wp2
            go_ret
            exact ⟨rfl, HB3.out⟩
        · have hd1 : decide (c < r) = true := decide_eq_true (by omega)
          clear hrc
          go_wp2_with fail
          refine (pcheck_yes ro c 0 _ HPO.out).mono ?_; rintro e w3 ⟨rfl, rfl⟩
          go_wp2
          go_ret
          exact ⟨rfl, HB3.out⟩
      · have hd0 : (k != 0) = true := by rw [bne_iff_ne]; exact hk
        clear hk
        go_wp2_with fail
        refine (pcheck_yes ro c k _ HPO.out).mono ?_; rintro e w3 ⟨rfl, rfl⟩
        go_wp2
        go_ret
        exact ⟨rfl, HB3.out⟩
    · have HPO := Lib.hid hp
      have HB3 := Lib.hid (HB2.out.alloc hz2 (.cells #[.int .i64 ro, .int .i64 c, .int .i64 k] 23))
      clear hp
      go_wp2_with fail
      refine (pcheck_no ro c k _ HPO.out).mono ?_; rintro e w3 ⟨rfl, rfl⟩
      go_wp2
      go_ret
      exact ⟨rfl, HB3.out⟩
  · go_wp2
    go_ret
    exact ⟨rfl, HB2.out⟩
end Go.Proofs.Ythffjnfnfddpdaa
