/- The walk of LogMany: it returns true for every input. -/
import Derived.Test.YtaijpiebjhhkjaaDoorLogAdd
import Derived.Test.YtaijpiebjhhkjaaDoorWFillAlike
import Derived.Test.YtaijpiebjhhkjaaDoorTopOne
import Derived.Test.YtaijpiebjhhkjaaDoorTold
import Derived.BigQuiet
namespace Go.Proofs.YtaijpiebjhhkjaaDoor
open Go.RowKit
attribute [local go_sem ↓] run_min_mn run_max_mx
theorem many_new (w : World) : ∃ b0, b0 = (w.alloc (.cells #[.int .i64 9] 3)).heap.size ∧
    Calls Tryd.prog 5 #[.slice (some ⟨w.heap.size, 0, none⟩) 1 1] (w.alloc (.cells #[.int .i64 9] 3)) fun e w' => ∃ g C cc, e = .returned (.tuple #[.pointer (some ⟨g, 0, none⟩), .nilIface]) ∧ LogAt w' b0 g (.slice C 1 cc) (.slice none 0 0) [] [9] [] ByteArray.empty 0 (-1) false ∧ Below b0 (w.alloc (.cells #[.int .i64 9] 3)) w' := by
  refine ⟨_, rfl, ?_⟩
  have hI : Ints (w.alloc (.cells #[.int .i64 9] 3)) (w.alloc (.cells #[.int .i64 9] 3)).heap.size (some ⟨w.heap.size, 0, none⟩) 1 [9] := Ints.blk (l := [9]) (Blk.new w 3 #[.int .i64 9]) (by simp) (by simp)
  refine (log_yes (some ⟨w.heap.size, 0, none⟩) 1 [9] _ _ hI (Nat.le_refl _) (by decide)).mono ?_
  rintro e w' ⟨g, cv, rfl, h, hb⟩
  obtain ⟨C, cc, rfl, _, _⟩ := owns_ints h.net.capO
  exact ⟨g, C, cc, rfl, h, hb⟩
set_option maxHeartbeats 8000000 in
theorem logMany_out (n : Int) (w : World) (h : n < 0 ∨ 12 < n) :
    Calls Tryd.prog 3 #[.int .i64 n] w fun e w' => e = .returned (.bool true) ∧ Below w.heap.size w w' := by
  obtain ⟨b0, hb0, hN⟩ := many_new w
  have HN := Lib.hid hN
  have hbz : w.heap.size ≤ b0 := by rw [hb0]; simp
  have HB0 := Lib.hid ((Below.refl w.heap.size w).alloc (Nat.le_refl _) (.cells #[.int .i64 9] 3))
  clear hN hb0
  go_enter Tryd.func3, Tryd.ntmps3
  go_wp2_with fail
  refine HN.out.mono ?_; rintro e w1 ⟨g, C, cc, rfl, _, hb1⟩
  have HB1 := Lib.hid (HB0.out.trans (hb1.mono hbz))
  clear hb1
  have hd : n < 0 ∨ (decide (n < 0) = false ∧ 12 < n) := by
    by_cases h1 : n < 0
    · exact .inl h1
    · exact .inr ⟨decide_eq_false h1, by omega⟩
  clear h
  rcases hd with h1 | ⟨h1, h2⟩
  all_goals
    go_wp2
    go_ret
    exact ⟨rfl, HB1.out⟩
set_option maxHeartbeats 16000000 in
set_option maxRecDepth 100000 in
theorem logMany_in (k : Nat) (w : World) (hk : k ≤ 12) (hg : Laid w) :
    Calls Tryd.prog 3 #[.int .i64 (k : Int)] w fun e w' => e = .returned (.bool true) ∧ Below w.heap.size w w' := by
  obtain ⟨b0, hb0, hN⟩ := many_new w
  have HN := Lib.hid hN
  have LAID := Lib.hid hg
  have hbz : w.heap.size ≤ b0 := by rw [hb0]; simp
  have HB0 := Lib.hid ((Below.refl w.heap.size w).alloc (Nat.le_refl _) (.cells #[.int .i64 9] 3))
  have hbs : b0 ≤ (w.alloc (.cells #[.int .i64 9] 3)).heap.size := by rw [hb0]; exact Nat.le_refl _
  clear hN hb0 hg
  have k1 : decide ((k : Int) < 0) = false := decide_eq_false (by omega)
  have k2 : decide ((12 : Int) < (k : Int)) = false := decide_eq_false (by omega)
  have k3 : decide (12 < k) = false := decide_eq_false (by omega)
  go_enter Tryd.func3, Tryd.ntmps3
  go_wp2_with fail
  refine HN.out.mono ?_; rintro e w1 ⟨g, C, cc, rfl, h1, hb1⟩
  have HB1 := Lib.hid (HB0.out.trans (hb1.mono hbz))
  have HL1 := Lib.hid h1
  have hbs1 : b0 ≤ w1.heap.size := Nat.le_trans hbs hb1.size
  clear hb1 h1 hbs HB0
  go_wp2
  go_loopw [5] (fun iv wr => ∃ (i : Nat) (P : Option Addr) (cp : Nat) (vs : List Value) (bs : ByteArray), i ≤ k ∧ iv = .int .i64 i ∧ bs.size ≤ 14 * i ∧ Hid (LogAt wr b0 g (.slice C 1 cc) (.slice P (sameP (min i 6)).length cp) vs [9] (sameP (min i 6)) bs 0 (-1) false) ∧ Hid (Below w.heap.size w wr) ∧ b0 ≤ wr.heap.size) (fun iv _ => k - (intOf iv).toNat)
  case atStart => exact ⟨0, none, 0, [], ByteArray.empty, Nat.zero_le _, rfl, Nat.zero_le _, HL1, HB1, hbs1⟩
  case round =>
    clear HL1 HB1 hbs1
    obtain ⟨i, P, cp, vs, bs, hi, rfl, hsz, HL, HB, hbr⟩ := hrel
    by_cases hlt : i < k
    · have HBa := Lib.hid (HB.out.alloc HB.out.size (.cells #[.int .i64 0] 3))
      have HLa := Lib.hid (HL.out.below ((Below.refl wr.heap.size wr).alloc (Nat.le_refl _) (.cells #[.int .i64 0] 3)))
      have HIa := Lib.hid (show Ints (wr.alloc (.cells #[.int .i64 0] 3)) (wr.alloc (.cells #[.int .i64 0] 3)).heap.size (some ⟨wr.heap.size, 0, none⟩) 1 (nints [0]) from Ints.blk (l := [0]) (Blk.new wr 3 #[.int .i64 0]) (by simp) (by simp))
      have hgz : g < wr.heap.size := HL.out.blk.lt
      have hba : b0 ≤ (wr.alloc (.cells #[.int .i64 0] 3)).heap.size := by simp; omega
      by_cases h6 : i < 6
      · have hm : min i 6 = i := by omega
        have hm1 : min (i + 1) 6 = i + 1 := by omega
        rw [hm] at HLa
        have HX := Lib.hid (ladd_go (wr.alloc (.cells #[.int .i64 0] 3)) b0 g cc C P cp vs [9] (sameP i) bs 0 (-1) HLa.out hba (by decide) (by decide) (by decide) (-1) (by decide) (some ⟨wr.heap.size, 0, none⟩) 1 [0] _ HIa.out (Nat.le_refl _) (fun b off e => by injection e with e; injection e with e _; omega) (by simp) (by decide) (by rw [sameP_len]; omega) (by omega) (by unfold addE; rw [if_neg (by decide), if_neg (by rw [sameP_len]; omega)]; decide))
        have d6 : decide ((i : Int) < 6) = true := decide_eq_true (by omega)
        have i6 : (i : Int) < 6 := by omega
        clear HL HLa hm
        go_wp2_with fail
        refine HX.out.mono ?_; rintro e w2 ⟨rfl, P', cp', vs', bs', hL2, _, hs2, hb2, _, _⟩
        rw [show sameP i ++ [nints [0]] = sameP (i + 1) from by rw [sameP_succ]; rfl] at hL2
        have HL2 := Lib.hid (show LogAt w2 b0 g (.slice C 1 cc) (.slice P' (sameP (min (i + 1) 6)).length cp') vs' [9] (sameP (min (i + 1) 6)) bs' 0 (-1) false from by rw [hm1, sameP_len]; rw [sameP_len] at hL2; exact hL2)
        have HB2 := Lib.hid (HBa.out.trans (hb2.mono hbz))
        have hbs2 : b0 ≤ w2.heap.size := Nat.le_trans hba hb2.size
        clear hL2 hb2 HX HBa HIa HB
        go_wp2
        go_roundw
        case rel => exact ⟨i + 1, P', cp', vs', bs', by omega, by go_num, by omega, HL2, HB2, hbs2⟩
        case measure => (simp [intOf] <;> omega)
      · have hm : min i 6 = 6 := by omega
        have hm1 : min (i + 1) 6 = 6 := by omega
        have hL6 : (sameP (min i 6)).length = 6 := by rw [hm]; rfl
        have HX := Lib.hid (ladd_no (wr.alloc (.cells #[.int .i64 0] 3)) b0 g cc C P cp vs [9] (sameP (min i 6)) bs 0 (-1) false HLa.out (some ⟨wr.heap.size, 0, none⟩) 1 [0] _ HIa.out (by omega) 4 (by unfold addE; rw [if_neg (by decide), if_pos hL6]) (by decide))
        have i6 : decide ((i : Int) < 6) = false := decide_eq_false (by omega)
        clear hL6
        go_wp2_with fail
        refine HX.out.mono ?_; rintro e w2 ⟨rfl, hb2⟩
        have HL2 := Lib.hid (HLa.out.below hb2)
        have HB2 := Lib.hid (HBa.out.trans (hb2.mono HBa.out.size))
        have hbs2 : b0 ≤ w2.heap.size := Nat.le_trans hba hb2.size
        clear hb2 HX HBa HIa HB HLa HL
        go_wp2_with fail
        refine (same_hit 4 _ (LAID.out.below HB2.out)).mono ?_; rintro e w3 ⟨rfl, hb3⟩
        have HL3 := Lib.hid (show LogAt w3 b0 g (.slice C 1 cc) (.slice P (sameP (min (i + 1) 6)).length cp) vs [9] (sameP (min (i + 1) 6)) bs 0 (-1) false from by have := HL2.out.below hb3; rw [hm] at this; rw [hm1]; exact this)
        have HB3 := Lib.hid (HB2.out.trans (hb3.mono HB2.out.size))
        have hbs3 : b0 ≤ w3.heap.size := Nat.le_trans hbs2 hb3.size
        clear hb3 HL2 HB2
        go_wp2
        go_roundw
        case rel => exact ⟨i + 1, P, cp, vs, bs, by omega, by go_num, by omega, HL3, HB3, hbs3⟩
        case measure => (simp [intOf] <;> omega)
    · obtain rfl : i = k := by omega
      clear hlt hi
      by_cases h0 : i = 0
      · subst h0
        have HX := Lib.hid (lrates_no wr b0 g cc C P cp vs [9] (sameP (min 0 6)) bs 0 (-1) false HL.out 5 (by decide) (by decide))
        have hs0 : ((bs.size : Int) == 0) = true := beq_iff_eq.2 (by omega)
        have hs1 : bs.size = 0 := by omega
        go_wp2_with fail
        refine HX.out.mono ?_; rintro e w2 ⟨rfl, hb2⟩
        have HL2 := Lib.hid (HL.out.below hb2)
        have HB2 := Lib.hid (HB.out.trans (hb2.mono HB.out.size))
        clear hb2 HX HB HL
        go_wp2_with fail
        refine (same_hit 5 _ (LAID.out.below HB2.out)).mono ?_; rintro e w3 ⟨rfl, hb3⟩
        have HL3 := Lib.hid (HL2.out.below hb3)
        have HB3 := Lib.hid (HB2.out.trans (hb3.mono HB2.out.size))
        clear hb3 HL2 HB2
        go_wp2_with fail
        refine (lbytes_any _ b0 g _ _ vs _ _ bs 0 (-1) false HL3.out).mono ?_; rintro e w4 ⟨rfl, hb4⟩
        have HB4 := Lib.hid (HB3.out.trans (hb4.mono HB3.out.size))
        clear hb4 HB3 HL3
        go_wp2
        go_ret
        exact ⟨rfl, HB4.out⟩
      · obtain ⟨m, hm⟩ : ∃ m, min i 6 = m := ⟨_, rfl⟩
        have m1 : 1 ≤ m := by omega
        have m6 : m ≤ 6 := by omega
        rw [hm] at HL
        have HX := Lib.hid (lrates_yes wr b0 g cc C P cp vs [9] (sameP m) bs 0 (-1) false HL.out (by rw [alike_net m1 m6]; decide) 1 _ (alike_ends (x := 9) m1 m6 (by decide)))
        have HOF := Lib.hid fun W => of_div 9 m W m1 m6 (by decide)
        have hR0 : (List.replicate m ((9 : Int) / (m : Rat) : Rat))[0]? = some (((9 : Int) : Rat) / (m : Rat)) := by rw [List.getElem?_replicate, if_pos (by omega)]
        have hRl : (List.replicate m (((9 : Int) : Rat) / (m : Rat))).length = m := by simp
        obtain ⟨R, hR⟩ : ∃ R, List.replicate m (((9 : Int) : Rat) / (m : Rat)) = R := ⟨_, rfl⟩
        obtain ⟨q, hq⟩ : ∃ q, ((9 : Int) : Rat) / (m : Rat) = q := ⟨_, rfl⟩
        rw [hR] at HX hRl hR0
        rw [hq] at HOF hR0
        rw [hRl] at HX
        have HRL := Lib.hid hRl; have HR0 := Lib.hid hR0
        clear hR hq hRl hR0
        have hi0 : ((i : Int) == 0) = false := beq_eq_false_iff_ne.2 (by omega)
        have hk6 : (decide ((6 : Int) < (i : Int)) = true ∧ decide (6 < i) = true ∧ (6 : Int) = (m : Int)) ∨ (decide ((6 : Int) < (i : Int)) = false ∧ decide (6 < i) = false ∧ (i : Int) = (m : Int)) := by
          by_cases h : 6 < i
          · exact .inl ⟨decide_eq_true (by omega), decide_eq_true h, by omega⟩
          · exact .inr ⟨decide_eq_false (by omega), decide_eq_false h, by omega⟩
        have hmm : ((m : Int) == (m : Int)) = true := beq_self_eq_true _
        clear hm h0
        go_wp2_with fail
        refine HX.out.mono ?_; rintro e w2 ⟨A, c, rfl, hf, hb2⟩
        have HF2 := Lib.hid hf
        have HB2 := Lib.hid (HB.out.trans (hb2.mono HB.out.size))
        clear hf hb2 HX HL HB
        rcases hk6 with ⟨d1, d2, d3⟩ | ⟨d1, d2, d3⟩
        · obtain rfl : m = 6 := by omega
          clear d3 hmm
          rw [show ((6 : Nat) : Int) = 6 from rfl] at HOF
          go_wp2_with fail
          refine (HOF.out _).mono ?_; rintro e w3 ⟨rfl, hb3⟩
          have HG3 := Lib.hid (Blk.new w3 35 #[.int .i64 q.num, .int .i64 q.den])
          have hb4 := hb3.trans ((Below.refl w2.heap.size w3).alloc hb3.size (.cells #[.int .i64 q.num, .int .i64 q.den] 35))
          have HB4 := Lib.hid (HB2.out.trans (hb4.mono HB2.out.size)); have HF4 := Lib.hid (HF2.out.at' hb4)
          clear hb3 hb4 HB2 HF2
          go_upto_region 17 with (fail)
          obtain ⟨w5, hw5⟩ : ∃ x, x = w3.alloc (.cells #[.int .i64 q.num, .int .i64 q.den] 35) := ⟨_, rfl⟩
          rw [← hw5] at HG3 HB4 HF4 ⊢
          obtain ⟨gw, hgw⟩ : ∃ x, x = w3.heap.size := ⟨_, rfl⟩
          rw [← hgw] at HG3 ⊢
          clear hw5 hgw
          obtain ⟨g0, g1, _, _, gz⟩ := HG3.out.two
          obtain ⟨b, off, rfl, hbz2, r0, r1⟩ := frs_k HF4.out 0 HR0.out
          simp only [Nat.zero_mul, Nat.add_zero] at r0 r1
          go_quiet (fail)
          go_wp2
          go_ret
          exact ⟨rfl, below_drewN HB4.out _⟩
        · go_wp2_with fail
          try rw [d3]
          refine (HOF.out _).mono ?_; rintro e w3 ⟨rfl, hb3⟩
          have HG3 := Lib.hid (Blk.new w3 35 #[.int .i64 q.num, .int .i64 q.den])
          have hb4 := hb3.trans ((Below.refl w2.heap.size w3).alloc hb3.size (.cells #[.int .i64 q.num, .int .i64 q.den] 35))
          have HB4 := Lib.hid (HB2.out.trans (hb4.mono HB2.out.size)); have HF4 := Lib.hid (HF2.out.at' hb4)
          clear hb3 hb4 HB2 HF2
          go_upto_region 17 with (fail)
          obtain ⟨w5, hw5⟩ : ∃ x, x = w3.alloc (.cells #[.int .i64 q.num, .int .i64 q.den] 35) := ⟨_, rfl⟩
          rw [← hw5] at HG3 HB4 HF4 ⊢
          obtain ⟨gw, hgw⟩ : ∃ x, x = w3.heap.size := ⟨_, rfl⟩
          rw [← hgw] at HG3 ⊢
          clear hw5 hgw
          obtain ⟨g0, g1, _, _, gz⟩ := HG3.out.two
          obtain ⟨b, off, rfl, hbz2, r0, r1⟩ := frs_k HF4.out 0 HR0.out
          simp only [Nat.zero_mul, Nat.add_zero] at r0 r1
          have hml : 0 < m := m1
          go_quiet (fail)
          go_wp2
          go_ret
          exact ⟨rfl, below_drewN HB4.out _⟩
theorem logMany_walk (n : Int) (_ : (Lit.int .i64 n).wf = true) (w : World) (hg : Laid w) :
    Calls Tryd.prog 3 #[.int .i64 n] w fun e w' => e = .returned (.bool true) ∧ Below w.heap.size w w' := by
  by_cases h : n < 0 ∨ 12 < n
  · exact logMany_out n w h
  · obtain ⟨k, rfl⟩ := Int.eq_ofNat_of_zero_le (show 0 ≤ n by omega)
    exact logMany_in k w (by omega) hg
end Go.Proofs.YtaijpiebjhhkjaaDoor
