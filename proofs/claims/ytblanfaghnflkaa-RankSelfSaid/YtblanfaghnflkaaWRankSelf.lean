/- The walk of RankSelf: it returns true for every input. -/
import Derived.Test.YtblanfaghnflkaaRank3
namespace Go.Proofs.Ytblanfaghnflkaa
open Go.RowKit
theorem one_in : QIn (1 : Rat) := by unfold QIn FracIn; decide
theorem fadd_one (q s : Rat) (w : World) (hq : QIn q) (hs : q + 1 = s) (h : QIn s) :
    Calls Try.prog 19 #[.agg #[.int .i64 q.num, .int .i64 q.den], .agg #[.int .i64 1, .int .i64 1]] w fun e w' => e = .returned (.tuple #[.agg #[.int .i64 s.num, .int .i64 s.den], .nilIface]) ∧ Below w.heap.size w w' := fadd_q q 1 s w hq one_in hs h
theorem fadd_one_full (q s : Rat) (w : World) (hq : QIn q) (hs : q + 1 = s) (h : ¬ QIn s) :
    Calls Try.prog 19 #[.agg #[.int .i64 q.num, .int .i64 q.den], .agg #[.int .i64 1, .int .i64 1]] w fun e w' => e = .returned (.tuple #[.agg #[.int .i64 0, .int .i64 0], .iface 71 (.int .i64 4)]) ∧ Below w.heap.size w w' := fadd_full q 1 s w hq one_in hs h
theorem one_pos' : (0 : Rat) < 1 := by decide
theorem rev_snoc {Q : List Rat} {j : Nat} {q : Rat} (h : Q[j]? = some q) : (Q.drop j).reverse = (Q.drop (j + 1)).reverse ++ [q] := by
  obtain ⟨h1, e1⟩ := List.getElem?_eq_some_iff.1 h
  rw [List.drop_eq_getElem_cons h1, e1, List.reverse_cons]
set_option maxHeartbeats 8000000 in
set_option maxRecDepth 100000 in
theorem rankSelf_q (A : Option Addr) (c n : Nat) (Q : List Rat) (i : Int) (w : World) (hf : Frs w w.heap.size A c (Q.map frQ)) (hn : n = Q.length) (h6 : Q.length ≤ 6) (hq : ∀ q ∈ Q, QIn q) :
    Calls Try.prog 7 #[.slice A n c, .int .i64 i] w fun e w' => e = .returned (.bool true) ∧ Below w.heap.size w w' := by
  have HF := Lib.hid hf; have HQ := Lib.hid hq; have HN := Lib.hid hn.symm
  have hm := hf.cap; have hml := hf.le
  rw [List.length_map, ← hn] at hml
  unfold maxLen at hm
  have hn6 : n ≤ 6 := by omega
  have HH6 := Lib.hid h6
  have HQR : Hid (∀ q ∈ Q.reverse, QIn q) := Lib.hid fun q h => hq q (List.mem_reverse.1 h)
  have HRL : Hid (Q.reverse.length = n) := Lib.hid (by rw [List.length_reverse, hn])
  have HS := Lib.hid (rsort_yes A c n Q w.heap.size w (Nat.le_refl _) hf hn h6 hq)
  rw [← hn] at HS
  have HNQ := Lib.hid hn
  clear hf hq hn h6
  go_enter Try.func7, Try.ntmps7
  go_wp2_with fail
  refine HS.out.mono ?_; rintro e w1 ⟨A1, c1, rfl, hf1, hb1⟩
  have HB1 := Lib.hid hb1
  have hz1 := hb1.size
  have hm1 := hf1.cap; have hl1 := hf1.le
  clear hf1 hb1 HS
  go_wp2
  go_loopw [7, 8] (fun v i wr => ∃ (m : Nat) (x : Int), m ≤ n ∧ x = (m : Int) - 1 ∧ i = .int .i64 x ∧ Hid (wr.ownsRow w1.heap.size 28 2 v (n - m) (qcells (Q.drop m).reverse)) ∧ Hid (Below w1.heap.size w1 wr)) (fun _ i _ => (intOf i + 1).toNat)
  case atStart => exact ⟨n, (n : Int) - 1, Nat.le_refl _, rfl, by first | rfl | go_num, Lib.hid (by rw [Nat.sub_self, List.drop_of_length_le (by rw [HN.out]; exact Nat.le_refl _)]; exact World.ownsRow_nil _ _ _ _), Lib.hid (Below.refl _ _)⟩
  case round =>
    obtain ⟨m, x, hmn, hx, rfl, HO, HB⟩ := hrel
    have hB1 := HB.out.size
    by_cases hx0 : 0 ≤ x
    · obtain ⟨j, rfl⟩ := Int.eq_ofNat_of_zero_le hx0
      obtain rfl : m = j + 1 := by omega
      have hjq : j < Q.length := by rw [HN.out]; omega
      have j1 : (j : Int) < (n : Int) := by omega
      obtain ⟨b, off, rfl, hb, c0, d0⟩ := frs_q (HF.out.below (HB1.out.trans (HB.out.mono hz1)) (Nat.le_refl _)) hjq
      obtain ⟨q, hqq⟩ : ∃ q, Q.getD j 0 = q := ⟨_, rfl⟩
      have HSN := Lib.hid (rev_snoc (Q := Q) (j := j) (q := q) (by rw [← hqq]; exact q_at hjq))
      rw [hqq] at c0 d0
      have hbz : b < wr.heap.size := by omega
      have HCNT : Hid (n - (j + 1) + 1 = n - j) := Lib.hid (by omega)
      clear hqq hx hjq
      go_wp2_with (at_builtin; refine wpList_push wr _ rfl (.tmp 36) (.tmp 41) 26 rfl w1.heap.size 28 (.agg #[.int .i64 0, .int .i64 0]) 2 16 Try.underlying26 Try.info_fr rfl (by omega) _ _ _ rfl HO.out rfl rfl (by simp [Value.oneCell']) (by omega) (by omega) hB1 ?_; intro v' w7 hown7 hg7)
      have HO7 := Lib.hid hown7
      have HB7 := Lib.hid (below_push HB.out HO.out hg7 (Nat.le_refl _) hB1)
      clear hown7 hg7
      go_wp2
      go_roundw
      case rel => exact ⟨j, (j : Int) - 1, by omega, rfl, by first | rfl | go_num, Lib.hid (by rw [HSN.out, qcells_snoc, ← HCNT.out]; exact HO7.out), HB7⟩
      case measure => first | (simp [intOf]; done) | (simp [intOf]; omega)
    · obtain rfl : m = 0 := by omega
      clear hx
      rw [Nat.sub_zero, List.drop_zero] at HO
      obtain ⟨A7, c7, hv7, hn7, hf7⟩ := owns_frs (S := Q.reverse.map frQ) HO.out
      rw [List.length_map, HRL.out] at hv7
      subst hv7
      clear hn7
      have HG := Lib.hid hf7
      have hgm := hf7.cap; have hgl := hf7.le
      rw [List.length_map, HRL.out] at hgl
      unfold maxLen at hgm
      have HBw := Lib.hid (HB1.out.trans (HB.out.mono hz1))
      have hzw := HBw.out.size
      obtain ⟨wo, hwo⟩ : ∃ y, y = wr := ⟨_, rfl⟩
      rw [← hwo] at HO HB HG HBw hzw hB1 ⊢
      clear hwo hf7
      go_wp2_with fail
      refine (rcmp_yes A A7 c c7 n n Q Q.reverse 0 wo.heap.size wo (Nat.le_refl _) ((HF.out.below HBw.out (Nat.le_refl _)).more hzw) HG.out HNQ.out HRL.out.symm (by rw [HRL.out]; exact HN.out) HH6.out HQ.out HQR.out (by rw [QS.srt_perm (List.reverse_perm Q)]; exact MM.lex_self _)).mono ?_; rintro e w2 ⟨rfl, hb2⟩
      have HB2 := Lib.hid (HBw.out.trans (hb2.mono hzw))
      have HO2 := Lib.hid (own_below HO.out hb2)
      have hz2 := hb2.size
      clear hb2 HO HG HB
      by_cases i0 : i < 0
      · go_wp2
        go_ret
        exact ⟨rfl, HB2.out⟩
      · have i0' : decide (i < 0) = false := decide_eq_false i0
        by_cases i1 : (n : Int) ≤ i
        · go_wp2
          go_ret
          exact ⟨rfl, HB2.out⟩
        · have i1' : decide ((n : Int) ≤ i) = false := decide_eq_false i1
          obtain ⟨k, rfl⟩ := Int.eq_ofNat_of_zero_le (show 0 ≤ i by omega)
          have hkn : k < n := by omega
          have hkr : k < Q.reverse.length := by rw [HRL.out]; exact hkn
          obtain ⟨g7, c8, hA7, hg70, hg71, _, _⟩ := own_form HO2.out (show 0 < n by omega)
          injection hA7 with e1 _ e3
          subst e1 e3
          obtain ⟨x, hxx⟩ : ∃ x, Q.reverse.getD k 0 = x := ⟨_, rfl⟩
          have hxk : Q.reverse[k]? = some x := by rw [← hxx]; exact q_at hkr
          obtain ⟨hc0, hc1⟩ := qcells_at hxk
          have q0 : w2.cell? ⟨g7, k * 2, none⟩ = some (.int .i64 x.num) := (HO2.out.cellAt (k * 2) (by omega)).trans hc0
          have q1 : w2.cell? ⟨g7, k * 2 + 1, none⟩ = some (.int .i64 x.den) := (HO2.out.cellAt (k * 2 + 1) (by omega)).trans hc1
          have HQX := Lib.hid (HQR.out x (List.mem_of_getElem? hxk))
          obtain ⟨s, hs⟩ : ∃ s, x + 1 = s := ⟨_, rfl⟩
          have HSS := Lib.hid hs; have HXK := Lib.hid hxk
          have k0 : (0 : Int) ≤ (k : Int) := by omega
          have k1 : (k : Int) < (n : Int) := by omega
          have k2 : decide (n ≤ k) = false := decide_eq_false (by omega)
          clear hxx hc0 hc1 hs hxk
          by_cases hin : QIn s
          · have HIN := Lib.hid hin
            clear hin
            go_wp2_with fail
            refine (fadd_one x s _ HQX.out HSS.out HIN.out).mono ?_; rintro e w3 ⟨rfl, hb3⟩
            have HO3 := Lib.hid (own_below HO2.out hb3)
            have HB3 := Lib.hid (HB2.out.trans (hb3.mono HB2.out.size))
            have hz3 := hb3.size
            have hz3w := HB3.out.size
            clear hb3 q0 q1 HO2 HB2
            have HX3 := Lib.hid (Blk.new w3 28 #[.int .i64 s.num, .int .i64 s.den])
            have HO4 := Lib.hid (HO3.out.alloc (.cells #[.int .i64 s.num, .int .i64 s.den] 28))
            have HB4 := Lib.hid (HB3.out.alloc hz3w (.cells #[.int .i64 s.num, .int .i64 s.den] 28))
            have f0 := HO4.out.frozenAt (k * 2)
            have f1 := HO4.out.frozenAt (k * 2 + 1)
            obtain ⟨x0, x1, _, _, xz⟩ := HX3.out.two
            have q0 : (w3.alloc (.cells #[.int .i64 s.num, .int .i64 s.den] 28)).cell? ⟨g7, k * 2, none⟩ = some (.int .i64 x.num) := (HO4.out.cellAt (k * 2) (by omega)).trans (qcells_at HXK.out).1
            have q1 : (w3.alloc (.cells #[.int .i64 s.num, .int .i64 s.den] 28)).cell? ⟨g7, k * 2 + 1, none⟩ = some (.int .i64 x.den) := (HO4.out.cellAt (k * 2 + 1) (by omega)).trans (qcells_at HXK.out).2
            obtain ⟨w4, hw4⟩ : ∃ y, y = w3.alloc (.cells #[.int .i64 s.num, .int .i64 s.den] 28) := ⟨_, rfl⟩
            go_upto_region 15 with (fail)
            rw [← hw4] at HX3 HO4 HB4 f0 f1 x0 x1 xz q0 q1 ⊢
            obtain ⟨gx, hgx⟩ : ∃ y, y = w3.heap.size := ⟨_, rfl⟩
            rw [← hgx] at HX3 x0 x1 xz ⊢
            clear hw4 hgx
            go_upto_region 18 with (fail)
            have HO5 := Lib.hid (qrow_put HO4.out (by rw [HRL.out]; exact hkn) s)
            have HB5 := Lib.hid ((HB4.out.setCell (p := ⟨g7, k * 2, none⟩) (show w.heap.size ≤ g7 by omega) (.int .i64 s.num)).setCell (p := ⟨g7, k * 2 + 1, none⟩) (show w.heap.size ≤ g7 by omega) (.int .i64 s.den))
            obtain ⟨w5, hw5⟩ : ∃ y, y = (w4.setCell ⟨g7, k * 2, none⟩ (.int .i64 s.num)).setCell ⟨g7, k * 2 + 1, none⟩ (.int .i64 s.den) := ⟨_, rfl⟩
            rw [← hw5] at HO5 HB5 ⊢
            clear hw5
            obtain ⟨A8, c8, hv8, hn8, hf8⟩ := owns_frs (S := (Q.reverse.set k s).map frQ) HO5.out
            injection hv8 with e1 e2 e3
            subst e1 e3
            clear hn8 e2
            have HG5 := Lib.hid hf8
            have hz5 := HB5.out.size
            have HF5 := Lib.hid ((HF.out.below HB5.out (Nat.le_refl _)).more hz5)
            have HQS : Hid (∀ q ∈ Q.reverse.set k s, QIn q) := Lib.hid fun q hq => by
              rcases List.mem_or_eq_of_mem_set hq with h | h
              · exact HQR.out q h
              · rw [h]; exact HIN.out
            have HLX : Hid (MM.lex (MM.srt Q) (MM.srt (Q.reverse.set k s)) = -1) := Lib.hid (by
              rw [← HSS.out]; exact QS.lex_more (List.reverse_perm Q).symm HXK.out one_pos')
            have HLS : Hid ((Q.reverse.set k s).length = n) := Lib.hid (by rw [List.length_set]; exact HRL.out)
            have HLQ : Hid (Q.length = (Q.reverse.set k s).length) := Lib.hid (by rw [HLS.out]; exact HN.out)
            obtain ⟨QS7, hQS7⟩ : ∃ l, Q.reverse.set k s = l := ⟨_, rfl⟩
            rw [hQS7] at HG5 HQS HLX HLS HLQ
            clear hf8 x0 x1 xz q0 q1 f0 f1 hkr hl1 hm1 hQS7
            go_wp2_with fail
            refine (rcmp_yes A (some ⟨g7, 0, none⟩) c c7 n n Q QS7 (-1) w5.heap.size w5 (Nat.le_refl _) HF5.out HG5.out HNQ.out HLS.out.symm HLQ.out HH6.out HQ.out HQS.out HLX.out).mono ?_; rintro e w6 ⟨rfl, hb6⟩
            have HB6 := Lib.hid (HB5.out.trans (hb6.mono hz5))
            clear hb6
            go_wp2
            go_ret
            exact ⟨rfl, HB6.out⟩
          · have HIN := Lib.hid hin
            clear hin
            go_wp2_with fail
            refine (fadd_one_full x s _ HQX.out HSS.out HIN.out).mono ?_; rintro e w3 ⟨rfl, hb3⟩
            have HB3 := Lib.hid ((HB2.out.trans (hb3.mono HB2.out.size)).alloc (Nat.le_trans HB2.out.size hb3.size) (.cells #[.int .i64 0, .int .i64 0] 28))
            clear hb3
            go_wp2
            go_ret
            exact ⟨rfl, HB3.out⟩
set_option maxHeartbeats 4000000 in
theorem rankSelf_walk (w : World) (A : Option Addr) (c : Nat) (S : List Fr) (hr : Frs w w.heap.size A c S) (_ : True) (x : Int) (_ : (Lit.int .i64 x).wf = true) :
    Calls Try.prog 7 #[.slice A S.length c, .int .i64 x] w fun e w' => e = .returned (.bool true) ∧ Below w.heap.size w w' := by
  by_cases h : rkErr S = 0
  · obtain ⟨Q, rfl, h6, hq⟩ := rk_ok h
    exact rankSelf_q A c _ Q x w hr (by rw [List.length_map]) h6 hq
  · have HS := Lib.hid (rsort_er A c _ S w.heap.size w _ (Nat.le_refl _) hr rfl rfl h)
    obtain ⟨er, her⟩ : ∃ er, rkErr S = er := ⟨_, rfl⟩
    rw [her] at HS
    clear hr h her
    go_enter Try.func7, Try.ntmps7
    go_wp2_with fail
    refine HS.out.mono ?_; rintro e w1 ⟨rfl, hb1⟩
    have HB1 := Lib.hid hb1
    clear hb1
    go_wp2
    go_ret
    exact ⟨rfl, HB1.out⟩
end Go.Proofs.Ytblanfaghnflkaa
