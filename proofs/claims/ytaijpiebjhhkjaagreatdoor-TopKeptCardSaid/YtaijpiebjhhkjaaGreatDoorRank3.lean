/- rank.Compare, rank.Least: the forms for laws. -/
import Derived.Test.YtaijpiebjhhkjaaGreatDoorRank2
namespace Go.Proofs.YtaijpiebjhhkjaaGreatDoor
open Go.RowKit
theorem lex_step {Q R : List Rat} {k : Nat} {q r : Rat} (hq : Q[k]? = some q) (hr : R[k]? = some r) : MM.lex (Q.drop k) (R.drop k) = if ordQ q r = 0 then MM.lex (Q.drop (k + 1)) (R.drop (k + 1)) else ordQ q r := by
  obtain ⟨h1, e1⟩ := List.getElem?_eq_some_iff.1 hq
  obtain ⟨h2, e2⟩ := List.getElem?_eq_some_iff.1 hr
  rw [List.drop_eq_getElem_cons h1, List.drop_eq_getElem_cons h2, e1, e2]
  show (if q < r then -1 else if r < q then 1 else _) = _
  unfold ordQ
  by_cases h : q < r
  · simp [h]
  · by_cases h' : r < q
    · simp [h, h']
    · simp [h, h']
theorem q_at {Q : List Rat} {k : Nat} (h : k < Q.length) : Q[k]? = some (Q.getD k 0) := by rw [List.getD_eq_getElem?_getD, List.getElem?_eq_getElem h]; rfl
theorem q_mem {Q : List Rat} {k : Nat} (h : k < Q.length) : Q.getD k 0 ∈ Q := List.mem_of_getElem? (q_at h)
set_option maxHeartbeats 4000000 in
set_option maxRecDepth 100000 in
theorem cmpF_any (A A' : Option Addr) (c c' n : Nat) (Q R : List Rat) (o : Int) (w : World) (hf : Frs w w.heap.size A c (Q.map frQ)) (hg : Frs w w.heap.size A' c' (R.map frQ)) (hn : Q.length = n) (hn' : R.length = n) (hq : ∀ q ∈ Q, QIn q) (hr : ∀ q ∈ R, QIn q) (ho : MM.lex Q R = o) :
    Calls Tryz.prog 69 #[.slice A n c, .slice A' n c', .func (Fn.func 66) #[] #[]] w fun e w' => e = .returned (.int .i64 o) ∧ Below w.heap.size w w' := by
  have HF := Lib.hid hf; have HG := Lib.hid hg; have HQ := Lib.hid hq; have HR := Lib.hid hr
  have HN := Lib.hid hn; have HN' := Lib.hid hn'
  have HO : Hid (MM.lex (Q.drop 0) (R.drop 0) = o) := Lib.hid ho
  have hm := hf.cap; have hml := hf.le; have hm' := hg.cap; have hml' := hg.le
  rw [List.length_map, hn] at hml
  rw [List.length_map, hn'] at hml'
  unfold maxLen at hm hm'
  clear hf hg hq hr hn hn' ho
  go_enter Tryz.func69, Tryz.ntmps69
  go_wp2
  go_loopw [13] (fun i wr => ∃ k : Nat, k ≤ n ∧ i = .int .i64 k ∧ Hid (MM.lex (Q.drop k) (R.drop k) = o) ∧ Hid (Below w.heap.size w wr)) (fun i _ => n - (intOf i).toNat)
  case atStart => exact ⟨0, Nat.zero_le _, rfl, HO, Lib.hid (Below.refl _ _)⟩
  case round =>
    clear HO
    obtain ⟨k, hk, rfl, HO, HB⟩ := hrel
    have hB1 := HB.out.size
    by_cases hlt : k < n
    · have k0 : (0 : Int) ≤ (k : Int) := by omega
      have k1 : (k : Int) < (n : Int) := by omega
      have hkq : k < Q.length := by rw [HN.out]; exact hlt
      have hkr : k < R.length := by rw [HN'.out]; exact hlt
      obtain ⟨b, off, rfl, hb, c0, c1⟩ := frs_q (HF.out.below HB.out (Nat.le_refl _)) hkq
      obtain ⟨b', off', rfl, hb', d0, d1⟩ := frs_q (HG.out.below HB.out (Nat.le_refl _)) hkr
      have hst := HO.out
      rw [lex_step (q_at hkq) (q_at hkr)] at hst
      have hqi := HQ.out _ (q_mem hkq)
      have hri := HR.out _ (q_mem hkr)
      obtain ⟨q, hqq⟩ : ∃ q, Q.getD k 0 = q := ⟨_, rfl⟩
      obtain ⟨r, hrr⟩ : ∃ r, R.getD k 0 = r := ⟨_, rfl⟩
      rw [hqq] at c0 c1 hst hqi
      rw [hrr] at d0 d1 hst hri
      obtain ⟨o', ho'⟩ : ∃ o', ordQ q r = o' := ⟨_, rfl⟩
      have HC := Lib.hid fun W => order_q q r o' W hqi hri ho'
      rw [ho'] at hst
      have hbz : b < wr.heap.size := by omega
      have hbz' : b' < wr.heap.size := by omega
      have HB2 := Lib.hid ((HB.out.alloc hB1 (.cells #[.int .i64 q.num, .int .i64 q.den] 37)).alloc (by simp; omega) (.cells #[.int .i64 r.num, .int .i64 r.den] 37))
      clear hqq hrr ho' hqi hri hkq hkr
      by_cases hz : o' = 0
      · rw [if_pos hz] at hst
        have HS := Lib.hid hst
        subst hz
        clear hst
        go_wp2_with fail
        refine (HC.out _).mono ?_; rintro e w5 ⟨rfl, hb5⟩
        have HB5 := Lib.hid (HB2.out.trans (hb5.mono HB2.out.size))
        clear hb5
        go_wp2
        go_roundw
        case rel => exact ⟨k + 1, by omega, by go_num, HS, HB5⟩
        case measure => simp [intOf]; omega
      · rw [if_neg hz] at hst
        subst hst
        have hz' : (o' == 0) = false := beq_eq_false_iff_ne.2 hz
        go_wp2_with fail
        refine (HC.out _).mono ?_; rintro e w5 ⟨rfl, hb5⟩
        have HB5 := Lib.hid (HB2.out.trans (hb5.mono HB2.out.size))
        clear hb5
        go_wp2
        go_ret
        exact ⟨rfl, HB5.out⟩
    · obtain rfl : k = n := by omega
      have hst := HO.out
      rw [List.drop_of_length_le (by rw [HN.out]; exact Nat.le_refl _), List.drop_of_length_le (by rw [HN'.out]; exact Nat.le_refl _)] at hst
      have hst : (0 : Int) = o := hst
      subst hst
      go_wp2
      go_ret
      exact ⟨rfl, HB.out⟩
theorem srt_in {Q : List Rat} (hq : ∀ q ∈ Q, QIn q) : ∀ q ∈ MM.srt Q, QIn q := fun q h => hq q ((MM.perm_srt Q).mem_iff.1 h)
set_option maxHeartbeats 4000000 in
theorem rcmp_yes (A A' : Option Addr) (c c' n n' : Nat) (Q R : List Rat) (o : Int) (B : Nat) (w : World) (hB : B ≤ w.heap.size) (hf : Frs w B A c (Q.map frQ)) (hg : Frs w B A' c' (R.map frQ)) (hn : n = Q.length) (hn' : n' = R.length) (hl : Q.length = R.length) (h6 : Q.length ≤ 6) (hq : ∀ q ∈ Q, QIn q) (hr : ∀ q ∈ R, QIn q) (ho : MM.lex (MM.srt Q) (MM.srt R) = o) :
    Calls Tryz.prog 35 #[.slice A n c, .slice A' n' c'] w fun e w' => e = .returned (.tuple #[.int .i64 o, .nilIface]) ∧ Below w.heap.size w w' := by
  have HX := Lib.hid (rsort_yes A c n Q B w hB hf hn h6 hq)
  have HY := Lib.hid fun (W : World) (h : Below w.heap.size w W) => rsort_yes A' c' n' R B W (Nat.le_trans hB h.size) (hg.below h hB) hn' (by omega) hr
  have HQ := Lib.hid (srt_in hq); have HR := Lib.hid (srt_in hr); have HO := Lib.hid ho
  have HL := Lib.hid (QS.srt_len Q); have HL' := Lib.hid ((QS.srt_len R).trans hl.symm)
  obtain ⟨m, hm⟩ : ∃ m, Q.length = m := ⟨_, rfl⟩
  rw [← hl] at HY
  rw [hm] at HX HY HL HL'
  clear hf hg hn hn' hl h6 hq hr ho hm
  go_enter Tryz.func35, Tryz.ntmps35
  go_wp2_with fail
  refine HX.out.mono ?_; rintro e w1 ⟨A1, c1, rfl, hf1, hb1⟩
  have HF := Lib.hid hf1; have HB := Lib.hid hb1
  have hs := hb1.size
  clear hf1 hb1
  go_wp2_with fail
  refine (HY.out _ HB.out).mono ?_; rintro e w2 ⟨A2, c2, rfl, hf2, hb2⟩
  have HFx := Lib.hid (HF.out.at' hb2); have HG := Lib.hid hf2; have HB2 := Lib.hid (HB.out.trans (hb2.mono hs))
  clear hf2 hb2 HF
  go_wp2_with fail
  refine (cmpF_any A1 A2 c1 c2 m (MM.srt Q) (MM.srt R) o w2 HFx.out HG.out HL.out HL'.out HQ.out HR.out HO.out).mono ?_; rintro e w3 ⟨rfl, hb3⟩
  have HB3 := Lib.hid (HB2.out.trans (hb3.mono HB2.out.size))
  clear hb3
  go_wp2
  go_ret2
  exact ⟨rfl, HB3.out⟩
theorem rk_ok {S : List Fr} (h : rkErr S = 0) : ∃ Q : List Rat, S = Q.map frQ ∧ Q.length ≤ 6 ∧ ∀ q ∈ Q, QIn q := by
  unfold rkErr at h
  by_cases h6 : 6 < S.length
  · rw [if_pos h6] at h; exact absurd h (by decide)
  · rw [if_neg h6] at h
    obtain ⟨Q, rfl, hq⟩ := ratesErr_ok h
    exact ⟨Q, rfl, by simp at h6; exact h6, hq⟩
theorem rk_of {Q : List Rat} (h6 : Q.length ≤ 6) (hq : ∀ q ∈ Q, QIn q) : rkErr (Q.map frQ) = 0 := by
  unfold rkErr
  rw [if_neg (by simp; omega), ratesErr_of hq]
/-- what is wrong with two that are compared -/
def cmpErr (S T : List Fr) : Int := if rkErr S = 0 then (if rkErr T = 0 then (if S.length = T.length then 0 else 3) else rkErr T) else rkErr S
set_option maxHeartbeats 4000000 in
theorem rcmp_er (A A' : Option Addr) (c c' n n' : Nat) (S T : List Fr) (er : Int) (B : Nat) (w : World) (hB : B ≤ w.heap.size) (hf : Frs w B A c S) (hg : Frs w B A' c' T) (hn : n = S.length) (hn' : n' = T.length) (he : cmpErr S T = er) (h0 : er ≠ 0) :
    Calls Tryz.prog 35 #[.slice A n c, .slice A' n' c'] w fun e w' => e = .returned (.tuple #[.int .i64 0, .iface 74 (.int .i64 er)]) ∧ Below w.heap.size w w' := by
  unfold cmpErr at he
  by_cases h1 : rkErr S = 0
  · rw [if_pos h1] at he
    obtain ⟨Q, rfl, h6, hq⟩ := rk_ok h1
    have HX := Lib.hid (rsort_yes A c n Q B w hB hf (by rw [hn, List.length_map]) h6 hq)
    by_cases h2 : rkErr T = 0
    · rw [if_pos h2] at he
      obtain ⟨R, rfl, h6', hr⟩ := rk_ok h2
      have hd : Q.length ≠ R.length := fun e => by rw [if_pos (by simpa using e)] at he; exact h0 he.symm
      rw [if_neg (by simpa using hd)] at he
      subst he
      have HY := Lib.hid fun (W : World) (h : Below w.heap.size w W) => rsort_yes A' c' n' R B W (Nat.le_trans hB h.size) (hg.below h hB) (by rw [hn', List.length_map]) h6' hr
      have hdd : ((Q.length : Int) != (R.length : Int)) = true := by rw [bne_iff_ne]; omega
      clear hf hg hn hn' h6 h6' hq hr h0 h1 h2 hd
      go_enter Tryz.func35, Tryz.ntmps35
      go_wp2_with fail
      refine HX.out.mono ?_; rintro e w1 ⟨A1, c1, rfl, _, hb1⟩
      have HB := Lib.hid hb1
      have hs := hb1.size
      clear hb1
      go_wp2_with fail
      refine (HY.out _ HB.out).mono ?_; rintro e w2 ⟨A2, c2, rfl, _, hb2⟩
      have HB2 := Lib.hid (HB.out.trans (hb2.mono hs))
      clear hb2
      go_wp2
      go_ret2
      exact ⟨rfl, HB2.out⟩
    · rw [if_neg h2] at he
      have HY := Lib.hid fun (W : World) (h : Below w.heap.size w W) => rsort_er A' c' n' T B W er (Nat.le_trans hB h.size) (hg.below h hB) hn' he h0
      clear hf hg hn hn' h6 hq h0 h1 h2 he
      go_enter Tryz.func35, Tryz.ntmps35
      go_wp2_with fail
      refine HX.out.mono ?_; rintro e w1 ⟨A1, c1, rfl, _, hb1⟩
      have HB := Lib.hid hb1
      have hs := hb1.size
      clear hb1
      go_wp2_with fail
      refine (HY.out _ HB.out).mono ?_; rintro e w2 ⟨rfl, hb2⟩
      have HB2 := Lib.hid (HB.out.trans (hb2.mono hs))
      clear hb2
      go_wp2
      go_ret2
      exact ⟨rfl, HB2.out⟩
  · rw [if_neg h1] at he
    have HX := Lib.hid (rsort_er A c n S B w er hB hf hn he h0)
    clear hf hg hn hn' h0 h1 he
    go_enter Tryz.func35, Tryz.ntmps35
    go_wp2_with fail
    refine HX.out.mono ?_; rintro e w1 ⟨rfl, hb1⟩
    have HB := Lib.hid hb1
    clear hb1
    go_wp2
    go_ret2
    exact ⟨rfl, HB.out⟩
set_option maxHeartbeats 4000000 in
theorem rleast_er (A : Option Addr) (c n : Nat) (S : List Fr) (er : Int) (B : Nat) (w : World) (hB : B ≤ w.heap.size) (hf : Frs w B A c S) (hn : n = S.length) (he : rkErr S = er) (h0 : er ≠ 0) :
    Calls Tryz.prog 149 #[.slice A n c] w fun e w' => e = .returned (.tuple #[.agg #[.int .i64 0, .int .i64 0], .iface 74 (.int .i64 er)]) ∧ Below w.heap.size w w' := by
  have HR0 := Lib.hid (Blk.new w 37 #[.int .i64 0, .int .i64 0])
  have HB0 := Lib.hid ((Below.refl w.heap.size w).alloc (Nat.le_refl _) (.cells #[.int .i64 0, .int .i64 0] 37))
  have HX := Lib.hid fun (W : World) (h : Below w.heap.size w W) => rsort_er A c n S B W er (Nat.le_trans hB h.size) (hf.below h hB) hn he h0
  clear hf hn h0 he
  go_enter Tryz.func149, Tryz.ntmps149
  go_wp2_with fail
  refine (HX.out _ HB0.out).mono ?_; rintro e w1 ⟨rfl, hb1⟩
  have HR1 := Lib.hid (HR0.out.go hb1)
  have HB1 := Lib.hid (HB0.out.trans (hb1.mono HB0.out.size))
  obtain ⟨r0, r1, rf0, rf1, rz⟩ := HR1.out.two
  have HBF := Lib.hid ((HB1.out.setCell (p := ⟨w.heap.size, 0, none⟩) (Nat.le_refl _) (.int .i64 0)).setCell (p := ⟨w.heap.size, 1, none⟩) (Nat.le_refl _) (.int .i64 0))
  clear hb1
  go_wp2
  exact bodyPost_ret (v := .tuple #[.agg #[.int .i64 0, .int .i64 0], .iface 74 (.int .i64 er)]) (by simp [results, Tryz.results149, go_sem, r0, r1]) rfl ⟨rfl, HBF.out⟩
set_option maxHeartbeats 4000000 in
theorem rleast_none (A : Option Addr) (c : Nat) (w : World) (hf : Frs w w.heap.size A c []) :
    Calls Tryz.prog 149 #[.slice A 0 c] w fun e w' => e = .returned (.tuple #[.agg #[.int .i64 0, .int .i64 0], .iface 74 (.int .i64 5)]) ∧ Below w.heap.size w w' := by
  have HR0 := Lib.hid (Blk.new w 37 #[.int .i64 0, .int .i64 0])
  have HB0 := Lib.hid ((Below.refl w.heap.size w).alloc (Nat.le_refl _) (.cells #[.int .i64 0, .int .i64 0] 37))
  have HX := Lib.hid (rsort_yes A c 0 [] _ _ (Nat.le_refl _) (hf.at' HB0.out) rfl (by decide) (fun q hq => by cases hq))
  clear hf
  go_enter Tryz.func149, Tryz.ntmps149
  go_wp2_with fail
  refine HX.out.mono ?_; rintro e w1 ⟨A1, c1, rfl, _, hb1⟩
  have HR1 := Lib.hid (HR0.out.go hb1)
  have HB1 := Lib.hid (HB0.out.trans (hb1.mono HB0.out.size))
  obtain ⟨r0, r1, rf0, rf1, rz⟩ := HR1.out.two
  have HBF := Lib.hid ((HB1.out.setCell (p := ⟨w.heap.size, 0, none⟩) (Nat.le_refl _) (.int .i64 0)).setCell (p := ⟨w.heap.size, 1, none⟩) (Nat.le_refl _) (.int .i64 0))
  clear hb1
  go_wp2
  exact bodyPost_ret (v := .tuple #[.agg #[.int .i64 0, .int .i64 0], .iface 74 (.int .i64 5)]) (by simp [results, Tryz.results149, go_sem, r0, r1]) rfl ⟨rfl, HBF.out⟩
set_option maxHeartbeats 4000000 in
theorem rleast_yes (A : Option Addr) (c n : Nat) (Q : List Rat) (m : Rat) (B : Nat) (w : World) (hB : B ≤ w.heap.size) (hf : Frs w B A c (Q.map frQ)) (hn : n = Q.length) (h6 : Q.length ≤ 6) (hq : ∀ q ∈ Q, QIn q) (hm : (MM.srt Q)[0]? = some m) :
    Calls Tryz.prog 149 #[.slice A n c] w fun e w' => e = .returned (.tuple #[.agg #[.int .i64 m.num, .int .i64 m.den], .nilIface]) ∧ Below w.heap.size w w' := by
  have HR0 := Lib.hid (Blk.new w 37 #[.int .i64 0, .int .i64 0])
  have HB0 := Lib.hid ((Below.refl w.heap.size w).alloc (Nat.le_refl _) (.cells #[.int .i64 0, .int .i64 0] 37))
  have HX := Lib.hid fun (W : World) (h : Below w.heap.size w W) => rsort_yes A c n Q B W (Nat.le_trans hB h.size) (hf.below h hB) hn h6 hq
  have h0 : 0 < (MM.srt Q).length := (List.getElem?_eq_some_iff.1 hm).1
  have hgd : (MM.srt Q).getD 0 0 = m := by rw [List.getD_eq_getElem?_getD, hm]; rfl
  have HGD := Lib.hid hgd; have H0 := Lib.hid h0
  have h0' : 0 < Q.length := by rwa [QS.srt_len] at h0
  have h1' : ((Q.length : Int) == 0) = false := beq_eq_false_iff_ne.2 (by omega)
  have h2' : ¬ (Q.length : Int) = 0 := by omega
  clear hf hn hq hm hgd h0
  go_enter Tryz.func149, Tryz.ntmps149
  go_wp2_with fail
  refine (HX.out _ HB0.out).mono ?_; rintro e w1 ⟨A1, c1, rfl, hf1, hb1⟩
  obtain ⟨b, off, rfl, hb, c0, d0⟩ := frs_q hf1 H0.out
  rw [HGD.out] at c0 d0
  rw [Nat.zero_mul, Nat.add_zero] at c0 d0
  have HR1 := Lib.hid (HR0.out.go hb1)
  have HB1 := Lib.hid (HB0.out.trans (hb1.mono HB0.out.size))
  obtain ⟨r0, r1, rf0, rf1, rz⟩ := HR1.out.two
  have HBF := Lib.hid ((HB1.out.setCell (p := ⟨w.heap.size, 0, none⟩) (Nat.le_refl _) (.int .i64 m.num)).setCell (p := ⟨w.heap.size, 1, none⟩) (Nat.le_refl _) (.int .i64 m.den))
  clear hb1 hf1
  go_wp2
  exact bodyPost_ret (v := .tuple #[.agg #[.int .i64 m.num, .int .i64 m.den], .nilIface]) (by simp [results, Tryz.results149, go_sem, r0, r1]) rfl ⟨rfl, HBF.out⟩
end Go.Proofs.YtaijpiebjhhkjaaGreatDoor
