/- The walk of AimdEvens: it returns true for every input. -/
import Derived.Test.YtkheobdkmmbjnaaWAimdNone
import Derived.Test.YtkheobdkmmbjnaaTotal
namespace Go.Proofs.Ytkheobdkmmbjnaa
open Go.RowKit
attribute [local go_sem ↓] run_min_mn run_max_mx
theorem Ints.two {w : World} {g : Nat} {B : Nat} {x y : Int} (h0 : w.cell? ⟨g, 0, none⟩ = some (.int .i64 x)) (h1 : w.cell? ⟨g, 1, none⟩ = some (.int .i64 y)) (hB : g < B) : Ints w B (some ⟨g, 0, none⟩) 2 [x, y] := by
  refine ⟨⟨rfl, fun _ => ⟨g, 0, rfl, hB, fun j u hu => ?_⟩⟩, Nat.le_refl _, by simp [maxLen]⟩
  match j, hu with
  | 0, hu => cases hu; exact h0
  | 1, hu => cases hu; exact h1
theorem halved_stop {i n : Nat} {g : Int} (h : i ≤ n) (h0 : 0 ≤ g) (h1 : PA.halved i g ≤ 1) : PA.halved n g = PA.halved i g := by
  obtain ⟨d, rfl⟩ := Nat.exists_eq_add_of_le h
  induction d with
  | zero => rfl
  | succ d ih =>
    have hn : ∀ j, 0 ≤ PA.halved j g := fun j => by
      induction j with
      | zero => exact h0
      | succ j ih => simp only [PA.halved]; omega
    have := hn (i + d)
    have := ih (by omega)
    show (PA.halved (i + d) g + 1) / 2 = _
    omega
theorem halved_nn {g : Int} (h0 : 0 ≤ g) (j : Nat) : 0 ≤ PA.halved j g := by
  induction j with
  | zero => exact h0
  | succ j ih => simp only [PA.halved]; omega
theorem halved_le {g : Int} (h0 : 0 ≤ g) (j : Nat) : PA.halved j g ≤ g + 1 := by
  induction j with
  | zero => simp only [PA.halved]; omega
  | succ j ih => simp only [PA.halved]; omega
theorem evens_fact : SRes [9, 4] 10 1 = .ok ([4, 2], true) := by rfl
theorem step_fact (A : Nat) (w : World) (h0 : w.cell? ⟨A, 0, none⟩ = some (.int .i64 9)) (h1 : w.cell? ⟨A, 1, none⟩ = some (.int .i64 4)) (hA : A < w.heap.size) :
    Calls Try.prog 34 #[.slice (some ⟨A, 0, none⟩) 2 2, .int .i64 10, .int .i64 1] w fun e w' => Below w.heap.size w w' ∧ ∃ g cap, e = .returned (.tuple #[.slice (some ⟨g, 0, none⟩) 2 cap, .nilIface]) ∧
      w'.cell? ⟨g, 0, none⟩ = some (.int .i64 4) ∧ w'.cell? ⟨g, 1, none⟩ = some (.int .i64 2) ∧ 2 ≤ cap ∧ cap ≤ maxLen := by
  refine (aStep_all (some ⟨A, 0, none⟩) 2 [9, 4] 10 1 w (Ints.two h0 h1 hA)).mono ?_
  rintro e w' ⟨hb, ⟨m, b, hs, v, rfl, ho⟩ | ⟨er, hs, _⟩⟩
  · rw [evens_fact] at hs
    cases hs
    obtain ⟨g, cap, rfl, _, _, h2, h3⟩ := own_form ho (by simp)
    exact ⟨hb, g, cap, rfl, own_cell ho (l := [4, 2]) (k := 0) rfl (by simp), own_cell ho (l := [4, 2]) (k := 1) rfl (by simp), h2, h3⟩
  · rw [evens_fact] at hs; cases hs
set_option maxHeartbeats 4000000 in
set_option maxRecDepth 100000 in
theorem aimdEvens_walk (A : Option Addr) (cp : Nat) (l : List Int) (w : World) (hi : Ints w w.heap.size A cp l) (_ : ∀ n ∈ l, (Lit.int .i64 n).wf = true) (limit : Int) (_ : (Lit.int .i64 limit).wf = true) (up : Int) (_ : (Lit.int .i64 up).wf = true) (t : Int) (_ : (Lit.int .i64 t).wf = true) :
    Calls Try.prog 12 #[.slice A l.length cp, .int .i64 limit, .int .i64 up, .int .i64 t] w fun e w' => e = .returned (.bool true) ∧ Below w.heap.size w w' := by
  have HI := Lib.hid hi; clear hi
  go_enter Try.func12, Try.ntmps12
  go_wp2_with fail
  refine (step_fact _ _ (by simp) (by simp) (by simp)).mono ?_
  rintro e w1 ⟨hb1, g, cap, rfl, hf0, hf1, hc2, hcm⟩
  have hw1 : Below w.heap.size w w1 := ((Below.refl _ _).alloc (Nat.le_refl _) _).trans (hb1.mono (by simp))
  clear hb1
  go_wp2_with fail
  refine (aRun_all A cp l limit up t w1 ((HI.out.below hw1 (Nat.le_refl _)).more hw1.size)).mono ?_
  rintro e w2 ⟨hb2, ⟨m, b, hA, v, rfl, ho⟩ | ⟨er, hA, rfl⟩⟩
  · have hw2 := hw1.trans (hb2.mono hw1.size)
    obtain ⟨⟨⟨h0, hl, hbad⟩, g1, g2, g3, g4⟩, t0, t1, hs⟩ := ares_ok hA
    have HB := Lib.hid (shares_in hbad)
    obtain ⟨G, hbn⟩ := PA.good_steps l limit up (fun a ha => (HB.out a ha).1) (fun a ha => (HB.out a ha).2) (by omega) _ m b hs
    have HA := Lib.hid hA
    have HG := Lib.hid G
    obtain ⟨x, xc, rfl, hx0, hx1, hx2, hx3⟩ := own_form ho h0
    have HO := Lib.hid ho
    clear ho G hs hA hbad
    have hbt : (b : Int) ≤ t := by omega
    clear hf0 hf1 hc2 hcm
    go_wp2_with fail
    refine (cuts_all A cp l limit up t w2 ((HI.out.below hw2 (Nat.le_refl _)).more hw2.size)).mono ?_
    rintro e w3 ⟨hb3, ⟨m', b', hA', rfl⟩ | ⟨er, hA', rfl⟩⟩
    · have hw3 := hw2.trans (hb3.mono hw2.size)
      rw [HA.out] at hA'
      obtain ⟨rfl, rfl⟩ : m = m' ∧ b = b' := by cases hA'; exact ⟨rfl, rfl⟩
      have HO := Lib.hid (own_below HO.out hb3)
      have HL := Lib.hid (HI.out.below hw3 (Nat.le_refl _))
      clear hA' hb3 hb2
      go_wp2_with fail
      refine (rgap_any A cp l _ w3 HL.out (fun a ha => by have := HB.out a ha; omega) h0).mono ?_
      rintro e w3' ⟨lo, hi, rfl, hlo, hhi, hall, rfl⟩
      have q1 := HB.out lo hlo
      have q2 := HB.out hi hhi
      have hge : 0 ≤ hi - lo := by have := hall lo hlo; omega
      have HGAP := Lib.hid (HG.out.gap (hi - lo) fun a ha c hc => by have := hall a ha; have := hall c hc; omega)
      clear hall hlo hhi
      obtain ⟨q3, q4⟩ := q1
      obtain ⟨q5, q6⟩ := q2
      have hgd : ∃ d, d = hi - lo := ⟨_, rfl⟩
      obtain ⟨d, hd⟩ := hgd
      rw [← hd] at HGAP hge ⊢
      have hd1 : d ≤ 10000 := by omega
      clear hd q3 q4 q5 q6
      have hbt2 : b ≤ 60 := by omega
      have HD := Lib.hid (fun j => halved_nn hge j)
      have HE := Lib.hid (fun j => halved_le hge j)
      go_wp2
      go_loopw [15, 16] (fun gp i wr => ∃ j : Nat, j ≤ b ∧ i = .int .i64 j ∧ gp = .int .i64 (PA.halved j d) ∧ wr = w3) (fun _ i _ => b - (intOf i).toNat)
      case atStart => exact ⟨0, Nat.zero_le _, rfl, rfl, rfl⟩
      case round =>
        obtain ⟨j, hj, rfl, rfl, rfl⟩ := hrel
        by_cases hgo : j < b ∧ 1 < PA.halved j d
        · obtain ⟨hlt, hg1⟩ := hgo
          have hy0 := HD.out j
          have hy1 := HE.out j
          have HN : Hid (PA.halved (j + 1) d = (PA.halved j d + 1) / 2) := Lib.hid rfl
          generalize PA.halved j d = y at *
          have d1 : decide ((j : Int) < b) = true := by simp; omega
          go_wp2
          go_roundw
          case rel => exact ⟨j + 1, by omega, by go_num, by rw [HN.out], trivial⟩
          case measure => simp [intOf]; omega
        · have HST : Hid (PA.halved b d = PA.halved j d) := by
            show _ = _
            by_cases hjb : j = b
            · rw [hjb]
            · exact halved_stop hj hge (by omega)
          have hy0 := HD.out j
          have hy1 := HE.out j
          generalize PA.halved j d = y at *
          have HML := Lib.hid HG.out.len
          have HIX : Hid (Ints wr wr.heap.size (some ⟨x, 0, none⟩) xc m) := by
            obtain ⟨A', c', e, _, h⟩ := owns_ints HO.out
            simp only [Value.slice.injEq] at e
            obtain ⟨rfl, _, rfl⟩ := e
            exact h
          have HMB := Lib.hid (fun (a : Int) (ha : a ∈ m) => (⟨HG.out.nn a ha, HG.out.le a ha⟩ : 0 ≤ a ∧ a ≤ 10000))
          have K := rgap_any (some ⟨x, 0, none⟩) xc m _ wr HIX.out (fun a ha => by have := HMB.out a ha; omega) (by rw [HML.out]; exact h0)
          rw [HML.out] at K
          have HK := Lib.hid K; clear K
          have hno : ¬ ((j : Int) < b ∧ 1 < y) := by omega
          have hcut : ¬ (j : Int) < b ∨ (j : Int) < b ∧ ¬ 1 < y := by
            by_cases c1 : (j : Int) < b
            · exact .inr ⟨c1, fun c2 => hno ⟨c1, c2⟩⟩
            · exact .inl c1
          have hfin : ∀ lo hi : Int, lo ∈ m → hi ∈ m → ¬ y < hi - lo := by
            intro lo hi h1 h2
            have := HGAP.out hi h2 lo h1
            rw [HST.out] at this; omega
          have HF := Lib.hid hfin
          clear hfin hno hgo HGAP HST HD HE
          rcases hcut with d1 | ⟨d1, d2⟩
          all_goals
            go_wp2_with fail
            refine HK.out.mono ?_
            rintro e w4 ⟨lo, hi, rfl, hlo, hhi, _, rfl⟩
            have hle := HF.out lo hi hlo hhi
            obtain ⟨e1, e2⟩ := HMB.out lo hlo
            obtain ⟨e3, e4⟩ := HMB.out hi hhi
            clear hlo hhi
            go_wp2
            go_loopw [17] (fun i wr' => ∃ k n : Nat, k ≤ l.length ∧ i = .int .i64 k ∧ wr' = wr.drewN n) (fun i _ => l.length - (intOf i).toNat)
            case atStart => exact ⟨0, 0, Nat.zero_le _, rfl, rfl⟩
            case round =>
              obtain ⟨k, n, hk, rfl, rfl⟩ := hrel
              by_cases hlt : k < l.length
              · obtain ⟨bb, off, lk, rfl, _, hck, hlk, _, HXk⟩ := HL.out.elem hlt
                obtain ⟨l0, l1⟩ := HB.out lk hlk
                clear hlk
                have hmk : ∃ mk, m[k]? = some mk := ⟨m[k]'(by rw [HML.out]; exact hlt), List.getElem?_eq_getElem _⟩
                obtain ⟨mk, hmk⟩ := hmk
                have hxk := own_cell HO.out hmk hlt
                have HMk := Lib.hid hmk; clear hmk
                go_wp2
                go_loopw [18] (fun i wr' => ∃ q n : Nat, q ≤ l.length ∧ i = .int .i64 q ∧ wr' = wr.drewN n) (fun i _ => l.length - (intOf i).toNat)
                case atStart => exact ⟨0, n, Nat.zero_le _, rfl, rfl⟩
                case round =>
                  obtain ⟨q, n, hq, rfl, rfl⟩ := hrel
                  by_cases hlq : q < l.length
                  · obtain ⟨bb', off', lq, he, _, hcq, hlq', _, HXq⟩ := HL.out.elem hlq
                    obtain ⟨rfl, rfl⟩ : bb = bb' ∧ off = off' := by simpa using he
                    obtain ⟨l2, l3⟩ := HB.out lq hlq'
                    clear hlq' he
                    have hmq : ∃ mq, m[q]? = some mq := ⟨m[q]'(by rw [HML.out]; exact hlq), List.getElem?_eq_getElem _⟩
                    obtain ⟨mq, hmq⟩ := hmq
                    have hxq := own_cell HO.out hmq hlq
                    have hord : lq < lk → mq ≤ mk := by
                      intro hlt'
                      have h1 : l[k] = lk := by have := HXk.out; simpa [hlt] using this
                      have h2 : l[q] = lq := by have := HXq.out; simpa [hlq] using this
                      have := HG.out.ord k q hlt hlq (by rw [h1, h2]; exact hlt')
                      simpa [hmq, HMk.out] using this
                    have hdec : decide (lq < lk) = false ∨ decide (lq < lk) = true ∧ decide (mk < mq) = false := by
                      by_cases c1 : lq < lk
                      · exact .inr ⟨decide_eq_true c1, decide_eq_false (by have := hord c1; omega)⟩
                      · exact .inl (decide_eq_false c1)
                    clear hord hmq HXq
                    rcases hdec with c1 | ⟨c1, c2⟩
                    all_goals
                      go_wp2
                      go_quiet (fail)
                      go_wp2
                      go_roundw
                      case rel => exact ⟨q + 1, _, by omega, by go_num, rfl⟩
                      case measure => simp [intOf]; omega
                  · go_wp2
                    go_roundw
                    case rel => exact ⟨k + 1, n, by omega, by go_num, rfl⟩
                    case measure => simp [intOf]; omega
              · go_wp2_with fail
                refine (total_any A cp l _ _ (HL.out.drewN n) (fun a ha => by have := HB.out a ha; omega) (by omega)).mono ?_
                rintro e w5 ⟨rfl, rfl⟩
                have KT := total_any (some ⟨x, 0, none⟩) xc m _ _ (HIX.out.drewN n) (fun a ha => by have := HMB.out a ha; omega) (by rw [HML.out]; omega)
                rw [HML.out] at KT
                have HKT := Lib.hid KT; clear KT
                have hsum : limit < tot l ∨ ¬ limit < tot l ∧ tot m ≤ limit + l.length * up := by
                  by_cases c : limit < tot l
                  · exact .inl c
                  · exact .inr ⟨c, HG.out.sum (by omega)⟩
                have hlu : 0 ≤ (l.length : Int) * up ∧ (l.length : Int) * up ≤ 6 * 1000 := ⟨Int.mul_nonneg (by omega) (by omega), Int.mul_le_mul (by omega) g4 (by omega) (by omega)⟩
                obtain ⟨u1, u2⟩ := hlu
                have htb := tot_bound m 10000 HMB.out
                rw [HML.out] at htb
                rcases hsum with c1 | ⟨c1, c2⟩
                · go_wp2
                  go_ret
                  exact ⟨rfl, below_drewN hw3 _⟩
                · go_wp2_with fail
                  refine HKT.out.mono ?_
                  rintro e w6 ⟨rfl, rfl⟩
                  go_wp2
                  go_ret
                  exact ⟨rfl, below_drewN hw3 _⟩
    · rw [HA.out] at hA'; cases hA'
  · go_wp2
    go_ret
    exact ⟨rfl, hw1.trans (hb2.mono hw1.size)⟩
end Go.Proofs.Ytkheobdkmmbjnaa
