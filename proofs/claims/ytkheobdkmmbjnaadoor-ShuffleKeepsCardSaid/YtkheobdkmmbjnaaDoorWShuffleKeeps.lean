/- The walk of ShuffleKeeps: it returns true for every input. -/
import Derived.Test.YtkheobdkmmbjnaaDoorShufStep
import Derived.Test.YtkheobdkmmbjnaaDoorTotal
import Derived.Test.YtkheobdkmmbjnaaDoorEvenLow
import Derived.Test.YtkheobdkmmbjnaaDoorGap
import Derived.Test.YtkheobdkmmbjnaaDoorTold
namespace Go.Proofs.YtkheobdkmmbjnaaDoor
open Go.RowKit
theorem shufFact : shufErr [100, 0] 500 = 0 ∧ PS.step [100, 0] 500 = [75, 25] := by decide
theorem rgapN (A : Option Addr) (c n : Nat) (l : List Int) (B : Nat) (w : World) (h : Ints w B A c l) (hb : ∀ a ∈ l, 0 ≤ a ∧ a ≤ 10000) (h0 : 0 < l.length) (hn : n = l.length) :
    Calls Tryd.prog 60 #[.slice A n c] w fun e w' => e = .returned (.int .i64 (gapL l)) ∧ w = w' := by
  subst hn
  refine (rgap_any A c l B w h (fun a ha => by have := hb a ha; omega) h0).mono ?_
  rintro e w' ⟨lo, hi, rfl, h1, h2, h3, rfl⟩
  exact ⟨by rw [gapL_of h1 h2 h3], rfl⟩
theorem totalN (A : Option Addr) (c n : Nat) (l : List Int) (B : Nat) (w : World) (h : Ints w B A c l) (hb : ∀ a ∈ l, 0 ≤ a ∧ a ≤ 10000) (hlen : l.length ≤ 6) (hn : n = l.length) :
    Calls Tryd.prog 58 #[.slice A n c] w fun e w' => e = .returned (.int .i64 (tot l)) ∧ w = w' := by
  subst hn
  exact total_any A c l B w h (fun a ha => by have := hb a ha; omega) (by omega)
theorem shufstepN (A : Option Addr) (c n : Nat) (l : List Int) (p : Int) (w : World) (h : Ints w w.heap.size A c l) (he : shufErr l p = 0) (hn : n = l.length) :
    Calls Tryd.prog 70 #[.slice A n c, .int .i64 p] w fun e w' => ∃ A' c', e = .returned (.tuple #[.slice A' n c', .nilIface]) ∧ Ints w' w'.heap.size A' c' (PS.step l p) ∧ Below w.heap.size w w' := by
  subst hn
  refine (shufstep_yes A c l p w h he).mono ?_
  rintro e w' ⟨v, rfl, ho, hb⟩
  obtain ⟨A', c', hv, hl, hi⟩ := owns_ints ho
  subst hv
  exact ⟨A', c', by rw [← hl], hi, hb⟩
theorem gap_bd {l : List Int} (h : ∀ a ∈ l, 0 ≤ a ∧ a ≤ 10000) (hne : l ≠ []) : 0 ≤ gapL l ∧ gapL l ≤ 10000 := by
  obtain ⟨m1, m2⟩ := lmax_spec l hne
  obtain ⟨n1, n2⟩ := lmin_spec l hne
  have := h _ m1
  have := h _ n1
  have := m2 _ n1
  unfold gapL; omega
/-- shares under way -/
structure Share (l L : List Int) : Prop where
  len : L.length = l.length
  tot : tot L = tot l
  bd : ∀ a ∈ L, 0 ≤ a ∧ a ≤ 10000
theorem Share.step {l L : List Int} {p : Int} (h : Share l L) (h0 : 0 < l.length) (p0 : 0 ≤ p) (p1 : p ≤ 1000) : Share l (PS.step L p) ∧ gapL (PS.step L p) ≤ gapL L := by
  have hne : L ≠ [] := by intro e; have := h.len; rw [e] at this; simp at this; omega
  have hl := PS.step_len L p
  have hne' : PS.step L p ≠ [] := by intro e; rw [e] at hl; have := h.len; simp at hl; omega
  have hat : ∀ a ∈ PS.step L p, ∃ i, i < L.length ∧ (PS.step L p).getD i 0 = a := fun a ha => by
    obtain ⟨i, hi, e⟩ := List.getElem_of_mem ha
    exact ⟨i, by omega, by rw [← e]; simp [hi]⟩
  refine ⟨⟨hl.trans h.len, by rw [PS.step_tot L p (by rw [h.len]; exact h0)]; exact h.tot, fun a ha => ?_⟩, ?_⟩
  · obtain ⟨i, hi, rfl⟩ := hat a ha
    exact PS.step_le L p 10000 h.bd p0 p1 i hi
  · obtain ⟨m1, m2⟩ := lmax_spec _ hne'
    obtain ⟨n1, n2⟩ := lmin_spec _ hne'
    obtain ⟨i, hi, ei⟩ := hat _ m1
    obtain ⟨j, hj, ej⟩ := hat _ n1
    obtain ⟨_, M2⟩ := lmax_spec L hne
    obtain ⟨_, N2⟩ := lmin_spec L hne
    have := PS.step_gap L p (lmin L) (lmax L) (fun a ha => ⟨N2 a ha, M2 a ha⟩) p0 p1 i j hi hj
    rw [ei, ej] at this
    exact this
theorem Share.err {l L : List Int} {p : Int} (h : Share l L) (h0 : 0 < l.length) (h6 : l.length ≤ 6) (p0 : 0 ≤ p) (p1 : p ≤ 1000) : shufErr L p = 0 := by
  unfold shufErr
  have h1 : SharesOk L := ⟨by rw [h.len]; exact h0, by rw [h.len]; exact h6, badShare_of h.bd⟩
  rw [if_neg (show ¬ ¬ SharesOk L from fun x => x h1), if_neg (show ¬ ¬ PartOk p from fun x => x ⟨p0, p1⟩)]
set_option maxHeartbeats 2000000 in
set_option maxRecDepth 100000 in
theorem shuffleKeeps_bad (A : Option Addr) (c : Nat) (l : List Int) (p t : Int) (w : World) (h : Ints w w.heap.size A c l) (er : Int) (he : shufErr l p = er) (hp : er ≠ 0) :
    Calls Tryd.prog 15 #[.slice A l.length c, .int .i64 p, .int .i64 t] w fun e w' => e = .returned (.bool true) ∧ Below w.heap.size w w' := by
  have HE := Lib.hid he
  have HP := Lib.hid hp
  have H := Lib.hid h
  clear h he hp
  go_enter Tryd.func15, Tryd.ntmps15
  go_wp2_with fail
  refine (shufstep_yes (some ⟨w.heap.size, 0, none⟩) 2 [100, 0] 500 _ (Ints.ofBlk (t := 3) (l := [100, 0]) (Blk.new' _ _ _ (by simp)) (by simp)) shufFact.1).mono ?_
  rintro e w1 ⟨v, rfl, ho, hb⟩
  rw [shufFact.2] at ho
  obtain ⟨g, cap, rfl, hg0, hg1, hcap, hcm⟩ := own_form ho (by simp)
  have c0 := own_cell ho (k := 0) (x := 75) rfl (by simp)
  have c1 := own_cell ho (k := 1) (x := 25) rfl (by simp)
  have HB := Lib.hid (((Below.refl _ _).alloc (Nat.le_refl _) (.cells #[.int .i64 100, .int .i64 0] 3)).trans (hb.mono (by simp)))
  clear ho hb
  go_wp2_with fail
  refine (shufstep_no A c l p _ ((H.out.below HB.out (Nat.le_refl _)).more HB.out.size) er HE.out HP.out).mono ?_; rintro e w2 ⟨rfl, hb2⟩
  have HB2 := Lib.hid (HB.out.trans (hb2.mono HB.out.size))
  clear hb2
  go_wp2
  go_ret
  exact ⟨rfl, HB2.out⟩
set_option maxHeartbeats 8000000 in
set_option maxRecDepth 100000 in
theorem shuffleKeeps_ok (A : Option Addr) (c : Nat) (l : List Int) (p t : Int) (w : World) (h : Ints w w.heap.size A c l) (he : shufErr l p = 0) :
    Calls Tryd.prog 15 #[.slice A l.length c, .int .i64 p, .int .i64 t] w fun e w' => e = .returned (.bool true) ∧ Below w.heap.size w w' := by
  obtain ⟨⟨h0, h6, hbad⟩, p0, p1⟩ := shuf_ok he
  have hb := shares_in hbad
  have hsh : Share l l := ⟨rfl, rfl, hb⟩
  have hstep := hsh.step h0 p0 p1
  have HE := Lib.hid he
  have H := Lib.hid h
  have HB0 := Lib.hid hb
  have HST := Lib.hid hstep
  have hl1 : ¬ (l.length : Int) < 1 := by omega
  have hl2 : (l.length : Int) ≤ 6 := by omega
  obtain ⟨T, hT⟩ : ∃ T, tot l = T := ⟨_, rfl⟩
  have HT := Lib.hid hT
  clear h he hbad hb hsh hstep hT
  go_enter Tryd.func15, Tryd.ntmps15
  go_wp2_with fail
  refine (shufstep_yes (some ⟨w.heap.size, 0, none⟩) 2 [100, 0] 500 _ (Ints.ofBlk (t := 3) (l := [100, 0]) (Blk.new' _ _ _ (by simp)) (by simp)) shufFact.1).mono ?_
  rintro e w1 ⟨v, rfl, ho, hb⟩
  rw [shufFact.2] at ho
  obtain ⟨g, cap, rfl, hg0, hg1, hcap, hcm⟩ := own_form ho (by simp)
  have c0 := own_cell ho (k := 0) (x := 75) rfl (by simp)
  have c1 := own_cell ho (k := 1) (x := 25) rfl (by simp)
  have HB := Lib.hid (((Below.refl _ _).alloc (Nat.le_refl _) (.cells #[.int .i64 100, .int .i64 0] 3)).trans (hb.mono (by simp)))
  clear ho hb
  go_wp2_with fail
  refine (shufstepN A c l.length l p _ ((H.out.below HB.out (Nat.le_refl _)).more HB.out.size) HE.out rfl).mono ?_; rintro e w2 ⟨A2, c2, rfl, hi2, hb2⟩
  have HB2 := Lib.hid (HB.out.trans (hb2.mono HB.out.size))
  have HI2 := Lib.hid hi2
  clear hb2 hi2 c0 c1 hg0 hg1 hcap hcm
  go_wp2_with fail
  refine (totalN A c l.length l w.heap.size w2 (H.out.below HB2.out (Nat.le_refl _)) HB0.out h6 rfl).mono ?_; rintro e w' ⟨rfl, rfl⟩
  rw [HT.out]
  go_wp2_with fail
  refine (rgapN A c l.length l w.heap.size w2 (H.out.below HB2.out (Nat.le_refl _)) HB0.out h0 rfl).mono ?_; rintro e w' ⟨rfl, rfl⟩
  obtain ⟨G0, hG0⟩ : ∃ G, gapL l = G := ⟨_, rfl⟩
  rw [hG0]
  have HG0 := Lib.hid hG0; clear hG0
  go_wp2
  go_loopw [9, 12, 13] (fun x gp i wr => ∃ (k : Nat) (L : List Int) (A' : Option Addr) (c' : Nat) (G : Int), i = .int .i64 k ∧ k ≤ 30 ∧ x = .slice A' l.length c' ∧ gp = .int .i64 G ∧ Hid (Ints wr wr.heap.size A' c' L) ∧ Hid (Share l L) ∧ Hid (gapL L ≤ G) ∧ Hid (Below w.heap.size w wr)) (fun _ _ i _ => 30 - (intOf i).toNat)
  case atStart => exact ⟨0, _, A2, c2, G0, rfl, by omega, rfl, rfl, HI2, Lib.hid HST.out.1, Lib.hid (by rw [← HG0.out]; exact HST.out.2), HB2⟩
  case round =>
    obtain ⟨k, L, A', c', G, rfl, hk, rfl, rfl, HI, HS, HG, HBL⟩ := hrel
    clear HI2 HST HG0
    by_cases hkt : (k : Int) ≤ t
    · by_cases hk30 : k < 30
      · have hk30' : (k : Int) < 30 := by omega
        obtain ⟨hs1, hs2⟩ := HS.out.step h0 p0 p1
        have HE2 := Lib.hid (HS.out.err h0 h6 p0 p1)
        have HS2 := Lib.hid hs1
        have HG2 := Lib.hid hs2
        have HLN := Lib.hid HS.out.len.symm
        have HTT := Lib.hid (HS.out.tot.trans HT.out)
        have HBD := Lib.hid HS.out.bd
        clear hs1 hs2
        obtain ⟨G1, hG1⟩ : ∃ G, gapL L = G := ⟨_, rfl⟩
        have hgg : G1 ≤ G := by rw [← hG1]; exact HG.out
        have HG1 := Lib.hid hG1; clear hG1
        have hng : ¬ G < G1 := by omega
        go_wp2_with fail
        refine (totalN A' c' l.length L _ _ HI.out HBD.out (by rw [← HLN.out]; exact h6) HLN.out).mono ?_; rintro e w' ⟨rfl, rfl⟩
        rw [HTT.out]
        go_wp2_with fail
        refine (rgapN A' c' l.length L _ _ HI.out HBD.out (by rw [← HLN.out]; exact h0) HLN.out).mono ?_; rintro e w' ⟨rfl, rfl⟩
        rw [HG1.out]
        go_wp2_with fail
        refine (rgapN A' c' l.length L _ _ HI.out HBD.out (by rw [← HLN.out]; exact h0) HLN.out).mono ?_; rintro e w' ⟨rfl, rfl⟩
        rw [HG1.out]
        go_wp2_with fail
        refine (shufstepN A' c' l.length L p _ HI.out HE2.out HLN.out).mono ?_; rintro e w3 ⟨A3, c3, rfl, hi3, hb3⟩
        have HI3 := Lib.hid hi3
        have HB3 := Lib.hid (HBL.out.trans (hb3.mono HBL.out.size))
        clear hi3 hb3
        go_wp2
        go_roundw
        case rel => exact ⟨k + 1, _, A3, c3, G1, by go_num, by omega, rfl, rfl, HI3, HS2, Lib.hid (by have := HG2.out; rw [HG1.out] at this; exact this), HB3⟩
        case measure => simp [intOf]; omega
      · have hk30' : ¬ (k : Int) < 30 := by omega
        go_wp2
        go_ret
        exact ⟨rfl, HBL.out⟩
    · go_wp2
      go_ret
      exact ⟨rfl, HBL.out⟩
theorem shuffleKeeps_walk {w : World} (A : Option Addr) (c : Nat) (l : List Int) (hi : Ints w w.heap.size A c l) (_ : ∀ x ∈ l, (Lit.int .i64 x).wf = true) (p : Int) (_ : (Lit.int .i64 p).wf = true) (t : Int) (_ : (Lit.int .i64 t).wf = true) (_ : Laid w) :
    Calls Tryd.prog 15 #[.slice A l.length c, .int .i64 p, .int .i64 t] w fun e w' => e = .returned (.bool true) ∧ Below w.heap.size w w' := by
  by_cases he : shufErr l p = 0
  · exact shuffleKeeps_ok A c l p t w hi he
  · exact shuffleKeeps_bad A c l p t w hi _ rfl he
end Go.Proofs.YtkheobdkmmbjnaaDoor
