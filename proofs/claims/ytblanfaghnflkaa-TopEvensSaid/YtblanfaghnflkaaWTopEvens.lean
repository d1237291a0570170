/- The walk of TopEvens: it returns true for every input. -/
import Derived.Test.YtblanfaghnflkaaShufStep
import Derived.Test.YtblanfaghnflkaaTotal
import Derived.Test.YtblanfaghnflkaaEvenLow
import Derived.Test.YtblanfaghnflkaaAimdAll
import Derived.Test.YtblanfaghnflkaaWGiveAll
import Derived.Test.YtblanfaghnflkaaTopOne
namespace Go.Proofs.Ytblanfaghnflkaa
open Go.RowKit
attribute [local go_sem ↓] run_min_mn run_max_mx
theorem te_step (A : Option Addr) (c n : Nat) (l : List Int) (p : Int) (w : World) (h : Ints w w.heap.size A c l) (he : shufErr l p = 0) (hn : n = l.length) :
    Calls Try.prog 31 #[.slice A n c, .int .i64 p] w fun e w' => ∃ A' c', e = .returned (.tuple #[.slice A' n c', .nilIface]) ∧ Ints w' w'.heap.size A' c' (PS.step l p) ∧ Below w.heap.size w w' := by
  subst hn
  refine (shufstep_yes A c l p w h he).mono ?_
  rintro e w' ⟨v, rfl, ho, hb⟩
  obtain ⟨A', c', hv, hl, hi⟩ := owns_ints ho
  subst hv
  exact ⟨A', c', by rw [← hl], hi, hb⟩
theorem te_gap {l : List Int} {p : Int} (h0 : 0 < l.length) (p0 : 0 ≤ p) (p1 : p ≤ 1000) : gapL (PS.step l p) ≤ gapL l := by
  have hne : l ≠ [] := by intro e; rw [e] at h0; simp at h0
  have hl := PS.step_len l p
  have hne' : PS.step l p ≠ [] := by intro e; rw [e] at hl; simp at hl; omega
  have hat : ∀ a ∈ PS.step l p, ∃ i, i < l.length ∧ (PS.step l p).getD i 0 = a := fun a ha => by
    obtain ⟨i, hi, e⟩ := List.getElem_of_mem ha
    exact ⟨i, by omega, by rw [← e]; simp [hi]⟩
  obtain ⟨m1, m2⟩ := lmax_spec _ hne'
  obtain ⟨n1, n2⟩ := lmin_spec _ hne'
  obtain ⟨i, hi, ei⟩ := hat _ m1
  obtain ⟨j, hj, ej⟩ := hat _ n1
  obtain ⟨_, M2⟩ := lmax_spec l hne
  obtain ⟨_, N2⟩ := lmin_spec l hne
  have := PS.step_gap l p (lmin l) (lmax l) (fun a ha => ⟨N2 a ha, M2 a ha⟩) p0 p1 i j hi hj
  rw [ei, ej] at this
  exact this
theorem gap_le_of {l : List Int} {g : Int} (h : PA.Gap l g) (hne : l ≠ []) : gapL l ≤ g := h _ (lmax_spec l hne).1 _ (lmin_spec l hne).1
theorem gap_of {l : List Int} (hne : l ≠ []) : PA.Gap l (gapL l) := fun a ha b hb => by
  have h1 := (lmax_spec l hne).2 a ha
  have h2 := (lmin_spec l hne).2 b hb
  unfold gapL; omega
theorem te_aimd {l m : List Int} {limit up : Int} {b : Bool} (h : SRes l limit up = .ok (m, b)) (h0 : 0 < l.length) : m.length = l.length ∧ gapL m ≤ gapL l := by
  have hne : l ≠ [] := by intro e; rw [e] at h0; simp at h0
  have hg := gap_of hne
  have hg0 : 0 ≤ gapL l := by have := hg _ (lmax_spec l hne).1 _ (lmax_spec l hne).1; omega
  unfold SRes at h
  split at h
  · cases h
  · unfold PA.step at h
    split at h
    · cases h
    · rename_i r h2
      split at h2
      · injection h2 with h2
        subst h2
        injection h with h
        injection h with h1 _
        subst h1
        have hl : (PA.halve l).length = l.length := by simp [PA.halve]
        refine ⟨hl, ?_⟩
        have := gap_le_of (PA.gap_halve l _ hg) (by intro e; rw [e] at hl; simp at hl; omega)
        omega
      · split at h2
        · injection h2 with h2
          subst h2
          injection h with h
          injection h with h1 _
          subst h1
          have hl : (PA.raise up l).length = l.length := by simp [PA.raise]
          exact ⟨hl, gap_le_of (PA.gap_raise up l _ hg) (by intro e; rw [e] at hl; simp at hl; omega)⟩
        · cases h2
theorem te_egap (A : Option Addr) (c n : Nat) (l : List Int) (g : Int) (B : Nat) (w : World) (h : Ints w B A c l) (hn : n = l.length) (he : fewErr l 1000 = 0) (hg : gapL l = g) :
    Calls Try.prog 32 #[.slice A n c] w fun e w' => e = .returned (.tuple #[.int .i64 g, .nilIface]) ∧ w = w' := by
  subst hn hg; exact egap_in A c l B w h he
theorem te_ebad (A : Option Addr) (c n : Nat) (l : List Int) (er : Int) (B : Nat) (w : World) (h : Ints w B A c l) (hn : n = l.length) (he : fewErr l 1000 = er) (h0 : er ≠ 0) :
    Calls Try.prog 32 #[.slice A n c] w fun e w' => e = .returned (.tuple #[.int .i64 0, .iface 71 (.int .i64 er)]) ∧ w = w' := by
  subst hn; exact egap_err A c l B w h er he h0
theorem te_total (A : Option Addr) (c n : Nat) (l : List Int) (t : Int) (B : Nat) (w : World) (h : Ints w B A c l) (hb : ∀ a ∈ l, -100000 ≤ a ∧ a ≤ 100000) (hlen : l.length ≤ 60) (hn : n = l.length) (ht : tot l = t) :
    Calls Try.prog 35 #[.slice A n c] w fun e w' => e = .returned (.int .i64 t) ∧ w = w' := by
  subst hn ht; exact total_any A c l B w h hb hlen
theorem te_nil (w : World) (B : Nat) : Ints w B none 0 [] := ⟨⟨rfl, fun h => absurd h (by simp)⟩, Nat.le_refl _, by simp [maxLen]⟩
set_option maxHeartbeats 8000000 in
set_option maxRecDepth 100000 in
theorem topEvens_bad (A : Option Addr) (c : Nat) (l : List Int) (p many : Int) (w : World) (h : Ints w w.heap.size A c l) (er : Int) (he : shufErr l p = er) (hp : er ≠ 0) :
    Calls Try.prog 10 #[.slice A l.length c, .int .i64 p, .int .i64 many] w fun e w' => e = .returned (.bool true) ∧ Below w.heap.size w w' := by
  have HE := Lib.hid he
  have HP := Lib.hid hp
  have H := Lib.hid h
  clear h he hp
  go_enter Try.func10, Try.ntmps10
  go_wp2_with fail
  refine (one_any w).mono ?_; rintro e w1 ⟨rfl, hb1⟩
  have HB1 := Lib.hid hb1
  clear hb1
  go_wp2_with fail
  refine (shufstep_no A c l p _ ((H.out.below HB1.out (Nat.le_refl _)).more HB1.out.size) er HE.out HP.out).mono ?_; rintro e w2 ⟨rfl, hb2⟩
  have HB2 := Lib.hid (HB1.out.trans (hb2.mono HB1.out.size))
  clear hb2
  by_cases f1 : fewErr l 1000 = 0
  · have F1 := Lib.hid f1; clear f1
    go_wp2_with fail
    refine (te_egap A c _ l _ _ w2 (H.out.below HB2.out (Nat.le_refl _)) rfl F1.out rfl).mono ?_; rintro e w' ⟨rfl, rfl⟩
    go_wp2_with fail
    refine (te_ebad none 0 0 [] 5 0 w2 (te_nil _ _) rfl rfl (by decide)).mono ?_; rintro e w' ⟨rfl, rfl⟩
    go_wp2
    go_ret
    exact ⟨rfl, HB2.out⟩
  · have F1 := Lib.hid f1; clear f1
    go_wp2_with fail
    refine (te_ebad A c _ l _ _ w2 (H.out.below HB2.out (Nat.le_refl _)) rfl rfl F1.out).mono ?_; rintro e w' ⟨rfl, rfl⟩
    go_wp2_with fail
    refine (te_ebad none 0 0 [] 5 0 w2 (te_nil _ _) rfl rfl (by decide)).mono ?_; rintro e w' ⟨rfl, rfl⟩
    go_wp2
    go_ret
    exact ⟨rfl, HB2.out⟩
set_option maxHeartbeats 16000000 in
set_option maxRecDepth 100000 in
theorem topEvens_ok (A : Option Addr) (c : Nat) (l : List Int) (p many : Int) (w : World) (h : Ints w w.heap.size A c l) (he : shufErr l p = 0) :
    Calls Try.prog 10 #[.slice A l.length c, .int .i64 p, .int .i64 many] w fun e w' => e = .returned (.bool true) ∧ Below w.heap.size w w' := by
  obtain ⟨⟨h0, h6, hbad⟩, p0, p1⟩ := shuf_ok he
  have hg := te_gap h0 p0 p1
  have hxl := PS.step_len l p
  obtain ⟨x, hx⟩ : ∃ x, PS.step l p = x := ⟨_, rfl⟩
  rw [hx] at hg hxl
  have HE := Lib.hid he
  have HX := Lib.hid hx; have HXL := Lib.hid hxl
  have H := Lib.hid h
  obtain ⟨g, hgl⟩ : ∃ g, gapL l = g := ⟨_, rfl⟩
  obtain ⟨gx, hgx⟩ : ∃ g, gapL x = g := ⟨_, rfl⟩
  rw [hgl, hgx] at hg
  have hng : ¬ g < gx := by omega
  have HGL := Lib.hid hgl; have HGX := Lib.hid hgx
  clear h he hx hgl hgx hxl hbad
  go_enter Try.func10, Try.ntmps10
  go_wp2_with fail
  refine (one_any w).mono ?_; rintro e w1 ⟨rfl, hb1⟩
  have HB1 := Lib.hid hb1
  clear hb1
  go_wp2_with fail
  refine (te_step A c _ l p _ ((H.out.below HB1.out (Nat.le_refl _)).more HB1.out.size) HE.out rfl).mono ?_; rintro e w2 ⟨A2, c2, rfl, hi2, hb2⟩
  rw [HX.out] at hi2
  have HI2 := Lib.hid hi2
  have HB2 := Lib.hid (HB1.out.trans (hb2.mono HB1.out.size))
  clear hb2 hi2
  by_cases f1 : fewErr l 1000 = 0
  · have F1 := Lib.hid f1; clear f1
    by_cases f2 : fewErr x 1000 = 0
    · have F2 := Lib.hid f2; clear f2
      go_wp2_with fail
      refine (te_egap A c _ l _ _ w2 (H.out.below HB2.out (Nat.le_refl _)) rfl F1.out HGL.out).mono ?_; rintro e w' ⟨rfl, rfl⟩
      go_wp2_with fail
      refine (te_egap A2 c2 _ x _ _ w2 HI2.out HXL.out.symm F2.out HGX.out).mono ?_; rintro e w' ⟨rfl, rfl⟩
      go_wp2_with fail
      refine (aStep_all A c l 1000 1 w2 ((H.out.below HB2.out (Nat.le_refl _)).more HB2.out.size)).mono ?_
      have SPLIT : Hid (∀ (W : World), Ints W W.heap.size A2 c2 x → (splitErr many x = 0 → Calls Try.prog 34 #[.int .i64 many, .slice A2 l.length c2] W fun e w' => ∃ A' c', e = .returned (.tuple #[.slice A' l.length c', .nilIface]) ∧ Ints w' w'.heap.size A' c' (splitL many x) ∧ Below W.heap.size W w') ∧ (∀ er, splitErr many x = er → er ≠ 0 → Calls Try.prog 34 #[.int .i64 many, .slice A2 l.length c2] W fun e w' => e = .returned (.tuple #[.slice none 0 0, .iface 71 (.int .i64 er)]) ∧ Below W.heap.size W w')) := Lib.hid fun W hW => by
        rw [← HXL.out]
        refine ⟨fun hs => ?_, fun er hs hp => split_bad many A2 c2 x W hW er hs hp⟩
        refine (split_yes many A2 c2 x W hW hs).mono ?_
        rintro e w' ⟨v, rfl, ho, hb⟩
        obtain ⟨A', c', hv, hl, hi⟩ := owns_ints ho
        subst hv
        exact ⟨A', c', by rw [← hl], hi, hb⟩
      rintro e w3 ⟨hb3, ⟨m, b, hs, v, rfl, ho⟩ | ⟨er, hs, rfl⟩⟩
      · obtain ⟨hml, hmg⟩ := te_aimd hs h0
        rw [HGL.out] at hmg
        obtain ⟨A3, c3, rfl, hl3, hi3⟩ := owns_ints ho
        have HI3 := Lib.hid hi3; have HML := Lib.hid hml
        have HB3 := Lib.hid (HB2.out.trans (hb3.mono HB2.out.size))
        have HI2' := Lib.hid (HI2.out.at' hb3)
        rw [hml]
        clear hs ho hi3 hb3 hl3 hml HI2
        by_cases f3 : fewErr m 1000 = 0
        · have F3 := Lib.hid f3; clear f3
          obtain ⟨gm, hgm⟩ : ∃ g, gapL m = g := ⟨_, rfl⟩
          rw [hgm] at hmg
          have HGM := Lib.hid hgm
          have hng2 : ¬ g < gm := by omega
          clear hgm
          go_wp2_with fail
          refine (te_egap A3 c3 _ m _ _ w3 HI3.out HML.out.symm F3.out HGM.out).mono ?_; rintro e w' ⟨rfl, rfl⟩
          by_cases hs : splitErr many x = 0
          · have hw := weighs_of (split_ok hs).1
            have hm := (split_ok hs).2
            have HT := Lib.hid (splitL_tot (m := many) hw); have HBD := Lib.hid (splitL_bd hw hm.1 hm.2); have HSL := Lib.hid (splitL_len many x)
            have HS := Lib.hid hs
            clear hs hw hm
            go_wp2_with fail
            refine ((SPLIT.out w3 HI2'.out).1 HS.out).mono ?_; rintro e w4 ⟨A4, c4, rfl, hi4, hb4⟩
            have HI4 := Lib.hid hi4
            have HB4 := Lib.hid (HB3.out.trans (hb4.mono HB3.out.size))
            clear hi4 hb4 SPLIT
            go_wp2_with fail
            refine (te_total A4 c4 _ (splitL many x) many _ w4 HI4.out (fun a ha => by have := HBD.out a ha; omega) (by rw [HSL.out, HXL.out]; omega) (by rw [HSL.out, HXL.out]) HT.out).mono ?_; rintro e w' ⟨rfl, rfl⟩
            go_wp2
            go_ret
            exact ⟨rfl, HB4.out⟩
          · obtain ⟨er, her⟩ : ∃ er, splitErr many x = er := ⟨_, rfl⟩
            rw [her] at hs
            have HS := Lib.hid her; have HZ := Lib.hid hs
            clear hs her
            go_wp2_with fail
            refine ((SPLIT.out w3 HI2'.out).2 er HS.out HZ.out).mono ?_; rintro e w4 ⟨rfl, hb4⟩
            have HB4 := Lib.hid (HB3.out.trans (hb4.mono HB3.out.size))
            clear hb4 SPLIT
            go_wp2
            go_ret
            exact ⟨rfl, HB4.out⟩
        · have F3 := Lib.hid f3; clear f3
          go_wp2_with fail
          refine (te_ebad A3 c3 _ m _ _ w3 HI3.out HML.out.symm rfl F3.out).mono ?_; rintro e w' ⟨rfl, rfl⟩
          by_cases hs : splitErr many x = 0
          · have hw := weighs_of (split_ok hs).1
            have hm := (split_ok hs).2
            have HT := Lib.hid (splitL_tot (m := many) hw); have HBD := Lib.hid (splitL_bd hw hm.1 hm.2); have HSL := Lib.hid (splitL_len many x)
            have HS := Lib.hid hs
            clear hs hw hm
            go_wp2_with fail
            refine ((SPLIT.out w3 HI2'.out).1 HS.out).mono ?_; rintro e w4 ⟨A4, c4, rfl, hi4, hb4⟩
            have HI4 := Lib.hid hi4
            have HB4 := Lib.hid (HB3.out.trans (hb4.mono HB3.out.size))
            clear hi4 hb4 SPLIT
            go_wp2_with fail
            refine (te_total A4 c4 _ (splitL many x) many _ w4 HI4.out (fun a ha => by have := HBD.out a ha; omega) (by rw [HSL.out, HXL.out]; omega) (by rw [HSL.out, HXL.out]) HT.out).mono ?_; rintro e w' ⟨rfl, rfl⟩
            go_wp2
            go_ret
            exact ⟨rfl, HB4.out⟩
          · obtain ⟨er, her⟩ : ∃ er, splitErr many x = er := ⟨_, rfl⟩
            rw [her] at hs
            have HS := Lib.hid her; have HZ := Lib.hid hs
            clear hs her
            go_wp2_with fail
            refine ((SPLIT.out w3 HI2'.out).2 er HS.out HZ.out).mono ?_; rintro e w4 ⟨rfl, hb4⟩
            have HB4 := Lib.hid (HB3.out.trans (hb4.mono HB3.out.size))
            clear hb4 SPLIT
            go_wp2
            go_ret
            exact ⟨rfl, HB4.out⟩
      · have HB3 := Lib.hid (HB2.out.trans (hb3.mono HB2.out.size))
        have HI2' := Lib.hid (HI2.out.at' hb3)
        clear hs hb3 HI2
        by_cases hs : splitErr many x = 0
        · have hw := weighs_of (split_ok hs).1
          have hm := (split_ok hs).2
          have HT := Lib.hid (splitL_tot (m := many) hw); have HBD := Lib.hid (splitL_bd hw hm.1 hm.2); have HSL := Lib.hid (splitL_len many x)
          have HS := Lib.hid hs
          clear hs hw hm
          go_wp2_with fail
          refine ((SPLIT.out w3 HI2'.out).1 HS.out).mono ?_; rintro e w4 ⟨A4, c4, rfl, hi4, hb4⟩
          have HI4 := Lib.hid hi4
          have HB4 := Lib.hid (HB3.out.trans (hb4.mono HB3.out.size))
          clear hi4 hb4 SPLIT
          go_wp2_with fail
          refine (te_total A4 c4 _ (splitL many x) many _ w4 HI4.out (fun a ha => by have := HBD.out a ha; omega) (by rw [HSL.out, HXL.out]; omega) (by rw [HSL.out, HXL.out]) HT.out).mono ?_; rintro e w' ⟨rfl, rfl⟩
          go_wp2
          go_ret
          exact ⟨rfl, HB4.out⟩
        · obtain ⟨er, her⟩ : ∃ er, splitErr many x = er := ⟨_, rfl⟩
          rw [her] at hs
          have HS := Lib.hid her; have HZ := Lib.hid hs
          clear hs her
          go_wp2_with fail
          refine ((SPLIT.out w3 HI2'.out).2 er HS.out HZ.out).mono ?_; rintro e w4 ⟨rfl, hb4⟩
          have HB4 := Lib.hid (HB3.out.trans (hb4.mono HB3.out.size))
          clear hb4 SPLIT
          go_wp2
          go_ret
          exact ⟨rfl, HB4.out⟩
    · have F2 := Lib.hid f2; clear f2
      go_wp2_with fail
      refine (te_egap A c _ l _ _ w2 (H.out.below HB2.out (Nat.le_refl _)) rfl F1.out HGL.out).mono ?_; rintro e w' ⟨rfl, rfl⟩
      go_wp2_with fail
      refine (te_ebad A2 c2 _ x _ _ w2 HI2.out HXL.out.symm rfl F2.out).mono ?_; rintro e w' ⟨rfl, rfl⟩
      go_wp2
      go_ret
      exact ⟨rfl, HB2.out⟩
  · have F1 := Lib.hid f1; clear f1
    go_wp2_with fail
    refine (te_ebad A c _ l _ _ w2 (H.out.below HB2.out (Nat.le_refl _)) rfl rfl F1.out).mono ?_; rintro e w' ⟨rfl, rfl⟩
    by_cases f2 : fewErr x 1000 = 0
    · have F2 := Lib.hid f2; clear f2
      go_wp2_with fail
      refine (te_egap A2 c2 _ x _ _ w2 HI2.out HXL.out.symm F2.out HGX.out).mono ?_; rintro e w' ⟨rfl, rfl⟩
      go_wp2
      go_ret
      exact ⟨rfl, HB2.out⟩
    · have F2 := Lib.hid f2; clear f2
      go_wp2_with fail
      refine (te_ebad A2 c2 _ x _ _ w2 HI2.out HXL.out.symm rfl F2.out).mono ?_; rintro e w' ⟨rfl, rfl⟩
      go_wp2
      go_ret
      exact ⟨rfl, HB2.out⟩
theorem topEvens_walk {w : World} (A : Option Addr) (c : Nat) (l : List Int) (hi : Ints w w.heap.size A c l) (_ : ∀ x ∈ l, (Lit.int .i64 x).wf = true) (p : Int) (_ : (Lit.int .i64 p).wf = true) (many : Int) (_ : (Lit.int .i64 many).wf = true) :
    Calls Try.prog 10 #[.slice A l.length c, .int .i64 p, .int .i64 many] w fun e w' => e = .returned (.bool true) ∧ Below w.heap.size w w' := by
  by_cases he : shufErr l p = 0
  · exact topEvens_ok A c l p many w hi he
  · exact topEvens_bad A c l p many w hi _ rfl he
end Go.Proofs.Ytblanfaghnflkaa
