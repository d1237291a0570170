/- The reference's loads where something is wrong. -/
import Derived.Test.YtblanfaghnflkaaDoorRefLoad
namespace Go.Proofs.YtblanfaghnflkaaDoor
open Go.RowKit
theorem refLoad_yes (C : Option Addr) (cc : Nat) (caps : List Int) (P : Option Addr) (cp m : Nat) (paths : List (List Int)) (A : Option Addr) (c n : Nat) (Q L : List Rat) (B : Nat) (w : World) (hB : B ≤ w.heap.size) (hc : Ints w B C cc caps) (hp : Rows2 w B P cp paths) (hr : Frs w B A c (Q.map frQ))
    (hm : m = paths.length) (hn : n = Q.length) (he : netErr caps paths = 0) (hl : Q.length = paths.length) (hq : ∀ q ∈ Q, QIn q) (hL : loadsTo paths Q caps.length = some L) :
    Calls Tryd.prog 48 #[.agg #[.slice C caps.length cc, .slice P m cp], .slice A n c] w fun e w' => ∃ A' c', e = .returned (.tuple #[.slice A' caps.length c', .int .i64 0]) ∧ Frs w' w'.heap.size A' c' (L.map frQ) ∧ Below w.heap.size w w' := by
  subst hm hn
  refine (refLoad_in C cc caps P cp paths A c Q B w hB hc hp hr he hl hq).mono ?_
  rintro e w' ⟨⟨L', v, h1, rfl, hv⟩ | ⟨h1, _⟩, hb⟩
  · rw [hL] at h1
    injection h1 with h1
    subst h1
    obtain ⟨A', c', rfl, h2, hf⟩ := owns_frs hv
    exact ⟨A', c', by rw [h2], hf, hb⟩
  · rw [hL] at h1; cases h1
theorem refLoad_full (C : Option Addr) (cc : Nat) (caps : List Int) (P : Option Addr) (cp m : Nat) (paths : List (List Int)) (A : Option Addr) (c n : Nat) (Q : List Rat) (B : Nat) (w : World) (hB : B ≤ w.heap.size) (hc : Ints w B C cc caps) (hp : Rows2 w B P cp paths) (hr : Frs w B A c (Q.map frQ))
    (hm : m = paths.length) (hn : n = Q.length) (he : netErr caps paths = 0) (hl : Q.length = paths.length) (hq : ∀ q ∈ Q, QIn q) (hL : loadsTo paths Q caps.length = none) :
    Calls Tryd.prog 48 #[.agg #[.slice C caps.length cc, .slice P m cp], .slice A n c] w fun e w' => e = .returned (.tuple #[.slice none 0 0, .int .i64 4]) ∧ Below w.heap.size w w' := by
  subst hm hn
  refine (refLoad_in C cc caps P cp paths A c Q B w hB hc hp hr he hl hq).mono ?_
  rintro e w' ⟨⟨L', v, h1, _⟩ | ⟨_, h1⟩, hb⟩
  · rw [hL] at h1; cases h1
  · exact ⟨h1, hb⟩
set_option maxHeartbeats 8000000 in
set_option maxRecDepth 100000 in
theorem refLoad_bad (C : Option Addr) (cc : Nat) (caps : List Int) (P : Option Addr) (cp m : Nat) (paths : List (List Int)) (A : Option Addr) (c n : Nat) (S : List Fr) (B : Nat) (w : World) (er : Int) (hB : B ≤ w.heap.size) (hc : Ints w B C cc caps) (hp : Rows2 w B P cp paths) (hr : Frs w B A c S)
    (hm : m = paths.length) (hn : n = S.length) (he : chkErr caps paths S = er) (h0 : er ≠ 0) :
    Calls Tryd.prog 48 #[.agg #[.slice C caps.length cc, .slice P m cp], .slice A n c] w fun e w' => e = .returned (.tuple #[.slice none 0 0, .int .i64 er]) ∧ Below w.heap.size w w' := by
  subst hm hn
  have HB0 : Hid (Below w.heap.size w (w.alloc (.cells #[.slice C caps.length cc, .slice P paths.length cp] 43))) := Lib.hid ((Below.refl _ _).alloc (Nat.le_refl _) _)
  have HN0 := Lib.hid (Blk.new w 43 #[.slice C caps.length cc, .slice P paths.length cp])
  have hcm := hc.cap; have hcl := hc.le; have hpm := hp.cap; have hpl := hp.le; have hrm := hr.cap; have hrl := hr.le
  unfold maxLen at hcm hpm hrm
  unfold chkErr at he
  have HR := Lib.hid hr
  by_cases h1 : netErr caps paths = 0
  · rw [if_pos h1] at he
    have HNR := h1
    have HNE := Lib.hid (show Calls Tryd.prog 25 #[.agg #[.slice C caps.length cc, .slice P paths.length cp]] (w.alloc (.cells #[.slice C caps.length cc, .slice P paths.length cp] 43)) fun e w' => e = .returned (.int .i64 0) ∧ Below (w.alloc (.cells #[.slice C caps.length cc, .slice P paths.length cp] 43)).heap.size (w.alloc (.cells #[.slice C caps.length cc, .slice P paths.length cp] 43)) w' from by
      have := refNet_all C cc caps P cp paths B (w.alloc (.cells #[.slice C caps.length cc, .slice P paths.length cp] 43)) (by simp; omega) (hc.below HB0.out hB) (hp.below HB0.out hB)
      rwa [HNR] at this)
    obtain ⟨k1, k2, k3, k4, _, _⟩ := netErr_ok h1
    by_cases h2 : S.length = paths.length
    · rw [if_pos h2] at he
      have hle : ((S.length : Int) != (paths.length : Int)) = false := by rw [h2]; simp
      have hs6 : S.length ≤ 6 := by omega
      have HE := Lib.hid he; have H0 := Lib.hid h0
      clear hc hp hr he h0 h1 HNR h2
      go_enter Tryd.func48, Tryd.ntmps48
      go_wp2_with fail
      refine HNE.out.mono ?_; rintro e w1 ⟨rfl, hb1⟩
      have HB1 := Lib.hid (HB0.out.trans (hb1.mono HB0.out.size))
      have HN1 := Lib.hid (HN0.out.go hb1)
      clear HB0 HN0 hb1 HNE
      obtain ⟨n0, n1, _, _, nz⟩ := HN1.out.two
      go_wp2
      go_loopw [6, 7] (fun x i wr => ∃ (k : Nat) (y : Int), k ≤ S.length ∧ i = .int .i64 k ∧ x = .int .i64 y ∧ Hid ((if y = 0 then firstFrom (fun i => frErr (S.getD i ⟨0, 1⟩)) (S.length - k) k else y) = er) ∧ Hid (Below w.heap.size w wr) ∧ Hid (Blk wr w.heap.size 43 #[.slice C caps.length cc, .slice P paths.length cp])) (fun _ i _ => S.length - (intOf i).toNat)
      case atStart => exact ⟨0, 0, Nat.zero_le _, rfl, rfl, Lib.hid (by rw [if_pos rfl]; exact HE.out), HB1, HN1⟩
      case round =>
        clear HB1 n0 n1 nz HN1
        obtain ⟨k, y, hk, rfl, rfl, HY, HB, HN⟩ := hrel
        have hB1 := HB.out.size
        by_cases hlt : k < S.length ∧ y = 0
        · obtain ⟨hlt, rfl⟩ := hlt
          have k0 : (0 : Int) ≤ (k : Int) := by omega
          have k1' : (k : Int) < (S.length : Int) := by omega
          obtain ⟨br, or, s, rfl, hbr, r0, r1, HX⟩ := (HR.out.below HB.out hB).elem hlt
          have hy := HY.out
          rw [if_pos rfl, firstFrom_step hlt] at hy
          have hsg : S.getD k ⟨0, 1⟩ = s := by rw [List.getD_eq_getElem?_getD, HX.out]; rfl
          simp only [hsg] at hy
          obtain ⟨fv, hfv⟩ : ∃ x, frErr s = x := ⟨_, rfl⟩
          rw [hfv] at hy
          have HFQ := Lib.hid fun W => (show Calls Tryd.prog 16 #[.agg #[.int .i64 s.t, .int .i64 s.b]] W fun e w' => e = .returned (.int .i64 fv) ∧ Below W.heap.size W w' from by rw [← hfv]; exact refFrac_any s.t s.b W)
          have HY2 := Lib.hid hy
          clear hfv hy hsg HX
          go_wp2_with fail
          refine (HFQ.out _).mono ?_; rintro e w2 ⟨rfl, hb2⟩
          have HB2 := Lib.hid (HB.out.trans (hb2.mono hB1)); have HN2 := Lib.hid (HN.out.go hb2)
          clear hb2
          go_wp2
          go_roundw
          case rel => exact ⟨k + 1, fv, by omega, by go_num, rfl, HY2, HB2, HN2⟩
          case measure => simp [intOf]; omega
        · have hye : y = er := by
            have hy := HY.out
            by_cases hy0 : y = 0
            · have : k = S.length := by omega
              subst this
              rw [if_pos hy0, firstFrom_end] at hy
              exact absurd hy.symm H0.out
            · rwa [if_neg hy0] at hy
          subst hye
          have HB1 := HB
          obtain ⟨n0, n1, _, _, nz⟩ := HN.out.two
          have e0 : (y == 0) = false := beq_eq_false_iff_ne.2 H0.out
          have hc1 : (0 : Int) < (caps.length : Int) := by omega
          by_cases hl : k < S.length
          · have hl1 : (k : Int) < (S.length : Int) := by omega
            clear hlt
            go_wp2
            refine wp_loop_rounds 1 ?_
            rw [rounds_succ]
            go_wp2
            go_ret2
            exact ⟨rfl, HB1.out⟩
          · obtain rfl : k = S.length := by omega
            clear hlt
            go_wp2
            refine wp_loop_rounds 1 ?_
            rw [rounds_succ]
            go_wp2
            go_ret2
            exact ⟨rfl, HB1.out⟩
    · rw [if_neg h2] at he
      subst he
      have hle : ((S.length : Int) != (paths.length : Int)) = true := by
        have : (S.length : Int) ≠ (paths.length : Int) := by omega
        simpa using this
      have hc1 : (0 : Int) < (caps.length : Int) := by omega
      clear hc hp hr h1 HNR h2
      go_enter Tryd.func48, Tryd.ntmps48
      go_wp2_with fail
      refine HNE.out.mono ?_; rintro e w1 ⟨rfl, hb1⟩
      have HB1 := Lib.hid (HB0.out.trans (hb1.mono HB0.out.size))
      have HN1 := Lib.hid (HN0.out.go hb1)
      clear HB0 HN0 hb1 HNE
      obtain ⟨n0, n1, _, _, nz⟩ := HN1.out.two
      go_wp2
      rcases Nat.eq_zero_or_pos S.length with hs0 | hs0
      · rw [hs0]
        refine wp_loop_rounds 1 ?_
        rw [rounds_succ]
        go_wp2
        refine wp_loop_rounds 1 ?_
        rw [rounds_succ]
        go_wp2
        go_ret2
        exact ⟨rfl, HB1.out⟩
      · have hs1 : (0 : Int) < (S.length : Int) := by omega
        refine wp_loop_rounds 1 ?_
        rw [rounds_succ]
        go_wp2
        refine wp_loop_rounds 1 ?_
        rw [rounds_succ]
        go_wp2
        go_ret2
        exact ⟨rfl, HB1.out⟩
  · rw [if_neg h1] at he
    have HNR := he
    have HNE := Lib.hid (show Calls Tryd.prog 25 #[.agg #[.slice C caps.length cc, .slice P paths.length cp]] (w.alloc (.cells #[.slice C caps.length cc, .slice P paths.length cp] 43)) fun e w' => e = .returned (.int .i64 er) ∧ Below (w.alloc (.cells #[.slice C caps.length cc, .slice P paths.length cp] 43)).heap.size (w.alloc (.cells #[.slice C caps.length cc, .slice P paths.length cp] 43)) w' from by
      have := refNet_all C cc caps P cp paths B (w.alloc (.cells #[.slice C caps.length cc, .slice P paths.length cp] 43)) (by simp; omega) (hc.below HB0.out hB) (hp.below HB0.out hB)
      rwa [HNR] at this)
    have e0 : (er == 0) = false := beq_eq_false_iff_ne.2 h0
    clear hc hp hr he HNR h1 h0
    go_enter Tryd.func48, Tryd.ntmps48
    go_wp2_with fail
    refine HNE.out.mono ?_; rintro e w1 ⟨rfl, hb1⟩
    have HB1 := Lib.hid (HB0.out.trans (hb1.mono HB0.out.size))
    have HN1 := Lib.hid (HN0.out.go hb1)
    clear HB0 HN0 hb1 HNE
    obtain ⟨n0, n1, _, _, nz⟩ := HN1.out.two
    go_wp2
    rcases Nat.eq_zero_or_pos S.length with hs0 | hs0
    · rw [hs0]
      refine wp_loop_rounds 1 ?_
      rw [rounds_succ]
      go_wp2
      rcases Nat.eq_zero_or_pos caps.length with hc0 | hc0
      · rw [hc0] at n0 ⊢
        refine wp_loop_rounds 1 ?_
        rw [rounds_succ]
        go_wp2
        go_ret2
        exact ⟨rfl, HB1.out⟩
      · have hc1 : (0 : Int) < (caps.length : Int) := by omega
        refine wp_loop_rounds 1 ?_
        rw [rounds_succ]
        go_wp2
        go_ret2
        exact ⟨rfl, HB1.out⟩
    · have hs1 : (0 : Int) < (S.length : Int) := by omega
      refine wp_loop_rounds 1 ?_
      rw [rounds_succ]
      go_wp2
      rcases Nat.eq_zero_or_pos caps.length with hc0 | hc0
      · rw [hc0] at n0 ⊢
        refine wp_loop_rounds 1 ?_
        rw [rounds_succ]
        go_wp2
        go_ret2
        exact ⟨rfl, HB1.out⟩
      · have hc1 : (0 : Int) < (caps.length : Int) := by omega
        refine wp_loop_rounds 1 ?_
        rw [rounds_succ]
        go_wp2
        go_ret2
        exact ⟨rfl, HB1.out⟩
theorem refLoad_er (C : Option Addr) (cc : Nat) (caps : List Int) (P : Option Addr) (cp m : Nat) (paths : List (List Int)) (A : Option Addr) (c n : Nat) (S : List Fr) (B : Nat) (w : World) (er : Int) (hB : B ≤ w.heap.size) (hc : Ints w B C cc caps) (hp : Rows2 w B P cp paths) (hr : Frs w B A c S)
    (hm : m = paths.length) (hn : n = S.length) (he : (chkErr caps paths S = er ∧ er ≠ 0) ∨ (∃ Q : List Rat, S = Q.map frQ ∧ netErr caps paths = 0 ∧ Q.length = paths.length ∧ (∀ q ∈ Q, QIn q) ∧ loadsTo paths Q caps.length = none ∧ er = 4)) :
    Calls Tryd.prog 48 #[.agg #[.slice C caps.length cc, .slice P m cp], .slice A n c] w fun e w' => e = .returned (.tuple #[.slice none 0 0, .int .i64 er]) ∧ Below w.heap.size w w' := by
  rcases he with ⟨h1, h2⟩ | ⟨Q, rfl, h1, h2, h3, h4, rfl⟩
  · exact refLoad_bad C cc caps P cp m paths A c n S B w er hB hc hp hr hm hn h1 h2
  · exact refLoad_full C cc caps P cp m paths A c n Q B w hB hc hp hr hm (by rw [hn, List.length_map]) h1 h2 h3 h4
end Go.Proofs.YtblanfaghnflkaaDoor
