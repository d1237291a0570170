/- The reference's NewRoad. -/
import Derived.Test.YtblanfaghnflkaaDoorRoadNew
import Derived.Test.YtblanfaghnflkaaDoorSourceRef
import Derived.Test.YtblanfaghnflkaaDoorPoolRef
namespace Go.Proofs.YtblanfaghnflkaaDoor
open Go.RowKit
attribute [local go_sem ↓] run_min_mn run_max_mx
def poolErr (r p k : Int) : Int := if PoolOk r p k then (if k = 0 then 0 else 3) else 1
set_option maxHeartbeats 4000000 in
theorem refNewRoad_in (A : Option Addr) (c : Nat) (S : List Src) (r p k : Int) (w : World) (h : Srcs w w.heap.size A c S) (h0 : 0 < S.length) (h6 : S.length ≤ 6) (ev : Int) (hev : (if firstErr S = 0 then poolErr r p k else firstErr S) = ev) :
    Calls Tryd.prog 36 #[.slice A S.length c, .agg #[.int .i64 r, .int .i64 p, .int .i64 k]] w fun e w' => e = .returned (.int .i64 ev) ∧ Below w.heap.size w w' := by
  have H := Lib.hid h
  clear h
  have HEV0 := Lib.hid hev
  clear hev
  have e1 : ((S.length : Int) == 0) = false := beq_eq_false_iff_ne.2 (by omega)
  have e2 : decide ((6 : Int) < (S.length : Int)) = false := decide_eq_false (by omega)
  have HPB := Lib.hid (Blk.new w 60 #[.int .i64 r, .int .i64 p, .int .i64 k])
  have HB0 := Lib.hid ((Below.refl w.heap.size w).alloc (Nat.le_refl _) (.cells #[.int .i64 r, .int .i64 p, .int .i64 k] 60))
  obtain ⟨gp, hgp⟩ : ∃ x, x = w.heap.size := ⟨_, rfl⟩
  go_enter Tryd.func36, Tryd.ntmps36
  go_wp2
  rw [← hgp] at HPB ⊢
  obtain ⟨w1, hw1⟩ : ∃ x, x = w.alloc (.cells #[.int .i64 r, .int .i64 p, .int .i64 k] 60) := ⟨_, rfl⟩
  rw [← hw1] at HPB HB0 ⊢
  clear hw1 hgp
  go_loopw [5] (fun i wr => ∃ j : Nat, j ≤ S.length ∧ i = .int .i64 j ∧ Hid ((if firstErr (S.drop j) = 0 then poolErr r p k else firstErr (S.drop j)) = ev) ∧ Hid (Below w.heap.size w wr) ∧ Hid (Blk wr gp 60 #[.int .i64 r, .int .i64 p, .int .i64 k])) (fun i _ => S.length - (intOf i).toNat)
  case atStart => exact ⟨0, Nat.zero_le _, rfl, HEV0, HB0, HPB⟩
  case round =>
    clear HEV0 HB0 HPB
    obtain ⟨j, hj, rfl, HEV, HB, HP⟩ := hrel
    obtain ⟨x0, x1, x2, xf0, xf1, xf2, xz⟩ := HP.out.three
    by_cases hlt : j < S.length
    · obtain ⟨b, off, s, rfl, hbw, s0, s1, s2, s3, hs⟩ := (H.out.below HB.out (Nat.le_refl _)).elem hlt
      have hsz := HB.out.size
      have hbr : b < wr.heap.size := by omega
      have j0 : (0 : Int) ≤ (j : Int) := by omega
      have j1 : (j : Int) < S.length := by omega
      have HF := firstErr_at hs.out
      have HEV2 := HEV.out
      rw [HF] at HEV2
      clear HF HEV
      obtain ⟨W, a, l, sc⟩ := s
      simp only at s0 s1 s2 s3
      by_cases ok : SourceOk W a l sc
      · have OK := Lib.hid ok
        by_cases hac : a ≠ 0 ∨ sc ≠ 0
        · have he : srcErr ⟨W, a, l, sc⟩ = 3 := by unfold srcErr; rw [if_pos ok, if_pos hac]
          rw [he, if_neg (show ¬ (3 : Int) = 0 by decide), if_neg (show ¬ (3 : Int) = 0 by decide)] at HEV2
          subst HEV2
          clear he ok
          by_cases ha : a = 0
          · subst ha
            have hc : sc ≠ 0 := by omega
            have hcb : (sc != 0) = true := by rw [bne_iff_ne]; exact hc
            clear hac hc
            go_wp2_with fail
            refine (refSource_yes W 0 l sc _ OK.out).mono ?_; rintro e w' ⟨rfl, rfl⟩
            go_wp2
            go_ret
            exact ⟨rfl, HB.out.alloc hsz _⟩
          · have hcb : (a != 0) = true := by rw [bne_iff_ne]; exact ha
            clear hac ha
            go_wp2_with fail
            refine (refSource_yes W a l sc _ OK.out).mono ?_; rintro e w' ⟨rfl, rfl⟩
            go_wp2
            go_ret
            exact ⟨rfl, HB.out.alloc hsz _⟩
        · have he : srcErr ⟨W, a, l, sc⟩ = 0 := by unfold srcErr; rw [if_pos ok, if_neg hac]
          rw [he, if_pos rfl] at HEV2
          have ha : a = 0 := by omega
          have hc : sc = 0 := by omega
          subst ha; subst hc
          have HF2 := Lib.hid HEV2
          clear he ok hac HEV2
          go_wp2_with fail
          refine (refSource_yes W 0 l 0 _ OK.out).mono ?_; rintro e w' ⟨rfl, rfl⟩
          go_wp2
          go_roundw
          case rel => exact ⟨j + 1, by omega, by go_num, HF2, Lib.hid (HB.out.alloc hsz _), Lib.hid (HP.out.alloc _)⟩
          case measure => simp [intOf]; omega
      · have he : srcErr ⟨W, a, l, sc⟩ = 1 := by unfold srcErr; rw [if_neg ok]
        rw [he, if_neg (show ¬ (1 : Int) = 0 by decide), if_neg (show ¬ (1 : Int) = 0 by decide)] at HEV2
        subst HEV2
        have OK := Lib.hid ok
        clear he ok
        go_wp2_with fail
        refine (refSource_no W a l sc _ OK.out).mono ?_; rintro e w' ⟨rfl, rfl⟩
        go_wp2
        go_ret
        exact ⟨rfl, HB.out.alloc hsz _⟩
    · obtain rfl : j = S.length := by omega
      have he := HEV.out
      rw [List.drop_length] at he
      have he2 : poolErr r p k = ev := he
      clear he HEV
      have hsz := HB.out.size
      by_cases ok : PoolOk r p k
      · have OK := Lib.hid ok
        unfold poolErr at he2
        rw [if_pos ok] at he2
        clear ok
        by_cases hk : k = 0
        · subst hk
          rw [if_pos rfl] at he2
          subst he2
          go_wp2_with fail
          refine (refPool_yes r p 0 _ OK.out).mono ?_; rintro e w' ⟨rfl, hb⟩
          obtain ⟨y0, y1, y2, yf0, yf1, yf2, yz⟩ := (HP.out.below hb HP.out.lt).three
          go_wp2
          go_ret
          exact ⟨rfl, HB.out.trans (hb.mono hsz)⟩
        · rw [if_neg hk] at he2
          subst he2
          have hkb : (k != 0) = true := by rw [bne_iff_ne]; exact hk
          clear hk
          go_wp2_with fail
          refine (refPool_yes r p k _ OK.out).mono ?_; rintro e w' ⟨rfl, hb⟩
          obtain ⟨y0, y1, y2, yf0, yf1, yf2, yz⟩ := (HP.out.below hb HP.out.lt).three
          go_wp2
          go_ret
          exact ⟨rfl, HB.out.trans (hb.mono hsz)⟩
      · have OK := Lib.hid ok
        unfold poolErr at he2
        rw [if_neg ok] at he2
        subst he2
        clear ok
        go_wp2_with fail
        refine (refPool_no r p k _ OK.out).mono ?_; rintro e w' ⟨rfl, hb⟩
        obtain ⟨y0, y1, y2, yf0, yf1, yf2, yz⟩ := (HP.out.below hb HP.out.lt).three
        go_wp2
        go_ret
        exact ⟨rfl, HB.out.trans (hb.mono hsz)⟩
theorem newErr_pool (S : List Src) (r p k : Int) : newErr S r p k = if roadErr S = 0 then poolErr r p k else roadErr S := rfl
set_option maxHeartbeats 4000000 in
theorem refNewRoad (A : Option Addr) (c : Nat) (S : List Src) (r p k : Int) (w : World) (h : Srcs w w.heap.size A c S) (ev : Int) (hev : newErr S r p k = ev) :
    Calls Tryd.prog 36 #[.slice A S.length c, .agg #[.int .i64 r, .int .i64 p, .int .i64 k]] w fun e w' => e = .returned (.int .i64 ev) ∧ Below w.heap.size w w' := by
  rw [newErr_pool] at hev
  unfold roadErr at hev
  by_cases h0 : S.length = 0
  · simp only [h0, if_pos] at hev
    rw [if_neg (show ¬ (5 : Int) = 0 by decide)] at hev
    subst hev
    rw [h0]
    clear h
    go_enter Tryd.func36, Tryd.ntmps36
    go_wp2
    go_ret
    exact ⟨rfl, (Below.refl _ _).alloc (Nat.le_refl _) _⟩
  · rw [if_neg h0] at hev
    by_cases h6 : 6 < S.length
    · rw [if_pos h6, if_neg (show ¬ (4 : Int) = 0 by decide)] at hev
      subst hev
      have hc := h.le
      have hm := h.cap
      unfold maxLen at hm
      clear h
      have e1 : ((S.length : Int) == 0) = false := beq_eq_false_iff_ne.2 (by omega)
      have e2 : (6 : Int) < S.length := by omega
      have e3 : ¬ (S.length : Int) = 0 := by omega
      clear h6
      generalize S.length = n at *
      go_enter Tryd.func36, Tryd.ntmps36
      go_wp2
      go_ret
      exact ⟨rfl, (Below.refl _ _).alloc (Nat.le_refl _) _⟩
    · rw [if_neg h6] at hev
      exact refNewRoad_in A c S r p k w h (by omega) (by omega) ev hev
end Go.Proofs.YtblanfaghnflkaaDoor
