/- The walk of LogKeeps: it returns true for every input. -/
import Derived.Test.YtaijpiebjhhkjaaGreatDoorLibW
namespace Go.Proofs.YtaijpiebjhhkjaaGreatDoor
open Go.RowKit
theorem keep_one : FillEnds [8] (oneL 1) 1 [8] := ends_dec (by decide +kernel) (by decide +kernel) (by decide +kernel)
set_option maxHeartbeats 16000000 in
set_option maxRecDepth 100000 in
theorem logKeeps_in (w : World) (C : Option Addr) (cc : Nat) (caps : List Int) (hc : Ints w w.heap.size C cc caps) (P : Option Addr) (cp : Nat) (paths : List (List Int)) (hp : Rows2 w w.heap.size P cp paths) (D : Option Addr) (cd : Nat) (drops : List Int) (hd : Ints w w.heap.size D cd drops) (Y : Option Addr) (cy : Nat) (syncs : List Int) (hy : Ints w w.heap.size Y cy syncs) (F : Option Addr) (cf : Nat) (fails : List Int) (hf : Ints w w.heap.size F cf fails) (hfw : ∀ n ∈ fails, (Lit.int .i64 n).wf = true) (K : Option Addr) (ck : Nat) (keeps : List Int) (hk : Ints w w.heap.size K ck keeps) (hg : LaidLog w) :
    Calls Tryz.prog 3 #[.slice C caps.length cc, .slice P paths.length cp, .slice D drops.length cd, .slice Y syncs.length cy, .slice F fails.length cf, .slice K keeps.length ck] w fun e w' => e = .returned (.bool true) ∧ Below w.heap.size w w' := by
  have HC := Lib.hid hc; have HP := Lib.hid hp; have HD := Lib.hid hd; have HY := Lib.hid hy; have HF := Lib.hid hf; have HK := Lib.hid hk; have HG := Lib.hid hg
  have HFW := Lib.hid hfw
  have HNEW := Lib.hid (fact_new w)
  clear hc hp hd hy hf hk hg hfw
  go_enter Tryz.func3, Tryz.ntmps3
  go_wp2_with fail
  obtain ⟨b0, hb0, hnew⟩ := HNEW.out
  refine hnew.mono ?_; rintro e w1 ⟨g, C1, cc1, rfl, hL, hb⟩
  have hbz : b0 ≤ w1.heap.size := by rw [hb0]; rw [hb0] at hb; exact hb.size
  have hwb : w.heap.size ≤ b0 := by rw [hb0]; simp
  have HB1 : Hid (Below w.heap.size w w1) := Lib.hid (((Below.refl w.heap.size w).alloc (Nat.le_refl _) _).trans (hb.mono hwb))
  have HL1 := Lib.hid hL
  clear hb hL hnew hb0 HNEW
  go_wp2_with fail
  refine (fact_add w1 b0 g cc1 C1 none 0 [] 0 (by decide) ByteArray.empty 0 HL1.out hbz (by decide)).mono ?_; rintro e w2 ⟨rfl, P2, cp2, vs2, bs2, hL, hbs, hb⟩
  have hs2 : bs2.size = 4 := by rw [← bytes_len, hbs]; decide
  have HL2 := Lib.hid hL; have HB2 := Lib.hid (HB1.out.trans (hb.mono hwb)); have HT2 := Lib.hid hbs
  have hbz2 := Nat.le_trans hbz hb.size
  have HS2 := Lib.hid hs2
  clear hb hL hbs HL1 HB1 hbz hs2
  go_wp2_with fail
  refine (lsync_go w2 b0 g _ _ vs2 [8] _ bs2 0 (-1) HL2.out hbz2 (by decide) (by decide) (by decide) (-1) (by decide) (by rw [HS2.out]; decide)).mono ?_; rintro e w3 ⟨rfl, hL, hb, _⟩
  rw [HS2.out] at hL
  have HL3 := Lib.hid hL; have HB3 := Lib.hid (HB2.out.trans (hb.mono hwb))
  have hbz3 := Nat.le_trans hbz2 hb.size
  clear hb hL HL2 HB2 hbz2
  go_wp2_with fail
  refine (fact_add w3 b0 g cc1 C1 P2 cp2 vs2 1 (by decide) bs2 4 HL3.out hbz3 (by rw [HS2.out]; decide)).mono ?_; rintro e w4 ⟨rfl, P4, cp4, vs4, bs4, hL, hbs, hb⟩
  have HL4 := Lib.hid hL; have HB4 := Lib.hid (HB3.out.trans (hb.mono hwb))
  have HT4 : Hid (bs4.data.toList = LG.flat [⟨true, [0]⟩, ⟨true, [0]⟩]) := Lib.hid (by rw [hbs, HT2.out]; decide)
  have hbz4 := Nat.le_trans hbz3 hb.size
  clear hb hL hbs HL3 HB3 hbz3 HT2 HS2
  go_wp2_with fail
  refine (fact_crash w4 b0 g cc1 C1 P4 cp4 vs4 bs4 HL4.out hbz4 HT4.out (var?_below (g := 2) HB4.out (by kernel_rfl) HG.out.lt HG.out.tab) (Nat.lt_of_lt_of_le HG.out.lt HB4.out.size)).mono ?_; rintro e w5 ⟨rfl, P5, cp5, vs5, bs5, hL, hb⟩
  have HL5 := Lib.hid hL; have HB5 := Lib.hid (HB4.out.trans (hb.mono hwb))
  have hbz5 := Nat.le_trans hbz4 hb.size
  clear hb hL HL4 HB4 hbz4 HT4
  go_wp2_with fail
  refine (lpaths_any w5 b0 g cc1 C1 P5 cp5 vs5 [8] (oneL 1) bs5 _ (-1) false HL5.out (by decide) (by decide) (by decide)).mono ?_; rintro e w6 ⟨P6, cp6, rfl, _, hb⟩
  have HL6 := Lib.hid (HL5.out.below hb); have HB6 := Lib.hid (HB5.out.trans (hb.mono HB5.out.size))
  have hbz6 := Nat.le_trans hbz5 hb.size
  clear hb HL5 HB5 hbz5
  go_wp2_with fail
  refine (lrates_yes w6 b0 g cc1 C1 P5 cp5 vs5 [8] (oneL 1) bs5 _ (-1) false HL6.out (by decide) 1 [8] keep_one).mono ?_; rintro e w7 ⟨A7, c7, rfl, hfr, hb⟩
  obtain ⟨b7, off7, rfl, _, r0, _⟩ := frs_k hfr 0 rfl
  have hle7 := hfr.le
  have HL7 := Lib.hid (HL6.out.below hb); have HB7 := Lib.hid (HB6.out.trans (hb.mono HB6.out.size))
  have hbz7 := Nat.le_trans hbz6 hb.size
  have r0' : w7.cell? ⟨b7, off7, none⟩ = some (.int .i64 8) := r0
  clear hb HL6 HB6 hbz6 hfr r0
  go_wp2_with fail
  refine (lbytes_any w7 b0 g _ _ vs5 [8] _ bs5 _ (-1) false HL7.out).mono ?_; rintro e w8 ⟨rfl, hb⟩
  have HL8 := Lib.hid (HL7.out.below hb); have HB8 := Lib.hid (HB7.out.trans (hb.mono HB7.out.size))
  clear hb HL7 HB7 hbz7 r0'
  go_wp2_with fail
  refine (lsafe_any w8 b0 g _ _ vs5 [8] _ bs5 _ (-1) false HL8.out).mono ?_; rintro e w9 ⟨rfl, hb⟩
  have HB9 := Lib.hid (HB8.out.trans (hb.mono HB8.out.size))
  clear hb HL8 HB8
  go_wp2_with fail
  refine (refLinks_any C cc caps w9.heap.size w9 ((HC.out.below HB9.out (Nat.le_refl _)).more HB9.out.size)).mono ?_; rintro e w10 ⟨rfl, rfl⟩
  obtain ⟨fl, hfl⟩ : ∃ x, linksErr caps = x := ⟨_, rfl⟩
  rw [hfl]
  by_cases h0 : fl = 0
  · subst h0
    have hc6 : caps.length ≤ 6 := by
      unfold linksErr at hfl
      split at hfl
      · omega
      · split at hfl <;> omega
    have HFL := Lib.hid hfl
    clear hfl
    go_wp2_with fail
    refine (log_yes C cc caps _ w9 ((HC.out.below HB9.out (Nat.le_refl _)).more HB9.out.size) (Nat.le_refl _) HFL.out).mono ?_; rintro e w11 ⟨gl, cv, rfl, hL, hb⟩
    obtain ⟨C', cc', rfl, _, _⟩ := owns_ints hL.net.capO
    obtain ⟨bl, hbl⟩ : ∃ x, x = w9.heap.size := ⟨_, rfl⟩
    have hwl : w.heap.size ≤ bl := by rw [hbl]; exact HB9.out.size
    have hlz : bl ≤ w11.heap.size := by rw [hbl]; exact hb.size
    rw [← hbl] at hL hb
    have HL11 := Lib.hid hL
    have HB11 := Lib.hid (HB9.out.trans (hb.mono hwl))
    clear hb hL HB9 hbl hwb
    go_wp2_with fail
    refine (same_ok w11).mono ?_; rintro e w12 ⟨rfl, hb⟩
    obtain ⟨hT, hD, hM, hb2⟩ := keeps_start w12 bl gl C' cc' caps (HL11.out.below hb) (Nat.le_trans hlz hb.size) C cc caps.length _ rfl
    obtain ⟨w13, hw13⟩ : ∃ x, x = (w12.alloc (.cells #[.slice C caps.length cc, .slice none 0 0] 42)).alloc (.cells #[.int .i64 0] 3) := ⟨_, rfl⟩
    rw [← hw13] at hT hD hM hb2
    have HS13 := Lib.hid (Keeps.mk hT hD hM ((HB11.out.trans (hb.mono HB11.out.size)).trans (hb2.mono (Nat.le_trans HB11.out.size hb.size))) hwl)
    clear hb hb2 hT hD hM HL11 HB11 hlz
    go_upto_region 19 with (fail)
    rw [← hw13]
    obtain ⟨d0, hd0⟩ : ∃ x, x = w12.heap.size := ⟨_, rfl⟩
    rw [← hd0] at HS13 ⊢
    clear hw13 hd0
    go_wp2_with fail
    refine lk_loop1 w C cc caps P cp paths D cd drops Y cy syncs F cf fails K ck keeps C' cc' bl gl HC.out HP.out HD.out HY.out HF.out HFW.out HK.out hc6 HFL.out HG.out _ w13 ⟨d0 + 1, d0, 0, 0, [], none, ByteArray.empty, 0, -1, false, 1, 1, _, by decide, by decide, ⟨rfl, rfl, rfl, rfl, rfl, rfl, rfl, rfl, rfl, rfl, rfl, rfl, rfl, trivial⟩, HS13⟩ _ fun a' W' hI => ?_
    obtain ⟨m, d, ro, a2, O, p, bs, safe, left, st, cn, cm, dv, hro, ha2, hst, HS⟩ := hI
    obtain ⟨x, rfl, hx⟩ := lk_open hst
    refine inBlock_exit ?_
    clear hx hst HS13
    go_wp2
    go_ret
    exact ⟨rfl, HS.out.B⟩
  · have HFL := Lib.hid hfl
    clear hfl
    go_wp2_with fail
    refine (log_no C cc caps _ w9 ((HC.out.below HB9.out (Nat.le_refl _)).more HB9.out.size) fl HFL.out h0).mono ?_; rintro e w11 ⟨rfl, hb⟩
    have HB11 := Lib.hid (HB9.out.trans (hb.mono HB9.out.size))
    clear hb HB9
    go_wp2_with fail
    refine (same_hit fl w11 (HG.out.laid.below HB11.out)).mono ?_; rintro e w12 ⟨rfl, hb⟩
    have HB12 := Lib.hid (HB11.out.trans (hb.mono HB11.out.size))
    clear hb HB11
    have d0 : (fl != 0) = true := by simp [h0]
    go_wp2
    go_ret
    exact ⟨rfl, HB12.out⟩
theorem logKeeps_walk (w : World) (C : Option Addr) (cc : Nat) (caps : List Int) (hc : Ints w w.heap.size C cc caps) (_ : ∀ n ∈ caps, (Lit.int .i64 n).wf = true) (P : Option Addr) (cp : Nat) (paths : List (List Int)) (hp : Rows2 w w.heap.size P cp paths) (_ : ∀ l ∈ paths, ∀ n ∈ l, (Lit.int .i64 n).wf = true) (D : Option Addr) (cd : Nat) (drops : List Int) (hd : Ints w w.heap.size D cd drops) (_ : ∀ n ∈ drops, (Lit.int .i64 n).wf = true) (Y : Option Addr) (cy : Nat) (syncs : List Int) (hy : Ints w w.heap.size Y cy syncs) (_ : ∀ n ∈ syncs, (Lit.int .i64 n).wf = true) (F : Option Addr) (cf : Nat) (fails : List Int) (hf : Ints w w.heap.size F cf fails) (hfw : ∀ n ∈ fails, (Lit.int .i64 n).wf = true) (K : Option Addr) (ck : Nat) (keeps : List Int) (hk : Ints w w.heap.size K ck keeps) (_ : ∀ n ∈ keeps, (Lit.int .i64 n).wf = true) (hg : LaidLog w) :
    Calls Tryz.prog 3 #[.slice C caps.length cc, .slice P paths.length cp, .slice D drops.length cd, .slice Y syncs.length cy, .slice F fails.length cf, .slice K keeps.length ck] w fun e w' => e = .returned (.bool true) ∧ Below w.heap.size w w' :=
  logKeeps_in w C cc caps hc P cp paths hp D cd drops hd Y cy syncs hy F cf fails hf hfw K ck keeps hk hg
end Go.Proofs.YtaijpiebjhhkjaaGreatDoor
