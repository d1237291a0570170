/- want.Rates: the forms for laws. -/
import Derived.Test.YtblanfaghnflkaaDoorWant2
import Derived.Test.YtblanfaghnflkaaDoorLibK
namespace Go.Proofs.YtblanfaghnflkaaDoor
open Go.RowKit
set_option maxHeartbeats 2000000 in
theorem wrates_er (C : Option Addr) (cc : Nat) (caps : List Int) (P : Option Addr) (cp m : Nat) (paths : List (List Int)) (A : Option Addr) (c n : Nat) (want : List Int) (B : Nat) (w : World) (er : Int) (hB : B ≤ w.heap.size)
    (hc : Ints w B C cc caps) (hp : Rows2 w B P cp paths) (hi : Ints w B A c want) (hm : m = paths.length) (hn : n = want.length) (he : wantsErr caps paths want = er) (h0 : er ≠ 0) :
    Calls Tryd.prog 58 #[.agg #[.slice C caps.length cc, .slice P m cp], .slice A n c] w fun e w' => e = .returned (.tuple #[.slice none 0 0, .iface 119 (.int .i64 er)]) ∧ Below w.heap.size w w' := by
  subst hm hn
  have HB0 : Hid (Below w.heap.size w (w.alloc (.cells #[.slice C caps.length cc, .slice P paths.length cp] 43))) := Lib.hid ((Below.refl _ _).alloc (Nat.le_refl _) _)
  have HA := Lib.hid (wcheck_er C cc caps P cp paths A c want B _ er (by simp; omega) (hc.below HB0.out hB) (hp.below HB0.out hB) (hi.below HB0.out hB) he h0)
  clear hc hp hi he h0
  go_enter Tryd.func58, Tryd.ntmps58
  go_wp2_with fail
  refine HA.out.mono ?_; rintro e w1 ⟨rfl, hb1⟩
  have HB1 := Lib.hid (HB0.out.trans (hb1.mono HB0.out.size))
  clear hb1
  go_wp2
  go_ret2
  exact ⟨rfl, HB1.out⟩
set_option maxHeartbeats 4000000 in
theorem wrates_yes (C : Option Addr) (cc : Nat) (caps : List Int) (P : Option Addr) (cp m : Nat) (paths : List (List Int)) (A : Option Addr) (c n : Nat) (want : List Int) (B : Nat) (w : World) (K : Nat) (R : List Rat) (hB : B ≤ w.heap.size)
    (hc : Ints w B C cc caps) (hp : Rows2 w B P cp paths) (hi : Ints w B A c want) (hm : m = paths.length) (hn : n = want.length) (he : wantsErr caps paths want = 0) (hK : FillEnds (caps ++ want) (wideP paths caps.length) K R) :
    Calls Tryd.prog 58 #[.agg #[.slice C caps.length cc, .slice P m cp], .slice A n c] w fun e w' => ∃ A' c', e = .returned (.tuple #[.slice A' R.length c', .nilIface]) ∧ Frs w' w'.heap.size A' c' (R.map frQ) ∧ Below w.heap.size w w' := by
  subst hm hn
  have HB0 : Hid (Below w.heap.size w (w.alloc (.cells #[.slice C caps.length cc, .slice P paths.length cp] 43))) := Lib.hid ((Below.refl _ _).alloc (Nat.le_refl _) _)
  have HN0 := Lib.hid (Blk.new w 43 #[.slice C caps.length cc, .slice P paths.length cp])
  have HA := Lib.hid (wcheck_ok C cc caps P cp paths A c want B _ (by simp; omega) (hc.below HB0.out hB) (hp.below HB0.out hB) (hi.below HB0.out hB) he)
  obtain ⟨hne, hwl, _⟩ := wants_ok he
  obtain ⟨a1, a2, a3, a4, a5, a6⟩ := netErr_ok hne
  have hsh := netErr_short hne
  have HW := Lib.hid fun (W : World) (h : Below w.heap.size w W) => wide_any C cc caps P cp paths A c want B W (Nat.le_trans hB h.size) (hc.below h hB) (hp.below h hB) (hi.below h hB) hwl a3 (by omega) (by omega) (fun l hl => by have := hsh l hl; omega)
  have HOK := Lib.hid (wide_netOk he)
  have HK := Lib.hid hK
  obtain ⟨CW, hCW⟩ : ∃ l, caps ++ want = l := ⟨_, rfl⟩
  obtain ⟨PW, hPW⟩ : ∃ l, wideP paths caps.length = l := ⟨_, rfl⟩
  rw [hCW, hPW] at HW HOK HK
  clear hc hp hi he hK hne hsh a5 a6 hwl hCW hPW
  go_enter Tryd.func58, Tryd.ntmps58
  go_wp2_with fail
  refine HA.out.mono ?_; rintro e w1 ⟨rfl, hb1⟩
  have HB1 := Lib.hid (HB0.out.trans (hb1.mono HB0.out.size)); have HN1 := Lib.hid (HN0.out.go hb1)
  obtain ⟨n0, n1, _, _, nz⟩ := HN1.out.two
  clear hb1
  have hz1 := HB1.out.size
  go_wp2_with fail
  refine (HW.out _ HB1.out).mono ?_; rintro e w2 ⟨cv, pv, vs, rfl, ho, hb2⟩
  obtain ⟨Cv, ccv, rfl, _, hci⟩ := owns_ints ho.capO
  obtain ⟨Pv, cpv, rfl, hpi⟩ := ho.rows
  have HC2 := Lib.hid hci; have HP2 := Lib.hid hpi
  have HB2 := Lib.hid (HB1.out.trans (hb2.mono hz1))
  have hz2 := HB2.out.size
  clear ho hb2 hci hpi n0 n1 nz
  go_wp2_with fail
  refine (fillOf_any Cv ccv Pv cpv CW PW w2.heap.size w2 (Nat.le_refl _) HC2.out HP2.out HOK.out K R HK.out).mono ?_; rintro e w3 ⟨v, u, us, rfl, hv, _, hb3⟩
  have HB3 := Lib.hid (HB2.out.trans (hb3.mono hz2))
  obtain ⟨A', c', rfl, hf⟩ := rates_frs hv
  have HF := Lib.hid hf
  clear hb3 hv hf
  go_wp2
  go_ret2
  exact ⟨A', c', rfl, HF.out, HB3.out⟩
end Go.Proofs.YtblanfaghnflkaaDoor
