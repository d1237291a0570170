/- want.Net: the forms for laws. -/
import Derived.Test.YtblanfaghnflkaaDoorWant2
namespace Go.Proofs.YtblanfaghnflkaaDoor
open Go.RowKit
section
variable (C : Option Addr) (cc : Nat) (caps : List Int) (P : Option Addr) (cp : Nat) (paths : List (List Int)) (A : Option Addr) (c : Nat) (want : List Int) (B : Nat) (w : World)
set_option maxHeartbeats 4000000 in
theorem wnet_er (er : Int) (hB : B ≤ w.heap.size) (hc : Ints w B C cc caps) (hp : Rows2 w B P cp paths) (hi : Ints w B A c want) (he : wantsErr caps paths want = er) (h0 : er ≠ 0) :
    Calls Tryd.prog 57 #[.agg #[.slice C caps.length cc, .slice P paths.length cp], .slice A want.length c] w fun e w' => e = .returned (.tuple #[.agg #[.slice none 0 0, .slice none 0 0], .iface 119 (.int .i64 er)]) ∧ Below w.heap.size w w' := by
  have HR0 := Lib.hid (Blk.new' (w.alloc (.cells #[.slice C caps.length cc, .slice P paths.length cp] 43)) 43 #[.slice none 0 0, .slice none 0 0] (g := w.heap.size + 1) (by simp))
  have HB0 := Lib.hid (((Below.refl w.heap.size w).alloc (Nat.le_refl _) (.cells #[.slice C caps.length cc, .slice P paths.length cp] 43)).alloc (by simp) (.cells #[.slice none 0 0, .slice none 0 0] 43))
  have HCK := Lib.hid (wcheck_er C cc caps P cp paths A c want B _ er (by simp; omega) (hc.below HB0.out hB) (hp.below HB0.out hB) (hi.below HB0.out hB) he h0)
  clear hc hp hi he h0
  go_enter Tryd.func57, Tryd.ntmps57
  go_wp2_with fail
  refine HCK.out.mono ?_; rintro e w1 ⟨rfl, hb1⟩
  have HR1 := Lib.hid (HR0.out.go hb1)
  have HB1 := Lib.hid (HB0.out.trans (hb1.mono HB0.out.size))
  have HBF := Lib.hid ((HB1.out.setCell (p := ⟨w.heap.size + 1, 0, none⟩) (Nat.le_succ _) (.slice none 0 0)).setCell (p := ⟨w.heap.size + 1, 1, none⟩) (Nat.le_succ _) (.slice none 0 0))
  obtain ⟨r0, r1, rf0, rf1, rz⟩ := HR1.out.two
  clear hb1 HCK
  go_wp2
  exact bodyPost_ret (v := .tuple #[.agg #[.slice none 0 0, .slice none 0 0], .iface 119 (.int .i64 er)]) (by simp [results, Tryd.results57, go_sem, r0, r1]) rfl ⟨rfl, HBF.out⟩
set_option maxHeartbeats 4000000 in
theorem wnet_full (hB : B ≤ w.heap.size) (hc : Ints w B C cc caps) (hp : Rows2 w B P cp paths) (hi : Ints w B A c want) (he : wantsErr caps paths want = 0) (h6 : 6 < caps.length + want.length) :
    Calls Tryd.prog 57 #[.agg #[.slice C caps.length cc, .slice P paths.length cp], .slice A want.length c] w fun e w' => e = .returned (.tuple #[.agg #[.slice none 0 0, .slice none 0 0], .iface 119 (.int .i64 4)]) ∧ Below w.heap.size w w' := by
  have HN0 := Lib.hid ((Blk.new w 43 #[.slice C caps.length cc, .slice P paths.length cp]).alloc (.cells #[.slice none 0 0, .slice none 0 0] 43))
  have HR0 := Lib.hid (Blk.new' (w.alloc (.cells #[.slice C caps.length cc, .slice P paths.length cp] 43)) 43 #[.slice none 0 0, .slice none 0 0] (g := w.heap.size + 1) (by simp))
  have HB0 := Lib.hid (((Below.refl w.heap.size w).alloc (Nat.le_refl _) (.cells #[.slice C caps.length cc, .slice P paths.length cp] 43)).alloc (by simp) (.cells #[.slice none 0 0, .slice none 0 0] 43))
  have HCK := Lib.hid (wcheck_ok C cc caps P cp paths A c want B _ (by simp; omega) (hc.below HB0.out hB) (hp.below HB0.out hB) (hi.below HB0.out hB) he)
  obtain ⟨hne, hwl, _⟩ := wants_ok he
  obtain ⟨_, a2, _, a4, _, _⟩ := netErr_ok hne
  have hs : (6 : Int) < (caps.length : Int) + (want.length : Int) := by omega
  have hw1 : want.length ≤ 6 := by omega
  clear hc hp hi he hne hwl a4 h6
  go_enter Tryd.func57, Tryd.ntmps57
  go_wp2_with fail
  refine HCK.out.mono ?_; rintro e w1 ⟨rfl, hb1⟩
  have HN1 := Lib.hid (HN0.out.go hb1)
  have HR1 := Lib.hid (HR0.out.go hb1)
  have HB1 := Lib.hid (HB0.out.trans (hb1.mono HB0.out.size))
  have HBF := Lib.hid ((HB1.out.setCell (p := ⟨w.heap.size + 1, 0, none⟩) (Nat.le_succ _) (.slice none 0 0)).setCell (p := ⟨w.heap.size + 1, 1, none⟩) (Nat.le_succ _) (.slice none 0 0))
  obtain ⟨n0, n1, nf0, nf1, nz⟩ := HN1.out.two
  obtain ⟨r0, r1, rf0, rf1, rz⟩ := HR1.out.two
  clear hb1 HCK
  go_wp2
  exact bodyPost_ret (v := .tuple #[.agg #[.slice none 0 0, .slice none 0 0], .iface 119 (.int .i64 4)]) (by simp [results, Tryd.results57, go_sem, r0, r1]) rfl ⟨rfl, HBF.out⟩
set_option maxHeartbeats 4000000 in
theorem wnet_yes (hB : B ≤ w.heap.size) (hc : Ints w B C cc caps) (hp : Rows2 w B P cp paths) (hi : Ints w B A c want) (he : wantsErr caps paths want = 0) (h6 : caps.length + want.length ≤ 6) :
    Calls Tryd.prog 57 #[.agg #[.slice C caps.length cc, .slice P paths.length cp], .slice A want.length c] w fun e w' => ∃ C' cc' P' cp', e = .returned (.tuple #[.agg #[.slice C' (caps ++ want).length cc', .slice P' (wideP paths caps.length).length cp'], .nilIface]) ∧ Ints w' w'.heap.size C' cc' (caps ++ want) ∧ Rows2 w' w'.heap.size P' cp' (wideP paths caps.length) ∧ Below w.heap.size w w' := by
  have HN0 := Lib.hid ((Blk.new w 43 #[.slice C caps.length cc, .slice P paths.length cp]).alloc (.cells #[.slice none 0 0, .slice none 0 0] 43))
  have HR0 := Lib.hid (Blk.new' (w.alloc (.cells #[.slice C caps.length cc, .slice P paths.length cp] 43)) 43 #[.slice none 0 0, .slice none 0 0] (g := w.heap.size + 1) (by simp))
  have HB0 := Lib.hid (((Below.refl w.heap.size w).alloc (Nat.le_refl _) (.cells #[.slice C caps.length cc, .slice P paths.length cp] 43)).alloc (by simp) (.cells #[.slice none 0 0, .slice none 0 0] 43))
  have HCK := Lib.hid (wcheck_ok C cc caps P cp paths A c want B _ (by simp; omega) (hc.below HB0.out hB) (hp.below HB0.out hB) (hi.below HB0.out hB) he)
  obtain ⟨hne, hwl, _⟩ := wants_ok he
  obtain ⟨a1, a2, a3, a4, _, _⟩ := netErr_ok hne
  have hsh := netErr_short hne
  have HW := Lib.hid fun (W : World) (h : Below w.heap.size w W) => wide_any C cc caps P cp paths A c want B W (Nat.le_trans hB h.size) (hc.below h hB) (hp.below h hB) (hi.below h hB) hwl a3 (by omega) (by omega) (fun l hl => by have := hsh l hl; omega)
  have hs : decide ((6 : Int) < (caps.length : Int) + (want.length : Int)) = false := decide_eq_false (by omega)
  have hw1 : want.length ≤ 6 := by omega
  obtain ⟨CW, hCW⟩ : ∃ l, caps ++ want = l := ⟨_, rfl⟩
  obtain ⟨PW, hPW⟩ : ∃ l, wideP paths caps.length = l := ⟨_, rfl⟩
  rw [hCW, hPW] at HW ⊢
  clear hc hp hi he hne hwl a4 h6 hsh hCW hPW
  go_enter Tryd.func57, Tryd.ntmps57
  go_wp2_with fail
  refine HCK.out.mono ?_; rintro e w1 ⟨rfl, hb1⟩
  have HN1 := Lib.hid (HN0.out.go hb1)
  have HR1 := Lib.hid (HR0.out.go hb1)
  have HB1 := Lib.hid (HB0.out.trans (hb1.mono HB0.out.size))
  obtain ⟨n0, n1, nf0, nf1, nz⟩ := HN1.out.two
  clear hb1 HCK
  go_wp2_with fail
  refine (HW.out _ HB1.out).mono ?_; rintro e w2 ⟨cv, pv, vs, rfl, ho, hb2⟩
  have HR2 := Lib.hid (HR1.out.go hb2)
  have HB2 := Lib.hid (HB1.out.trans (hb2.mono HB1.out.size))
  obtain ⟨Cv, ccv, rfl, _, _⟩ := owns_ints ho.capO
  obtain ⟨Pv, cpv, rfl, _⟩ := ho.rows
  have HBF := Lib.hid ((HB2.out.setCell (p := ⟨w.heap.size + 1, 0, none⟩) (Nat.le_succ _) (.slice Cv CW.length ccv)).setCell (p := ⟨w.heap.size + 1, 1, none⟩) (Nat.le_succ _) (.slice Pv PW.length cpv))
  have HOF := Lib.hid ((ho.far HR2.out (by decide) (by decide) 0 (.slice Cv CW.length ccv)).far (HR2.out.s2_0 _) (by decide) (by decide) 1 (.slice Pv PW.length cpv))
  obtain ⟨r0, r1, rf0, rf1, rz⟩ := HR2.out.two
  obtain ⟨A7, c7, hv7, hn7, hi7⟩ := owns_ints HOF.out.capO
  injection hv7 with e1 e2 e3
  subst e1 e3
  clear e2 hn7
  obtain ⟨A8, c8, hv8, hr8⟩ := HOF.out.rows
  injection hv8 with e1 e2 e3
  subst e1 e3
  clear e2
  have HI7 := Lib.hid hi7; have HR8 := Lib.hid hr8
  clear ho hb2 hi7 hr8 n0 n1 nf0 nf1 nz
  go_wp2
  exact bodyPost_ret (v := .tuple #[.agg #[.slice Cv CW.length ccv, .slice Pv PW.length cpv], .nilIface]) (by simp [results, Tryd.results57, go_sem, r0, r1]) rfl ⟨Cv, ccv, Pv, cpv, rfl, HI7.out, HR8.out, HBF.out⟩
end
end Go.Proofs.YtblanfaghnflkaaDoor
