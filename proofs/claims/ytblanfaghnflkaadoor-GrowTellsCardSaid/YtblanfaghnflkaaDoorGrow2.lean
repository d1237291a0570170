/- grow.Wider. -/
import Derived.Test.YtblanfaghnflkaaDoorGrow
namespace Go.Proofs.YtblanfaghnflkaaDoor
open Go.RowKit
set_option maxHeartbeats 2000000 in
theorem wider_net (C : Option Addr) (cc : Nat) (caps : List Int) (P : Option Addr) (cp m : Nat) (paths : List (List Int)) (link by_ : Int) (B : Nat) (w : World) (er : Int) (hB : B ≤ w.heap.size)
    (hc : Ints w B C cc caps) (hp : Rows2 w B P cp paths) (hm : m = paths.length) (he : netErr caps paths = er) (h0 : er ≠ 0) :
    Calls Tryd.prog 73 #[.agg #[.slice C caps.length cc, .slice P m cp], .int .i64 link, .int .i64 by_] w fun e w' => e = .returned (.tuple #[.slice none 0 0, .iface 119 (.int .i64 er)]) ∧ Below w.heap.size w w' := by
  subst hm
  have HB0 : Hid (Below w.heap.size w (w.alloc (.cells #[.slice C caps.length cc, .slice P paths.length cp] 43))) := Lib.hid ((Below.refl _ _).alloc (Nat.le_refl _) _)
  have HA := Lib.hid (ncheck_er C cc caps P cp paths B (w.alloc (.cells #[.slice C caps.length cc, .slice P paths.length cp] 43)) er (by simp; omega) (hc.below HB0.out hB) (hp.below HB0.out hB) he h0)
  clear hc hp he h0
  go_enter Tryd.func73, Tryd.ntmps73
  go_wp2_with fail
  refine HA.out.mono ?_; rintro e w1 ⟨rfl, hb1⟩
  have HB1 := Lib.hid (HB0.out.trans (hb1.mono HB0.out.size))
  clear hb1
  go_wp2
  go_ret2
  exact ⟨rfl, HB1.out⟩
set_option maxHeartbeats 4000000 in
theorem wider_out (C : Option Addr) (cc : Nat) (caps : List Int) (P : Option Addr) (cp m : Nat) (paths : List (List Int)) (link by_ : Int) (B : Nat) (w : World) (hB : B ≤ w.heap.size)
    (hc : Ints w B C cc caps) (hp : Rows2 w B P cp paths) (hm : m = paths.length) (he : netErr caps paths = 0) (ho : link < 0 ∨ (caps.length : Int) ≤ link ∨ by_ < 0 ∨ 1000 < by_) :
    Calls Tryd.prog 73 #[.agg #[.slice C caps.length cc, .slice P m cp], .int .i64 link, .int .i64 by_] w fun e w' => e = .returned (.tuple #[.slice none 0 0, .iface 119 (.int .i64 1)]) ∧ Below w.heap.size w w' := by
  subst hm
  have HB0 : Hid (Below w.heap.size w (w.alloc (.cells #[.slice C caps.length cc, .slice P paths.length cp] 43))) := Lib.hid ((Below.refl _ _).alloc (Nat.le_refl _) _)
  have HN0 := Lib.hid (Blk.new w 43 #[.slice C caps.length cc, .slice P paths.length cp])
  have HA := Lib.hid (ncheck_ok C cc caps P cp paths B (w.alloc (.cells #[.slice C caps.length cc, .slice P paths.length cp] 43)) (by simp; omega) (hc.below HB0.out hB) (hp.below HB0.out hB) he)
  have h6 := (netErr_ok he).2.1
  clear hc hp he
  by_cases l0 : link < 0
  · clear ho
    go_enter Tryd.func73, Tryd.ntmps73
    go_wp2_with fail
    refine HA.out.mono ?_; rintro e w1 ⟨rfl, hb1⟩
    have HB1 := Lib.hid (HB0.out.trans (hb1.mono HB0.out.size)); have HN1 := Lib.hid (HN0.out.go hb1)
    obtain ⟨n0, n1, _, _, nz⟩ := HN1.out.two
    clear hb1
    go_wp2
    go_ret2
    exact ⟨rfl, HB1.out⟩
  · have e0 : decide (link < 0) = false := decide_eq_false l0
    by_cases l1 : (caps.length : Int) ≤ link
    · clear ho
      go_enter Tryd.func73, Tryd.ntmps73
      go_wp2_with fail
      refine HA.out.mono ?_; rintro e w1 ⟨rfl, hb1⟩
      have HB1 := Lib.hid (HB0.out.trans (hb1.mono HB0.out.size)); have HN1 := Lib.hid (HN0.out.go hb1)
      obtain ⟨n0, n1, _, _, nz⟩ := HN1.out.two
      clear hb1
      go_wp2
      go_ret2
      exact ⟨rfl, HB1.out⟩
    · have e1 : decide ((caps.length : Int) ≤ link) = false := decide_eq_false l1
      by_cases l2 : by_ < 0
      · clear ho
        go_enter Tryd.func73, Tryd.ntmps73
        go_wp2_with fail
        refine HA.out.mono ?_; rintro e w1 ⟨rfl, hb1⟩
        have HB1 := Lib.hid (HB0.out.trans (hb1.mono HB0.out.size)); have HN1 := Lib.hid (HN0.out.go hb1)
        obtain ⟨n0, n1, _, _, nz⟩ := HN1.out.two
        clear hb1
        go_wp2
        go_ret2
        exact ⟨rfl, HB1.out⟩
      · have e2 : decide (by_ < 0) = false := decide_eq_false l2
        have l3 : 1000 < by_ := by omega
        clear ho
        go_enter Tryd.func73, Tryd.ntmps73
        go_wp2_with fail
        refine HA.out.mono ?_; rintro e w1 ⟨rfl, hb1⟩
        have HB1 := Lib.hid (HB0.out.trans (hb1.mono HB0.out.size)); have HN1 := Lib.hid (HN0.out.go hb1)
        obtain ⟨n0, n1, _, _, nz⟩ := HN1.out.two
        clear hb1
        go_wp2
        go_ret2
        exact ⟨rfl, HB1.out⟩
theorem caps_in {caps : List Int} {paths : List (List Int)} (h : netErr caps paths = 0) {k : Nat} (hk : k < caps.length) : 1 ≤ caps.getD k 0 ∧ caps.getD k 0 ≤ 1000 := by
  have := (netErr_ok h).2.2.2.2.1 caps[k] (List.getElem_mem hk)
  rw [List.getD_eq_getElem?_getD, List.getElem?_eq_getElem hk]; exact this
theorem wide_ok {caps : List Int} {paths : List (List Int)} {k : Nat} {x : Int} (h : netErr caps paths = 0) (_ : k < caps.length) (h1 : 1 ≤ x) (h2 : x ≤ 1000) : netErr (caps.set k x) paths = 0 := by
  obtain ⟨a1, a2, a3, a4, a5, a6⟩ := netErr_ok h
  have hl : linksErr (caps.set k x) = 0 := by
    unfold linksErr
    rw [List.length_set, if_neg (by omega), if_neg (by omega), if_neg]
    intro hc
    rw [List.any_eq_true] at hc
    obtain ⟨y, hy, hb⟩ := hc
    simp only [badCap, Bool.or_eq_true, decide_eq_true_eq] at hb
    rcases List.mem_or_eq_of_mem_set hy with h3 | h3
    · have := a5 y h3; omega
    · omega
  unfold netErr
  rw [List.length_set, if_neg (by omega), if_neg (by omega), if_pos hl]
  refine firstFrom_all fun j _ hj => ?_
  have hj : j < paths.length := by omega
  rw [List.getD_eq_getElem?_getD, List.getElem?_eq_getElem hj]
  exact a6 _ (List.getElem_mem hj)
set_option maxHeartbeats 4000000 in
theorem wider_full (C : Option Addr) (cc : Nat) (caps : List Int) (P : Option Addr) (cp m : Nat) (paths : List (List Int)) (k : Nat) (by_ : Int) (B : Nat) (w : World) (hB : B ≤ w.heap.size)
    (hc : Ints w B C cc caps) (hp : Rows2 w B P cp paths) (hm : m = paths.length) (he : netErr caps paths = 0) (hk : k < caps.length) (b0 : 0 ≤ by_) (b1 : by_ ≤ 1000) (hf : 1000 < caps.getD k 0 + by_) :
    Calls Tryd.prog 73 #[.agg #[.slice C caps.length cc, .slice P m cp], .int .i64 k, .int .i64 by_] w fun e w' => e = .returned (.tuple #[.slice none 0 0, .iface 119 (.int .i64 4)]) ∧ Below w.heap.size w w' := by
  subst hm
  have HB0 : Hid (Below w.heap.size w (w.alloc (.cells #[.slice C caps.length cc, .slice P paths.length cp] 43))) := Lib.hid ((Below.refl _ _).alloc (Nat.le_refl _) _)
  have HN0 := Lib.hid (Blk.new w 43 #[.slice C caps.length cc, .slice P paths.length cp])
  have HA := Lib.hid (ncheck_ok C cc caps P cp paths B (w.alloc (.cells #[.slice C caps.length cc, .slice P paths.length cp] 43)) (by simp; omega) (hc.below HB0.out hB) (hp.below HB0.out hB) he)
  have h6 := (netErr_ok he).2.1
  have hci := caps_in he hk
  have HC := Lib.hid hc
  have hcm := hc.cap; have hcl := hc.le
  unfold maxLen at hcm
  have k0 : (0 : Int) ≤ (k : Int) := by omega
  have e0 : decide ((k : Int) < 0) = false := decide_eq_false (by omega)
  have e1 : decide ((caps.length : Int) ≤ (k : Int)) = false := decide_eq_false (by omega)
  have e1' : decide (caps.length ≤ k) = false := decide_eq_false (by omega)
  have e2 : decide (by_ < 0) = false := decide_eq_false (by omega)
  have e3 : decide (1000 < by_) = false := decide_eq_false (by omega)
  clear hc hp he
  go_enter Tryd.func73, Tryd.ntmps73
  go_wp2_with fail
  refine HA.out.mono ?_; rintro e w1 ⟨rfl, hb1⟩
  have HB1 := Lib.hid (HB0.out.trans (hb1.mono HB0.out.size)); have HN1 := Lib.hid (HN0.out.go hb1)
  obtain ⟨n0, n1, _, _, nz⟩ := HN1.out.two
  obtain ⟨b, off, rfl, hb, hcell⟩ := caps_get (HC.out.below HB1.out hB) hk
  have hbz : b < w1.heap.size := by have := HB1.out.size; omega
  obtain ⟨cv, hcv⟩ : ∃ x, caps.getD k 0 = x := ⟨_, rfl⟩
  rw [hcv] at hcell hf hci
  obtain ⟨hci1, hci2⟩ := hci
  clear hb1 hcv
  go_wp2
  go_ret2
  exact ⟨rfl, HB1.out⟩
set_option maxHeartbeats 4000000 in
theorem wider_yes (C : Option Addr) (cc : Nat) (caps : List Int) (P : Option Addr) (cp m : Nat) (paths : List (List Int)) (k : Nat) (by_ x : Int) (B : Nat) (w : World) (K : Nat) (R : List Rat) (hB : B ≤ w.heap.size)
    (hc : Ints w B C cc caps) (hp : Rows2 w B P cp paths) (hm : m = paths.length) (he : netErr caps paths = 0) (hk : k < caps.length) (b0 : 0 ≤ by_) (b1 : by_ ≤ 1000) (hx : caps.getD k 0 + by_ = x) (hf : x ≤ 1000) (hK : FillEnds (caps.set k x) paths K R) :
    Calls Tryd.prog 73 #[.agg #[.slice C caps.length cc, .slice P m cp], .int .i64 k, .int .i64 by_] w fun e w' => ∃ A' c', e = .returned (.tuple #[.slice A' R.length c', .nilIface]) ∧ Frs w' w'.heap.size A' c' (R.map frQ) ∧ Below w.heap.size w w' := by
  subst hm
  have HB0 : Hid (Below w.heap.size w (w.alloc (.cells #[.slice C caps.length cc, .slice P paths.length cp] 43))) := Lib.hid ((Below.refl _ _).alloc (Nat.le_refl _) _)
  have HN0 := Lib.hid (Blk.new w 43 #[.slice C caps.length cc, .slice P paths.length cp])
  have HA := Lib.hid (ncheck_ok C cc caps P cp paths B (w.alloc (.cells #[.slice C caps.length cc, .slice P paths.length cp] 43)) (by simp; omega) (hc.below HB0.out hB) (hp.below HB0.out hB) he)
  obtain ⟨_, h6, _, p6, _, _⟩ := netErr_ok he
  have hci := caps_in he hk
  have HE := Lib.hid (wide_ok he hk (x := x) (by omega) hf)
  have HSH := Lib.hid (netErr_short he)
  have HC := Lib.hid hc; have HP := Lib.hid hp; have HK := Lib.hid hK
  have hcm := hc.cap; have hcl := hc.le
  unfold maxLen at hcm
  have k0 : (0 : Int) ≤ (k : Int) := by omega
  have e0 : decide ((k : Int) < 0) = false := decide_eq_false (by omega)
  have e1 : decide ((caps.length : Int) ≤ (k : Int)) = false := decide_eq_false (by omega)
  have e1' : decide (caps.length ≤ k) = false := decide_eq_false (by omega)
  have e2 : decide (by_ < 0) = false := decide_eq_false (by omega)
  have e3 : decide (1000 < by_) = false := decide_eq_false (by omega)
  clear hc hp he hK
  go_enter Tryd.func73, Tryd.ntmps73
  go_wp2_with fail
  refine HA.out.mono ?_; rintro e w1 ⟨rfl, hb1⟩
  have HB1 := Lib.hid (HB0.out.trans (hb1.mono HB0.out.size)); have HN1 := Lib.hid (HN0.out.go hb1)
  obtain ⟨n0, n1, _, _, nz⟩ := HN1.out.two
  obtain ⟨b, off, rfl, hb, hcell⟩ := caps_get (HC.out.below HB1.out hB) hk
  have hbz : b < w1.heap.size := by have := HB1.out.size; omega
  obtain ⟨cv, hcv⟩ : ∃ y, caps.getD k 0 = y := ⟨_, rfl⟩
  rw [hcv] at hcell hci hx
  obtain ⟨hci1, hci2⟩ := hci
  have hfd : decide (1000 < cv + by_) = false := decide_eq_false (by omega)
  have HCV := Lib.hid hcv
  subst hx
  clear hb1 hcv HA
  have hz1 := HB1.out.size
  go_wp2_with fail
  refine (own_any _ cc caps P cp paths B _ (by omega) (HC.out.below HB1.out hB) (HP.out.below HB1.out hB) (by omega) (by omega) (fun l hl => by have := HSH.out l hl; omega)).mono ?_; rintro e w2 ⟨cv2, pv2, vs, rfl, hn, hb2⟩
  obtain ⟨g2, c2, rfl, hg2b, hg2z, _, _⟩ := own_form hn.capO (by omega)
  obtain ⟨P2, cp2, rfl, _⟩ := hn.rows
  have HB2 := Lib.hid ((HB1.out.trans (hb2.mono hz1)).alloc (Nat.le_trans hz1 hb2.size) (.cells #[.slice (some ⟨g2, 0, none⟩) caps.length c2, .slice P2 paths.length cp2] 43))
  have HO2 := Lib.hid (hn.below ((Below.refl w2.heap.size w2).alloc (Nat.le_refl _) (.cells #[.slice (some ⟨g2, 0, none⟩) caps.length c2, .slice P2 paths.length cp2] 43)))
  have HN2 := Lib.hid (Blk.new w2 43 #[.slice (some ⟨g2, 0, none⟩) caps.length c2, .slice P2 paths.length cp2])
  have hg2w : w.heap.size ≤ g2 := by omega
  have hgne : w2.heap.size ≠ g2 := by omega
  have HB3 := Lib.hid (((HB1.out.trans (hb2.mono hz1)).setCell (p := ⟨g2, k, none⟩) hg2w (.int .i64 (cv + by_))).alloc (by have := hb2.size; simp [World.setCell]; omega) (.cells #[.slice (some ⟨g2, 0, none⟩) caps.length c2, .slice P2 paths.length cp2] 43))
  have HO3 := Lib.hid ((hn.capSet rfl k (cv + by_)).below ((Below.refl (w2.setCell ⟨g2, k, none⟩ (.int .i64 (cv + by_))).heap.size _).alloc (Nat.le_refl _) (.cells #[.slice (some ⟨g2, 0, none⟩) caps.length c2, .slice P2 paths.length cp2] 43)))
  clear hn hb2 n0 n1 nz hcell
  obtain ⟨n0, n1, _, _, nz⟩ := HN2.out.two
  have q0 : (w2.alloc (.cells #[.slice (some ⟨g2, 0, none⟩) caps.length c2, .slice P2 paths.length cp2] 43)).cell? ⟨g2, k, none⟩ = some (.int .i64 cv) := by
    have := HO2.out.capO.cellAt (g := g2) k (by omega)
    rw [this, List.getElem?_map, List.getElem?_eq_getElem hk]
    have hg : caps.getD k 0 = caps[k] := by rw [List.getD_eq_getElem?_getD, List.getElem?_eq_getElem hk]; rfl
    rw [← hg, HCV.out]; rfl
  have qf := HO2.out.capO.frozenAt (g := g2) k
  go_wp2_with fail
  obtain ⟨w3, hw3⟩ : ∃ y, y = (w2.setCell ⟨g2, k, none⟩ (.int .i64 (cv + by_))).alloc (.cells #[.slice (some ⟨g2, 0, none⟩) caps.length c2, .slice P2 paths.length cp2] 43) := ⟨_, rfl⟩
  rw [← hw3] at HB3 HO3 ⊢
  obtain ⟨P3, cp3, hv3, hp3⟩ := HO3.out.rows
  obtain ⟨A3, c3, hv3', _, hi3⟩ := owns_ints HO3.out.capO
  injection hv3 with e4 _ e5
  injection hv3' with e6 e8 e7
  clear e8
  subst e4 e5 e6 e7
  have HP3 := Lib.hid hp3; have HI3 := Lib.hid hi3
  clear hp3 hi3 hw3 n0 n1 nz q0 qf
  refine (show Calls Tryd.prog 44 #[.agg #[.slice (some ⟨g2, 0, none⟩) caps.length c2, .slice P2 paths.length cp2]] w3 fun e w' => ∃ A c, e = .returned (.tuple #[.slice A R.length c, .nilIface]) ∧ Frs w' w'.heap.size A c (R.map frQ) ∧ Below w3.heap.size w3 w' from by
    have := frates_yes (some ⟨g2, 0, none⟩) c2 (caps.set k (cv + by_)) P2 cp2 _ paths w3.heap.size w3 K R (Nat.le_refl _) HI3.out HP3.out rfl HE.out HK.out
    rwa [List.length_set] at this).mono ?_
  rintro e w4 ⟨A', c', rfl, hf4, hb4⟩
  have HB4 := Lib.hid (HB3.out.trans (hb4.mono HB3.out.size))
  have HF4 := Lib.hid hf4
  clear hf4 hb4
  go_wp2
  go_ret2
  exact ⟨A', c', rfl, HF4.out, HB4.out⟩
end Go.Proofs.YtblanfaghnflkaaDoor
