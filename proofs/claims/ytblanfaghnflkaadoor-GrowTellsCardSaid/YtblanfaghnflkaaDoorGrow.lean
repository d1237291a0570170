/- Package grow: a flow more, one fewer, a wider link. -/
import Derived.Test.YtblanfaghnflkaaDoorLibK
import Derived.Test.YtblanfaghnflkaaDoorLibM
import Derived.Test.YtblanfaghnflkaaDoorLibN
namespace Go.Proofs.YtblanfaghnflkaaDoor
open Go.RowKit
set_option maxHeartbeats 1000000 in
theorem more_er (C : Option Addr) (cc : Nat) (caps : List Int) (P : Option Addr) (cp m : Nat) (paths : List (List Int)) (A : Option Addr) (c : Nat) (path : List Int) (B : Nat) (w : World) (er : Int) (hB : B ≤ w.heap.size)
    (hc : Ints w B C cc caps) (hp : Rows2 w B P cp paths) (hi : Ints w B A c path) (hm : m = paths.length) (he : addErr caps paths path = er) (h0 : er ≠ 0) :
    Calls Tryd.prog 71 #[.agg #[.slice C caps.length cc, .slice P m cp], .slice A path.length c] w fun e w' => e = .returned (.tuple #[.slice none 0 0, .iface 119 (.int .i64 er)]) ∧ Below w.heap.size w w' := by
  subst hm
  have HB0 : Hid (Below w.heap.size w (w.alloc (.cells #[.slice C caps.length cc, .slice P paths.length cp] 43))) := Lib.hid ((Below.refl _ _).alloc (Nat.le_refl _) _)
  have HA := Lib.hid (add_no C cc caps P cp paths A c path B (w.alloc (.cells #[.slice C caps.length cc, .slice P paths.length cp] 43)) er (by simp; omega) (hc.below HB0.out hB) (hp.below HB0.out hB) (hi.below HB0.out hB) he h0)
  clear hc hp hi he h0
  go_enter Tryd.func71, Tryd.ntmps71
  go_wp2_with fail
  refine HA.out.mono ?_; rintro e w1 ⟨rfl, hb1⟩
  have HB1 := Lib.hid (HB0.out.trans (hb1.mono HB0.out.size))
  have hz1 := HB1.out.size
  have HB2 := Lib.hid (HB1.out.alloc hz1 (.cells #[.slice none 0 0, .slice none 0 0] 43))
  clear hb1
  go_wp2
  go_ret2
  exact ⟨rfl, HB2.out⟩
set_option maxHeartbeats 1000000 in
theorem more_yes (C : Option Addr) (cc : Nat) (caps : List Int) (P : Option Addr) (cp m : Nat) (paths : List (List Int)) (A : Option Addr) (c : Nat) (path : List Int) (B : Nat) (w : World) (K : Nat) (R : List Rat) (hB : B ≤ w.heap.size)
    (hc : Ints w B C cc caps) (hp : Rows2 w B P cp paths) (hi : Ints w B A c path) (hm : m = paths.length) (he : addErr caps paths path = 0) (hK : FillEnds caps (paths ++ [path]) K R) :
    Calls Tryd.prog 71 #[.agg #[.slice C caps.length cc, .slice P m cp], .slice A path.length c] w fun e w' => ∃ A' c', e = .returned (.tuple #[.slice A' R.length c', .nilIface]) ∧ Frs w' w'.heap.size A' c' (R.map frQ) ∧ Below w.heap.size w w' := by
  subst hm
  have HB0 : Hid (Below w.heap.size w (w.alloc (.cells #[.slice C caps.length cc, .slice P paths.length cp] 43))) := Lib.hid ((Below.refl _ _).alloc (Nat.le_refl _) _)
  have HA := Lib.hid (add_yes' C cc caps P cp paths A c path B (w.alloc (.cells #[.slice C caps.length cc, .slice P paths.length cp] 43)) (by simp; omega) (hc.below HB0.out hB) (hp.below HB0.out hB) (hi.below HB0.out hB) he)
  have HE := Lib.hid (addErr_ok he).2.2.2
  have HK := Lib.hid hK
  clear hc hp hi he hK
  go_enter Tryd.func71, Tryd.ntmps71
  go_wp2_with fail
  refine HA.out.mono ?_; rintro e w1 ⟨C1, cc1, P1, cp1, rfl, hc1, hp1, hb1⟩
  have HB1 := Lib.hid (HB0.out.trans (hb1.mono HB0.out.size))
  have hz1 := HB1.out.size
  have HB2 := Lib.hid (HB1.out.alloc hz1 (.cells #[.slice C1 caps.length cc1, .slice P1 (paths.length + 1) cp1] 43))
  have HC1 := Lib.hid hc1; have HP1 := Lib.hid hp1
  have HN := Lib.hid (Blk.new w1 43 #[.slice C1 caps.length cc1, .slice P1 (paths.length + 1) cp1])
  have HBA := Lib.hid ((Below.refl w1.heap.size w1).alloc (Nat.le_refl _) (.cells #[.slice C1 caps.length cc1, .slice P1 (paths.length + 1) cp1] 43))
  obtain ⟨n0, n1, _, _, nz⟩ := HN.out.two
  clear hb1 hc1 hp1 HB0
  go_wp2_with fail
  refine (frates_yes C1 cc1 caps P1 cp1 _ (paths ++ [path]) w1.heap.size _ K R (by simp) (HC1.out.below HBA.out (Nat.le_refl _)) (HP1.out.below HBA.out (Nat.le_refl _)) (by simp) HE.out HK.out).mono ?_; rintro e w2 ⟨A', c', rfl, hf, hb2⟩
  have HB3 := Lib.hid (HB2.out.trans (hb2.mono HB2.out.size))
  have HF := Lib.hid hf
  clear hb2 hf n0 n1 nz
  go_wp2
  go_ret2
  exact ⟨A', c', rfl, HF.out, HB3.out⟩
set_option maxHeartbeats 1000000 in
theorem fewer_er (C : Option Addr) (cc : Nat) (caps : List Int) (P : Option Addr) (cp m : Nat) (paths : List (List Int)) (flow : Int) (B : Nat) (w : World) (er : Int) (hB : B ≤ w.heap.size)
    (hc : Ints w B C cc caps) (hp : Rows2 w B P cp paths) (hm : m = paths.length) (he : dropErr caps paths flow = er) (h0 : er ≠ 0) :
    Calls Tryd.prog 72 #[.agg #[.slice C caps.length cc, .slice P m cp], .int .i64 flow] w fun e w' => e = .returned (.tuple #[.slice none 0 0, .iface 119 (.int .i64 er)]) ∧ Below w.heap.size w w' := by
  subst hm
  have HB0 : Hid (Below w.heap.size w (w.alloc (.cells #[.slice C caps.length cc, .slice P paths.length cp] 43))) := Lib.hid ((Below.refl _ _).alloc (Nat.le_refl _) _)
  have HA := Lib.hid (drop_no C cc caps P cp paths flow B (w.alloc (.cells #[.slice C caps.length cc, .slice P paths.length cp] 43)) er (by simp; omega) (hc.below HB0.out hB) (hp.below HB0.out hB) he h0)
  clear hc hp he h0
  go_enter Tryd.func72, Tryd.ntmps72
  go_wp2_with fail
  refine HA.out.mono ?_; rintro e w1 ⟨rfl, hb1⟩
  have HB1 := Lib.hid (HB0.out.trans (hb1.mono HB0.out.size))
  have hz1 := HB1.out.size
  have HB2 := Lib.hid (HB1.out.alloc hz1 (.cells #[.slice none 0 0, .slice none 0 0] 43))
  clear hb1
  go_wp2
  go_ret2
  exact ⟨rfl, HB2.out⟩
theorem erase_ok {caps : List Int} {paths : List (List Int)} {f : Nat} (h : netErr caps paths = 0) (hf : f < paths.length) (h2 : paths.length ≠ 1) : netErr caps (paths.eraseIdx f) = 0 := by
  obtain ⟨h1, h3, h4, h5, h6, h7⟩ := netErr_ok h
  have hl : (paths.eraseIdx f).length = paths.length - 1 := List.length_eraseIdx_of_lt hf
  have hlinks : linksErr caps = 0 := by
    unfold netErr at h
    rw [if_neg (by omega), if_neg (by omega)] at h
    split at h
    · rename_i h8; exact h8
    · rename_i h8; exact absurd h h8
  unfold netErr
  rw [if_neg (by omega), if_neg (by omega), if_pos hlinks]
  refine firstFrom_all fun j _ hj => ?_
  have hj : j < (paths.eraseIdx f).length := by omega
  rw [List.getD_eq_getElem?_getD, List.getElem?_eq_getElem hj]
  exact h7 _ (List.mem_of_mem_eraseIdx (List.getElem_mem hj))
set_option maxHeartbeats 1000000 in
theorem fewer_yes (C : Option Addr) (cc : Nat) (caps : List Int) (P : Option Addr) (cp m : Nat) (paths L' : List (List Int)) (f : Nat) (B : Nat) (w : World) (K : Nat) (R : List Rat) (hB : B ≤ w.heap.size)
    (hc : Ints w B C cc caps) (hp : Rows2 w B P cp paths) (hm : m = paths.length) (hn : netErr caps paths = 0) (hf : f < paths.length) (h2 : paths.length ≠ 1) (hL : paths.eraseIdx f = L') (hK : FillEnds caps L' K R) :
    Calls Tryd.prog 72 #[.agg #[.slice C caps.length cc, .slice P m cp], .int .i64 f] w fun e w' => ∃ A' c', e = .returned (.tuple #[.slice A' R.length c', .nilIface]) ∧ Frs w' w'.heap.size A' c' (R.map frQ) ∧ Below w.heap.size w w' := by
  subst hm
  have HB0 : Hid (Below w.heap.size w (w.alloc (.cells #[.slice C caps.length cc, .slice P paths.length cp] 43))) := Lib.hid ((Below.refl _ _).alloc (Nat.le_refl _) _)
  have HA := Lib.hid (drop_yes' C cc caps P cp paths L' f _ B (w.alloc (.cells #[.slice C caps.length cc, .slice P paths.length cp] 43)) (by simp; omega) (hc.below HB0.out hB) (hp.below HB0.out hB) hn hf h2 rfl hL)
  have HE := Lib.hid (show netErr caps L' = 0 by rw [← hL]; exact erase_ok hn hf h2)
  have HK := Lib.hid hK
  clear hc hp hn hK h2 hL
  go_enter Tryd.func72, Tryd.ntmps72
  go_wp2_with fail
  refine HA.out.mono ?_; rintro e w1 ⟨C1, cc1, P1, cp1, rfl, hc1, hp1, hb1⟩
  have HB1 := Lib.hid (HB0.out.trans (hb1.mono HB0.out.size))
  have hz1 := HB1.out.size
  have HB2 := Lib.hid (HB1.out.alloc hz1 (.cells #[.slice C1 caps.length cc1, .slice P1 L'.length cp1] 43))
  have HC1 := Lib.hid hc1; have HP1 := Lib.hid hp1
  have HN := Lib.hid (Blk.new w1 43 #[.slice C1 caps.length cc1, .slice P1 L'.length cp1])
  have HBA := Lib.hid ((Below.refl w1.heap.size w1).alloc (Nat.le_refl _) (.cells #[.slice C1 caps.length cc1, .slice P1 L'.length cp1] 43))
  obtain ⟨n0, n1, _, _, nz⟩ := HN.out.two
  clear hb1 hc1 hp1 HB0
  go_wp2_with fail
  refine (frates_yes C1 cc1 caps P1 cp1 _ L' w1.heap.size _ K R (by simp) (HC1.out.below HBA.out (Nat.le_refl _)) (HP1.out.below HBA.out (Nat.le_refl _)) rfl HE.out HK.out).mono ?_; rintro e w2 ⟨A', c', rfl, hf, hb2⟩
  have HB3 := Lib.hid (HB2.out.trans (hb2.mono HB2.out.size))
  have HF := Lib.hid hf
  clear hb2 hf n0 n1 nz
  go_wp2
  go_ret2
  exact ⟨A', c', rfl, HF.out, HB3.out⟩
/-- a capacity of a net of one's own is turned -/
theorem NetOwn.capSet {w : World} {base g n c : Nat} {pv : Value} {vs : List Value} {caps : List Int} {L : List (List Int)} (h : NetOwn w base (.slice (some ⟨g, 0, none⟩) n c) pv vs caps L) (hn : n = caps.length) (k : Nat) (x : Int) : NetOwn (w.setCell ⟨g, k, none⟩ (.int .i64 x)) base (.slice (some ⟨g, 0, none⟩) n c) pv vs (caps.set k x) L := by
  subst hn
  obtain ⟨cs, hcs⟩ := own_kindB h.capO (g := g) rfl
  refine ⟨?_, own_farB h.own (own_blk_ne h.own hcs (by decide)) _, fun i u l a b => own_farB (h.row i u l a b) ?_ _, h.apC, h.apR⟩
  · have := (h.capO.stored k (.int .i64 x)).1
    rw [← List.map_set] at this
    rw [List.length_set]; exact this
  · rcases h.apC i u a with e | e
    · rw [e]; simp
    · exact e
/-- the fault of a wider link -/
def widerErr (caps : List Int) (paths : List (List Int)) (link by_ : Int) : Int :=
  if netErr caps paths = 0 then (if link < 0 ∨ (caps.length : Int) ≤ link ∨ by_ < 0 ∨ 1000 < by_ then 1 else if 1000 < caps.getD link.toNat 0 + by_ then 4 else 0) else netErr caps paths
end Go.Proofs.YtblanfaghnflkaaDoor
