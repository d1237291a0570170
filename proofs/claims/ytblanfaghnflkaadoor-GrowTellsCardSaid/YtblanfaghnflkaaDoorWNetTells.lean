/- The walk of NetTells: it returns true for every input. -/
import Derived.Test.YtblanfaghnflkaaDoorRefWith
import Derived.Test.YtblanfaghnflkaaDoorLibL
import Derived.Test.YtblanfaghnflkaaDoorTold
namespace Go.Proofs.YtblanfaghnflkaaDoor
open Go.RowKit
attribute [local go_sem ↓] run_min_mn run_max_mx
def ntUsers (caps : List Int) (paths : List (List Int)) (link : Int) : List Int := if usersErr caps paths link = 0 then (users paths link).map (fun (i : Nat) => (i : Int)) else []
def ntCaps (caps : List Int) (e : Int) : List Int := if e = 0 then caps else []
def ntRows (rows : List (List Int)) (e : Int) : List (List Int) := if e = 0 then rows else []
theorem NetFree.nil (w : World) : NetFree w (.agg #[.slice none 0 0, .slice none 0 0]) [] [] := ⟨w.heap.size, _, _, [], rfl, World.ownsRow_nil _ _ _ _, World.ownsRow_nil _ _ _ _, fun i u l h => by simp at h, fun i u h => by simp at h, fun i j u u' h => by simp at h⟩
theorem NetFree.form {w : World} {v : Value} {caps : List Int} {L : List (List Int)} (h : NetFree w v caps L) : ∃ C1 cc1 P1 cp1, v = .agg #[.slice C1 caps.length cc1, .slice P1 L.length cp1] := by
  obtain ⟨C, cc, P, cp, e, _, _⟩ := h.at_.ex
  exact ⟨C, cc, P, cp, e⟩
theorem NetFree.parts {w : World} {C P : Option Addr} {cc cp n m : Nat} {caps : List Int} {L : List (List Int)} (h : NetFree w (.agg #[.slice C n cc, .slice P m cp]) caps L) : Ints w w.heap.size C cc caps ∧ Rows2 w w.heap.size P cp L := by
  obtain ⟨C', cc', P', cp', e, h1, h2⟩ := h.at_.ex
  injection e with e
  simp only [Array.mk.injEq, List.cons.injEq, Value.slice.injEq, and_true] at e
  obtain ⟨⟨rfl, _, rfl⟩, rfl, _, rfl⟩ := e
  exact ⟨h1, h2⟩
theorem NetFree.below {w w' : World} {v : Value} {caps : List Int} {L : List (List Int)} (h : NetFree w v caps L) (hb : Below w.heap.size w w') : NetFree w' v caps L := by
  obtain ⟨base, cv, pv, vs, rfl, h⟩ := h
  exact ⟨base, cv, pv, vs, rfl, h.below hb⟩
theorem NetFree.set {w : World} {v : Value} {caps : List Int} {L : List (List Int)} {g : Nat} {x y : Value} (h : NetFree w v caps L) (hg : Blk w g 43 #[x, y]) (u1 u2 : Value) : NetFree ((w.setCell ⟨g, 0, none⟩ u1).setCell ⟨g, 1, none⟩ u2) v caps L := by
  obtain ⟨base, cv, pv, vs, rfl, h⟩ := h
  exact ⟨base, cv, pv, vs, rfl, (h.far hg (by decide) (by decide) 0 u1).far (hg.s2_0 u1) (by decide) (by decide) 1 u2⟩
/-- the reference's net: capacities that lie from before; rows of its own, whose links lie from before -/
structure RefAt (w : World) (B : Nat) (C : Option Addr) (cc : Nat) (P : Option Addr) (cp : Nat) (caps : List Int) (L : List (List Int)) : Prop where
  ic : Ints w B C cc caps
  ip : ∃ vs, w.ownsRow B 40 1 (.slice P L.length cp) L.length vs ∧ RowsAt w B vs L
theorem RefAt.nil (w : World) (B : Nat) : RefAt w B none 0 none 0 [] [] := ⟨Ints.nil' _ _, [], World.ownsRow_nil _ _ _ _, RowsAt.nil _ _⟩
theorem RefAt.below {w w' : World} {B : Nat} {C P : Option Addr} {cc cp : Nat} {caps : List Int} {L : List (List Int)} (h : RefAt w B C cc P cp caps L) (hb : Below w.heap.size w w') (hB : B ≤ w.heap.size) : RefAt w' B C cc P cp caps L := by
  obtain ⟨vs, h1, h2⟩ := h.ip
  exact ⟨h.ic.below hb hB, vs, own_below h1 hb, h2.below hb hB⟩
theorem RefAt.set {w : World} {B : Nat} {C P : Option Addr} {cc cp : Nat} {caps : List Int} {L : List (List Int)} {g : Nat} {x y : Value} (h : RefAt w B C cc P cp caps L) (hg : Blk w g 43 #[x, y]) (hB : B ≤ g) (u1 u2 : Value) : RefAt ((w.setCell ⟨g, 0, none⟩ u1).setCell ⟨g, 1, none⟩ u2) B C cc P cp caps L := by
  obtain ⟨vs, h1, h2⟩ := h.ip
  have hb : Below B w ((w.setCell ⟨g, 0, none⟩ u1).setCell ⟨g, 1, none⟩ u2) := ((Below.refl B w).setCell (p := ⟨g, 0, none⟩) hB u1).setCell (p := ⟨g, 1, none⟩) hB u2
  have hne := own_blk_ne h1 hg (by decide)
  exact ⟨h.ic.below hb (Nat.le_refl _), vs, own_farB (own_farB h1 hne u1) hne u2, h2.below hb (Nat.le_refl _)⟩
theorem RefAt.parts {w : World} {B : Nat} {C P : Option Addr} {cc cp : Nat} {caps : List Int} {L : List (List Int)} (h : RefAt w B C cc P cp caps L) (hB : B ≤ w.heap.size) : Ints w w.heap.size C cc caps ∧ Rows2 w w.heap.size P cp L := by
  obtain ⟨vs, h1, h2⟩ := h.ip
  obtain ⟨P', cp', e, h3⟩ := rows_own h1 h2 hB
  injection e with e1 e2 e3
  subst e1 e3
  exact ⟨h.ic.more hB, h3⟩
theorem users_tot (C : Option Addr) (cc : Nat) (caps : List Int) (P : Option Addr) (cp : Nat) (paths : List (List Int)) (link : Int) (B : Nat) (w : World) (hB : B ≤ w.heap.size) (hc : Ints w B C cc caps) (hp : Rows2 w B P cp paths) (e : Int) (us : List Int) (he : usersErr caps paths link = e) (hus : ntUsers caps paths link = us) :
    Calls Tryd.prog 28 #[.agg #[.slice C caps.length cc, .slice P paths.length cp], .int .i64 link] w fun r w' => ∃ A c, r = .returned (.tuple #[.slice A us.length c, errVal e]) ∧ Ints w' w'.heap.size A c us ∧ Below w.heap.size w w' := by
  unfold ntUsers at hus
  rw [he] at hus
  by_cases h0 : e = 0
  · rw [if_pos h0] at hus
    subst h0
    refine (users_yes' C cc caps P cp _ paths link _ us.length B w hB hc hp rfl he rfl (by rw [← hus, List.length_map])).mono ?_
    rintro r w' ⟨A, c, rfl, hi, hb⟩
    rw [hus] at hi
    exact ⟨A, c, rfl, hi, hb⟩
  · rw [if_neg h0] at hus
    subst hus
    refine (users_no' C cc caps P cp _ paths link B w e hB hc hp rfl he h0).mono ?_
    rintro r w' ⟨rfl, hb⟩
    exact ⟨none, 0, by rw [errVal_pos h0]; rfl, Ints.nil' _ _, hb⟩
theorem add_tot (C : Option Addr) (cc : Nat) (caps : List Int) (P : Option Addr) (cp : Nat) (paths : List (List Int)) (A : Option Addr) (c : Nat) (path : List Int) (B : Nat) (w : World) (hB : B ≤ w.heap.size) (hc : Ints w B C cc caps) (hp : Rows2 w B P cp paths) (hi : Ints w B A c path) (e : Int) (cs : List Int) (rs : List (List Int)) (he : addErr caps paths path = e) (hcs : ntCaps caps e = cs) (hrs : ntRows (paths ++ [path]) e = rs) :
    Calls Tryd.prog 32 #[.agg #[.slice C caps.length cc, .slice P paths.length cp], .slice A path.length c] w fun r w' => ∃ C1 cc1 P1 cp1, r = .returned (.tuple #[.agg #[.slice C1 cs.length cc1, .slice P1 rs.length cp1], errVal e]) ∧ NetFree w' (.agg #[.slice C1 cs.length cc1, .slice P1 rs.length cp1]) cs rs ∧ Below w.heap.size w w' := by
  unfold ntCaps at hcs; unfold ntRows at hrs
  by_cases h0 : e = 0
  · rw [if_pos h0] at hcs hrs
    subst h0 hcs hrs
    refine (add_own C cc caps P cp paths A c path B w hB hc hp hi he).mono ?_
    rintro r w' ⟨nv, rfl, hf, hb⟩
    obtain ⟨C1, cc1, P1, cp1, rfl⟩ := hf.form
    exact ⟨C1, cc1, P1, cp1, rfl, hf, hb⟩
  · rw [if_neg h0] at hcs hrs
    subst hcs hrs
    refine (add_no C cc caps P cp paths A c path B w e hB hc hp hi he h0).mono ?_
    rintro r w' ⟨rfl, hb⟩
    exact ⟨none, 0, none, 0, by rw [errVal_pos h0]; rfl, NetFree.nil _, hb⟩
theorem drop_tot (C : Option Addr) (cc : Nat) (caps : List Int) (P : Option Addr) (cp : Nat) (paths : List (List Int)) (flow : Int) (B : Nat) (w : World) (hB : B ≤ w.heap.size) (hc : Ints w B C cc caps) (hp : Rows2 w B P cp paths) (e : Int) (cs : List Int) (rs : List (List Int)) (he : dropErr caps paths flow = e) (hcs : ntCaps caps e = cs) (hrs : ntRows (paths.eraseIdx flow.toNat) e = rs) :
    Calls Tryd.prog 35 #[.agg #[.slice C caps.length cc, .slice P paths.length cp], .int .i64 flow] w fun r w' => ∃ C1 cc1 P1 cp1, r = .returned (.tuple #[.agg #[.slice C1 cs.length cc1, .slice P1 rs.length cp1], errVal e]) ∧ NetFree w' (.agg #[.slice C1 cs.length cc1, .slice P1 rs.length cp1]) cs rs ∧ Below w.heap.size w w' := by
  unfold ntCaps at hcs; unfold ntRows at hrs
  by_cases h0 : e = 0
  · rw [if_pos h0] at hcs hrs
    subst h0 hcs hrs
    have hn : netErr caps paths = 0 := by
      unfold dropErr at he
      split at he
      · assumption
      · exact he
    have hd := he
    unfold dropErr at hd
    rw [if_pos hn] at hd
    split at hd
    · omega
    · split at hd
      · omega
      · rename_i h1 h2
        obtain ⟨f, rfl⟩ := Int.eq_ofNat_of_zero_le (show 0 ≤ flow by omega)
        refine (drop_own C cc caps P cp paths f B w hB hc hp hn (by omega) h2).mono ?_
        rintro r w' ⟨nv, rfl, hf, hb⟩
        obtain ⟨C1, cc1, P1, cp1, rfl⟩ := hf.form
        exact ⟨C1, cc1, P1, cp1, rfl, hf, hb⟩
  · rw [if_neg h0] at hcs hrs
    subst hcs hrs
    refine (drop_no C cc caps P cp paths flow B w e hB hc hp he h0).mono ?_
    rintro r w' ⟨rfl, hb⟩
    exact ⟨none, 0, none, 0, by rw [errVal_pos h0]; rfl, NetFree.nil _, hb⟩
set_option maxHeartbeats 16000000 in
set_option maxRecDepth 100000 in
theorem netTells_in (C : Option Addr) (cc : Nat) (caps : List Int) (P : Option Addr) (cp : Nat) (paths : List (List Int)) (link : Int) (A : Option Addr) (c : Nat) (path : List Int) (flow : Int) (w : World) (hg : Laid w) (hc : Ints w w.heap.size C cc caps) (hp : Rows2 w w.heap.size P cp paths) (hi : Ints w w.heap.size A c path)
    (e1 e2 e3 e4 : Int) (us cs3 cs4 : List Int) (rs3 rs4 : List (List Int)) (he1 : netErr caps paths = e1) (he2 : usersErr caps paths link = e2) (he3 : addErr caps paths path = e3) (he4 : dropErr caps paths flow = e4) (hus : ntUsers caps paths link = us) (hc3 : ntCaps caps e3 = cs3) (hr3 : ntRows (paths ++ [path]) e3 = rs3) (hc4 : ntCaps caps e4 = cs4) (hr4 : ntRows (paths.eraseIdx flow.toNat) e4 = rs4) :
    Calls Tryd.prog 4 #[.agg #[.slice C caps.length cc, .slice P paths.length cp], .int .i64 link, .slice A path.length c, .int .i64 flow] w fun e w' => e = .returned (.bool true) ∧ Below w.heap.size w w' := by
  have LAID := Lib.hid hg; have HC := Lib.hid hc; have HP := Lib.hid hp; have HI := Lib.hid hi
  have hpm := hp.cap; have hpl := hp.le; have hcm := hc.cap; have hcl := hc.le; have him := hi.cap; have hil := hi.le
  unfold maxLen at hpm hcm him
  have HE1 := Lib.hid he1; have HE2 := Lib.hid he2; have HE3 := Lib.hid he3; have HE4 := Lib.hid he4
  have HUS := Lib.hid hus; have HC3 := Lib.hid hc3; have HR3 := Lib.hid hr3; have HC4 := Lib.hid hc4; have HR4 := Lib.hid hr4
  have hgw : w.heap.size ≤ w.heap.size := Nat.le_refl _
  clear hg hc hp hi he1 he2 he3 he4 hus hc3 hr3 hc4 hr4
  have HN := Lib.hid (Blk.new w 43 #[.slice C caps.length cc, .slice P paths.length cp])
  have HB : Hid (Below w.heap.size w (w.alloc (.cells #[.slice C caps.length cc, .slice P paths.length cp] 43))) := Lib.hid ((Below.refl _ _).alloc (Nat.le_refl _) _)
  obtain ⟨n0, n1, nf0, nf1, nz⟩ := HN.out.two
  have RN := Lib.hid fun (W : World) (hW : w.heap.size ≤ W.heap.size) (h1 : Ints W w.heap.size C cc caps) (h2 : Rows2 W w.heap.size P cp paths) => (show Calls Tryd.prog 25 #[.agg #[.slice C caps.length cc, .slice P paths.length cp]] W fun r w' => r = .returned (.int .i64 e1) ∧ Below W.heap.size W w' from by have := refNet_all C cc caps P cp paths w.heap.size W hW h1 h2; rwa [HE1.out] at this)
  have PN := Lib.hid fun (W : World) (hW : w.heap.size ≤ W.heap.size) (h1 : Ints W w.heap.size C cc caps) (h2 : Rows2 W w.heap.size P cp paths) => (show Calls Tryd.prog 26 #[.agg #[.slice C caps.length cc, .slice P paths.length cp]] W fun r w' => r = .returned (errVal e1) ∧ Below W.heap.size W w' from by have := ncheck_all C cc caps P cp paths w.heap.size W hW h1 h2; rwa [HE1.out] at this)
  go_enter Tryd.func4, Tryd.ntmps4
  go_wp2_with fail
  refine (RN.out _ (by first | omega | (focus (simp; done)) | (simp; omega)) (HC.out.below HB.out (Nat.le_refl _)) (HP.out.below HB.out (Nat.le_refl _))).mono ?_; rintro r w1 ⟨rfl, hb⟩
  have HBx := Lib.hid (HB.out.trans (hb.mono HB.out.size)); have HNx := Lib.hid (HN.out.go hb)
  clear HB HN hb n0 n1 nf0 nf1 nz
  have HB := HBx; have HN := HNx
  clear HBx HNx
  have hz_w1 := HB.out.size
  obtain ⟨n0, n1, nf0, nf1, nz⟩ := HN.out.two
  go_wp2_with fail
  refine (PN.out _ (by first | omega | (focus (simp; done)) | (simp; omega)) (HC.out.below HB.out (Nat.le_refl _)) (HP.out.below HB.out (Nat.le_refl _))).mono ?_; rintro r w2 ⟨rfl, hb⟩
  have HBx := Lib.hid (HB.out.trans (hb.mono HB.out.size)); have HNx := Lib.hid (HN.out.go hb)
  clear HB HN hb n0 n1 nf0 nf1 nz
  have HB := HBx; have HN := HNx
  clear HBx HNx
  have hz_w2 := HB.out.size
  obtain ⟨n0, n1, nf0, nf1, nz⟩ := HN.out.two
  go_wp2_with fail
  refine (same_yes e1 _ (LAID.out.below HB.out)).mono ?_; rintro r w3 ⟨rfl, hb⟩
  have HBx := Lib.hid (HB.out.trans (hb.mono HB.out.size)); have HNx := Lib.hid (HN.out.go hb)
  clear HB HN hb n0 n1 nf0 nf1 nz
  have HB := HBx; have HN := HNx
  clear HBx HNx
  have hz_w3 := HB.out.size
  obtain ⟨n0, n1, nf0, nf1, nz⟩ := HN.out.two
  clear RN PN
  obtain ⟨b2, hb2⟩ : ∃ b : Bool, decide (e1 = 0 ∧ (link < 0 ∨ (caps.length : Int) ≤ link)) = b := ⟨_, rfl⟩
  have HB2 := Lib.hid hb2
  clear hb2
  go_upto_region 5 with fail
  go_cut [39] (fun s39 wx => s39 = .bool b2 ∧ wx = w3)
  case first =>
    by_cases h1 : e1 = 0
    · subst h1
      by_cases hl : link < 0
      · have e : b2 = true := by rw [← HB2.out]; exact decide_eq_true ⟨rfl, .inl hl⟩
        go_wp2
        go_meet
        exact ⟨by rw [e], rfl⟩
      · have hl' : decide (link < 0) = false := decide_eq_false hl
        by_cases hm : (caps.length : Int) ≤ link
        · have e : b2 = true := by rw [← HB2.out]; exact decide_eq_true ⟨rfl, .inr hm⟩
          go_wp2
          go_meet
          exact ⟨by rw [e], rfl⟩
        · have e : b2 = false := by rw [← HB2.out]; exact decide_eq_false (fun h => by have := h.2; omega)
          have hm' : decide ((caps.length : Int) ≤ link) = false := decide_eq_false hm
          go_wp2
          go_meet
          exact ⟨by rw [e], rfl⟩
    · have h1' : (e1 == 0) = false := beq_eq_false_iff_ne.2 h1
      have e : b2 = false := by rw [← HB2.out]; exact decide_eq_false (fun h => h1 h.1)
      go_wp2
      go_meet
      exact ⟨by rw [e], rfl⟩
  case rest =>
    obtain ⟨rfl, hw⟩ := hcut; obtain rfl := hw.symm; clear hw
    go_upto_if 39 with fail
    go_cut [11, 12] (fun s11 s12 wx => ∃ A' c', s11 = .int .i64 e2 ∧ s12 = .slice A' us.length c' ∧ Hid (Ints wx wx.heap.size A' c' us) ∧ Hid (Below w.heap.size w wx) ∧ Hid (Blk wx w.heap.size 43 #[.slice C caps.length cc, .slice P paths.length cp]))
    case first =>
      have hq2 := HE2.out; unfold usersErr at hq2; rw [HE1.out] at hq2
      have hqu := HUS.out; unfold ntUsers at hqu; rw [HE2.out] at hqu
      by_cases h1 : e1 = 0
      · subst h1
        rw [if_pos rfl] at hq2
        by_cases hl : link < 0
        · obtain rfl : b2 = true := by rw [← HB2.out]; exact decide_eq_true ⟨rfl, .inl hl⟩
          rw [if_pos (.inl hl)] at hq2
          subst hq2
          rw [if_neg (by decide)] at hqu
          subst hqu
          clear n0 n1 nf0 nf1 nz
          obtain ⟨n0, n1, nf0, nf1, nz⟩ := HN.out.two
          go_wp2
          go_meet
          exact ⟨none, 0, rfl, rfl, Lib.hid (Ints.nil' _ _), HB, HN⟩
        · have hl' : decide (link < 0) = false := decide_eq_false hl
          by_cases hm : (caps.length : Int) ≤ link
          · obtain rfl : b2 = true := by rw [← HB2.out]; exact decide_eq_true ⟨rfl, .inr hm⟩
            rw [if_pos (.inr hm)] at hq2
            subst hq2
            rw [if_neg (by decide)] at hqu
            subst hqu
            go_wp2
            go_meet
            exact ⟨none, 0, rfl, rfl, Lib.hid (Ints.nil' _ _), HB, HN⟩
          · obtain rfl : b2 = false := by rw [← HB2.out]; exact decide_eq_false (fun h => by have := h.2; omega)
            rw [if_neg (by omega)] at hq2
            subst hq2
            rw [if_pos rfl] at hqu
            obtain ⟨ul, hul⟩ : ∃ ul, users paths link = ul := ⟨_, rfl⟩
            rw [hul] at hqu
            subst hqu
            have HUL := Lib.hid hul
            have hp6 := (netErr_ok HE1.out).2.2.2.1
            clear hul hl hm
            go_wp2_with fail
            refine (refUsers_any link (.slice C caps.length cc) P cp _ paths ul w.heap.size _ (by first | omega | (focus (simp; done)) | (simp; omega)) (HP.out.below HB.out (Nat.le_refl _)) (by omega) HUL.out rfl).mono ?_; rintro r w4 ⟨A4, c4, rfl, hi4, _, _, hb4⟩
            have HI4 := Lib.hid (own_ints' hi4)
            have HB4 := Lib.hid (HB.out.trans (hb4.mono HB.out.size)); have HN4 := Lib.hid (HN.out.go hb4)
            clear hi4 hb4
            go_wp2
            go_meet
            exact ⟨A4, c4, rfl, by simp, HI4, HB4, HN4⟩
      · obtain rfl : b2 = false := by rw [← HB2.out]; exact decide_eq_false (fun h => h1 h.1)
        rw [if_neg h1] at hq2
        subst hq2
        rw [if_neg h1] at hqu
        subst hqu
        have h1' : (e1 == 0) = false := beq_eq_false_iff_ne.2 h1
        go_wp2
        go_meet
        exact ⟨none, 0, rfl, rfl, Lib.hid (Ints.nil' _ _), HB, HN⟩
    case rest =>
      obtain ⟨A', c', rfl, rfl, HU, HB', HN'⟩ := hcut
      clear HB HN n0 n1 nf0 nf1 nz
      obtain ⟨w4, hw4⟩ : ∃ x, x = wc := ⟨_, rfl⟩
      rw [← hw4] at HU HB' HN' ⊢
      clear hw4
      have HB := HB'; have HN := HN'
      clear HB' HN'
      have hz_w4 := HB.out.size
      obtain ⟨n0, n1, nf0, nf1, nz⟩ := HN.out.two
      go_wp2_with fail
      refine (users_tot C cc caps P cp paths link w.heap.size _ (by first | omega | (focus (simp; done)) | (simp; omega)) (HC.out.below HB.out (Nat.le_refl _)) (HP.out.below HB.out (Nat.le_refl _)) e2 us HE2.out HUS.out).mono ?_; rintro r w5 ⟨A5, c5, rfl, hi5, hb⟩
      have HBx := Lib.hid (HB.out.trans (hb.mono HB.out.size)); have HNx := Lib.hid (HN.out.go hb)
      have HI5 := Lib.hid hi5; have HU5 := Lib.hid (HU.out.at' hb)
      clear hi5 HU
      clear HB HN hb n0 n1 nf0 nf1 nz
      have HB := HBx; have HN := HNx
      clear HBx HNx
      have hz_w5 := HB.out.size
      obtain ⟨n0, n1, nf0, nf1, nz⟩ := HN.out.two
      go_wp2_with fail
      refine (same_yes e2 _ (LAID.out.below HB.out)).mono ?_; rintro r w6 ⟨rfl, hb⟩
      have HBx := Lib.hid (HB.out.trans (hb.mono HB.out.size)); have HNx := Lib.hid (HN.out.go hb)
      have HI6 := Lib.hid (HI5.out.at' hb); have HU6 := Lib.hid (HU5.out.at' hb)
      clear HI5 HU5
      clear HB HN hb n0 n1 nf0 nf1 nz
      have HB := HBx; have HN := HNx
      clear HBx HNx
      have hz_w6 := HB.out.size
      obtain ⟨n0, n1, nf0, nf1, nz⟩ := HN.out.two
      go_wp2_with fail
      refine (sameInts_n A5 A' c5 c' _ _ us _ _ _ HI6.out HU6.out rfl rfl).mono ?_; rintro r w7 ⟨rfl, hb⟩
      have HBx := Lib.hid (HB.out.trans (hb.mono HB.out.size)); have HNx := Lib.hid (HN.out.go hb)
      clear HI6 HU6
      clear HB HN hb n0 n1 nf0 nf1 nz
      have HB := HBx; have HN := HNx
      clear HBx HNx
      have hz_w7 := HB.out.size
      obtain ⟨n0, n1, nf0, nf1, nz⟩ := HN.out.two
      go_upto_region 13 with fail
      have HG6 := Lib.hid (Blk.new w7 43 #[.slice none 0 0, .slice none 0 0])
      have HB8 := Lib.hid (HB.out.alloc HB.out.size (.cells #[.slice none 0 0, .slice none 0 0] 43))
      have HN8 := Lib.hid (HN.out.alloc (.cells #[.slice none 0 0, .slice none 0 0] 43))
      obtain ⟨g6, hg6⟩ : ∃ x, x = w7.heap.size := ⟨_, rfl⟩
      obtain ⟨w8, hw8⟩ : ∃ x, x = w7.alloc (.cells #[.slice none 0 0, .slice none 0 0] 43) := ⟨_, rfl⟩
      have hg6z : w.heap.size ≤ g6 := by rw [hg6]; exact HB.out.size
      have hg6n : w.heap.size ≠ g6 := by rw [hg6]; have := HN.out.lt; omega
      rw [← hg6, ← hw8] at HG6
      rw [← hw8] at HB8 HN8
      rw [← hg6, ← hw8]
      clear hg6 hw8 HB HN n0 n1 nf0 nf1 nz
      have HB := HB8; have HN := HN8
      clear HB8 HN8
      have hz_w8 := HB.out.size
      obtain ⟨n0, n1, nf0, nf1, nz⟩ := HN.out.two
      obtain ⟨b3, hb3⟩ : ∃ b : Bool, decide (e1 = 0 ∧ paths.length = 6) = b := ⟨_, rfl⟩
      have HB3 := Lib.hid hb3
      clear hb3
      go_cut [67] (fun s67 wx => s67 = .bool b3 ∧ wx = w8)
      case first =>
        by_cases h1 : e1 = 0
        · subst h1
          by_cases h6 : paths.length = 6
          · have e : b3 = true := by rw [← HB3.out]; exact decide_eq_true ⟨rfl, h6⟩
            have h6' : ((paths.length : Int) == 6) = true := by simp; omega
            clear h6
            go_wp2
            go_meet
            exact ⟨by rw [e], rfl⟩
          · have e : b3 = false := by rw [← HB3.out]; exact decide_eq_false (fun h => h6 h.2)
            have h6' : ((paths.length : Int) == 6) = false := beq_eq_false_iff_ne.2 (by omega)
            clear h6
            go_wp2
            go_meet
            exact ⟨by rw [e], rfl⟩
        · have h1' : (e1 == 0) = false := beq_eq_false_iff_ne.2 h1
          have e : b3 = false := by rw [← HB3.out]; exact decide_eq_false (fun h => h1 h.1)
          go_wp2
          go_meet
          exact ⟨by rw [e], rfl⟩
      case rest =>
        obtain ⟨rfl, hw⟩ := hcut; obtain rfl := hw.symm; clear hw
        go_upto_if 67 with fail
        go_cut [11] (fun s11 wx => s11 = .int .i64 e3 ∧ Hid (Below w8.heap.size w8 wx))
        case first =>
          have hq3 := HE3.out; unfold addErr at hq3; rw [HE1.out] at hq3
          by_cases h1 : e1 = 0
          · subst h1
            rw [if_pos rfl] at hq3
            have hp6 := (netErr_ok HE1.out).2.2.2.1
            by_cases h6 : paths.length = 6
            · obtain rfl : b3 = true := by rw [← HB3.out]; exact decide_eq_true ⟨rfl, h6⟩
              rw [if_pos h6] at hq3
              subst hq3
              clear h6 hp6
              go_wp2
              go_meet
              exact ⟨rfl, Lib.hid (Below.refl _ _)⟩
            · obtain rfl : b3 = false := by rw [← HB3.out]; exact decide_eq_false (fun h => h6 h.2)
              rw [if_neg h6] at hq3
              have h6' : ((paths.length : Int) == 6) = false := beq_eq_false_iff_ne.2 (by omega)
              have HQ3 := Lib.hid hq3
              clear hq3 h6
              go_wp2_with fail
              refine (refPath_any (caps.length : Int) A c path w.heap.size _ (HI.out.below HB.out (Nat.le_refl _))).mono ?_; rintro r w9 ⟨rfl, d, rfl⟩
              rw [HQ3.out]
              go_wp2
              go_meet
              exact ⟨rfl, Lib.hid (below_drewN (Below.refl _ _) _)⟩
          · obtain rfl : b3 = false := by rw [← HB3.out]; exact decide_eq_false (fun h => h1 h.1)
            rw [if_neg h1] at hq3
            subst hq3
            have h1' : (e1 == 0) = false := beq_eq_false_iff_ne.2 h1
            go_wp2
            go_meet
            exact ⟨rfl, Lib.hid (Below.refl _ _)⟩
        case rest =>
          obtain ⟨rfl, HX⟩ := hcut
          obtain ⟨w9, hw9⟩ : ∃ x, x = wc := ⟨_, rfl⟩
          rw [← hw9] at HX ⊢
          clear hw9
          have HG9 := Lib.hid (HG6.out.go HX.out); have HB9 := Lib.hid (HB.out.trans (HX.out.mono HB.out.size)); have HN9 := Lib.hid (HN.out.go HX.out)
          clear HG6 HB HN HX n0 n1 nf0 nf1 nz
          have HB := HB9; have HN := HN9
          clear HB9 HN9
          have hz_w9 := HB.out.size
          obtain ⟨n0, n1, nf0, nf1, nz⟩ := HN.out.two
          obtain ⟨x0, x1, xf0, xf1, xz⟩ := HG9.out.two
          go_upto_if 76 with fail
          go_cut [11] (fun s11 wx => s11 = .int .i64 e3 ∧ ∃ C' cc' P' cp', Hid (Blk wx g6 43 #[.slice C' cs3.length cc', .slice P' rs3.length cp']) ∧ Hid (RefAt wx w.heap.size C' cc' P' cp' cs3 rs3) ∧ Hid (Below w.heap.size w wx) ∧ Hid (Blk wx w.heap.size 43 #[.slice C caps.length cc, .slice P paths.length cp]))
          case first =>
            have hqc := HC3.out; unfold ntCaps at hqc
            have hqr := HR3.out; unfold ntRows at hqr
            by_cases h3 : e3 = 0
            · subst h3
              rw [if_pos rfl] at hqc hqr
              subst hqc hqr
              obtain ⟨ha1, ha2, ha3, ha4⟩ := addErr_ok HE3.out
              obtain ⟨_, _, hp0, hp6, _, _⟩ := netErr_ok ha1
              clear ha1 ha2 ha3 ha4
              go_wp2_with fail
              refine (refWith_any C cc caps.length P cp _ paths A c _ path w.heap.size _ (by first | omega | (focus (simp; done)) | (simp; omega)) (HP.out.below HB.out (Nat.le_refl _)) (HI.out.below HB.out (Nat.le_refl _)) hp0 (by omega) rfl rfl).mono ?_; rintro r w10 ⟨P1, cp1, rfl, hr1, hb1⟩
              have HR1 := Lib.hid hr1
              have HB1 := Lib.hid (HB.out.trans (hb1.mono HB.out.size)); have HN1 := Lib.hid (HN.out.go hb1); have HG1 := Lib.hid (HG9.out.go hb1)
              clear hr1 hb1 x0 x1 xf0 xf1 xz
              obtain ⟨x0, x1, xf0, xf1, xz⟩ := HG1.out.two
              have hbx : Below g6 w10 ((w10.setCell ⟨g6, 0, none⟩ (.slice C caps.length cc)).setCell ⟨g6, 1, none⟩ (.slice P1 (paths ++ [path]).length cp1)) := ((Below.refl _ _).setCell (p := ⟨g6, 0, none⟩) (Nat.le_refl _) _).setCell (p := ⟨g6, 1, none⟩) (Nat.le_refl _) _
              have HBF := Lib.hid ((HB1.out.setCell (p := ⟨g6, 0, none⟩) hg6z (.slice C caps.length cc)).setCell (p := ⟨g6, 1, none⟩) hg6z (.slice P1 (paths.length + 1) cp1))
              have HRF := Lib.hid (RefAt.set (⟨HC.out.below HB1.out (Nat.le_refl _), HR1.out⟩ : RefAt w10 w.heap.size C cc P1 cp1 caps (paths ++ [path])) HG1.out hg6z (.slice C caps.length cc) (.slice P1 (paths.length + 1) cp1))
              clear hbx
              go_wp2
              go_meet
              exact ⟨rfl, C, cc, P1, cp1, Lib.hid (by have h := (HG1.out.s2_0 (.slice C caps.length cc)).s2_1 (.slice P1 (paths.length + 1) cp1); rw [List.length_append]; exact h), HRF, HBF, Lib.hid ((HN1.out.far (p := ⟨g6, 0, none⟩) hg6n _).far (p := ⟨g6, 1, none⟩) hg6n _)⟩
            · rw [if_neg h3] at hqc hqr
              subst hqc hqr
              have h3' : (e3 == 0) = false := beq_eq_false_iff_ne.2 h3
              go_wp2
              go_meet
              exact ⟨rfl, none, 0, none, 0, HG9, Lib.hid (RefAt.nil _ _), HB, HN⟩
          case rest =>
            clear HG9 HB HN n0 n1 nf0 nf1 nz x0 x1 xf0 xf1 xz
            obtain ⟨rfl, C', cc', P', cp', HG, HRF, HB', HN'⟩ := hcut
            obtain ⟨w10, hw10⟩ : ∃ x, x = wc := ⟨_, rfl⟩
            rw [← hw10] at HG HRF HB' HN' ⊢
            clear hw10
            have HB := HB'; have HN := HN'
            clear HB' HN'
            have hz_w10 := HB.out.size
            obtain ⟨n0, n1, nf0, nf1, nz⟩ := HN.out.two
            go_wp2_with fail
            refine (add_tot C cc caps P cp paths A c path w.heap.size _ (by first | omega | (focus (simp; done)) | (simp; omega)) (HC.out.below HB.out (Nat.le_refl _)) (HP.out.below HB.out (Nat.le_refl _)) (HI.out.below HB.out (Nat.le_refl _)) e3 cs3 rs3 HE3.out HC3.out HR3.out).mono ?_; rintro r w11 ⟨C1, cc1, P1, cp1, rfl, hf1, hb⟩
            have HX7 := Lib.hid (Blk.new w11 43 #[.slice C1 cs3.length cc1, .slice P1 rs3.length cp1])
            have hba : Below w10.heap.size w10 (w11.alloc (.cells #[.slice C1 cs3.length cc1, .slice P1 rs3.length cp1] 43)) := hb.alloc hb.size _
            have hba' := (Below.refl w11.heap.size w11).alloc (Nat.le_refl _) (.cells #[.slice C1 cs3.length cc1, .slice P1 rs3.length cp1] 43)
            have HF1 := Lib.hid (hf1.below hba')
            have HRF1 := Lib.hid (HRF.out.below hba HB.out.size); have HG1 := Lib.hid (HG.out.go hba)
            have HB1 := Lib.hid (HB.out.trans (hba.mono HB.out.size)); have HN1 := Lib.hid (HN.out.go hba)
            obtain ⟨g7, hg7⟩ : ∃ x, x = w11.heap.size := ⟨_, rfl⟩
            have hg7z : w.heap.size ≤ g7 := by rw [hg7]; exact Nat.le_trans HB.out.size hb.size
            have hg7n : w.heap.size ≠ g7 := by rw [hg7]; have := HN.out.lt; have := hb.size; omega
            have hg76 : g6 ≠ g7 := by rw [hg7]; have := HG.out.lt; have := hb.size; omega
            clear hba hba' hb hf1 HB HN HG HRF n0 n1 nf0 nf1 nz
            go_upto_region 20 with fail
            obtain ⟨w12, hw12⟩ : ∃ x, x = w11.alloc (.cells #[.slice C1 cs3.length cc1, .slice P1 rs3.length cp1] 43) := ⟨_, rfl⟩
            rw [← hg7, ← hw12] at HX7
            rw [← hw12] at HF1 HRF1 HG1 HB1 HN1
            rw [← hg7, ← hw12]
            clear hg7 hw12
            have HB := HB1; have HN := HN1
            clear HB1 HN1
            have hz_w12 := HB.out.size
            obtain ⟨n0, n1, nf0, nf1, nz⟩ := HN.out.two
            obtain ⟨x0, x1, xf0, xf1, xz⟩ := HX7.out.two
            obtain ⟨y0, y1, yf0, yf1, yz⟩ := HG1.out.two
            go_wp2_with fail
            refine (same_yes e3 _ (LAID.out.below HB.out)).mono ?_; rintro r w13 ⟨rfl, hb⟩
            have HX8 := Lib.hid (HX7.out.go hb); have HF2 := Lib.hid (HF1.out.below hb); have HRF2 := Lib.hid (HRF1.out.below hb HB.out.size); have HG2 := Lib.hid (HG1.out.go hb)
            have HB1 := Lib.hid (HB.out.trans (hb.mono HB.out.size)); have HN1 := Lib.hid (HN.out.go hb)
            clear hb HB HN HX7 HF1 HRF1 HG1 n0 n1 nf0 nf1 nz x0 x1 xf0 xf1 xz y0 y1 yf0 yf1 yz
            have HB := HB1; have HN := HN1
            clear HB1 HN1
            have hz_w13 := HB.out.size
            obtain ⟨n0, n1, nf0, nf1, nz⟩ := HN.out.two
            obtain ⟨x0, x1, xf0, xf1, xz⟩ := HX8.out.two
            obtain ⟨y0, y1, yf0, yf1, yz⟩ := HG2.out.two
            go_wp2_with fail
            refine (sameNet_n C1 C' P1 P' cc1 cc' cp1 cp' _ _ _ _ cs3 rs3 _ _ _ HF2.out.parts.1 (HRF2.out.parts HB.out.size).1 HF2.out.parts.2 (HRF2.out.parts HB.out.size).2 (Nat.le_refl _) (Nat.le_refl _) rfl rfl rfl rfl).mono ?_; rintro r w14 ⟨rfl, hb⟩
            have HX9 := Lib.hid (HX8.out.go hb); have HG3 := Lib.hid (HG2.out.go hb)
            have HB1 := Lib.hid (HB.out.trans (hb.mono HB.out.size)); have HN1 := Lib.hid (HN.out.go hb)
            clear hb HB HN HX8 HF2 HRF2 HG2 n0 n1 nf0 nf1 nz x0 x1 xf0 xf1 xz y0 y1 yf0 yf1 yz
            have HB := HB1; have HN := HN1
            clear HB1 HN1
            have hz_w14 := HB.out.size
            obtain ⟨n0, n1, nf0, nf1, nz⟩ := HN.out.two
            obtain ⟨x0, x1, xf0, xf1, xz⟩ := HX9.out.two
            obtain ⟨y0, y1, yf0, yf1, yz⟩ := HG3.out.two
            go_upto_region 22 with fail
            have HG4 := Lib.hid ((HG3.out.s2_0 (.slice none 0 0)).s2_1 (.slice none 0 0))
            have HX10 := Lib.hid ((HX9.out.far (p := ⟨g6, 0, none⟩) hg76.symm (.slice none 0 0)).far (p := ⟨g6, 1, none⟩) hg76.symm (.slice none 0 0))
            have HB1 := Lib.hid ((HB.out.setCell (p := ⟨g6, 0, none⟩) hg6z (.slice none 0 0)).setCell (p := ⟨g6, 1, none⟩) hg6z (.slice none 0 0))
            have HN1 := Lib.hid ((HN.out.far (p := ⟨g6, 0, none⟩) hg6n (.slice none 0 0)).far (p := ⟨g6, 1, none⟩) hg6n (.slice none 0 0))
            obtain ⟨w15, hw15⟩ : ∃ x, x = (w14.setCell ⟨g6, 0, none⟩ (.slice none 0 0)).setCell ⟨g6, 1, none⟩ (.slice none 0 0) := ⟨_, rfl⟩
            rw [← hw15] at HG4 HX10 HB1 HN1 ⊢
            clear hw15 HG3 HX9 HB HN n0 n1 nf0 nf1 nz x0 x1 xf0 xf1 xz y0 y1 yf0 yf1 yz
            have HB := HB1; have HN := HN1
            clear HB1 HN1
            have hz_w15 := HB.out.size
            obtain ⟨n0, n1, nf0, nf1, nz⟩ := HN.out.two
            obtain ⟨y0, y1, yf0, yf1, yz⟩ := HG4.out.two
            obtain ⟨b4, hb4⟩ : ∃ b : Bool, decide (e1 = 0 ∧ (flow < 0 ∨ (paths.length : Int) ≤ flow)) = b := ⟨_, rfl⟩
            have HB4 := Lib.hid hb4
            clear hb4
            go_cut [107] (fun s107 wx => s107 = .bool b4 ∧ wx = w15)
            case first =>
              by_cases h1 : e1 = 0
              · subst h1
                by_cases hl : flow < 0
                · have e : b4 = true := by rw [← HB4.out]; exact decide_eq_true ⟨rfl, .inl hl⟩
                  go_wp2
                  go_meet
                  exact ⟨by rw [e], rfl⟩
                · have hl' : decide (flow < 0) = false := decide_eq_false hl
                  by_cases hm : (paths.length : Int) ≤ flow
                  · have e : b4 = true := by rw [← HB4.out]; exact decide_eq_true ⟨rfl, .inr hm⟩
                    go_wp2
                    go_meet
                    exact ⟨by rw [e], rfl⟩
                  · have e : b4 = false := by rw [← HB4.out]; exact decide_eq_false (fun h => by have := h.2; omega)
                    have hm' : decide ((paths.length : Int) ≤ flow) = false := decide_eq_false hm
                    go_wp2
                    go_meet
                    exact ⟨by rw [e], rfl⟩
              · have h1' : (e1 == 0) = false := beq_eq_false_iff_ne.2 h1
                have e : b4 = false := by rw [← HB4.out]; exact decide_eq_false (fun h => h1 h.1)
                go_wp2
                go_meet
                exact ⟨by rw [e], rfl⟩
            case rest =>
              obtain ⟨rfl, hw⟩ := hcut; obtain rfl := hw.symm; clear hw
              go_upto_if 107 with fail
              go_cut [9] (fun s9 wx => s9 = .int .i64 e4 ∧ ∃ C' cc' P' cp', Hid (Blk wx g6 43 #[.slice C' cs4.length cc', .slice P' rs4.length cp']) ∧ Hid (RefAt wx w.heap.size C' cc' P' cp' cs4 rs4) ∧ Hid (Below w.heap.size w wx) ∧ Hid (Blk wx w.heap.size 43 #[.slice C caps.length cc, .slice P paths.length cp]) ∧ Hid (Blk wx g7 43 #[.slice C1 cs3.length cc1, .slice P1 rs3.length cp1]))
              case first =>
                have hq4 := HE4.out; unfold dropErr at hq4; rw [HE1.out] at hq4
                have hqc := HC4.out; unfold ntCaps at hqc
                have hqr := HR4.out; unfold ntRows at hqr
                by_cases h1 : e1 = 0
                · subst h1
                  rw [if_pos rfl] at hq4
                  obtain ⟨_, _, hp0, hp6, _, _⟩ := netErr_ok HE1.out
                  by_cases hl : flow < 0
                  · obtain rfl : b4 = true := by rw [← HB4.out]; exact decide_eq_true ⟨rfl, .inl hl⟩
                    rw [if_pos (.inl hl)] at hq4
                    subst hq4
                    rw [if_neg (by decide)] at hqc hqr
                    subst hqc hqr
                    go_wp2
                    go_meet
                    exact ⟨rfl, none, 0, none, 0, HG4, Lib.hid (RefAt.nil _ _), HB, HN, HX10⟩
                  · have hl' : decide (flow < 0) = false := decide_eq_false hl
                    by_cases hm : (paths.length : Int) ≤ flow
                    · obtain rfl : b4 = true := by rw [← HB4.out]; exact decide_eq_true ⟨rfl, .inr hm⟩
                      rw [if_pos (.inr hm)] at hq4
                      subst hq4
                      rw [if_neg (by decide)] at hqc hqr
                      subst hqc hqr
                      go_wp2
                      go_meet
                      exact ⟨rfl, none, 0, none, 0, HG4, Lib.hid (RefAt.nil _ _), HB, HN, HX10⟩
                    · obtain rfl : b4 = false := by rw [← HB4.out]; exact decide_eq_false (fun h => by have := h.2; omega)
                      rw [if_neg (by omega)] at hq4
                      by_cases hs : paths.length = 1
                      · rw [if_pos hs] at hq4
                        subst hq4
                        rw [if_neg (by decide)] at hqc hqr
                        subst hqc hqr
                        obtain ⟨p0, rfl⟩ := List.length_eq_one_iff.1 hs
                        go_wp2
                        go_meet
                        exact ⟨rfl, none, 0, none, 0, HG4, Lib.hid (RefAt.nil _ _), HB, HN, HX10⟩
                      · rw [if_neg hs] at hq4
                        subst hq4
                        rw [if_pos rfl] at hqc hqr
                        subst hqc
                        obtain ⟨f, rfl⟩ := Int.eq_ofNat_of_zero_le (show 0 ≤ flow by omega)
                        rw [Int.toNat_natCast] at hqr
                        have hs' : ((paths.length : Int) == 1) = false := beq_eq_false_iff_ne.2 (by omega)
                        have hfl : f < paths.length := by omega
                        have HQR := Lib.hid hqr
                        clear hs hl hm hqr
                        go_wp2_with fail
                        refine (refWithout_any C cc caps.length P cp _ paths f w.heap.size _ (by first | omega | (focus (simp; done)) | (simp; omega)) (HP.out.below HB.out (Nat.le_refl _)) hfl (by omega) rfl).mono ?_; rintro r w16 ⟨P2, cp2, rfl, hr1, hb1⟩
                        rw [HQR.out] at hr1 ⊢
                        have HR1 := Lib.hid hr1
                        have HB1 := Lib.hid (HB.out.trans (hb1.mono HB.out.size)); have HN1 := Lib.hid (HN.out.go hb1); have HG1 := Lib.hid (HG4.out.go hb1); have HX11 := Lib.hid (HX10.out.go hb1)
                        clear hr1 hb1 y0 y1 yf0 yf1 yz
                        obtain ⟨y0, y1, yf0, yf1, yz⟩ := HG1.out.two
                        have HBF := Lib.hid ((HB1.out.setCell (p := ⟨g6, 0, none⟩) hg6z (.slice C caps.length cc)).setCell (p := ⟨g6, 1, none⟩) hg6z (.slice P2 rs4.length cp2))
                        have HRF := Lib.hid (RefAt.set (⟨HC.out.below HB1.out (Nat.le_refl _), HR1.out⟩ : RefAt w16 w.heap.size C cc P2 cp2 caps rs4) HG1.out hg6z (.slice C caps.length cc) (.slice P2 rs4.length cp2))
                        go_wp2
                        go_meet
                        exact ⟨rfl, C, cc, P2, cp2, Lib.hid ((HG1.out.s2_0 _).s2_1 _), HRF, HBF, Lib.hid ((HN1.out.far (p := ⟨g6, 0, none⟩) hg6n _).far (p := ⟨g6, 1, none⟩) hg6n _), Lib.hid ((HX11.out.far (p := ⟨g6, 0, none⟩) hg76.symm _).far (p := ⟨g6, 1, none⟩) hg76.symm _)⟩
                · obtain rfl : b4 = false := by rw [← HB4.out]; exact decide_eq_false (fun h => h1 h.1)
                  rw [if_neg h1] at hq4
                  subst hq4
                  rw [if_neg h1] at hqc hqr
                  subst hqc hqr
                  have h1' : (e1 == 0) = false := beq_eq_false_iff_ne.2 h1
                  go_wp2
                  go_meet
                  exact ⟨rfl, none, 0, none, 0, HG4, Lib.hid (RefAt.nil _ _), HB, HN, HX10⟩
              case rest =>
                clear HG4 HX10 HB HN n0 n1 nf0 nf1 nz y0 y1 yf0 yf1 yz
                obtain ⟨rfl, C'', cc'', P'', cp'', HG, HRF, HB', HN', HX⟩ := hcut
                obtain ⟨w16, hw16⟩ : ∃ x, x = wc := ⟨_, rfl⟩
                rw [← hw16] at HG HRF HB' HN' HX ⊢
                clear hw16
                have HB := HB'; have HN := HN'
                clear HB' HN'
                have hz_w16 := HB.out.size
                obtain ⟨n0, n1, nf0, nf1, nz⟩ := HN.out.two
                go_wp2_with fail
                refine (drop_tot C cc caps P cp paths flow w.heap.size _ (by first | omega | (focus (simp; done)) | (simp; omega)) (HC.out.below HB.out (Nat.le_refl _)) (HP.out.below HB.out (Nat.le_refl _)) e4 cs4 rs4 HE4.out HC4.out HR4.out).mono ?_; rintro r w17 ⟨C2, cc2, P2, cp2, rfl, hf1, hb⟩
                have HF1 := Lib.hid hf1
                have HRF1 := Lib.hid (HRF.out.below hb HB.out.size); have HG1 := Lib.hid (HG.out.go hb); have HX1 := Lib.hid (HX.out.go hb)
                have HB1 := Lib.hid (HB.out.trans (hb.mono HB.out.size)); have HN1 := Lib.hid (HN.out.go hb)
                clear hb hf1 HB HN HG HRF HX n0 n1 nf0 nf1 nz
                obtain ⟨x0, x1, xf0, xf1, xz⟩ := HX1.out.two
                go_upto_region 29 with fail
                have HF2 := Lib.hid (HF1.out.set HX1.out (.slice C2 cs4.length cc2) (.slice P2 rs4.length cp2)); have HRF2 := Lib.hid (HRF1.out.set HX1.out hg7z (.slice C2 cs4.length cc2) (.slice P2 rs4.length cp2))
                have HG2 := Lib.hid ((HG1.out.far (p := ⟨g7, 0, none⟩) hg76 (.slice C2 cs4.length cc2)).far (p := ⟨g7, 1, none⟩) hg76 (.slice P2 rs4.length cp2))
                have HX2 := Lib.hid ((HX1.out.s2_0 (.slice C2 cs4.length cc2)).s2_1 (.slice P2 rs4.length cp2))
                have HB := Lib.hid ((HB1.out.setCell (p := ⟨g7, 0, none⟩) hg7z (.slice C2 cs4.length cc2)).setCell (p := ⟨g7, 1, none⟩) hg7z (.slice P2 rs4.length cp2))
                obtain ⟨w18, hw18⟩ : ∃ x, x = (w17.setCell ⟨g7, 0, none⟩ (.slice C2 cs4.length cc2)).setCell ⟨g7, 1, none⟩ (.slice P2 rs4.length cp2) := ⟨_, rfl⟩
                rw [← hw18] at HF2 HRF2 HG2 HX2 HB ⊢
                clear hw18 HF1 HRF1 HG1 HX1 HB1 HN1 x0 x1 xf0 xf1 xz
                have hz_w18 := HB.out.size
                obtain ⟨x0, x1, xf0, xf1, xz⟩ := HX2.out.two
                obtain ⟨y0, y1, yf0, yf1, yz⟩ := HG2.out.two
                go_wp2_with fail
                refine (same_yes e4 _ (LAID.out.below HB.out)).mono ?_; rintro r w19 ⟨rfl, hb⟩
                have HX3 := Lib.hid (HX2.out.go hb); have HF3 := Lib.hid (HF2.out.below hb); have HRF3 := Lib.hid (HRF2.out.below hb HB.out.size); have HG3 := Lib.hid (HG2.out.go hb)
                have HB1 := Lib.hid (HB.out.trans (hb.mono HB.out.size))
                clear hb HB HX2 HF2 HRF2 HG2 x0 x1 xf0 xf1 xz y0 y1 yf0 yf1 yz
                obtain ⟨x0, x1, xf0, xf1, xz⟩ := HX3.out.two
                obtain ⟨y0, y1, yf0, yf1, yz⟩ := HG3.out.two
                go_wp2_with fail
                refine (sameNet_n C2 C'' P2 P'' cc2 cc'' cp2 cp'' _ _ _ _ cs4 rs4 _ _ _ HF3.out.parts.1 (HRF3.out.parts HB1.out.size).1 HF3.out.parts.2 (HRF3.out.parts HB1.out.size).2 (Nat.le_refl _) (Nat.le_refl _) rfl rfl rfl rfl).mono ?_; rintro r w20 ⟨rfl, hb⟩
                have HB2 := Lib.hid (HB1.out.trans (hb.mono HB1.out.size))
                clear hb
                go_wp2
                go_ret
                exact ⟨rfl, HB2.out⟩
theorem netTells_walk (w : World) (C : Option Addr) (cc : Nat) (caps : List Int) (hc : Ints w w.heap.size C cc caps) (_ : ∀ n ∈ caps, (Lit.int .i64 n).wf = true) (P : Option Addr) (cp : Nat) (paths : List (List Int)) (hp : Rows2 w w.heap.size P cp paths) (_ : ∀ l ∈ paths, ∀ n ∈ l, (Lit.int .i64 n).wf = true) (link : Int) (_ : (Lit.int .i64 link).wf = true) (A : Option Addr) (c : Nat) (path : List Int) (hi : Ints w w.heap.size A c path) (_ : ∀ n ∈ path, (Lit.int .i64 n).wf = true) (flow : Int) (_ : (Lit.int .i64 flow).wf = true) (hg : Laid w) :
    Calls Tryd.prog 4 #[.agg #[.slice C caps.length cc, .slice P paths.length cp], .int .i64 link, .slice A path.length c, .int .i64 flow] w fun e w' => e = .returned (.bool true) ∧ Below w.heap.size w w' :=
  netTells_in C cc caps P cp paths link A c path flow w hg hc hp hi _ _ _ _ _ _ _ _ _ rfl rfl rfl rfl rfl rfl rfl rfl rfl
end Go.Proofs.YtblanfaghnflkaaDoor
