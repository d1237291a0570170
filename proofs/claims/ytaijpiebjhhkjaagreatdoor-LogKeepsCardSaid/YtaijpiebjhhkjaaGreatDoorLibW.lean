/- Several texts in one: WKeeps1, WKeeps2, WKeeps3, WKeeps4, WKeeps5, WKeeps6, WKeeps7, WKeeps8. -/
import Derived.Test.YtaijpiebjhhkjaaGreatDoorLibV
import Derived.Deep.RegionHeld3
import Derived.Test.YtaijpiebjhhkjaaGreatDoorTopOne
import Derived.Test.YtaijpiebjhhkjaaGreatDoorRefFill3
import Derived.Test.YtaijpiebjhhkjaaGreatDoorFrSame
/- LogKeeps, the inner round: the sync that is asked for; the nets before and behind. -/
namespace Go.Proofs.YtaijpiebjhhkjaaGreatDoor
open Go.RowKit
set_option maxHeartbeats 8000000 in
set_option maxRecDepth 100000 in
theorem lk_sync (w : World) (C : Option Addr) (cc : Nat) (caps : List Int) (P : Option Addr) (cp : Nat) (paths : List (List Int)) (D : Option Addr) (cd : Nat) (drops : List Int) (Y : Option Addr) (cy : Nat) (syncs : List Int) (F : Option Addr) (cf : Nat) (fails : List Int) (K : Option Addr) (ck : Nat) (keeps : List Int) (C' : Option Addr) (cc' bl gl : Nat) (hy : Ints w w.heap.size Y cy syncs) (m d ro k a2 : Nat) (O : List LG.Op) (p : Option Nat) (bs : ByteArray) (safe : Nat) (left : Int) (st : Bool) (cn cm : Nat) (dv : List Value) (a : Act) (W : World) (hst : FrS a 397 ((29, .int .i64 k) :: lkR d m O.length cn cm a2 ro (lkS C caps.length cc P paths.length cp D drops.length cd Y syncs.length cy F fails.length cf K keeps.length ck gl))) (HS : Hid (Keeps W w bl gl m d C' cc' caps C cc a2 O O O p bs safe left st cn cm dv)) (hi : a2 ≤ 1000) (rest : Code) (Q : Exit → Act → World → Prop)
    (hQ : ∀ a' W' safe' left' st', FrS a' 397 ((29, .int .i64 k) :: lkR d m O.length cn cm a2 ro (lkS C caps.length cc P paths.length cp D drops.length cd Y syncs.length cy F fails.length cf K keeps.length ck gl)) → Hid (Keeps W' w bl gl m d C' cc' caps C cc a2 O O O p bs safe' left' st' cn cm dv) → rest.wp Tryz.prog Q a' W') : (Code.cutc 0 lkX2 rest).wp Tryz.prog Q a W := by
  obtain ⟨x, rfl, hx⟩ := lk_open hst
  obtain ⟨e29, e25, e26, e27, e28, e0, e1, e2, e3, e4, e5, e22, _⟩ := hx
  have HY := Lib.hid hy; have HQ := Lib.hid hQ
  clear hy hQ
  conv => arg 2; whnf
  rw [e29, e25, e26, e27, e28, e0, e1, e2, e3, e4, e5, e22]
  clear e29 e25 e26 e27 e28 e0 e1 e2 e3 e4 e5 e22
  by_cases hsy : a2 < syncs.length
  · obtain ⟨yb, yo, rfl, hyb, hyc⟩ := ints_cell HY.out hsy
    have c1 : W.cell? ⟨yb, yo + a2, none⟩ = some (.int .i64 syncs[a2]) := (HS.out.B.cell (p := ⟨yb, yo + a2, none⟩) hyb).trans hyc
    clear hyc
    generalize syncs[a2] = yv at c1
    have e0 : decide (a2 < syncs.length) = true := decide_eq_true hsy
    by_cases h1 : yv = 1
    · have e1 : (yv == 1) = true := by rw [h1]; rfl
      go_wp2_with fail
      refine (keeps_sync W w bl gl m d C' cc' caps C cc a2 O O O p bs safe left st cn cm dv HS.out hi).mono ?_; rintro e w2 ⟨r, safe', left', st', rfl, hS, hr⟩
      have HS2 := Lib.hid hS
      clear hS c1
      rcases hr with ⟨rfl, hsf⟩ | ⟨rfl, hsf⟩
      · rw [errVal_zero]
        subst hsf
        go_wp2_with fail
        refine (keeps_safe w2 w bl gl m d C' cc' caps C cc a2 O O O p bs bs.size left' st' cn cm dv HS2.out).mono ?_; rintro e w3 ⟨rfl, hS, _⟩
        have HS3 := Lib.hid hS
        clear hS HS2
        go_wp2_with fail
        refine (keeps_bytes w3 w bl gl m d C' cc' caps C cc a2 O O O p bs bs.size left' st' cn cm dv HS3.out).mono ?_; rintro e w4 ⟨rfl, hS, _⟩
        have HS4 := Lib.hid hS
        clear hS HS3
        go_wp2
        exact HQ.out _ _ _ _ _ ⟨rfl, rfl, rfl, rfl, rfl, rfl, rfl, rfl, rfl, rfl, rfl, rfl, rfl, rfl, trivial⟩ HS4
      · rw [errVal_pos (by decide)]
        go_wp2
        exact HQ.out _ _ _ _ _ ⟨rfl, rfl, rfl, rfl, rfl, rfl, rfl, rfl, rfl, rfl, rfl, rfl, rfl, rfl, trivial⟩ HS2
    · have e1 : (yv == 1) = false := beq_eq_false_iff_ne.2 h1
      go_wp2
      exact HQ.out _ _ _ _ _ ⟨rfl, rfl, rfl, rfl, rfl, rfl, rfl, rfl, rfl, rfl, rfl, rfl, rfl, rfl, trivial⟩ HS
  · have e0 : decide (a2 < syncs.length) = false := decide_eq_false hsy
    go_wp2
    exact HQ.out _ _ _ _ _ ⟨rfl, rfl, rfl, rfl, rfl, rfl, rfl, rfl, rfl, rfl, rfl, rfl, rfl, rfl, trivial⟩ HS
set_option maxHeartbeats 8000000 in
set_option maxRecDepth 100000 in
theorem lk_boxes (w : World) (C : Option Addr) (cc : Nat) (caps : List Int) (P : Option Addr) (cp : Nat) (paths : List (List Int)) (D : Option Addr) (cd : Nat) (drops : List Int) (Y : Option Addr) (cy : Nat) (syncs : List Int) (F : Option Addr) (cf : Nat) (fails : List Int) (K : Option Addr) (ck : Nat) (keeps : List Int) (C' : Option Addr) (cc' bl gl : Nat) (m d ro k a2 : Nat) (O : List LG.Op) (p : Option Nat) (bs : ByteArray) (safe : Nat) (left : Int) (st : Bool) (cn cm : Nat) (dv : List Value) (a : Act) (W : World) (hst : FrS a 397 ((29, .int .i64 k) :: lkR d m O.length cn cm a2 ro (lkS C caps.length cc P paths.length cp D drops.length cd Y syncs.length cy F fails.length cf K keeps.length ck gl))) (HS : Hid (Keeps W w bl gl m d C' cc' caps C cc a2 O O O p bs safe left st cn cm dv)) (hO : O.length ≤ 1000) (rest : Code) (Q : Exit → Act → World → Prop)
    (hQ : ∀ a' W' gn Pk ck2, FrS a' 397 ((30, .pointer (some ⟨gn, 0, none⟩)) :: (31, .pointer (some ⟨gn + 1, 0, none⟩)) :: (32, .int .i64 0) :: (33, .int .i64 bs.size) :: (34, .nilIface) :: (29, .int .i64 k) :: lkR d m O.length cn cm a2 ro (lkS C caps.length cc P paths.length cp D drops.length cd Y syncs.length cy F fails.length cf K keeps.length ck gl)) → Hid (Keeps W' w bl gl m d C' cc' caps C cc a2 O O O p bs safe left st cn cm dv) → d < gn → bl ≤ gn → Hid (Blk W' gn 42 #[.slice C caps.length cc, .slice Pk (LG.runs O).length ck2]) → Hid (Blk W' (gn + 1) 42 #[.slice C caps.length cc, .slice Pk (LG.runs O).length ck2]) → Hid (RowsK W' bl p Pk ck2 (LG.runs O)) → rest.wp Tryz.prog Q a' W') : (Code.cutc 4 lkY1 rest).wp Tryz.prog Q a W := by
  obtain ⟨x, rfl, hx⟩ := lk_open hst
  obtain ⟨e29, e25, e26, e27, e28, e0, e1, e2, e3, e4, e5, e22, _⟩ := hx
  have HQ := Lib.hid hQ
  clear hQ
  obtain ⟨Pk, ck2, l0, l1, hRK⟩ := HS.out.D.last
  obtain ⟨r1, r2, r3⟩ := HS.out.D.room
  have hlz := HS.out.lz
  have hbs : bs.size ≤ 14 * a2 := HS.out.T.len
  obtain ⟨w4, hw4⟩ : ∃ x, x = (W.alloc (.cells #[.slice C caps.length cc, .slice Pk (LG.runs O).length ck2] 42)).alloc (.cells #[.slice C caps.length cc, .slice Pk (LG.runs O).length ck2] 42) := ⟨_, rfl⟩
  have hb4 : Below W.heap.size W w4 := by rw [hw4]; exact ((Below.refl _ _).alloc (Nat.le_refl _) _).alloc (by simp) _
  have HS4 := Lib.hid (HS.out.below hb4)
  have HN4 : Hid (Blk w4 W.heap.size 42 #[.slice C caps.length cc, .slice Pk (LG.runs O).length ck2]) := Lib.hid (by rw [hw4]; exact (Blk.new _ _ _).alloc _)
  have HX4 : Hid (Blk w4 (W.heap.size + 1) 42 #[.slice C caps.length cc, .slice Pk (LG.runs O).length ck2]) := Lib.hid (by rw [hw4]; exact Blk.new' _ _ _ (by simp))
  have HR4 := Lib.hid (hRK.below hb4 hlz)
  clear hRK hb4
  conv => arg 2; whnf; arg 2; whnf; arg 2; whnf; arg 2; whnf; arg 2; whnf
  rw [e29, e25, e26, e27, e28, e0, e1, e2, e3, e4, e5, e22]
  clear e29 e25 e26 e27 e28 e0 e1 e2 e3 e4 e5 e22
  go_upto_region 32 with (fail)
  rw [← hw4]
  clear hw4 HS l0 l1
  go_wp2_with fail
  refine (keeps_bytes w4 w bl gl m d C' cc' caps C cc a2 O O O p bs safe left st cn cm dv HS4.out).mono ?_; rintro e w5 ⟨rfl, hS, hb⟩
  have HS5 := Lib.hid hS
  have HN5 := Lib.hid (HN4.out.go hb)
  have HX5 := Lib.hid (HX4.out.go hb)
  have HR5 := Lib.hid (HR4.out.below hb HS4.out.lz)
  clear hS hb
  go_wp2
  exact HQ.out _ _ _ _ _ ⟨rfl, rfl, rfl, rfl, rfl, rfl, rfl, rfl, rfl, rfl, rfl, rfl, rfl, rfl, rfl, rfl, rfl, rfl, rfl, trivial⟩ HS5 r3 hlz HN5 HX5 HR5
end Go.Proofs.YtaijpiebjhhkjaaGreatDoor
/- LogKeeps, the inner round: a flow is dropped. -/
namespace Go.Proofs.YtaijpiebjhhkjaaGreatDoor
open Go.RowKit
set_option maxHeartbeats 8000000 in
set_option maxRecDepth 100000 in
theorem lk_drop_bad (w : World) (C : Option Addr) (cc : Nat) (caps : List Int) (P : Option Addr) (cp : Nat) (paths : List (List Int)) (D : Option Addr) (cd : Nat) (drops : List Int) (Y : Option Addr) (cy : Nat) (syncs : List Int) (F : Option Addr) (cf : Nat) (fails : List Int) (K : Option Addr) (ck : Nat) (keeps : List Int) (C' : Option Addr) (cc' bl gl : Nat) (hd : Ints w w.heap.size D cd drops) (m d ro k a2 : Nat) (O : List LG.Op) (p : Option Nat) (bs : ByteArray) (safe : Nat) (left : Int) (st : Bool) (cn cm : Nat) (dv : List Value) (gn : Nat) (Pk : Option Addr) (ck2 : Nat) (a : Act) (W : World) (hst : FrS a 397 ((30, .pointer (some ⟨gn, 0, none⟩)) :: (31, .pointer (some ⟨gn + 1, 0, none⟩)) :: (32, .int .i64 0) :: (33, .int .i64 bs.size) :: (34, .nilIface) :: (29, .int .i64 k) :: lkR d m O.length cn cm a2 ro (lkS C caps.length cc P paths.length cp D drops.length cd Y syncs.length cy F fails.length cf K keeps.length ck gl))) (HS : Hid (Keeps W w bl gl m d C' cc' caps C cc a2 O O O p bs safe left st cn cm dv)) (hgd : d < gn) (hgl : bl ≤ gn) (HN : Hid (Blk W gn 42 #[.slice C caps.length cc, .slice Pk (LG.runs O).length ck2])) (HX : Hid (Blk W (gn + 1) 42 #[.slice C caps.length cc, .slice Pk (LG.runs O).length ck2])) (HR : Hid (RowsK W bl p Pk ck2 (LG.runs O))) (hi : a2 ≤ 1000) (hc6 : caps.length ≤ 6) (rest : Code) (Q : Exit → Act → World → Prop)
    (hQ : ∀ a' W' r e O' p' bs' left' st', FrS a' 397 ((31, .pointer (some ⟨gn + 1, 0, none⟩)) :: (32, .int .i64 e) :: (33, .int .i64 bs.size) :: (34, errVal r) :: (29, .int .i64 k) :: lkR d m O.length cn cm a2 ro (lkS C caps.length cc P paths.length cp D drops.length cd Y syncs.length cy F fails.length cf K keeps.length ck gl)) → Hid (Keeps W' w bl gl m d C' cc' caps C cc (a2 + 1) O' O O p' bs' safe left' st' cn cm dv) → Hid (LkOut W' bl gn C caps.length cc O O' p' bs bs' r e) → rest.wp Tryz.prog Q a' W') (f : Nat) (hf1 : a2 < drops.length) (hf2 : drops[a2] = (f : Int)) (hbad : (LG.runs O).length ≤ f) : (Code.cutc 0 lkY2 rest).wp Tryz.prog Q a W := by
  obtain ⟨x, rfl, hx⟩ := lk_open hst
  obtain ⟨e30, e31, e32, e33, e34, e29, e25, e26, e27, e28, e0, e1, e2, e3, e4, e5, e22, _⟩ := hx
  have HD := Lib.hid hd
  clear hd
  have HQ := Lib.hid hQ
  have hun := hgd; have hun2 := hc6; have hun3 := HR
  clear hQ hun hun2 hun3
  have h6 := HS.out.T.ok.all
  obtain ⟨db, do_, rfl, hdb, hdc⟩ := ints_cell HD.out hf1
  have hdW : db < W.heap.size := Nat.lt_of_lt_of_le hdb HS.out.bz
  have c1 : W.cell? ⟨db, do_ + a2, none⟩ = some (.int .i64 f) := by rw [← hf2]; exact (HS.out.B.cell (p := ⟨db, do_ + a2, none⟩) hdb).trans hdc
  have hgdb : gn + 1 ≠ db := by have := HS.out.z; omega
  have dd0 : decide (a2 < drops.length) = true := decide_eq_true hf1
  clear hdc
  obtain ⟨n0, n1, nf0, nf1, nz⟩ := HN.out.two
  obtain ⟨x0, x1, xf0, xf1, xz⟩ := HX.out.two
  have dd1 : decide ((LG.runs O).length ≤ f) = true := decide_eq_true hbad
  conv => arg 2; whnf
  rw [e30, e31, e32, e33, e34, e29, e25, e26, e27, e28, e0, e1, e2, e3, e4, e5, e22]
  clear e30 e31 e32 e33 e34 e29 e25 e26 e27 e28 e0 e1 e2 e3 e4 e5 e22
  go_upto_region 36 with (fail)
  go_region_held3 (fun w' => w'.cell? ⟨gn, 1, none⟩ = some (.slice Pk (LG.runs O).length ck2) ∧ w'.cell? ⟨db, do_ + a2, none⟩ = some (.int .i64 f)) (go_keep)
    (first | fail)
  go_wp2_with fail
  refine (keeps_drop W.drew w bl gl m d C' cc' caps C cc a2 O O O p bs safe left st cn cm dv (HS.out.below (Below.refl _ _).drew) hi f 1 (if_pos hbad)).mono ?_; rintro e w6 ⟨r, O', p', bs', left', st', rfl, hS, _, hr⟩
  have HS6 := Lib.hid hS
  have hr2 : r ≠ 0 ∧ O' = O ∧ (r = 6 ∨ r = 1) := by
    rcases hr with ⟨_, h, _⟩ | h
    · exact absurd h (by decide)
    · exact h
  have HO6 : Hid (LkOut w6 bl gn C caps.length cc O O' p' bs bs' r 1) := Lib.hid (.inr hr2)
  clear hS hr hr2
  go_wp2
  exact HQ.out _ _ r 1 O' p' bs' left' st' ⟨rfl, rfl, rfl, rfl, rfl, rfl, rfl, rfl, rfl, rfl, rfl, rfl, rfl, rfl, rfl, rfl, rfl, rfl, trivial⟩ HS6 HO6
set_option maxHeartbeats 8000000 in
set_option maxRecDepth 100000 in
theorem lk_drop_ok (w : World) (C : Option Addr) (cc : Nat) (caps : List Int) (P : Option Addr) (cp : Nat) (paths : List (List Int)) (D : Option Addr) (cd : Nat) (drops : List Int) (Y : Option Addr) (cy : Nat) (syncs : List Int) (F : Option Addr) (cf : Nat) (fails : List Int) (K : Option Addr) (ck : Nat) (keeps : List Int) (C' : Option Addr) (cc' bl gl : Nat) (hd : Ints w w.heap.size D cd drops) (m d ro k a2 : Nat) (O : List LG.Op) (p : Option Nat) (bs : ByteArray) (safe : Nat) (left : Int) (st : Bool) (cn cm : Nat) (dv : List Value) (gn : Nat) (Pk : Option Addr) (ck2 : Nat) (a : Act) (W : World) (hst : FrS a 397 ((30, .pointer (some ⟨gn, 0, none⟩)) :: (31, .pointer (some ⟨gn + 1, 0, none⟩)) :: (32, .int .i64 0) :: (33, .int .i64 bs.size) :: (34, .nilIface) :: (29, .int .i64 k) :: lkR d m O.length cn cm a2 ro (lkS C caps.length cc P paths.length cp D drops.length cd Y syncs.length cy F fails.length cf K keeps.length ck gl))) (HS : Hid (Keeps W w bl gl m d C' cc' caps C cc a2 O O O p bs safe left st cn cm dv)) (hgd : d < gn) (hgl : bl ≤ gn) (HN : Hid (Blk W gn 42 #[.slice C caps.length cc, .slice Pk (LG.runs O).length ck2])) (HX : Hid (Blk W (gn + 1) 42 #[.slice C caps.length cc, .slice Pk (LG.runs O).length ck2])) (HR : Hid (RowsK W bl p Pk ck2 (LG.runs O))) (hi : a2 ≤ 1000) (hc6 : caps.length ≤ 6) (rest : Code) (Q : Exit → Act → World → Prop)
    (hQ : ∀ a' W' r e O' p' bs' left' st', FrS a' 397 ((31, .pointer (some ⟨gn + 1, 0, none⟩)) :: (32, .int .i64 e) :: (33, .int .i64 bs.size) :: (34, errVal r) :: (29, .int .i64 k) :: lkR d m O.length cn cm a2 ro (lkS C caps.length cc P paths.length cp D drops.length cd Y syncs.length cy F fails.length cf K keeps.length ck gl)) → Hid (Keeps W' w bl gl m d C' cc' caps C cc (a2 + 1) O' O O p' bs' safe left' st' cn cm dv) → Hid (LkOut W' bl gn C caps.length cc O O' p' bs bs' r e) → rest.wp Tryz.prog Q a' W') (f : Nat) (hf1 : a2 < drops.length) (hf2 : drops[a2] = (f : Int)) (hbad : f < (LG.runs O).length) : (Code.cutc 0 lkY2 rest).wp Tryz.prog Q a W := by
  obtain ⟨x, rfl, hx⟩ := lk_open hst
  obtain ⟨e30, e31, e32, e33, e34, e29, e25, e26, e27, e28, e0, e1, e2, e3, e4, e5, e22, _⟩ := hx
  have HD := Lib.hid hd
  clear hd
  have HQ := Lib.hid hQ
  have hun := hgd; have hun2 := hc6; have hun3 := HR
  clear hQ hun hun2 hun3
  have h6 := HS.out.T.ok.all
  obtain ⟨db, do_, rfl, hdb, hdc⟩ := ints_cell HD.out hf1
  have hdW : db < W.heap.size := Nat.lt_of_lt_of_le hdb HS.out.bz
  have c1 : W.cell? ⟨db, do_ + a2, none⟩ = some (.int .i64 f) := by rw [← hf2]; exact (HS.out.B.cell (p := ⟨db, do_ + a2, none⟩) hdb).trans hdc
  have hgdb : gn + 1 ≠ db := by have := HS.out.z; omega
  have dd0 : decide (a2 < drops.length) = true := decide_eq_true hf1
  clear hdc
  obtain ⟨n0, n1, nf0, nf1, nz⟩ := HN.out.two
  obtain ⟨x0, x1, xf0, xf1, xz⟩ := HX.out.two
  have dd1 : decide ((LG.runs O).length ≤ f) = false := decide_eq_false (by omega)
  conv => arg 2; whnf
  rw [e30, e31, e32, e33, e34, e29, e25, e26, e27, e28, e0, e1, e2, e3, e4, e5, e22]
  clear e30 e31 e32 e33 e34 e29 e25 e26 e27 e28 e0 e1 e2 e3 e4 e5 e22
  go_upto_region 36 with (fail)
  go_region_held3 (fun w' => w'.cell? ⟨gn, 1, none⟩ = some (.slice Pk (LG.runs O).length ck2) ∧ w'.cell? ⟨db, do_ + a2, none⟩ = some (.int .i64 f)) (go_keep)
    (first | fail)
  go_upto_region 38 with (fail)
  go_region_held3 (fun w' => w'.cell? ⟨gn, 0, none⟩ = some (.slice C caps.length cc) ∧ w'.cell? ⟨gn, 1, none⟩ = some (.slice Pk (LG.runs O).length ck2) ∧ w'.cell? ⟨db, do_ + a2, none⟩ = some (.int .i64 f)) (go_keep)
    (first
      | (go_simp; go_at_call 19; refine (keeps_without _ w bl gl m d C' cc' caps C cc a2 O O O p bs safe left st cn cm dv HS.out.drew.drew Pk ck2 _ ((HR.out.drew HS.out.lz).drew HS.out.lz) (by omega) f hbad).mono ?_; rintro e w6 ⟨P1, cp1, rfl, hR, hb6⟩; have HB6 : Hid (Below W.heap.size W w6) := Lib.hid (by exact (Below.refl _ _).drew.drew.trans hb6); have HR6 := Lib.hid hR; have y0 : w6.cell? ⟨gn, 0, none⟩ = some (.slice C caps.length cc) := (HB6.out.cell (p := ⟨gn, 0, none⟩) nz).trans n0; have y1 : w6.cell? ⟨gn, 1, none⟩ = some (.slice Pk (LG.runs O).length ck2) := (HB6.out.cell (p := ⟨gn, 1, none⟩) nz).trans n1; have y2 : w6.cell? ⟨db, do_ + a2, none⟩ = some (.int .i64 f) := (HB6.out.cell (p := ⟨db, do_ + a2, none⟩) hdW).trans c1; obtain ⟨z0, z1, zf0, zf1, zz⟩ := (HX.out.go HB6.out).two; clear hb6 hR; dsimp only))
  all_goals
    have HX6 := Lib.hid (HX.out.go HB6.out)
    have HS7 := Lib.hid (((HS.out.below HB6.out).box HX6.out (by omega) (by omega) 0 (.slice C caps.length cc)).box (HX6.out.s2_0 _) (by omega) (by omega) 1 (.slice P1 ((LG.runs O).eraseIdx f).length cp1))
    have HX7 := Lib.hid ((HX6.out.s2_0 (.slice C caps.length cc)).s2_1 (.slice P1 ((LG.runs O).eraseIdx f).length cp1))
    have HR7 := Lib.hid ((HR6.out.box HX6.out (by omega) 0 (.slice C caps.length cc)).box (HX6.out.s2_0 _) (by omega) 1 (.slice P1 ((LG.runs O).eraseIdx f).length cp1))
    have c7 : ((w6.setCell ⟨gn + 1, 0, none⟩ (.slice C caps.length cc)).setCell ⟨gn + 1, 1, none⟩ (.slice P1 ((LG.runs O).eraseIdx f).length cp1)).cell? ⟨db, do_ + a2, none⟩ = some (.int .i64 f) := by
      rw [World.cell?_setCell_far _ _ _ _ hgdb, World.cell?_setCell_far _ _ _ _ hgdb]; exact y2
    obtain ⟨w7, hw7⟩ : ∃ x, x = (w6.setCell ⟨gn + 1, 0, none⟩ (.slice C caps.length cc)).setCell ⟨gn + 1, 1, none⟩ (.slice P1 ((LG.runs O).eraseIdx f).length cp1) := ⟨_, rfl⟩
    rw [← hw7] at HS7 HX7 HR7 c7 ⊢
    clear hw7 HR6 HX6 HB6 y0 y1 y2 z0 z1 zf0 zf1 zz n0 n1 nf0 nf1 nz x0 x1 xf0 xf1 xz c1
    go_wp2_with fail
    refine (keeps_drop w7 w bl gl m d C' cc' caps C cc a2 O O O p bs safe left st cn cm dv HS7.out hi f 0 (if_neg (by omega))).mono ?_; rintro e w8 ⟨r, O', p', bs', left', st', rfl, hS, hlv, hr⟩
    have HS8 := Lib.hid hS
    have HO8 : Hid (LkOut w8 bl gn C caps.length cc O O' p' bs bs' r 0) := Lib.hid (by
      rcases hr with ⟨h1, _, h3, h4, h5, h6⟩ | h
      · exact .inl ⟨h1, rfl, h4, h5, h6, P1, cp1, by rw [h3]; exact hlv.1 _ _ _ HX7.out (by decide) (by decide), by rw [h3]; exact hlv.2 _ _ _ HR7.out⟩
      · exact .inr h)
    clear hS hlv hr
    go_wp2
    exact HQ.out _ _ r 0 O' p' bs' left' st' ⟨rfl, rfl, rfl, rfl, rfl, rfl, rfl, rfl, rfl, rfl, rfl, rfl, rfl, rfl, rfl, rfl, rfl, rfl, trivial⟩ HS8 HO8
end Go.Proofs.YtaijpiebjhhkjaaGreatDoor
/- LogKeeps, the inner round: a flow is added. -/
namespace Go.Proofs.YtaijpiebjhhkjaaGreatDoor
open Go.RowKit
set_option maxHeartbeats 8000000 in
set_option maxRecDepth 100000 in
theorem lk_add_full (w : World) (C : Option Addr) (cc : Nat) (caps : List Int) (P : Option Addr) (cp : Nat) (paths : List (List Int)) (D : Option Addr) (cd : Nat) (drops : List Int) (Y : Option Addr) (cy : Nat) (syncs : List Int) (F : Option Addr) (cf : Nat) (fails : List Int) (K : Option Addr) (ck : Nat) (keeps : List Int) (C' : Option Addr) (cc' bl gl : Nat) (hd : Ints w w.heap.size D cd drops) (hp : Rows2 w w.heap.size P cp paths) (m d ro k a2 : Nat) (O : List LG.Op) (p : Option Nat) (bs : ByteArray) (safe : Nat) (left : Int) (st : Bool) (cn cm : Nat) (dv : List Value) (gn : Nat) (Pk : Option Addr) (ck2 : Nat) (a : Act) (W : World) (hst : FrS a 397 ((30, .pointer (some ⟨gn, 0, none⟩)) :: (31, .pointer (some ⟨gn + 1, 0, none⟩)) :: (32, .int .i64 0) :: (33, .int .i64 bs.size) :: (34, .nilIface) :: (29, .int .i64 k) :: lkR d m O.length cn cm a2 ro (lkS C caps.length cc P paths.length cp D drops.length cd Y syncs.length cy F fails.length cf K keeps.length ck gl))) (HS : Hid (Keeps W w bl gl m d C' cc' caps C cc a2 O O O p bs safe left st cn cm dv)) (hgd : d < gn) (hgl : bl ≤ gn) (HN : Hid (Blk W gn 42 #[.slice C caps.length cc, .slice Pk (LG.runs O).length ck2])) (HX : Hid (Blk W (gn + 1) 42 #[.slice C caps.length cc, .slice Pk (LG.runs O).length ck2])) (HR : Hid (RowsK W bl p Pk ck2 (LG.runs O))) (hi : a2 ≤ 1000) (hc6 : caps.length ≤ 6) (rest : Code) (Q : Exit → Act → World → Prop)
    (hQ : ∀ a' W' r e O' p' bs' left' st', FrS a' 397 ((31, .pointer (some ⟨gn + 1, 0, none⟩)) :: (32, .int .i64 e) :: (33, .int .i64 bs.size) :: (34, errVal r) :: (29, .int .i64 k) :: lkR d m O.length cn cm a2 ro (lkS C caps.length cc P paths.length cp D drops.length cd Y syncs.length cy F fails.length cf K keeps.length ck gl)) → Hid (Keeps W' w bl gl m d C' cc' caps C cc (a2 + 1) O' O O p' bs' safe left' st' cn cm dv) → Hid (LkOut W' bl gn C caps.length cc O O' p' bs bs' r e) → rest.wp Tryz.prog Q a' W') (path : List Int) (hk2 : a2 < paths.length) (hpk : paths[a2]? = some path) (hnd : ∀ h : a2 < drops.length, drops[a2] < 0) (hfull : (LG.runs O).length = 6) : (Code.cutc 0 lkY2 rest).wp Tryz.prog Q a W := by
  obtain ⟨x, rfl, hx⟩ := lk_open hst
  obtain ⟨e30, e31, e32, e33, e34, e29, e25, e26, e27, e28, e0, e1, e2, e3, e4, e5, e22, _⟩ := hx
  have HD := Lib.hid hd; have HP := Lib.hid hp
  clear hd hp
  have HQ := Lib.hid hQ
  have hun := hgd; have hun2 := hc6; have hun3 := HR
  clear hQ hun hun2 hun3
  have h6 := HS.out.T.ok.all
  obtain ⟨pb, po, A', c', l, rfl, hpb, hpc, hpl, hlk⟩ := HP.out.elem hk2
  have hpW : pb < W.heap.size := Nat.lt_of_lt_of_le hpb HS.out.bz
  have p1 : W.cell? ⟨pb, po + a2, none⟩ = some (.slice A' l.length c') := (HS.out.B.cell (p := ⟨pb, po + a2, none⟩) hpb).trans hpc
  have HL := Lib.hid hpl
  have hwb := HS.out.z
  have hgpb : gn + 1 ≠ pb := by omega
  obtain rfl : path = l := Option.some.inj (hpk.symm.trans hlk)
  clear hpc hpl hlk
  obtain ⟨n0, n1, nf0, nf1, nz⟩ := HN.out.two
  obtain ⟨x0, x1, xf0, xf1, xz⟩ := HX.out.two
  have HW : Hid ((decide (a2 < drops.length) = false) ∨ ∃ db do_ dv1, D = some ⟨db, do_, none⟩ ∧ a2 < drops.length ∧ decide (a2 < drops.length) = true ∧ W.cell? ⟨db, do_ + a2, none⟩ = some (.int .i64 dv1) ∧ decide (0 ≤ dv1) = false) := Lib.hid (by
    by_cases hdr : a2 < drops.length
    · obtain ⟨db, do_, e, hdb, hdc⟩ := ints_cell HD.out hdr
      exact .inr ⟨db, do_, _, e, hdr, decide_eq_true hdr, (HS.out.B.cell (p := ⟨db, do_ + a2, none⟩) hdb).trans hdc, decide_eq_false (by have := hnd hdr; omega)⟩
    · exact .inl (decide_eq_false hdr))
  have h0 : (4 : Int) ≠ 0 := by decide
  have d6 : (((LG.runs O).length : Int) == 6) = true := by rw [hfull]; rfl
  conv => arg 2; whnf
  rw [e30, e31, e32, e33, e34, e29, e25, e26, e27, e28, e0, e1, e2, e3, e4, e5, e22]
  clear e30 e31 e32 e33 e34 e29 e25 e26 e27 e28 e0 e1 e2 e3 e4 e5 e22
  rcases HW.out with dd0 | ⟨db, do_, dv1, rfl, dd00, dd0, c1, dd1⟩
  all_goals
    go_wp2_with fail
    refine (keeps_add W w bl gl m d C' cc' caps C cc a2 O O O p bs safe left st cn cm dv HS.out hi hc6 A' c' path (HL.out.below HS.out.B (Nat.le_refl _)) 4 (by unfold addE; rw [if_neg (by decide), if_pos hfull])).mono ?_; rintro e w8 ⟨r, O', p', bs', left', st', rfl, hS, hlv, hr⟩
    have HS8 := Lib.hid hS
    have HO8 : Hid (LkOut w8 bl gn C caps.length cc O O' p' bs bs' r 4) := Lib.hid (by
      rcases hr with ⟨_, h, _⟩ | h
      · exact absurd h h0
      · exact .inr h)
    clear hS hlv hr
    go_wp2
    exact HQ.out _ _ r 4 O' p' bs' left' st' ⟨rfl, rfl, rfl, rfl, rfl, rfl, rfl, rfl, rfl, rfl, rfl, rfl, rfl, rfl, rfl, rfl, rfl, rfl, trivial⟩ HS8 HO8
set_option maxHeartbeats 8000000 in
set_option maxRecDepth 100000 in
theorem lk_add_bad (w : World) (C : Option Addr) (cc : Nat) (caps : List Int) (P : Option Addr) (cp : Nat) (paths : List (List Int)) (D : Option Addr) (cd : Nat) (drops : List Int) (Y : Option Addr) (cy : Nat) (syncs : List Int) (F : Option Addr) (cf : Nat) (fails : List Int) (K : Option Addr) (ck : Nat) (keeps : List Int) (C' : Option Addr) (cc' bl gl : Nat) (hd : Ints w w.heap.size D cd drops) (hp : Rows2 w w.heap.size P cp paths) (m d ro k a2 : Nat) (O : List LG.Op) (p : Option Nat) (bs : ByteArray) (safe : Nat) (left : Int) (st : Bool) (cn cm : Nat) (dv : List Value) (gn : Nat) (Pk : Option Addr) (ck2 : Nat) (a : Act) (W : World) (hst : FrS a 397 ((30, .pointer (some ⟨gn, 0, none⟩)) :: (31, .pointer (some ⟨gn + 1, 0, none⟩)) :: (32, .int .i64 0) :: (33, .int .i64 bs.size) :: (34, .nilIface) :: (29, .int .i64 k) :: lkR d m O.length cn cm a2 ro (lkS C caps.length cc P paths.length cp D drops.length cd Y syncs.length cy F fails.length cf K keeps.length ck gl))) (HS : Hid (Keeps W w bl gl m d C' cc' caps C cc a2 O O O p bs safe left st cn cm dv)) (hgd : d < gn) (hgl : bl ≤ gn) (HN : Hid (Blk W gn 42 #[.slice C caps.length cc, .slice Pk (LG.runs O).length ck2])) (HX : Hid (Blk W (gn + 1) 42 #[.slice C caps.length cc, .slice Pk (LG.runs O).length ck2])) (HR : Hid (RowsK W bl p Pk ck2 (LG.runs O))) (hi : a2 ≤ 1000) (hc6 : caps.length ≤ 6) (rest : Code) (Q : Exit → Act → World → Prop)
    (hQ : ∀ a' W' r e O' p' bs' left' st', FrS a' 397 ((31, .pointer (some ⟨gn + 1, 0, none⟩)) :: (32, .int .i64 e) :: (33, .int .i64 bs.size) :: (34, errVal r) :: (29, .int .i64 k) :: lkR d m O.length cn cm a2 ro (lkS C caps.length cc P paths.length cp D drops.length cd Y syncs.length cy F fails.length cf K keeps.length ck gl)) → Hid (Keeps W' w bl gl m d C' cc' caps C cc (a2 + 1) O' O O p' bs' safe left' st' cn cm dv) → Hid (LkOut W' bl gn C caps.length cc O O' p' bs bs' r e) → rest.wp Tryz.prog Q a' W') (path : List Int) (hk2 : a2 < paths.length) (hpk : paths[a2]? = some path) (hnd : ∀ h : a2 < drops.length, drops[a2] < 0) (hfull : (LG.runs O).length ≠ 6) (er : Int) (hpe : pathErr caps.length path = er) (h0 : er ≠ 0) : (Code.cutc 0 lkY2 rest).wp Tryz.prog Q a W := by
  obtain ⟨x, rfl, hx⟩ := lk_open hst
  obtain ⟨e30, e31, e32, e33, e34, e29, e25, e26, e27, e28, e0, e1, e2, e3, e4, e5, e22, _⟩ := hx
  have HD := Lib.hid hd; have HP := Lib.hid hp
  clear hd hp
  have HQ := Lib.hid hQ
  have hun := hgd; have hun2 := hc6; have hun3 := HR
  clear hQ hun hun2 hun3
  have h6 := HS.out.T.ok.all
  obtain ⟨pb, po, A', c', l, rfl, hpb, hpc, hpl, hlk⟩ := HP.out.elem hk2
  have hpW : pb < W.heap.size := Nat.lt_of_lt_of_le hpb HS.out.bz
  have p1 : W.cell? ⟨pb, po + a2, none⟩ = some (.slice A' l.length c') := (HS.out.B.cell (p := ⟨pb, po + a2, none⟩) hpb).trans hpc
  have HL := Lib.hid hpl
  have hwb := HS.out.z
  have hgpb : gn + 1 ≠ pb := by omega
  obtain rfl : path = l := Option.some.inj (hpk.symm.trans hlk)
  clear hpc hpl hlk
  obtain ⟨n0, n1, nf0, nf1, nz⟩ := HN.out.two
  obtain ⟨x0, x1, xf0, xf1, xz⟩ := HX.out.two
  have HW : Hid ((decide (a2 < drops.length) = false) ∨ ∃ db do_ dv1, D = some ⟨db, do_, none⟩ ∧ a2 < drops.length ∧ decide (a2 < drops.length) = true ∧ W.cell? ⟨db, do_ + a2, none⟩ = some (.int .i64 dv1) ∧ decide (0 ≤ dv1) = false) := Lib.hid (by
    by_cases hdr : a2 < drops.length
    · obtain ⟨db, do_, e, hdb, hdc⟩ := ints_cell HD.out hdr
      exact .inr ⟨db, do_, _, e, hdr, decide_eq_true hdr, (HS.out.B.cell (p := ⟨db, do_ + a2, none⟩) hdb).trans hdc, decide_eq_false (by have := hnd hdr; omega)⟩
    · exact .inl (decide_eq_false hdr))
  have d6 : (((LG.runs O).length : Int) == 6) = false := beq_eq_false_iff_ne.2 (by omega)
  have d0 : (er == 0) = false := beq_eq_false_iff_ne.2 h0
  conv => arg 2; whnf
  rw [e30, e31, e32, e33, e34, e29, e25, e26, e27, e28, e0, e1, e2, e3, e4, e5, e22]
  clear e30 e31 e32 e33 e34 e29 e25 e26 e27 e28 e0 e1 e2 e3 e4 e5 e22
  rcases HW.out with dd0 | ⟨db, do_, dv1, rfl, dd00, dd0, c1, dd1⟩
  all_goals
    go_wp2_with fail
    refine (refPath_any caps.length A' c' path w.heap.size W (HL.out.below HS.out.B (Nat.le_refl _))).mono ?_; rintro e w2 ⟨rfl, dn, hw2⟩
    have hb2 : Below W.heap.size W w2 := by rw [hw2]; exact below_drewN (Below.refl _ _) dn
    rw [hpe]
    have HS2 := Lib.hid (HS.out.below hb2)
    have p2 : w2.cell? ⟨pb, po + a2, none⟩ = some (.slice A' path.length c') := (hb2.cell (p := ⟨pb, po + a2, none⟩) hpW).trans p1
    clear hw2 hb2
    go_wp2_with fail
    refine (keeps_add w2 w bl gl m d C' cc' caps C cc a2 O O O p bs safe left st cn cm dv HS2.out hi hc6 A' c' path (HL.out.below HS2.out.B (Nat.le_refl _)) er (by unfold addE; rw [if_neg (by decide), if_neg hfull]; exact hpe)).mono ?_; rintro e w8 ⟨r, O', p', bs', left', st', rfl, hS, hlv, hr⟩
    have HS8 := Lib.hid hS
    have HO8 : Hid (LkOut w8 bl gn C caps.length cc O O' p' bs bs' r er) := Lib.hid (by
      rcases hr with ⟨_, h, _⟩ | h
      · exact absurd h h0
      · exact .inr h)
    clear hS hlv hr
    go_wp2
    exact HQ.out _ _ r er O' p' bs' left' st' ⟨rfl, rfl, rfl, rfl, rfl, rfl, rfl, rfl, rfl, rfl, rfl, rfl, rfl, rfl, rfl, rfl, rfl, rfl, trivial⟩ HS8 HO8
set_option maxHeartbeats 8000000 in
set_option maxRecDepth 100000 in
theorem lk_add_ok (w : World) (C : Option Addr) (cc : Nat) (caps : List Int) (P : Option Addr) (cp : Nat) (paths : List (List Int)) (D : Option Addr) (cd : Nat) (drops : List Int) (Y : Option Addr) (cy : Nat) (syncs : List Int) (F : Option Addr) (cf : Nat) (fails : List Int) (K : Option Addr) (ck : Nat) (keeps : List Int) (C' : Option Addr) (cc' bl gl : Nat) (hd : Ints w w.heap.size D cd drops) (hp : Rows2 w w.heap.size P cp paths) (m d ro k a2 : Nat) (O : List LG.Op) (p : Option Nat) (bs : ByteArray) (safe : Nat) (left : Int) (st : Bool) (cn cm : Nat) (dv : List Value) (gn : Nat) (Pk : Option Addr) (ck2 : Nat) (a : Act) (W : World) (hst : FrS a 397 ((30, .pointer (some ⟨gn, 0, none⟩)) :: (31, .pointer (some ⟨gn + 1, 0, none⟩)) :: (32, .int .i64 0) :: (33, .int .i64 bs.size) :: (34, .nilIface) :: (29, .int .i64 k) :: lkR d m O.length cn cm a2 ro (lkS C caps.length cc P paths.length cp D drops.length cd Y syncs.length cy F fails.length cf K keeps.length ck gl))) (HS : Hid (Keeps W w bl gl m d C' cc' caps C cc a2 O O O p bs safe left st cn cm dv)) (hgd : d < gn) (hgl : bl ≤ gn) (HN : Hid (Blk W gn 42 #[.slice C caps.length cc, .slice Pk (LG.runs O).length ck2])) (HX : Hid (Blk W (gn + 1) 42 #[.slice C caps.length cc, .slice Pk (LG.runs O).length ck2])) (HR : Hid (RowsK W bl p Pk ck2 (LG.runs O))) (hi : a2 ≤ 1000) (hc6 : caps.length ≤ 6) (rest : Code) (Q : Exit → Act → World → Prop)
    (hQ : ∀ a' W' r e O' p' bs' left' st', FrS a' 397 ((31, .pointer (some ⟨gn + 1, 0, none⟩)) :: (32, .int .i64 e) :: (33, .int .i64 bs.size) :: (34, errVal r) :: (29, .int .i64 k) :: lkR d m O.length cn cm a2 ro (lkS C caps.length cc P paths.length cp D drops.length cd Y syncs.length cy F fails.length cf K keeps.length ck gl)) → Hid (Keeps W' w bl gl m d C' cc' caps C cc (a2 + 1) O' O O p' bs' safe left' st' cn cm dv) → Hid (LkOut W' bl gn C caps.length cc O O' p' bs bs' r e) → rest.wp Tryz.prog Q a' W') (path : List Int) (hk2 : a2 < paths.length) (hpk : paths[a2]? = some path) (hnd : ∀ h : a2 < drops.length, drops[a2] < 0) (hfull : (LG.runs O).length ≠ 6) (hpe : pathErr caps.length path = 0) : (Code.cutc 0 lkY2 rest).wp Tryz.prog Q a W := by
  obtain ⟨x, rfl, hx⟩ := lk_open hst
  obtain ⟨e30, e31, e32, e33, e34, e29, e25, e26, e27, e28, e0, e1, e2, e3, e4, e5, e22, _⟩ := hx
  have HD := Lib.hid hd; have HP := Lib.hid hp
  clear hd hp
  have HQ := Lib.hid hQ
  have hun := hgd; have hun2 := hc6; have hun3 := HR
  clear hQ hun hun2 hun3
  have h6 := HS.out.T.ok.all
  obtain ⟨pb, po, A', c', l, rfl, hpb, hpc, hpl, hlk⟩ := HP.out.elem hk2
  have hpW : pb < W.heap.size := Nat.lt_of_lt_of_le hpb HS.out.bz
  have p1 : W.cell? ⟨pb, po + a2, none⟩ = some (.slice A' l.length c') := (HS.out.B.cell (p := ⟨pb, po + a2, none⟩) hpb).trans hpc
  have HL := Lib.hid hpl
  have hwb := HS.out.z
  have hgpb : gn + 1 ≠ pb := by omega
  obtain rfl : path = l := Option.some.inj (hpk.symm.trans hlk)
  clear hpc hpl hlk
  obtain ⟨n0, n1, nf0, nf1, nz⟩ := HN.out.two
  obtain ⟨x0, x1, xf0, xf1, xz⟩ := HX.out.two
  have HW : Hid ((decide (a2 < drops.length) = false) ∨ ∃ db do_ dv1, D = some ⟨db, do_, none⟩ ∧ a2 < drops.length ∧ decide (a2 < drops.length) = true ∧ W.cell? ⟨db, do_ + a2, none⟩ = some (.int .i64 dv1) ∧ decide (0 ≤ dv1) = false) := Lib.hid (by
    by_cases hdr : a2 < drops.length
    · obtain ⟨db, do_, e, hdb, hdc⟩ := ints_cell HD.out hdr
      exact .inr ⟨db, do_, _, e, hdr, decide_eq_true hdr, (HS.out.B.cell (p := ⟨db, do_ + a2, none⟩) hdb).trans hdc, decide_eq_false (by have := hnd hdr; omega)⟩
    · exact .inl (decide_eq_false hdr))
  have d6 : (((LG.runs O).length : Int) == 6) = false := beq_eq_false_iff_ne.2 (by omega)
  conv => arg 2; whnf
  rw [e30, e31, e32, e33, e34, e29, e25, e26, e27, e28, e0, e1, e2, e3, e4, e5, e22]
  clear e30 e31 e32 e33 e34 e29 e25 e26 e27 e28 e0 e1 e2 e3 e4 e5 e22
  rcases HW.out with dd0 | ⟨db, do_, dv1, rfl, dd00, dd0, c1, dd1⟩
  all_goals
    go_wp2_with fail
    refine (refPath_any caps.length A' c' path w.heap.size W (HL.out.below HS.out.B (Nat.le_refl _))).mono ?_; rintro e w2 ⟨rfl, dn, hw2⟩
    have hb2 : Below W.heap.size W w2 := by rw [hw2]; exact below_drewN (Below.refl _ _) dn
    rw [hpe]
    have HS2 := Lib.hid (HS.out.below hb2)
    have HR2 := Lib.hid (HR.out.below hb2 HS.out.lz)
    have HX2 := Lib.hid (HX.out.go hb2)
    obtain ⟨m0, m1, mf0, mf1, mz⟩ := (HN.out.go hb2).two
    obtain ⟨v0, v1, vf0, vf1, vz⟩ := HX2.out.two
    have hpW2 : pb < w2.heap.size := Nat.lt_of_lt_of_le hpW hb2.size
    have p2 : w2.cell? ⟨pb, po + a2, none⟩ = some (.slice A' path.length c') := (hb2.cell (p := ⟨pb, po + a2, none⟩) hpW).trans p1
    clear hw2 hb2
    go_upto_region 44 with (fail)
    go_region_held3 (fun w' => w'.cell? ⟨gn, 0, none⟩ = some (.slice C caps.length cc) ∧ w'.cell? ⟨gn, 1, none⟩ = some (.slice Pk (LG.runs O).length ck2) ∧ w'.cell? ⟨pb, po + a2, none⟩ = some (.slice A' path.length c')) (go_keep)
      (first
        | (go_simp; go_at_call 22; refine (keeps_with _ w bl gl m d C' cc' caps C cc a2 O O O p bs safe left st cn cm dv HS2.out.drew Pk ck2 _ (HR2.out.drew HS2.out.lz) (by omega) A' c' path (HL.out.below HS2.out.drew.B (Nat.le_refl _))).mono ?_; rintro e w6 ⟨P1, cp1, rfl, hR, hb6⟩; have HB6 : Hid (Below w2.heap.size w2 w6) := Lib.hid ((Below.refl _ _).drew.trans hb6); have HR6 := Lib.hid hR; have y0 : w6.cell? ⟨gn, 0, none⟩ = some (.slice C caps.length cc) := (HB6.out.cell (p := ⟨gn, 0, none⟩) mz).trans m0; have y1 : w6.cell? ⟨gn, 1, none⟩ = some (.slice Pk (LG.runs O).length ck2) := (HB6.out.cell (p := ⟨gn, 1, none⟩) mz).trans m1; have y2 : w6.cell? ⟨pb, po + a2, none⟩ = some (.slice A' path.length c') := (HB6.out.cell (p := ⟨pb, po + a2, none⟩) hpW2).trans p2; obtain ⟨z0, z1, zf0, zf1, zz⟩ := (HX2.out.go HB6.out).two; clear hb6 hR; dsimp only))
    have HX6 := Lib.hid (HX2.out.go HB6.out)
    have HS7 := Lib.hid (((HS2.out.below HB6.out).box HX6.out (by omega) (by omega) 0 (.slice C caps.length cc)).box (HX6.out.s2_0 _) (by omega) (by omega) 1 (.slice P1 (LG.runs O ++ [path]).length cp1))
    have HX7 := Lib.hid ((HX6.out.s2_0 (.slice C caps.length cc)).s2_1 (.slice P1 (LG.runs O ++ [path]).length cp1))
    have HR7 := Lib.hid ((HR6.out.box HX6.out (by omega) 0 (.slice C caps.length cc)).box (HX6.out.s2_0 _) (by omega) 1 (.slice P1 (LG.runs O ++ [path]).length cp1))
    have c7 : ((w6.setCell ⟨gn + 1, 0, none⟩ (.slice C caps.length cc)).setCell ⟨gn + 1, 1, none⟩ (.slice P1 (LG.runs O ++ [path]).length cp1)).cell? ⟨pb, po + a2, none⟩ = some (.slice A' path.length c') := by
      rw [World.cell?_setCell_far _ _ _ _ hgpb, World.cell?_setCell_far _ _ _ _ hgpb]; exact y2
    have hlen : (LG.runs O ++ [path]).length = (LG.runs O).length + 1 := by simp
    rw [hlen] at HS7 HX7 c7
    obtain ⟨w7, hw7⟩ : ∃ x, x = (w6.setCell ⟨gn + 1, 0, none⟩ (.slice C caps.length cc)).setCell ⟨gn + 1, 1, none⟩ (.slice P1 ((LG.runs O).length + 1) cp1) := ⟨_, rfl⟩
    rw [← hw7] at HS7 HX7 c7 ⊢
    rw [hlen, ← hw7] at HR7
    clear hw7 HR6 HX6 HB6 y0 y1 y2 z0 z1 zf0 zf1 zz n0 n1 nf0 nf1 nz x0 x1 xf0 xf1 xz m0 m1 mf0 mf1 mz v0 v1 vf0 vf1 vz p1 p2
    go_wp2_with fail
    refine (keeps_add w7 w bl gl m d C' cc' caps C cc a2 O O O p bs safe left st cn cm dv HS7.out hi hc6 A' c' path (HL.out.below HS7.out.B (Nat.le_refl _)) 0 (by unfold addE; rw [if_neg (by decide), if_neg hfull]; exact hpe)).mono ?_; rintro e w8 ⟨r, O', p', bs', left', st', rfl, hS, hlv, hr⟩
    have HS8 := Lib.hid hS
    have HO8 : Hid (LkOut w8 bl gn C caps.length cc O O' p' bs bs' r 0) := Lib.hid (by
      rcases hr with ⟨h1, _, h3, h4, h5, h6⟩ | h
      · exact .inl ⟨h1, rfl, h4, h5, h6, P1, cp1, by rw [h3, hlen]; exact hlv.1 _ _ _ HX7.out (by decide) (by decide), by rw [h3]; exact hlv.2 _ _ _ HR7.out⟩
      · exact .inr h)
    clear hS hlv hr
    go_wp2
    exact HQ.out _ _ r 0 O' p' bs' left' st' ⟨rfl, rfl, rfl, rfl, rfl, rfl, rfl, rfl, rfl, rfl, rfl, rfl, rfl, rfl, rfl, rfl, rfl, rfl, trivial⟩ HS8 HO8
end Go.Proofs.YtaijpiebjhhkjaaGreatDoor
/- LogKeeps, the inner round: the errors told, and what is done and marked. -/
namespace Go.Proofs.YtaijpiebjhhkjaaGreatDoor
open Go.RowKit
set_option maxHeartbeats 8000000 in
set_option maxRecDepth 100000 in
theorem lk_done (w : World) (C : Option Addr) (cc : Nat) (caps : List Int) (P : Option Addr) (cp : Nat) (paths : List (List Int)) (D : Option Addr) (cd : Nat) (drops : List Int) (Y : Option Addr) (cy : Nat) (syncs : List Int) (F : Option Addr) (cf : Nat) (fails : List Int) (K : Option Addr) (ck : Nat) (keeps : List Int) (C' : Option Addr) (cc' bl gl : Nat) (m d ro k a2 : Nat) (O : List LG.Op) (p : Option Nat) (bs : ByteArray) (safe : Nat) (left : Int) (st : Bool) (cn cm : Nat) (dv : List Value) (gn : Nat) (O' : List LG.Op) (bs0 : ByteArray) (r e : Int) (a : Act) (W : World) (hst : FrS a 397 ((31, .pointer (some ⟨gn + 1, 0, none⟩)) :: (32, .int .i64 e) :: (33, .int .i64 bs0.size) :: (34, errVal r) :: (29, .int .i64 k) :: lkR d m O.length cn cm a2 ro (lkS C caps.length cc P paths.length cp D drops.length cd Y syncs.length cy F fails.length cf K keeps.length ck gl))) (HS : Hid (Keeps W w bl gl m d C' cc' caps C cc (a2 + 1) O' O O p bs safe left st cn cm dv)) (HO : Hid (LkOut W bl gn C caps.length cc O O' p bs0 bs r e)) (hb0 : bs0.size ≤ 100000) (hi : a2 ≤ 1000) (hgd : d < gn) (hg : LaidLog w) (rest : Code) (Q : Exit → Act → World → Prop)
    (hQ : ∀ a' W' O2 p2 bs2 left2 st2 m2 d2 cn2 cm2 dv2, FrS a' 397 ((29, .int .i64 k) :: lkR d2 m2 O2.length cn2 cm2 (a2 + 1) ro (lkS C caps.length cc P paths.length cp D drops.length cd Y syncs.length cy F fails.length cf K keeps.length ck gl)) → Hid (Keeps W' w bl gl m2 d2 C' cc' caps C cc (a2 + 1) O2 O2 O2 p2 bs2 safe left2 st2 cn2 cm2 dv2) → rest.wp Tryz.prog Q a' W') : (Code.cutc 4 lkY3 rest).wp Tryz.prog Q a W := by
  have HQ := Lib.hid hQ; have HG := Lib.hid hg
  have hun := hgd
  clear hQ hg hun
  rcases HO.out with ⟨rfl, rfl, ⟨o, rfl⟩, hf, hsz, P1, cp1, hX, hR⟩ | ⟨h0, rfl, hr⟩
  · rw [errVal_zero] at hst
    obtain ⟨x, rfl, hx⟩ := lk_open hst
    obtain ⟨e31, e32, e33, e34, e29, e25, e26, e27, e28, e0, e1, e2, e3, e4, e5, e22, _⟩ := hx
    have HX := Lib.hid hX; have HR := Lib.hid hR
    have hbz : bs.size = (LG.flat (O ++ [o])).length := by rw [← hf, bytes_len]
    have HBZ := Lib.hid hbz
    have hlen : (O ++ [o]).length = O.length + 1 := by simp
    have HLEN := Lib.hid hlen
    have hol : O.length ≤ 100000 := by have := HS.out.T.num; rw [hlen] at this; omega
    clear hX hR HO hf hbz hlen
    conv => arg 2; whnf; arg 2; whnf; arg 2; whnf; arg 2; whnf; arg 2; whnf
    rw [e31, e32, e33, e34, e29, e25, e26, e27, e28, e0, e1, e2, e3, e4, e5, e22]
    clear e31 e32 e33 e34 e29 e25 e26 e27 e28 e0 e1 e2 e3 e4 e5 e22
    go_wp2_with fail
    refine (same_nil 6 W).mono ?_; rintro e w2 ⟨rfl, hb⟩
    have HS2 := Lib.hid (HS.out.below hb); have HX2 := Lib.hid (HX.out.go hb); have HR2 := Lib.hid (HR.out.below hb HS.out.lz)
    clear hb HS HX HR
    go_wp2_with fail
    refine (same_ok w2).mono ?_; rintro e w3 ⟨rfl, hb⟩
    have HS3 := Lib.hid (HS2.out.below hb); have HX3 := Lib.hid (HX2.out.go hb); have HR3 := Lib.hid (HR2.out.below hb HS2.out.lz)
    clear hb HS2 HX2 HR2
    go_wp2_with fail
    refine (keeps_bytes w3 w bl gl m d C' cc' caps C cc (a2 + 1) (O ++ [o]) O O p bs safe left st cn cm dv HS3.out).mono ?_; rintro e w4 ⟨rfl, hS, hb⟩
    have HS4 := Lib.hid hS; have HX4 := Lib.hid (HX3.out.go hb); have HR4 := Lib.hid (HR3.out.below hb HS3.out.lz)
    clear hb hS HS3 HX3 HR3
    have dlt : decide (bs.size < bs0.size + 2) = false := decide_eq_false (by omega)
    have hlz := HS4.out.lz
    obtain ⟨x0, x1, xf0, xf1, xz⟩ := HX4.out.two
    go_upto_region 55 with (at_builtin; refine wpList_pushL w4 #[.slice C caps.length cc, .slice P1 (LG.runs (O ++ [o])).length cp1] rfl (.tmp 267) (.tmp 269) 43 rfl bl 42 (.agg #[.slice none 0 0, .slice none 0 0]) 2 48 Tryz.underlying43 Tryz.info_net rfl (by omega) _ _ _ rfl HS4.out.D.own rfl rfl (by simp [Value.oneCell']) (by omega) (by decide) hlz ?_; intro d2 cn2 w5 hown5 hg5 _ _; have HS5 := Lib.hid (HS4.out.pushD o HR4.out rfl hown5 hg5); clear hown5 hg5 x0 x1 xf0 xf1 xz)
    clear HS4 HX4 HR4 dlt hlz
    go_wp2_with fail
    refine (keeps_bytes w5 w bl gl m d2 C' cc' caps C cc (a2 + 1) (O ++ [o]) (O ++ [o]) O p bs safe left st cn2 cm _ HS5.out).mono ?_; rintro e w6 ⟨rfl, hS, _⟩
    have HS6 := Lib.hid hS
    clear hS HS5
    have hlz := HS6.out.lz
    go_wp2_with (at_builtin; refine wpList_pushL w6 #[.int .i64 bs.size] rfl (.tmp 271) (.tmp 274) 22 rfl bl 3 (.int .i64 0) 1 8 Tryz.underlying22 Tryz.info_int rfl (by omega) _ _ _ rfl (show w6.ownsRow bl 3 1 _ _ _ from HS6.out.M) rfl rfl (by simp [Value.oneCell']) (by omega) (by decide) hlz ?_; intro m2 cm2 w7 hown7 hg7 hat7 hlt7; have HS7 := Lib.hid (HS6.out.pushM o (congrArg Int.ofNat HBZ.out) hown7 hg7 hat7 hlt7); clear hown7 hg7 hat7 hlt7)
    rw [← HLEN.out]
    exact HQ.out _ _ (O ++ [o]) p bs left st m2 d2 cn2 cm2 _ ⟨rfl, rfl, rfl, rfl, rfl, rfl, rfl, rfl, rfl, rfl, rfl, rfl, rfl, rfl, trivial⟩ HS7
  · rw [errVal_pos h0] at hst
    obtain ⟨x, rfl, hx⟩ := lk_open hst
    obtain ⟨e31, e32, e33, e34, e29, e25, e26, e27, e28, e0, e1, e2, e3, e4, e5, e22, _⟩ := hx
    have h1 : (if r = 6 then True else r = e) := by split; trivial; rcases hr with h | h; contradiction; exact h
    clear hr HO
    conv => arg 2; whnf; arg 2; whnf; arg 2; whnf; arg 2; whnf; arg 2; whnf
    rw [e31, e32, e33, e34, e29, e25, e26, e27, e28, e0, e1, e2, e3, e4, e5, e22]
    clear e31 e32 e33 e34 e29 e25 e26 e27 e28 e0 e1 e2 e3 e4 e5 e22
    go_wp2_with fail
    refine (same_err r 6 W (HG.out.laid.below HS.out.B)).mono ?_; rintro e' w2 ⟨rfl, hb⟩
    have HS2 := Lib.hid (HS.out.below hb)
    clear hb HS
    go_wp2_with fail
    refine (same_err r e w2 (HG.out.laid.below HS2.out.B)).mono ?_; rintro e' w3 ⟨rfl, hb⟩
    have HS3 := Lib.hid (HS2.out.below hb)
    clear hb HS2
    by_cases h6 : r = 6
    · have d6 : (r == 6) = true := by rw [h6]; rfl
      clear h1
      go_wp2
      exact HQ.out _ _ O' p bs left st m d cn cm dv ⟨rfl, rfl, rfl, rfl, rfl, rfl, rfl, rfl, rfl, rfl, rfl, rfl, rfl, rfl, trivial⟩ HS3
    · have d6 : (r == 6) = false := beq_eq_false_iff_ne.2 h6
      rw [if_neg h6] at h1
      have d7 : (r == e) = true := by rw [h1]; exact beq_self_eq_true e
      go_wp2
      exact HQ.out _ _ O' p bs left st m d cn cm dv ⟨rfl, rfl, rfl, rfl, rfl, rfl, rfl, rfl, rfl, rfl, rfl, rfl, rfl, rfl, trivial⟩ HS3
set_option maxHeartbeats 8000000 in
set_option maxRecDepth 100000 in
theorem lk_check (w : World) (C : Option Addr) (cc : Nat) (caps : List Int) (P : Option Addr) (cp : Nat) (paths : List (List Int)) (D : Option Addr) (cd : Nat) (drops : List Int) (Y : Option Addr) (cy : Nat) (syncs : List Int) (F : Option Addr) (cf : Nat) (fails : List Int) (K : Option Addr) (ck : Nat) (keeps : List Int) (C' : Option Addr) (cc' bl gl : Nat) (m d ro k a2 : Nat) (O : List LG.Op) (p : Option Nat) (bs : ByteArray) (safe : Nat) (left : Int) (st : Bool) (cn cm : Nat) (dv : List Value) (a : Act) (W : World) (hst : FrS a 397 ((29, .int .i64 k) :: lkR d m O.length cn cm a2 ro (lkS C caps.length cc P paths.length cp D drops.length cd Y syncs.length cy F fails.length cf K keeps.length ck gl))) (HS : Hid (Keeps W w bl gl m d C' cc' caps C cc a2 O O O p bs safe left st cn cm dv)) (hi : a2 ≤ 1000) (hc6 : caps.length ≤ 6) (Q : Exit → Act → World → Prop)
    (hQ : ∀ a' W', FrS a' 397 ((29, .int .i64 k) :: lkR d m O.length cn cm a2 ro (lkS C caps.length cc P paths.length cp D drops.length cd Y syncs.length cy F fails.length cf K keeps.length ck gl)) → Hid (Keeps W' w bl gl m d C' cc' caps C cc a2 O O O p bs safe left st cn cm dv) → Q .normal a' W') : (Code.dr 4 lkY3).wp Tryz.prog Q a W := by
  obtain ⟨x, rfl, hx⟩ := lk_open hst
  obtain ⟨e29, e25, e26, e27, e28, e0, e1, e2, e3, e4, e5, e22, _⟩ := hx
  have HQ := Lib.hid hQ
  clear hQ
  obtain ⟨Pz, cz, l0, l1, hRz⟩ := HS.out.D.last
  obtain ⟨q1, q2, q3⟩ := HS.out.D.room
  have hol : O.length ≤ 1000 := by have := HS.out.T.num; omega
  have HRZ := Lib.hid hRz
  have hlz := HS.out.lz
  clear hRz l0
  have fw : IntKind.i64.wrap ((O.length : Int) + 1 - 1) = (O.length : Int) := by rw [Int.add_sub_cancel]; exact IntWalk.i64_in _ (by omega)
  have fw2 : IntKind.i64.wrap (O.length : Int) = (O.length : Int) := IntWalk.i64_in _ (by omega)
  have fa : (0 : Int) ≤ (O.length : Int) := by omega
  have fb : (O.length : Int) < (O.length : Int) + 1 := by omega
  have fc : O.length < O.length + 1 := by omega
  have fd : (O.length : Int) ≤ (O.length : Int) + 1 := by omega
  conv => arg 2; whnf
  rw [e29, e25, e26, e27, e28, e0, e1, e2, e3, e4, e5, e22]
  clear e29 e25 e26 e27 e28 e0 e1 e2 e3 e4 e5 e22
  go_upto_region 56 with (fail)
  go_region_held3 (fun w' => w'.cell? ⟨d, O.length * 2 + 1, none⟩ = some (.slice Pz (LG.runs O).length cz)) (go_keep)
    (first
      | (go_simp; go_at_call 12; refine (keeps_paths _ w bl gl m d C' cc' caps C cc a2 O O O p bs safe left st cn cm dv HS.out.drew hc6).mono ?_; rintro e w4 ⟨P4, cp4, rfl, hr4, hS, hb4⟩; have HB4 : Hid (Below W.heap.size W w4) := Lib.hid ((Below.refl _ _).drew.trans hb4); have HS4 := Lib.hid hS; have HP4 := Lib.hid hr4; have y1 : w4.cell? ⟨d, O.length * 2 + 1, none⟩ = some (.slice Pz (LG.runs O).length cz) := (HB4.out.cell (p := ⟨d, O.length * 2 + 1, none⟩) q3).trans l1; clear hb4 hS hr4; dsimp only)
      | (go_simp; go_at_call 23; refine (sameLists_n P4 Pz cp4 cz _ _ (LG.runs O) _ _ w4 HP4.out ((HRZ.out.below HB4.out hlz).rows HS4.out.lz) rfl rfl).mono ?_; rintro e w5 ⟨rfl, hb5⟩; have HB5 : Hid (Below w4.heap.size w4 w5) := Lib.hid hb5; have y5 : w5.cell? ⟨d, O.length * 2 + 1, none⟩ = some (.slice Pz (LG.runs O).length cz) := (HB5.out.cell (p := ⟨d, O.length * 2 + 1, none⟩) (Nat.lt_of_lt_of_le q3 HB4.out.size)).trans y1; clear hb5; dsimp only))
  all_goals
    have HS5 := Lib.hid (HS4.out.below HB5.out)
    go_wp2
    exact HQ.out _ _ ⟨rfl, rfl, rfl, rfl, rfl, rfl, rfl, rfl, rfl, rfl, rfl, rfl, rfl, rfl, trivial⟩ HS5
end Go.Proofs.YtaijpiebjhhkjaaGreatDoor
/- LogKeeps: the inner loop. -/
namespace Go.Proofs.YtaijpiebjhhkjaaGreatDoor
open Go.RowKit
set_option maxHeartbeats 8000000 in
set_option maxRecDepth 100000 in
theorem lk_head_yes (C : Option Addr) (cc : Nat) (caps : List Int) (P : Option Addr) (cp : Nat) (paths : List (List Int)) (D : Option Addr) (cd : Nat) (drops : List Int) (Y : Option Addr) (cy : Nat) (syncs : List Int) (F : Option Addr) (cf : Nat) (fails : List Int) (K : Option Addr) (ck : Nat) (keeps : List Int) (gl : Nat) (m d ro k a2 n cn cm : Nat) (a : Act) (W : World) (hst : FrS a 397 ((29, .int .i64 k) :: lkR d m n cn cm a2 ro (lkS C caps.length cc P paths.length cp D drops.length cd Y syncs.length cy F fails.length cf K keeps.length ck gl))) (hk1 : k < 10) (hk2 : a2 < paths.length) (rest : Code) (Q : Exit → Act → World → Prop) (hQ : ∀ a', FrS a' 397 ((29, .int .i64 k) :: lkR d m n cn cm a2 ro (lkS C caps.length cc P paths.length cp D drops.length cd Y syncs.length cy F fails.length cf K keeps.length ck gl)) → rest.wp Tryz.prog Q a' W) : (Code.cutc 0 lk2 rest).wp Tryz.prog Q a W := by
  obtain ⟨x, rfl, hx⟩ := lk_open hst
  obtain ⟨e29, e25, e26, e27, e28, e0, e1, e2, e3, e4, e5, e22, _⟩ := hx
  have HQ := Lib.hid hQ
  clear hQ
  have d1 : decide (k < 10) = true := decide_eq_true hk1
  have d2 : decide (a2 < paths.length) = true := decide_eq_true hk2
  conv => arg 2; whnf
  rw [e29, e25, e26, e27, e28, e0, e1, e2, e3, e4, e5, e22]
  clear e29 e25 e26 e27 e28 e0 e1 e2 e3 e4 e5 e22
  go_wp2
  exact HQ.out _ ⟨rfl, rfl, rfl, rfl, rfl, rfl, rfl, rfl, rfl, rfl, rfl, rfl, rfl, rfl, trivial⟩
set_option maxHeartbeats 8000000 in
set_option maxRecDepth 100000 in
theorem lk_head_no (C : Option Addr) (cc : Nat) (caps : List Int) (P : Option Addr) (cp : Nat) (paths : List (List Int)) (D : Option Addr) (cd : Nat) (drops : List Int) (Y : Option Addr) (cy : Nat) (syncs : List Int) (F : Option Addr) (cf : Nat) (fails : List Int) (K : Option Addr) (ck : Nat) (keeps : List Int) (gl : Nat) (m d ro k a2 n cn cm : Nat) (a : Act) (W : World) (hst : FrS a 397 ((29, .int .i64 k) :: lkR d m n cn cm a2 ro (lkS C caps.length cc P paths.length cp D drops.length cd Y syncs.length cy F fails.length cf K keeps.length ck gl))) (hk : ¬ (k < 10 ∧ a2 < paths.length)) (rest : Code) (Q : Exit → Act → World → Prop) (hQ : ∀ a', FrS a' 397 ((29, .int .i64 k) :: lkR d m n cn cm a2 ro (lkS C caps.length cc P paths.length cp D drops.length cd Y syncs.length cy F fails.length cf K keeps.length ck gl)) → Q (.exit 2) a' W) : (Code.cutc 0 lk2 rest).wp Tryz.prog Q a W := by
  obtain ⟨x, rfl, hx⟩ := lk_open hst
  obtain ⟨e29, e25, e26, e27, e28, e0, e1, e2, e3, e4, e5, e22, _⟩ := hx
  have HQ := Lib.hid hQ
  clear hQ
  conv => arg 2; whnf
  rw [e29, e25, e26, e27, e28, e0, e1, e2, e3, e4, e5, e22]
  clear e29 e25 e26 e27 e28 e0 e1 e2 e3 e4 e5 e22
  by_cases hk1 : k < 10
  · have d1 : decide (k < 10) = true := decide_eq_true hk1
    have d2 : decide (a2 < paths.length) = false := decide_eq_false fun h => hk ⟨hk1, h⟩
    go_wp2
    exact HQ.out _ ⟨rfl, rfl, rfl, rfl, rfl, rfl, rfl, rfl, rfl, rfl, rfl, rfl, rfl, rfl, trivial⟩
  · have d1 : decide (k < 10) = false := decide_eq_false hk1
    go_wp2
    exact HQ.out _ ⟨rfl, rfl, rfl, rfl, rfl, rfl, rfl, rfl, rfl, rfl, rfl, rfl, rfl, rfl, trivial⟩
set_option maxHeartbeats 8000000 in
set_option maxRecDepth 100000 in
theorem lk_next (C : Option Addr) (cc : Nat) (caps : List Int) (P : Option Addr) (cp : Nat) (paths : List (List Int)) (D : Option Addr) (cd : Nat) (drops : List Int) (Y : Option Addr) (cy : Nat) (syncs : List Int) (F : Option Addr) (cf : Nat) (fails : List Int) (K : Option Addr) (ck : Nat) (keeps : List Int) (gl : Nat) (m d ro k a2 n cn cm : Nat) (a : Act) (W : World) (hst : FrS a 397 ((29, .int .i64 k) :: lkR d m n cn cm a2 ro (lkS C caps.length cc P paths.length cp D drops.length cd Y syncs.length cy F fails.length cf K keeps.length ck gl))) (hk : k ≤ 100) (Q : Exit → Act → World → Prop) (hQ : ∀ a', FrS a' 397 ((29, .int .i64 ((k + 1 : Nat) : Int)) :: lkR d m n cn cm a2 ro (lkS C caps.length cc P paths.length cp D drops.length cd Y syncs.length cy F fails.length cf K keeps.length ck gl)) → Q .normal a' W) : (Code.at' [1, 1] lk2).wp Tryz.prog Q a W := by
  obtain ⟨x, rfl, hx⟩ := lk_open hst
  obtain ⟨e29, e25, e26, e27, e28, e0, e1, e2, e3, e4, e5, e22, _⟩ := hx
  have HQ := Lib.hid hQ
  clear hQ
  conv => arg 2; whnf
  rw [e29, e25, e26, e27, e28, e0, e1, e2, e3, e4, e5, e22]
  clear e29 e25 e26 e27 e28 e0 e1 e2 e3 e4 e5 e22
  go_wp2
  exact HQ.out _ ⟨rfl, rfl, rfl, rfl, rfl, rfl, rfl, rfl, rfl, rfl, rfl, rfl, rfl, rfl, trivial⟩
def lkI2 (w : World) (C : Option Addr) (cc : Nat) (caps : List Int) (P : Option Addr) (cp : Nat) (paths : List (List Int)) (D : Option Addr) (cd : Nat) (drops : List Int) (Y : Option Addr) (cy : Nat) (syncs : List Int) (F : Option Addr) (cf : Nat) (fails : List Int) (K : Option Addr) (ck : Nat) (keeps : List Int) (C' : Option Addr) (cc' bl gl : Nat) (ro : Nat) (a : Act) (W : World) : Prop := ∃ (m d k a2 : Nat) (O : List LG.Op) (p : Option Nat) (bs : ByteArray) (safe : Nat) (left : Int) (st : Bool) (cn cm : Nat) (dv : List Value), k ≤ 10 ∧ a2 ≤ 10 * ro + k ∧ FrS a 397 ((29, .int .i64 k) :: lkR d m O.length cn cm a2 ro (lkS C caps.length cc P paths.length cp D drops.length cd Y syncs.length cy F fails.length cf K keeps.length ck gl)) ∧ Hid (Keeps W w bl gl m d C' cc' caps C cc a2 O O O p bs safe left st cn cm dv)
noncomputable def lkM2 (a : Act) (_ : World) : Nat := 10 - (intOf ((a.tmps[29]?).getD undef)).toNat
theorem lkM2_is {a : Act} {l : List (Nat × Value)} {k : Nat} (h : FrS a 397 ((29, .int .i64 (k : Int)) :: l)) (W : World) : lkM2 a W = 10 - k := by
  have := h.2.2.1
  simp [lkM2, this, intOf]
set_option maxHeartbeats 8000000 in
set_option maxRecDepth 100000 in
theorem lk_round2 (w : World) (C : Option Addr) (cc : Nat) (caps : List Int) (P : Option Addr) (cp : Nat) (paths : List (List Int)) (D : Option Addr) (cd : Nat) (drops : List Int) (Y : Option Addr) (cy : Nat) (syncs : List Int) (F : Option Addr) (cf : Nat) (fails : List Int) (K : Option Addr) (ck : Nat) (keeps : List Int) (C' : Option Addr) (cc' bl gl : Nat) (hd : Ints w w.heap.size D cd drops) (hp : Rows2 w w.heap.size P cp paths) (hy : Ints w w.heap.size Y cy syncs) (hc6 : caps.length ≤ 6) (hg : LaidLog w) (ro : Nat) (hro : ro ≤ 4) (a : Act) (W : World) (hI : lkI2 w C cc caps P cp paths D cd drops Y cy syncs F cf fails K ck keeps C' cc' bl gl ro a W) (Q : Exit → Act → World → Prop) (hx : ∀ a' W', lkI2 w C cc caps P cp paths D cd drops Y cy syncs F cf fails K ck keeps C' cc' bl gl ro a' W' → Q (.exit 2) a' W') : lk2.wp Tryz.prog (Exit.then (fun a' W' => lkI2 w C cc caps P cp paths D cd drops Y cy syncs F cf fails K ck keeps C' cc' bl gl ro a' W' ∧ lkM2 a' W' < lkM2 a W) Q) a W := by
  obtain ⟨m, d, k, a2, O, p, bs, safe, left, st, cn, cm, dv, hk, ha2, hst, HS⟩ := hI
  by_cases hin : k < 10 ∧ a2 < paths.length
  · obtain ⟨hk1, hk2⟩ := hin
    have hmu := lkM2_is hst W
    refine wp_cutc 0 lk2 rfl (lk_head_yes C cc caps P cp paths D cd drops Y cy syncs F cf fails K ck keeps gl m d ro k a2 O.length cn cm a W hst hk1 hk2 _ _ fun a1 hst1 => ?_)
    refine wp_seq (wp_block (wp_cutc 0 lkX2 rfl ?_))
    refine lk_sync w C cc caps P cp paths D cd drops Y cy syncs F cf fails K ck keeps C' cc' bl gl hy m d ro k a2 O p bs safe left st cn cm dv a1 W hst1 HS (by omega) _ _ fun a2_ W2 safe2 left2 st2 hst2 HS2 => ?_
    refine wp_cutc 4 lkY1 rfl (lk_boxes w C cc caps P cp paths D cd drops Y cy syncs F cf fails K ck keeps C' cc' bl gl m d ro k a2 O p bs safe2 left2 st2 cn cm dv a2_ W2 hst2 HS2 (by have := HS2.out.T.num; omega) _ _ fun a3 W3 gn Pk ck2 hst3 HS3 hgd hgl HN HX HR => ?_)
    have hbs : bs.size ≤ 100000 := by have := HS3.out.T.len; omega
    have fin : ∀ a4 W4 r e O' p' bs' left' st', FrS a4 397 ((31, .pointer (some ⟨gn + 1, 0, none⟩)) :: (32, .int .i64 e) :: (33, .int .i64 bs.size) :: (34, errVal r) :: (29, .int .i64 k) :: lkR d m O.length cn cm a2 ro (lkS C caps.length cc P paths.length cp D drops.length cd Y syncs.length cy F fails.length cf K keeps.length ck gl)) → Hid (Keeps W4 w bl gl m d C' cc' caps C cc (a2 + 1) O' O O p' bs' safe2 left' st' cn cm dv) → Hid (LkOut W4 bl gn C caps.length cc O O' p' bs bs' r e) → lkY3.wp Tryz.prog (Exit.inBlock 3 (Exit.then ((Code.at' [1, 1] lk2).wp Tryz.prog (Exit.then (fun a' W' => lkI2 w C cc caps P cp paths D cd drops Y cy syncs F cf fails K ck keeps C' cc' bl gl ro a' W' ∧ lkM2 a' W' < lkM2 a W) Q)) (Exit.then (fun a' W' => lkI2 w C cc caps P cp paths D cd drops Y cy syncs F cf fails K ck keeps C' cc' bl gl ro a' W' ∧ lkM2 a' W' < lkM2 a W) Q))) a4 W4 := by
      intro a4 W4 r e O' p' bs' left' st' hst4 HS4 HO4
      refine wp_cutc 4 lkY3 rfl (lk_done w C cc caps P cp paths D cd drops Y cy syncs F cf fails K ck keeps C' cc' bl gl m d ro k a2 O p' bs' safe2 left' st' cn cm dv gn O' bs r e a4 W4 hst4 HS4 HO4 hbs (by omega) hgd hg _ _ fun a5 W5 O2 p2 bs2 left3 st3 m2 d2 cn2 cm2 dv2 hst5 HS5 => ?_)
      refine lk_check w C cc caps P cp paths D cd drops Y cy syncs F cf fails K ck keeps C' cc' bl gl m2 d2 ro k (a2 + 1) O2 p2 bs2 safe2 left3 st3 cn2 cm2 dv2 a5 W5 hst5 HS5 (by omega) hc6 _ fun a6 W6 hst6 HS6 => ?_
      refine lk_next C cc caps P cp paths D cd drops Y cy syncs F cf fails K ck keeps gl m2 d2 ro k (a2 + 1) O2.length cn2 cm2 a6 W6 hst6 (by omega) _ fun a7 hst7 => ?_
      exact ⟨⟨m2, d2, k + 1, a2 + 1, O2, p2, bs2, safe2, left3, st3, cn2, cm2, dv2, by omega, by omega, hst7, HS6⟩, by rw [lkM2_is hst7, hmu]; omega⟩
    have hpk := List.getElem?_eq_getElem hk2
    refine wp_cutc 0 lkY2 rfl ?_
    by_cases hdr : ∃ (h : a2 < drops.length), 0 ≤ drops[a2]
    · obtain ⟨h1, h2⟩ := hdr
      obtain ⟨f, hf⟩ : ∃ f : Nat, drops[a2] = (f : Int) := ⟨drops[a2].toNat, by omega⟩
      by_cases hbad : (LG.runs O).length ≤ f
      · exact lk_drop_bad w C cc caps P cp paths D cd drops Y cy syncs F cf fails K ck keeps C' cc' bl gl hd m d ro k a2 O p bs safe2 left2 st2 cn cm dv gn Pk ck2 a3 W3 hst3 HS3 hgd hgl HN HX HR (by omega) hc6 _ _ fin f h1 hf hbad
      · exact lk_drop_ok w C cc caps P cp paths D cd drops Y cy syncs F cf fails K ck keeps C' cc' bl gl hd m d ro k a2 O p bs safe2 left2 st2 cn cm dv gn Pk ck2 a3 W3 hst3 HS3 hgd hgl HN HX HR (by omega) hc6 _ _ fin f h1 hf (by omega)
    · have hnd : ∀ h : a2 < drops.length, drops[a2] < 0 := fun h => Int.not_le.1 fun h' => hdr ⟨h, h'⟩
      by_cases hfull : (LG.runs O).length = 6
      · exact lk_add_full w C cc caps P cp paths D cd drops Y cy syncs F cf fails K ck keeps C' cc' bl gl hd hp m d ro k a2 O p bs safe2 left2 st2 cn cm dv gn Pk ck2 a3 W3 hst3 HS3 hgd hgl HN HX HR (by omega) hc6 _ _ fin _ hk2 hpk hnd hfull
      · by_cases hpe : pathErr caps.length paths[a2] = 0
        · exact lk_add_ok w C cc caps P cp paths D cd drops Y cy syncs F cf fails K ck keeps C' cc' bl gl hd hp m d ro k a2 O p bs safe2 left2 st2 cn cm dv gn Pk ck2 a3 W3 hst3 HS3 hgd hgl HN HX HR (by omega) hc6 _ _ fin _ hk2 hpk hnd hfull hpe
        · exact lk_add_bad w C cc caps P cp paths D cd drops Y cy syncs F cf fails K ck keeps C' cc' bl gl hd hp m d ro k a2 O p bs safe2 left2 st2 cn cm dv gn Pk ck2 a3 W3 hst3 HS3 hgd hgl HN HX HR (by omega) hc6 _ _ fin _ hk2 hpk hnd hfull _ rfl hpe
  · refine wp_cutc 0 lk2 rfl (lk_head_no C cc caps P cp paths D cd drops Y cy syncs F cf fails K ck keeps gl m d ro k a2 O.length cn cm a W hst hin _ _ fun a1 hst1 => ?_)
    exact hx a1 W ⟨m, d, k, a2, O, p, bs, safe, left, st, cn, cm, dv, hk, ha2, hst1, HS⟩
theorem lk_loop2 (w : World) (C : Option Addr) (cc : Nat) (caps : List Int) (P : Option Addr) (cp : Nat) (paths : List (List Int)) (D : Option Addr) (cd : Nat) (drops : List Int) (Y : Option Addr) (cy : Nat) (syncs : List Int) (F : Option Addr) (cf : Nat) (fails : List Int) (K : Option Addr) (ck : Nat) (keeps : List Int) (C' : Option Addr) (cc' bl gl : Nat) (hd : Ints w w.heap.size D cd drops) (hp : Rows2 w w.heap.size P cp paths) (hy : Ints w w.heap.size Y cy syncs) (hc6 : caps.length ≤ 6) (hg : LaidLog w) (ro : Nat) (hro : ro ≤ 4) (a : Act) (W : World) (hI : lkI2 w C cc caps P cp paths D cd drops Y cy syncs F cf fails K ck keeps C' cc' bl gl ro a W) (Q : Exit → Act → World → Prop) (hx : ∀ a' W', lkI2 w C cc caps P cp paths D cd drops Y cy syncs F cf fails K ck keeps C' cc' bl gl ro a' W' → Q (.exit 2) a' W') : (Code.loop lk2).wp Tryz.prog Q a W :=
  wp_loop (lkI2 w C cc caps P cp paths D cd drops Y cy syncs F cf fails K ck keeps C' cc' bl gl ro) lkM2 hI fun a W h => lk_round2 w C cc caps P cp paths D cd drops Y cy syncs F cf fails K ck keeps C' cc' bl gl hd hp hy hc6 hg ro hro a W h Q hx
end Go.Proofs.YtaijpiebjhhkjaaGreatDoor
/- LogKeeps: the outer round up to the crash. -/
namespace Go.Proofs.YtaijpiebjhhkjaaGreatDoor
open Go.RowKit
set_option maxHeartbeats 8000000 in
set_option maxRecDepth 100000 in
theorem lk_fail (w : World) (C : Option Addr) (cc : Nat) (caps : List Int) (P : Option Addr) (cp : Nat) (paths : List (List Int)) (D : Option Addr) (cd : Nat) (drops : List Int) (Y : Option Addr) (cy : Nat) (syncs : List Int) (F : Option Addr) (cf : Nat) (fails : List Int) (K : Option Addr) (ck : Nat) (keeps : List Int) (C' : Option Addr) (cc' bl gl : Nat) (hf : Ints w w.heap.size F cf fails) (hfw : ∀ n ∈ fails, (Lit.int .i64 n).wf = true) (m d ro a2 : Nat) (O : List LG.Op) (p : Option Nat) (bs : ByteArray) (safe : Nat) (left : Int) (st : Bool) (cn cm : Nat) (dv : List Value) (a : Act) (W : World) (hst : FrS a 397 (lkR d m O.length cn cm a2 ro (lkS C caps.length cc P paths.length cp D drops.length cd Y syncs.length cy F fails.length cf K keeps.length ck gl))) (HS : Hid (Keeps W w bl gl m d C' cc' caps C cc a2 O O O p bs safe left st cn cm dv)) (rest : Code) (Q : Exit → Act → World → Prop)
    (hQ : ∀ a' W' left', FrS a' 397 (lkR d m O.length cn cm a2 ro (lkS C caps.length cc P paths.length cp D drops.length cd Y syncs.length cy F fails.length cf K keeps.length ck gl)) → Hid (Keeps W' w bl gl m d C' cc' caps C cc a2 O O O p bs safe left' st cn cm dv) → rest.wp Tryz.prog Q a' W') : (Code.cutc 0 lkX1 rest).wp Tryz.prog Q a W := by
  obtain ⟨x, rfl, hx⟩ := lk_open hst
  obtain ⟨e25, e26, e27, e28, e0, e1, e2, e3, e4, e5, e22, _⟩ := hx
  have HF := Lib.hid hf; have HQ := Lib.hid hQ; have HFW := Lib.hid hfw
  clear hf hQ hfw
  conv => arg 2; whnf
  rw [e25, e26, e27, e28, e0, e1, e2, e3, e4, e5, e22]
  clear e25 e26 e27 e28 e0 e1 e2 e3 e4 e5 e22
  by_cases hfl : ro < fails.length
  · obtain ⟨fb, fo, rfl, hfb, hfc⟩ := ints_cell HF.out hfl
    have hwf : fails[ro] ≤ 9223372036854775807 := by
      have := HFW.out _ (List.getElem_mem hfl)
      simp [Lit.wf] at this
      exact this.2
    have c1 : W.cell? ⟨fb, fo + ro, none⟩ = some (.int .i64 fails[ro]) := (HS.out.B.cell (p := ⟨fb, fo + ro, none⟩) hfb).trans hfc
    clear hfc
    generalize fails[ro] = fv at hwf c1
    have d1 : decide (ro < fails.length) = true := decide_eq_true hfl
    go_wp2_with fail
    refine (keeps_fail W w bl gl m d C' cc' caps C cc a2 O O O p bs safe left st cn cm dv HS.out fv hwf).mono ?_; rintro e w2 ⟨rfl, left', hS⟩
    have HS2 := Lib.hid hS
    clear hS c1
    go_wp2
    exact HQ.out _ _ _ ⟨rfl, rfl, rfl, rfl, rfl, rfl, rfl, rfl, rfl, rfl, rfl, rfl, rfl, trivial⟩ HS2
  · have d1 : decide (ro < fails.length) = false := decide_eq_false hfl
    go_wp2
    exact HQ.out _ _ _ ⟨rfl, rfl, rfl, rfl, rfl, rfl, rfl, rfl, rfl, rfl, rfl, rfl, rfl, trivial⟩ HS
set_option maxHeartbeats 8000000 in
set_option maxRecDepth 100000 in
theorem lk_zero (C : Option Addr) (cc : Nat) (caps : List Int) (P : Option Addr) (cp : Nat) (paths : List (List Int)) (D : Option Addr) (cd : Nat) (drops : List Int) (Y : Option Addr) (cy : Nat) (syncs : List Int) (F : Option Addr) (cf : Nat) (fails : List Int) (K : Option Addr) (ck : Nat) (keeps : List Int) (gl : Nat) (m d ro a2 n cn cm : Nat) (a : Act) (W : World) (hst : FrS a 397 (lkR d m n cn cm a2 ro (lkS C caps.length cc P paths.length cp D drops.length cd Y syncs.length cy F fails.length cf K keeps.length ck gl))) (Q : Exit → Act → World → Prop) (hQ : ∀ a', FrS a' 397 ((29, .int .i64 ((0 : Nat) : Int)) :: lkR d m n cn cm a2 ro (lkS C caps.length cc P paths.length cp D drops.length cd Y syncs.length cy F fails.length cf K keeps.length ck gl)) → Q .normal a' W) : (Code.at' [0, 0] (Code.dr 0 lkX1)).wp Tryz.prog Q a W := by
  obtain ⟨x, rfl, hx⟩ := lk_open hst
  obtain ⟨e25, e26, e27, e28, e0, e1, e2, e3, e4, e5, e22, _⟩ := hx
  have HQ := Lib.hid hQ
  clear hQ
  conv => arg 2; whnf
  rw [e25, e26, e27, e28, e0, e1, e2, e3, e4, e5, e22]
  clear e25 e26 e27 e28 e0 e1 e2 e3 e4 e5 e22
  go_wp2
  exact HQ.out _ ⟨rfl, rfl, rfl, rfl, rfl, rfl, rfl, rfl, rfl, rfl, rfl, rfl, rfl, rfl, trivial⟩
set_option maxHeartbeats 8000000 in
set_option maxRecDepth 100000 in
theorem lk_keep (w : World) (C : Option Addr) (cc : Nat) (caps : List Int) (P : Option Addr) (cp : Nat) (paths : List (List Int)) (D : Option Addr) (cd : Nat) (drops : List Int) (Y : Option Addr) (cy : Nat) (syncs : List Int) (F : Option Addr) (cf : Nat) (fails : List Int) (K : Option Addr) (ck : Nat) (keeps : List Int) (C' : Option Addr) (cc' bl gl : Nat) (hk : Ints w w.heap.size K ck keeps) (m d ro a2 : Nat) (O : List LG.Op) (p : Option Nat) (bs : ByteArray) (safe : Nat) (left : Int) (st : Bool) (cn cm : Nat) (dv : List Value) (a : Act) (W : World) (hst : FrS a 397 (lkR d m O.length cn cm a2 ro (lkS C caps.length cc P paths.length cp D drops.length cd Y syncs.length cy F fails.length cf K keeps.length ck gl))) (HS : Hid (Keeps W w bl gl m d C' cc' caps C cc a2 O O O p bs safe left st cn cm dv)) (rest : Code) (Q : Exit → Act → World → Prop)
    (hQ : ∀ a' (kv : Int), FrS a' 397 ((36, .int .i64 kv) :: lkR d m O.length cn cm a2 ro (lkS C caps.length cc P paths.length cp D drops.length cd Y syncs.length cy F fails.length cf K keeps.length ck gl)) → (kv = 0 ∨ kv ∈ keeps) → rest.wp Tryz.prog Q a' W) : (Code.cutc 1 lkZ1 rest).wp Tryz.prog Q a W := by
  obtain ⟨x, rfl, hx⟩ := lk_open hst
  obtain ⟨e25, e26, e27, e28, e0, e1, e2, e3, e4, e5, e22, _⟩ := hx
  have HK := Lib.hid hk; have HQ := Lib.hid hQ
  clear hk hQ
  conv => arg 2; whnf; arg 2; whnf
  rw [e25, e26, e27, e28, e0, e1, e2, e3, e4, e5, e22]
  clear e25 e26 e27 e28 e0 e1 e2 e3 e4 e5 e22
  by_cases hfl : ro < keeps.length
  · obtain ⟨fb, fo, rfl, hfb, hfc⟩ := ints_cell HK.out hfl
    have hmem := List.getElem_mem hfl
    have c1 : W.cell? ⟨fb, fo + ro, none⟩ = some (.int .i64 keeps[ro]) := (HS.out.B.cell (p := ⟨fb, fo + ro, none⟩) hfb).trans hfc
    clear hfc
    have HMEM := Lib.hid hmem
    clear hmem
    generalize keeps[ro] = fv at HMEM c1
    have d1 : decide (ro < keeps.length) = true := decide_eq_true hfl
    go_wp2
    exact HQ.out _ fv ⟨rfl, rfl, rfl, rfl, rfl, rfl, rfl, rfl, rfl, rfl, rfl, rfl, rfl, rfl, trivial⟩ (.inr HMEM.out)
  · have d1 : decide (ro < keeps.length) = false := decide_eq_false hfl
    go_wp2
    exact HQ.out _ 0 ⟨rfl, rfl, rfl, rfl, rfl, rfl, rfl, rfl, rfl, rfl, rfl, rfl, rfl, rfl, trivial⟩ (.inl rfl)
set_option maxHeartbeats 8000000 in
set_option maxRecDepth 100000 in
theorem lk_crash (w : World) (C : Option Addr) (cc : Nat) (caps : List Int) (P : Option Addr) (cp : Nat) (paths : List (List Int)) (D : Option Addr) (cd : Nat) (drops : List Int) (Y : Option Addr) (cy : Nat) (syncs : List Int) (F : Option Addr) (cf : Nat) (fails : List Int) (K : Option Addr) (ck : Nat) (keeps : List Int) (C' : Option Addr) (cc' bl gl : Nat) (m d ro a2 : Nat) (O : List LG.Op) (p : Option Nat) (bs : ByteArray) (safe : Nat) (left : Int) (st : Bool) (cn cm : Nat) (dv : List Value) (kv : Int) (high : Nat) (hh : (safe : Int) + max 0 (min kv ((bs.size : Int) - safe)) = high) (a : Act) (W : World) (hst : FrS a 397 ((36, .int .i64 kv) :: lkR d m O.length cn cm a2 ro (lkS C caps.length cc P paths.length cp D drops.length cd Y syncs.length cy F fails.length cf K keeps.length ck gl))) (HS : Hid (Keeps W w bl gl m d C' cc' caps C cc a2 O O O p bs safe left st cn cm dv)) (hi : a2 ≤ 1000) (hg : LaidLog w) (rest : Code) (Q : Exit → Act → World → Prop)
    (hQ : ∀ a' W' p' bs', FrS a' 397 ((36, .int .i64 kv) :: (37, .int .i64 (bs.size : Int)) :: (38, .int .i64 (safe : Int)) :: (39, .int .i64 (safe : Int)) :: lkR d m O.length cn cm a2 ro (lkS C caps.length cc P paths.length cp D drops.length cd Y syncs.length cy F fails.length cf K keeps.length ck gl)) → bs'.data.toList = LG.flat (O.take (LG.full O high)) → Hid (Keeps W' w bl gl m d C' cc' caps C cc a2 (O.take (LG.full O high)) O O p' bs' bs'.size (-1) false cn cm dv) → rest.wp Tryz.prog Q a' W') : (Code.cutc 3 (Code.dr 1 lkZ1) rest).wp Tryz.prog Q a W := by
  obtain ⟨x, rfl, hx⟩ := lk_open hst
  obtain ⟨e36, e25, e26, e27, e28, e0, e1, e2, e3, e4, e5, e22, _⟩ := hx
  have HH := Lib.hid hh; have HQ := Lib.hid hQ; have HG := Lib.hid hg
  clear hh hQ hg
  conv => arg 2; whnf; arg 2; whnf; arg 2; whnf; arg 2; whnf
  rw [e36, e25, e26, e27, e28, e0, e1, e2, e3, e4, e5, e22]
  clear e36 e25 e26 e27 e28 e0 e1 e2 e3 e4 e5 e22
  go_wp2_with fail
  refine (keeps_bytes W w bl gl m d C' cc' caps C cc a2 O O O p bs safe left st cn cm dv HS.out).mono ?_; rintro e w2 ⟨rfl, hS, _⟩
  have HS2 := Lib.hid hS
  clear hS HS
  go_wp2_with fail
  refine (keeps_safe w2 w bl gl m d C' cc' caps C cc a2 O O O p bs safe left st cn cm dv HS2.out).mono ?_; rintro e w3 ⟨rfl, hS, _⟩
  have HS3 := Lib.hid hS
  clear hS HS2
  go_wp2_with fail
  refine (keeps_crash w3 w bl gl m d C' cc' caps C cc a2 O O O p bs safe left st cn cm dv HS3.out hi HG.out kv high HH.out).mono ?_; rintro e w4 ⟨rfl, p', bs', hf, hS⟩
  have HS4 := Lib.hid hS
  have HF4 := Lib.hid hf
  clear hS HS3 hf
  go_wp2
  exact HQ.out _ _ p' bs' ⟨rfl, rfl, rfl, rfl, rfl, rfl, rfl, rfl, rfl, rfl, rfl, rfl, rfl, rfl, rfl, rfl, rfl, trivial⟩ HF4.out HS4
set_option maxHeartbeats 8000000 in
set_option maxRecDepth 100000 in
theorem lk_high (C : Option Addr) (cc : Nat) (caps : List Int) (P : Option Addr) (cp : Nat) (paths : List (List Int)) (D : Option Addr) (cd : Nat) (drops : List Int) (Y : Option Addr) (cy : Nat) (syncs : List Int) (F : Option Addr) (cf : Nat) (fails : List Int) (K : Option Addr) (ck : Nat) (keeps : List Int) (gl : Nat) (m d ro a2 n cn cm : Nat) (kv : Int) (al wa high : Nat) (hh : (wa : Int) + max 0 (min kv ((al : Int) - wa)) = high) (hwa : wa ≤ al) (hal : al ≤ 100000) (a : Act) (W : World) (hst : FrS a 397 ((36, .int .i64 kv) :: (37, .int .i64 (al : Int)) :: (38, .int .i64 (wa : Int)) :: (39, .int .i64 (wa : Int)) :: lkR d m n cn cm a2 ro (lkS C caps.length cc P paths.length cp D drops.length cd Y syncs.length cy F fails.length cf K keeps.length ck gl))) (rest : Code) (Q : Exit → Act → World → Prop)
    (hQ : ∀ a', FrS a' 397 ((36, .int .i64 kv) :: (37, .int .i64 (al : Int)) :: (38, .int .i64 (wa : Int)) :: (39, .int .i64 (high : Int)) :: lkR d m n cn cm a2 ro (lkS C caps.length cc P paths.length cp D drops.length cd Y syncs.length cy F fails.length cf K keeps.length ck gl)) → rest.wp Tryz.prog Q a' W) : (Code.cutc 0 (Code.dr 5 lkZ1) rest).wp Tryz.prog Q a W := by
  obtain ⟨x, rfl, hx⟩ := lk_open hst
  obtain ⟨e36, e37, e38, e39, e25, e26, e27, e28, e0, e1, e2, e3, e4, e5, e22, _⟩ := hx
  have HQ := Lib.hid hQ
  clear hQ
  conv => arg 2; whnf
  rw [e36, e37, e38, e39, e25, e26, e27, e28, e0, e1, e2, e3, e4, e5, e22]
  clear e36 e37 e38 e39 e25 e26 e27 e28 e0 e1 e2 e3 e4 e5 e22
  by_cases h0 : 0 < kv
  · have d0 : decide (0 < kv) = true := decide_eq_true h0
    by_cases h1 : kv < (al : Int) - wa
    · have d1 : decide (kv < (al : Int) - wa) = true := decide_eq_true h1
      have e : IntKind.i64.wrap ((wa : Int) + kv) = (high : Int) := by rw [IntWalk.i64_in _ (by omega)]; omega
      clear hh
      go_wp2
      exact HQ.out _ ⟨rfl, rfl, rfl, rfl, rfl, rfl, rfl, rfl, rfl, rfl, rfl, rfl, rfl, rfl, rfl, rfl, rfl, trivial⟩
    · have d1 : decide (kv < (al : Int) - wa) = false := decide_eq_false h1
      have e : high = al := by omega
      subst e
      clear hh
      go_wp2
      exact HQ.out _ ⟨rfl, rfl, rfl, rfl, rfl, rfl, rfl, rfl, rfl, rfl, rfl, rfl, rfl, rfl, rfl, rfl, rfl, trivial⟩
  · have d0 : decide (0 < kv) = false := decide_eq_false h0
    have e : high = wa := by omega
    subst e
    clear hh
    go_wp2
    exact HQ.out _ ⟨rfl, rfl, rfl, rfl, rfl, rfl, rfl, rfl, rfl, rfl, rfl, rfl, rfl, rfl, rfl, rfl, rfl, trivial⟩
set_option maxHeartbeats 8000000 in
set_option maxRecDepth 100000 in
theorem lk_left0 (C : Option Addr) (cc : Nat) (caps : List Int) (P : Option Addr) (cp : Nat) (paths : List (List Int)) (D : Option Addr) (cd : Nat) (drops : List Int) (Y : Option Addr) (cy : Nat) (syncs : List Int) (F : Option Addr) (cf : Nat) (fails : List Int) (K : Option Addr) (ck : Nat) (keeps : List Int) (gl : Nat) (m d ro a2 n cn cm : Nat) (high : Nat) (a : Act) (W : World) (hst : FrS a 397 ((39, .int .i64 (high : Int)) :: lkR d m n cn cm a2 ro (lkS C caps.length cc P paths.length cp D drops.length cd Y syncs.length cy F fails.length cf K keeps.length ck gl))) (rest : Code) (Q : Exit → Act → World → Prop) (hQ : ∀ a', FrS a' 397 ((40, .int .i64 ((0 : Nat) : Int)) :: (39, .int .i64 (high : Int)) :: lkR d m n cn cm a2 ro (lkS C caps.length cc P paths.length cp D drops.length cd Y syncs.length cy F fails.length cf K keeps.length ck gl)) → rest.wp Tryz.prog Q a' W) : (Code.cutc 0 (Code.dr 6 lkZ1) rest).wp Tryz.prog Q a W := by
  obtain ⟨x, rfl, hx⟩ := lk_open hst
  obtain ⟨e39, e25, e26, e27, e28, e0, e1, e2, e3, e4, e5, e22, _⟩ := hx
  have HQ := Lib.hid hQ
  clear hQ
  conv => arg 2; whnf
  rw [e39, e25, e26, e27, e28, e0, e1, e2, e3, e4, e5, e22]
  clear e39 e25 e26 e27 e28 e0 e1 e2 e3 e4 e5 e22
  go_wp2
  exact HQ.out _ ⟨rfl, rfl, rfl, rfl, rfl, rfl, rfl, rfl, rfl, rfl, rfl, rfl, rfl, rfl, rfl, trivial⟩
set_option maxHeartbeats 8000000 in
set_option maxRecDepth 100000 in
theorem lk_i0 (C : Option Addr) (cc : Nat) (caps : List Int) (P : Option Addr) (cp : Nat) (paths : List (List Int)) (D : Option Addr) (cd : Nat) (drops : List Int) (Y : Option Addr) (cy : Nat) (syncs : List Int) (F : Option Addr) (cf : Nat) (fails : List Int) (K : Option Addr) (ck : Nat) (keeps : List Int) (gl : Nat) (m d ro a2 n cn cm : Nat) (high : Nat) (a : Act) (W : World) (hst : FrS a 397 ((40, .int .i64 ((0 : Nat) : Int)) :: (39, .int .i64 (high : Int)) :: lkR d m n cn cm a2 ro (lkS C caps.length cc P paths.length cp D drops.length cd Y syncs.length cy F fails.length cf K keeps.length ck gl))) (Q : Exit → Act → World → Prop) (hQ : ∀ a', FrS a' 397 ((41, .int .i64 ((0 : Nat) : Int)) :: (40, .int .i64 ((0 : Nat) : Int)) :: (39, .int .i64 (high : Int)) :: lkR d m n cn cm a2 ro (lkS C caps.length cc P paths.length cp D drops.length cd Y syncs.length cy F fails.length cf K keeps.length ck gl)) → Q .normal a' W) : (Code.at' [0, 0] (Code.dr 7 lkZ1)).wp Tryz.prog Q a W := by
  obtain ⟨x, rfl, hx⟩ := lk_open hst
  obtain ⟨e40, e39, e25, e26, e27, e28, e0, e1, e2, e3, e4, e5, e22, _⟩ := hx
  have HQ := Lib.hid hQ
  clear hQ
  conv => arg 2; whnf
  rw [e40, e39, e25, e26, e27, e28, e0, e1, e2, e3, e4, e5, e22]
  clear e40 e39 e25 e26 e27 e28 e0 e1 e2 e3 e4 e5 e22
  go_wp2
  exact HQ.out _ ⟨rfl, rfl, rfl, rfl, rfl, rfl, rfl, rfl, rfl, rfl, rfl, rfl, rfl, rfl, rfl, rfl, trivial⟩
noncomputable def lk3 : Code := Code.at' [0, 1, 1, 1] (Code.dr 7 lkZ1)
noncomputable def lkM3 (n : Nat) (a : Act) (_ : World) : Nat := n + 1 - (intOf ((a.tmps[41]?).getD undef)).toNat
theorem lkM3_is {a : Act} {l : List (Nat × Value)} {k : Nat} (h : FrS a 397 ((41, .int .i64 (k : Int)) :: l)) (n : Nat) (W : World) : lkM3 n a W = n + 1 - k := by
  have := h.2.2.1
  simp [lkM3, this, intOf]
set_option maxHeartbeats 8000000 in
set_option maxRecDepth 100000 in
theorem lk_round3 (w : World) (C : Option Addr) (cc : Nat) (caps : List Int) (P : Option Addr) (cp : Nat) (paths : List (List Int)) (D : Option Addr) (cd : Nat) (drops : List Int) (Y : Option Addr) (cy : Nat) (syncs : List Int) (F : Option Addr) (cf : Nat) (fails : List Int) (K : Option Addr) (ck : Nat) (keeps : List Int) (C' : Option Addr) (cc' bl gl : Nat) (m d ro a2 : Nat) (O : List LG.Op) (p : Option Nat) (bs : ByteArray) (safe : Nat) (left : Int) (st : Bool) (cn cm : Nat) (dv : List Value) (OL : List LG.Op) (high i : Nat) (a : Act) (W : World) (hst : FrS a 397 ((41, .int .i64 ((i : Nat) : Int)) :: (40, .int .i64 ((LG.lastLe O high i : Nat) : Int)) :: (39, .int .i64 (high : Int)) :: lkR d m O.length cn cm a2 ro (lkS C caps.length cc P paths.length cp D drops.length cd Y syncs.length cy F fails.length cf K keeps.length ck gl))) (HS : Hid (Keeps W w bl gl m d C' cc' caps C cc a2 OL O O p bs safe left st cn cm dv)) (hO : O.length ≤ 1000) (hi : i < O.length + 1) (Q : Exit → Act → World → Prop)
    (hQ : ∀ a', FrS a' 397 ((41, .int .i64 ((i + 1 : Nat) : Int)) :: (40, .int .i64 ((LG.lastLe O high (i + 1) : Nat) : Int)) :: (39, .int .i64 (high : Int)) :: lkR d m O.length cn cm a2 ro (lkS C caps.length cc P paths.length cp D drops.length cd Y syncs.length cy F fails.length cf K keeps.length ck gl)) → Q .normal a' W) : lk3.wp Tryz.prog Q a W := by
  obtain ⟨x, rfl, hx⟩ := lk_open hst
  obtain ⟨e41, e40, e39, e25, e26, e27, e28, e0, e1, e2, e3, e4, e5, e22, _⟩ := hx
  have HQ := Lib.hid hQ
  obtain ⟨q1, q2, q3⟩ := HS.out.M.room
  have c1 := HS.out.M.at_ (Nat.lt_succ_iff.1 hi)
  have d1 : decide (i < O.length + 1) = true := decide_eq_true hi
  have hle : LG.lastLe O high (i + 1) = if (LG.flat (O.take i)).length ≤ high then i else LG.lastLe O high i := rfl
  clear hQ
  generalize (LG.flat (O.take i)).length = mk at c1 hle
  generalize LG.lastLe O high (i + 1) = lf at hle HQ
  conv => arg 2; whnf
  rw [e41, e40, e39, e25, e26, e27, e28, e0, e1, e2, e3, e4, e5, e22]
  clear e41 e40 e39 e25 e26 e27 e28 e0 e1 e2 e3 e4 e5 e22
  by_cases h0 : mk ≤ high
  · rw [if_pos h0] at hle
    subst hle
    have d0 : decide (mk ≤ high) = true := decide_eq_true h0
    go_wp2
    exact HQ.out _ ⟨rfl, rfl, rfl, rfl, rfl, rfl, rfl, rfl, rfl, rfl, rfl, rfl, rfl, rfl, rfl, rfl, trivial⟩
  · rw [if_neg h0] at hle
    subst hle
    have d0 : decide (mk ≤ high) = false := decide_eq_false h0
    go_wp2
    exact HQ.out _ ⟨rfl, rfl, rfl, rfl, rfl, rfl, rfl, rfl, rfl, rfl, rfl, rfl, rfl, rfl, rfl, rfl, trivial⟩
set_option maxHeartbeats 8000000 in
set_option maxRecDepth 100000 in
theorem lk_exit3 (C : Option Addr) (cc : Nat) (caps : List Int) (P : Option Addr) (cp : Nat) (paths : List (List Int)) (D : Option Addr) (cd : Nat) (drops : List Int) (Y : Option Addr) (cy : Nat) (syncs : List Int) (F : Option Addr) (cf : Nat) (fails : List Int) (K : Option Addr) (ck : Nat) (keeps : List Int) (gl : Nat) (m d ro a2 n cn cm : Nat) (high lf i : Nat) (a : Act) (W : World) (hst : FrS a 397 ((41, .int .i64 ((i : Nat) : Int)) :: (40, .int .i64 ((lf : Nat) : Int)) :: (39, .int .i64 (high : Int)) :: lkR d m n cn cm a2 ro (lkS C caps.length cc P paths.length cp D drops.length cd Y syncs.length cy F fails.length cf K keeps.length ck gl))) (hi : ¬ i < n + 1) (Q : Exit → Act → World → Prop)
    (hQ : ∀ a', FrS a' 397 ((41, .int .i64 ((i : Nat) : Int)) :: (40, .int .i64 ((lf : Nat) : Int)) :: (39, .int .i64 (high : Int)) :: lkR d m n cn cm a2 ro (lkS C caps.length cc P paths.length cp D drops.length cd Y syncs.length cy F fails.length cf K keeps.length ck gl)) → Q (.exit 4) a' W) : lk3.wp Tryz.prog Q a W := by
  obtain ⟨x, rfl, hx⟩ := lk_open hst
  obtain ⟨e41, e40, e39, e25, e26, e27, e28, e0, e1, e2, e3, e4, e5, e22, _⟩ := hx
  have HQ := Lib.hid hQ
  clear hQ
  have d1 : decide (i < n + 1) = false := decide_eq_false hi
  conv => arg 2; whnf
  rw [e41, e40, e39, e25, e26, e27, e28, e0, e1, e2, e3, e4, e5, e22]
  clear e41 e40 e39 e25 e26 e27 e28 e0 e1 e2 e3 e4 e5 e22
  go_wp2
  exact HQ.out _ ⟨rfl, rfl, rfl, rfl, rfl, rfl, rfl, rfl, rfl, rfl, rfl, rfl, rfl, rfl, rfl, rfl, trivial⟩
set_option maxHeartbeats 8000000 in
set_option maxRecDepth 100000 in
theorem lk_loop3 (w : World) (C : Option Addr) (cc : Nat) (caps : List Int) (P : Option Addr) (cp : Nat) (paths : List (List Int)) (D : Option Addr) (cd : Nat) (drops : List Int) (Y : Option Addr) (cy : Nat) (syncs : List Int) (F : Option Addr) (cf : Nat) (fails : List Int) (K : Option Addr) (ck : Nat) (keeps : List Int) (C' : Option Addr) (cc' bl gl : Nat) (m d ro a2 : Nat) (O : List LG.Op) (p : Option Nat) (bs : ByteArray) (safe : Nat) (left : Int) (st : Bool) (cn cm : Nat) (dv : List Value) (OL : List LG.Op) (high : Nat) (a : Act) (W : World) (hst : FrS a 397 ((41, .int .i64 ((0 : Nat) : Int)) :: (40, .int .i64 ((0 : Nat) : Int)) :: (39, .int .i64 (high : Int)) :: lkR d m O.length cn cm a2 ro (lkS C caps.length cc P paths.length cp D drops.length cd Y syncs.length cy F fails.length cf K keeps.length ck gl))) (HS : Hid (Keeps W w bl gl m d C' cc' caps C cc a2 OL O O p bs safe left st cn cm dv)) (hO : O.length ≤ 1000) (Q : Exit → Act → World → Prop)
    (hQ : ∀ a', FrS a' 397 ((40, .int .i64 ((LG.full O high : Nat) : Int)) :: (39, .int .i64 (high : Int)) :: lkR d m O.length cn cm a2 ro (lkS C caps.length cc P paths.length cp D drops.length cd Y syncs.length cy F fails.length cf K keeps.length ck gl)) → Q (.exit 4) a' W) : (Code.loop lk3).wp Tryz.prog Q a W := by
  refine wp_loop (fun a' W' => ∃ i, i ≤ O.length + 1 ∧ FrS a' 397 ((41, .int .i64 ((i : Nat) : Int)) :: (40, .int .i64 ((LG.lastLe O high i : Nat) : Int)) :: (39, .int .i64 (high : Int)) :: lkR d m O.length cn cm a2 ro (lkS C caps.length cc P paths.length cp D drops.length cd Y syncs.length cy F fails.length cf K keeps.length ck gl)) ∧ W' = W) (lkM3 O.length) ⟨0, by omega, hst, rfl⟩ ?_
  rintro a' W' ⟨i, hi, hst', rfl⟩
  by_cases hlt : i < O.length + 1
  · refine lk_round3 w C cc caps P cp paths D cd drops Y cy syncs F cf fails K ck keeps C' cc' bl gl m d ro a2 O p bs safe left st cn cm dv OL high i a' _ hst' HS hO hlt _ fun a2_ h2 => ?_
    exact ⟨⟨i + 1, by omega, h2, rfl⟩, by rw [lkM3_is h2, lkM3_is hst']; omega⟩
  · have e : i = O.length + 1 := by omega
    subst e
    rw [LG.last_full] at hst'
    refine lk_exit3 C cc caps P cp paths D cd drops Y cy syncs F cf fails K ck keeps gl m d ro a2 O.length cn cm high _ _ a' _ hst' hlt _ fun a2_ h2 => ?_
    exact hQ a2_ ⟨h2.1, h2.2.1, h2.2.2.2⟩
end Go.Proofs.YtaijpiebjhhkjaaGreatDoor
/- LogKeeps: the outer round behind the crash. -/
namespace Go.Proofs.YtaijpiebjhhkjaaGreatDoor
open Go.RowKit
set_option maxHeartbeats 8000000 in
set_option maxRecDepth 100000 in
theorem lk_slice (C : Option Addr) (cc : Nat) (caps : List Int) (P : Option Addr) (cp : Nat) (paths : List (List Int)) (D : Option Addr) (cd : Nat) (drops : List Int) (Y : Option Addr) (cy : Nat) (syncs : List Int) (F : Option Addr) (cf : Nat) (fails : List Int) (K : Option Addr) (ck : Nat) (keeps : List Int) (gl : Nat) (m d ro a2 n cn cm : Nat) (f : Nat) (hf : f ≤ n) (hcn : n + 1 ≤ cn) (hcn2 : cn ≤ maxLen) (hcm : n + 1 ≤ cm) (hcm2 : cm ≤ maxLen) (a : Act) (W : World) (hst : FrS a 397 ((40, .int .i64 ((f : Nat) : Int)) :: lkR d m n cn cm a2 ro (lkS C caps.length cc P paths.length cp D drops.length cd Y syncs.length cy F fails.length cf K keeps.length ck gl))) (rest : Code) (Q : Exit → Act → World → Prop) (hQ : ∀ a', FrS a' 397 ((40, .int .i64 ((f : Nat) : Int)) :: lkR d m f cn cm a2 ro (lkS C caps.length cc P paths.length cp D drops.length cd Y syncs.length cy F fails.length cf K keeps.length ck gl)) → rest.wp Tryz.prog Q a' W) : (Code.cutc 1 (Code.dr 8 lkZ1) rest).wp Tryz.prog Q a W := by
  obtain ⟨x, rfl, hx⟩ := lk_open hst
  obtain ⟨e40, e25, e26, e27, e28, e0, e1, e2, e3, e4, e5, e22, _⟩ := hx
  have HQ := Lib.hid hQ
  clear hQ
  have hcmx := hcm2
  unfold maxLen at hcn2 hcmx
  have fw : IntKind.i64.wrap ((f : Int) + 1) = (f : Int) + 1 := IntWalk.i64_in _ (by omega)
  have f1 : (0 : Int) ≤ (f : Int) + 1 := by omega
  have f2 : (f : Int) + 1 ≤ (cn : Int) := by omega
  have f3 : (f : Int) + 1 ≤ (cm : Int) := by omega
  have f4 : ((f : Int) + 1).toNat = f + 1 := by omega
  conv => arg 2; whnf; arg 2; whnf
  rw [e40, e25, e26, e27, e28, e0, e1, e2, e3, e4, e5, e22]
  clear e40 e25 e26 e27 e28 e0 e1 e2 e3 e4 e5 e22
  go_wp2
  exact HQ.out _ ⟨rfl, rfl, rfl, rfl, rfl, rfl, rfl, rfl, rfl, rfl, rfl, rfl, rfl, rfl, trivial⟩
set_option maxHeartbeats 8000000 in
set_option maxRecDepth 100000 in
theorem lk_check2 (w : World) (C : Option Addr) (cc : Nat) (caps : List Int) (P : Option Addr) (cp : Nat) (paths : List (List Int)) (D : Option Addr) (cd : Nat) (drops : List Int) (Y : Option Addr) (cy : Nat) (syncs : List Int) (F : Option Addr) (cf : Nat) (fails : List Int) (K : Option Addr) (ck : Nat) (keeps : List Int) (C' : Option Addr) (cc' bl gl : Nat) (m d ro a2 : Nat) (O : List LG.Op) (p : Option Nat) (bs : ByteArray) (cn cm : Nat) (dv : List Value) (a : Act) (W : World) (hst : FrS a 397 ((40, .int .i64 ((O.length : Nat) : Int)) :: lkR d m O.length cn cm a2 ro (lkS C caps.length cc P paths.length cp D drops.length cd Y syncs.length cy F fails.length cf K keeps.length ck gl))) (HS : Hid (Keeps W w bl gl m d C' cc' caps C cc a2 O O O p bs bs.size (-1) false cn cm dv)) (hbz : (LG.flat O).length = bs.size) (hi : a2 ≤ 1000) (hc6 : caps.length ≤ 6) (rest : Code) (Q : Exit → Act → World → Prop)
    (hQ : ∀ a' W', FrS a' 397 ((40, .int .i64 ((O.length : Nat) : Int)) :: lkR d m O.length cn cm a2 ro (lkS C caps.length cc P paths.length cp D drops.length cd Y syncs.length cy F fails.length cf K keeps.length ck gl)) → Hid (Keeps W' w bl gl m d C' cc' caps C cc a2 O O O p bs bs.size (-1) false cn cm dv) → rest.wp Tryz.prog Q a' W') : (Code.cutc 0 (Code.dr 10 lkZ1) rest).wp Tryz.prog Q a W := by
  obtain ⟨x, rfl, hx⟩ := lk_open hst
  obtain ⟨e40, e25, e26, e27, e28, e0, e1, e2, e3, e4, e5, e22, _⟩ := hx
  have HQ := Lib.hid hQ
  clear hQ
  obtain ⟨Pz, cz, l0, l1, hRz⟩ := HS.out.D.last
  obtain ⟨q1, q2, q3⟩ := HS.out.D.room
  obtain ⟨p1, p2, p3⟩ := HS.out.M.room
  have m1 := HS.out.M.at_ (Nat.le_refl O.length)
  rw [List.take_length, hbz] at m1
  have hol : O.length ≤ 1000 := by have := HS.out.T.num; omega
  have HRZ := Lib.hid hRz
  have hlz := HS.out.lz
  clear hRz l0
  have fa : (0 : Int) ≤ (O.length : Int) := by omega
  have fb : (O.length : Int) < (O.length : Int) + 1 := by omega
  have fc : O.length < O.length + 1 := by omega
  conv => arg 2; whnf
  rw [e40, e25, e26, e27, e28, e0, e1, e2, e3, e4, e5, e22]
  clear e40 e25 e26 e27 e28 e0 e1 e2 e3 e4 e5 e22
  go_upto_region 77 with (fail)
  go_region_held3 (fun w' => w'.cell? ⟨d, O.length * 2 + 1, none⟩ = some (.slice Pz (LG.runs O).length cz) ∧ w'.cell? ⟨m, O.length, none⟩ = some (.int .i64 (bs.size : Int))) (go_keep)
    (first
      | (go_simp; go_at_call 12; refine (keeps_paths _ w bl gl m d C' cc' caps C cc a2 O O O p bs bs.size (-1) false cn cm dv HS.out.drew hc6).mono ?_; rintro e w4 ⟨P4, cp4, rfl, hr4, hS, hb4⟩; have HB4 : Hid (Below W.heap.size W w4) := Lib.hid ((Below.refl _ _).drew.trans hb4); have HS4 := Lib.hid hS; have HP4 := Lib.hid hr4; have y1 : w4.cell? ⟨d, O.length * 2 + 1, none⟩ = some (.slice Pz (LG.runs O).length cz) := (HB4.out.cell (p := ⟨d, O.length * 2 + 1, none⟩) q3).trans l1; have y2 : w4.cell? ⟨m, O.length, none⟩ = some (.int .i64 (bs.size : Int)) := (HB4.out.cell (p := ⟨m, O.length, none⟩) p3).trans m1; have hz4 := HB4.out.size; clear hb4 hS hr4; dsimp only)
      | (go_simp; go_at_call 23; refine (sameLists_n P4 Pz cp4 cz _ _ (LG.runs O) _ _ w4 HP4.out ((HRZ.out.below HB4.out hlz).rows HS4.out.lz) rfl rfl).mono ?_; rintro e w5 ⟨rfl, hb5⟩; have HB5 : Hid (Below W.heap.size W w5) := Lib.hid (HB4.out.trans (hb5.mono hz4)); have HS5 := Lib.hid (HS4.out.below hb5); have y3 : w5.cell? ⟨d, O.length * 2 + 1, none⟩ = some (.slice Pz (LG.runs O).length cz) := (HB5.out.cell (p := ⟨d, O.length * 2 + 1, none⟩) q3).trans l1; have y4 : w5.cell? ⟨m, O.length, none⟩ = some (.int .i64 (bs.size : Int)) := (HB5.out.cell (p := ⟨m, O.length, none⟩) p3).trans m1; have hz5 := HB5.out.size; clear hb5; dsimp only)
      | (go_simp; go_at_call 14; refine (keeps_bytes w5 w bl gl m d C' cc' caps C cc a2 O O O p bs bs.size (-1) false cn cm dv HS5.out).mono ?_; rintro e w6 ⟨rfl, hS, hb6⟩; have HB6 : Hid (Below W.heap.size W w6) := Lib.hid (HB5.out.trans (hb6.mono hz5)); have HS6 := Lib.hid hS; have y5 : w6.cell? ⟨d, O.length * 2 + 1, none⟩ = some (.slice Pz (LG.runs O).length cz) := (HB6.out.cell (p := ⟨d, O.length * 2 + 1, none⟩) q3).trans l1; have y6 : w6.cell? ⟨m, O.length, none⟩ = some (.int .i64 (bs.size : Int)) := (HB6.out.cell (p := ⟨m, O.length, none⟩) p3).trans m1; have hz6 := HB6.out.size; clear hb6 hS; dsimp only)
      | (go_simp; go_at_call 15; refine (keeps_safe w6 w bl gl m d C' cc' caps C cc a2 O O O p bs bs.size (-1) false cn cm dv HS6.out).mono ?_; rintro e w7 ⟨rfl, hS, hb7⟩; have HB7 : Hid (Below W.heap.size W w7) := Lib.hid (HB6.out.trans (hb7.mono hz6)); have HS7 := Lib.hid hS; have y7 : w7.cell? ⟨d, O.length * 2 + 1, none⟩ = some (.slice Pz (LG.runs O).length cz) := (HB7.out.cell (p := ⟨d, O.length * 2 + 1, none⟩) q3).trans l1; have y8 : w7.cell? ⟨m, O.length, none⟩ = some (.int .i64 (bs.size : Int)) := (HB7.out.cell (p := ⟨m, O.length, none⟩) p3).trans m1; clear hb7 hS; dsimp only))
  all_goals
    go_wp2
    exact HQ.out _ _ ⟨rfl, rfl, rfl, rfl, rfl, rfl, rfl, rfl, rfl, rfl, rfl, rfl, rfl, rfl, trivial⟩ HS7
theorem frs_nil7 (w : World) (B : Nat) : Frs w B none 0 [] := ⟨⟨by simp [frCells], fun h => absurd h (by simp)⟩, Nat.le_refl _, by simp [maxLen]⟩
set_option maxHeartbeats 8000000 in
set_option maxRecDepth 100000 in
theorem lk_rates_none (w : World) (C : Option Addr) (cc : Nat) (caps : List Int) (P : Option Addr) (cp : Nat) (paths : List (List Int)) (D : Option Addr) (cd : Nat) (drops : List Int) (Y : Option Addr) (cy : Nat) (syncs : List Int) (F : Option Addr) (cf : Nat) (fails : List Int) (K : Option Addr) (ck : Nat) (keeps : List Int) (C' : Option Addr) (cc' bl gl : Nat) (m d ro a2 : Nat) (O : List LG.Op) (p : Option Nat) (bs : ByteArray) (cn cm : Nat) (dv : List Value) (a : Act) (W : World) (hst : FrS a 397 ((40, .int .i64 ((O.length : Nat) : Int)) :: lkR d m O.length cn cm a2 ro (lkS C caps.length cc P paths.length cp D drops.length cd Y syncs.length cy F fails.length cf K keeps.length ck gl))) (HS : Hid (Keeps W w bl gl m d C' cc' caps C cc a2 O O O p bs bs.size (-1) false cn cm dv)) (hfl : linksErr caps = 0) (hg : LaidLog w) (hi : a2 ≤ 1000) (hn : LG.runs O = []) (Q : Exit → Act → World → Prop)
    (hQ : ∀ a' W', FrS a' 397 (lkR d m O.length cn cm a2 ro (lkS C caps.length cc P paths.length cp D drops.length cd Y syncs.length cy F fails.length cf K keeps.length ck gl)) → Hid (Keeps W' w bl gl m d C' cc' caps C cc a2 O O O p bs bs.size (-1) false cn cm dv) → Q .normal a' W') : (Code.dr 11 lkZ1).wp Tryz.prog Q a W := by
  obtain ⟨x, rfl, hx⟩ := lk_open hst
  obtain ⟨e40, e25, e26, e27, e28, e0, e1, e2, e3, e4, e5, e22, _⟩ := hx
  have HQ := Lib.hid hQ; have HG := Lib.hid hg; have HFL := Lib.hid hfl
  clear hQ hg hfl
  obtain ⟨Pz, cz, l0, l1, hRz⟩ := HS.out.D.last
  obtain ⟨q1, q2, q3⟩ := HS.out.D.room
  have hol : O.length ≤ 1000 := by have := HS.out.T.num; omega
  have HRZ := Lib.hid hRz
  have hlz := HS.out.lz
  clear hRz
  have fc : O.length < O.length + 1 := by omega
  have he5 : netErr caps (LG.runs O) = 5 := by rw [HS.out.T.ok.net HFL.out, if_pos hn]
  have HE5 := Lib.hid he5
  have d0 : decide (0 < (LG.runs O).length) = false := by rw [hn]; rfl
  have d1 : ¬ 0 < (LG.runs O).length := by rw [hn]; simp
  clear he5 hn
  conv => arg 2; whnf
  rw [e40, e25, e26, e27, e28, e0, e1, e2, e3, e4, e5, e22]
  clear e40 e25 e26 e27 e28 e0 e1 e2 e3 e4 e5 e22
  go_wp2_with fail
  refine (trates_no W bl gl m C' cc' caps a2 O p bs bs.size (-1) false HS.out.T 5 HE5.out (by decide)).mono ?_; rintro e w2 ⟨rfl, hb⟩
  have HS2 := Lib.hid (HS.out.below hb)
  clear hb HS l0 l1
  go_wp2_with fail
  refine (same_hit 5 w2 (HG.out.laid.below HS2.out.B)).mono ?_; rintro e w3 ⟨rfl, hb⟩
  have HS3 := Lib.hid (HS2.out.below hb)
  clear hb HS2
  go_wp2_with fail
  refine (sameFr_any none none 0 0 0 0 [] [] w3.heap.size w3.heap.size w3 (frs_nil7 _ _) (frs_nil7 _ _) rfl rfl (Nat.le_refl _) (Nat.le_refl _) true (by simp)).mono ?_; rintro e w4 ⟨rfl, hb⟩
  have HS4 := Lib.hid (HS3.out.below hb)
  clear hb HS3
  go_wp2
  exact HQ.out _ _ ⟨rfl, rfl, rfl, rfl, rfl, rfl, rfl, rfl, rfl, rfl, rfl, rfl, rfl, trivial⟩ HS4
set_option maxHeartbeats 8000000 in
set_option maxRecDepth 100000 in
theorem lk_rates_some (w : World) (C : Option Addr) (cc : Nat) (caps : List Int) (P : Option Addr) (cp : Nat) (paths : List (List Int)) (D : Option Addr) (cd : Nat) (drops : List Int) (Y : Option Addr) (cy : Nat) (syncs : List Int) (F : Option Addr) (cf : Nat) (fails : List Int) (K : Option Addr) (ck : Nat) (keeps : List Int) (C' : Option Addr) (cc' bl gl : Nat) (m d ro a2 : Nat) (O : List LG.Op) (p : Option Nat) (bs : ByteArray) (cn cm : Nat) (dv : List Value) (a : Act) (W : World) (hst : FrS a 397 ((40, .int .i64 ((O.length : Nat) : Int)) :: lkR d m O.length cn cm a2 ro (lkS C caps.length cc P paths.length cp D drops.length cd Y syncs.length cy F fails.length cf K keeps.length ck gl))) (HS : Hid (Keeps W w bl gl m d C' cc' caps C cc a2 O O O p bs bs.size (-1) false cn cm dv)) (hfl : linksErr caps = 0) (hg : LaidLog w) (hi : a2 ≤ 1000) (hc : Ints w w.heap.size C cc caps) (hc6 : caps.length ≤ 6) (hn : LG.runs O ≠ []) (Q : Exit → Act → World → Prop)
    (hQ : ∀ a' W', FrS a' 397 (lkR d m O.length cn cm a2 ro (lkS C caps.length cc P paths.length cp D drops.length cd Y syncs.length cy F fails.length cf K keeps.length ck gl)) → Hid (Keeps W' w bl gl m d C' cc' caps C cc a2 O O O p bs bs.size (-1) false cn cm dv) → Q .normal a' W') : (Code.dr 11 lkZ1).wp Tryz.prog Q a W := by
  obtain ⟨x, rfl, hx⟩ := lk_open hst
  obtain ⟨e40, e25, e26, e27, e28, e0, e1, e2, e3, e4, e5, e22, _⟩ := hx
  have HQ := Lib.hid hQ; have HG := Lib.hid hg; have HFL := Lib.hid hfl
  clear hQ hg hfl
  obtain ⟨Pz, cz, l0, l1, hRz⟩ := HS.out.D.last
  obtain ⟨q1, q2, q3⟩ := HS.out.D.room
  have hol : O.length ≤ 1000 := by have := HS.out.T.num; omega
  have HRZ := Lib.hid hRz
  have hlz := HS.out.lz
  clear hRz
  have fc : O.length < O.length + 1 := by omega
  have he0 : netErr caps (LG.runs O) = 0 := by rw [HS.out.T.ok.net HFL.out, if_neg hn]
  obtain ⟨K', R, hK⟩ := fill_ends (netOk_of he0)
  have ok := Lib.hid (netOk_of he0)
  have hF0 := ok.out.F0
  have HE0 := Lib.hid he0; have HK := Lib.hid hK; have HC := Lib.hid hc
  have HPL : Hid (∀ l ∈ LG.runs O, l.length ≤ 1000) := Lib.hid fun l hl => by have := path_short (HS.out.T.ok.paths l hl); omega
  have d0 : decide (0 < (LG.runs O).length) = true := decide_eq_true hF0
  clear he0 hn hK hc
  conv => arg 2; whnf
  rw [e40, e25, e26, e27, e28, e0, e1, e2, e3, e4, e5, e22]
  clear e40 e25 e26 e27 e28 e0 e1 e2 e3 e4 e5 e22
  go_wp2_with fail
  refine (refFill_yes C cc _ caps Pz cz _ (LG.runs O) W.heap.size W K' R (Nat.le_refl _) ((HC.out.below HS.out.B (Nat.le_refl _)).more HS.out.bz) (HRZ.out.rows hlz) rfl rfl ok.out (by omega) HPL.out HK.out).mono ?_; rintro e w2 ⟨A2, c2, P2, cp2, rfl, hf, _, hb⟩
  have HS2 := Lib.hid (HS.out.below hb); have HF2 := Lib.hid hf
  clear hb hf HS l0 l1
  go_wp2_with fail
  refine (trates_yes w2 bl gl m C' cc' caps a2 O p bs bs.size (-1) false HS2.out.T HE0.out K' R HK.out).mono ?_; rintro e w3 ⟨A3, c3, rfl, hf, hb⟩
  have HS3 := Lib.hid (HS2.out.below hb); have HF3 := Lib.hid (HF2.out.at' hb); have HG3 := Lib.hid hf
  clear hb hf HS2 HF2
  go_wp2_with fail
  refine (same_ok w3).mono ?_; rintro e w4 ⟨rfl, hb⟩
  have HS4 := Lib.hid (HS3.out.below hb); have HF4 := Lib.hid (HF3.out.at' hb); have HG4 := Lib.hid (HG3.out.at' hb)
  clear hb HS3 HF3 HG3
  go_wp2_with fail
  refine (sameFr_any A3 A2 c3 c2 R.length R.length (R.map frQ) (R.map frQ) _ _ w4 HG4.out HF4.out (by simp) (by simp) (Nat.le_refl _) (Nat.le_refl _) true (by simp)).mono ?_; rintro e w5 ⟨rfl, hb⟩
  have HS5 := Lib.hid (HS4.out.below hb)
  clear hb HS4 HF4 HG4
  go_wp2
  exact HQ.out _ _ ⟨rfl, rfl, rfl, rfl, rfl, rfl, rfl, rfl, rfl, rfl, rfl, rfl, rfl, trivial⟩ HS5
set_option maxHeartbeats 8000000 in
set_option maxRecDepth 100000 in
theorem lk_next1 (C : Option Addr) (cc : Nat) (caps : List Int) (P : Option Addr) (cp : Nat) (paths : List (List Int)) (D : Option Addr) (cd : Nat) (drops : List Int) (Y : Option Addr) (cy : Nat) (syncs : List Int) (F : Option Addr) (cf : Nat) (fails : List Int) (K : Option Addr) (ck : Nat) (keeps : List Int) (gl : Nat) (m d ro a2 n cn cm : Nat) (a : Act) (W : World) (hst : FrS a 397 (lkR d m n cn cm a2 ro (lkS C caps.length cc P paths.length cp D drops.length cd Y syncs.length cy F fails.length cf K keeps.length ck gl))) (hro : ro ≤ 4) (Q : Exit → Act → World → Prop) (hQ : ∀ a', FrS a' 397 (lkR d m n cn cm a2 (ro + 1) (lkS C caps.length cc P paths.length cp D drops.length cd Y syncs.length cy F fails.length cf K keeps.length ck gl)) → Q .normal a' W) : (Code.at' [1, 1] lk1).wp Tryz.prog Q a W := by
  obtain ⟨x, rfl, hx⟩ := lk_open hst
  obtain ⟨e25, e26, e27, e28, e0, e1, e2, e3, e4, e5, e22, _⟩ := hx
  have HQ := Lib.hid hQ
  clear hQ
  conv => arg 2; whnf
  rw [e25, e26, e27, e28, e0, e1, e2, e3, e4, e5, e22]
  clear e25 e26 e27 e28 e0 e1 e2 e3 e4 e5 e22
  go_wp2
  exact HQ.out _ ⟨rfl, rfl, rfl, rfl, rfl, rfl, rfl, rfl, rfl, rfl, rfl, rfl, rfl, trivial⟩
set_option maxHeartbeats 8000000 in
set_option maxRecDepth 100000 in
theorem lk_head1 (C : Option Addr) (cc : Nat) (caps : List Int) (P : Option Addr) (cp : Nat) (paths : List (List Int)) (D : Option Addr) (cd : Nat) (drops : List Int) (Y : Option Addr) (cy : Nat) (syncs : List Int) (F : Option Addr) (cf : Nat) (fails : List Int) (K : Option Addr) (ck : Nat) (keeps : List Int) (gl : Nat) (m d ro a2 n cn cm : Nat) (a : Act) (W : World) (hst : FrS a 397 (lkR d m n cn cm a2 ro (lkS C caps.length cc P paths.length cp D drops.length cd Y syncs.length cy F fails.length cf K keeps.length ck gl))) (h1 : ro ≤ fails.length) (h2 : ro < 4) (rest : Code) (Q : Exit → Act → World → Prop) (hQ : ∀ a', FrS a' 397 (lkR d m n cn cm a2 ro (lkS C caps.length cc P paths.length cp D drops.length cd Y syncs.length cy F fails.length cf K keeps.length ck gl)) → rest.wp Tryz.prog Q a' W) : (Code.cutc 0 lk1 rest).wp Tryz.prog Q a W := by
  obtain ⟨x, rfl, hx⟩ := lk_open hst
  obtain ⟨e25, e26, e27, e28, e0, e1, e2, e3, e4, e5, e22, _⟩ := hx
  have HQ := Lib.hid hQ
  clear hQ
  have d1 : decide (ro ≤ fails.length) = true := decide_eq_true h1
  have d2 : decide (ro < 4) = true := decide_eq_true h2
  conv => arg 2; whnf
  rw [e25, e26, e27, e28, e0, e1, e2, e3, e4, e5, e22]
  clear e25 e26 e27 e28 e0 e1 e2 e3 e4 e5 e22
  go_wp2
  exact HQ.out _ ⟨rfl, rfl, rfl, rfl, rfl, rfl, rfl, rfl, rfl, rfl, rfl, rfl, rfl, trivial⟩
set_option maxHeartbeats 8000000 in
set_option maxRecDepth 100000 in
theorem lk_exit1 (C : Option Addr) (cc : Nat) (caps : List Int) (P : Option Addr) (cp : Nat) (paths : List (List Int)) (D : Option Addr) (cd : Nat) (drops : List Int) (Y : Option Addr) (cy : Nat) (syncs : List Int) (F : Option Addr) (cf : Nat) (fails : List Int) (K : Option Addr) (ck : Nat) (keeps : List Int) (gl : Nat) (m d ro a2 n cn cm : Nat) (a : Act) (W : World) (hst : FrS a 397 (lkR d m n cn cm a2 ro (lkS C caps.length cc P paths.length cp D drops.length cd Y syncs.length cy F fails.length cf K keeps.length ck gl))) (hn : ¬ (ro ≤ fails.length ∧ ro < 4)) (rest : Code) (Q : Exit → Act → World → Prop) (hQ : ∀ a', FrS a' 397 (lkR d m n cn cm a2 ro (lkS C caps.length cc P paths.length cp D drops.length cd Y syncs.length cy F fails.length cf K keeps.length ck gl)) → Q (.exit 0) a' W) : (Code.cutc 0 lk1 rest).wp Tryz.prog Q a W := by
  obtain ⟨x, rfl, hx⟩ := lk_open hst
  obtain ⟨e25, e26, e27, e28, e0, e1, e2, e3, e4, e5, e22, _⟩ := hx
  have HQ := Lib.hid hQ
  clear hQ
  conv => arg 2; whnf
  rw [e25, e26, e27, e28, e0, e1, e2, e3, e4, e5, e22]
  clear e25 e26 e27 e28 e0 e1 e2 e3 e4 e5 e22
  by_cases h1 : ro ≤ fails.length
  · have d1 : decide (ro ≤ fails.length) = true := decide_eq_true h1
    have d2 : decide (ro < 4) = false := decide_eq_false fun h => hn ⟨h1, h⟩
    go_wp2
    exact HQ.out _ ⟨rfl, rfl, rfl, rfl, rfl, rfl, rfl, rfl, rfl, rfl, rfl, rfl, rfl, trivial⟩
  · have d1 : decide (ro ≤ fails.length) = false := decide_eq_false h1
    go_wp2
    exact HQ.out _ ⟨rfl, rfl, rfl, rfl, rfl, rfl, rfl, rfl, rfl, rfl, rfl, rfl, rfl, trivial⟩
end Go.Proofs.YtaijpiebjhhkjaaGreatDoor
/- LogKeeps: the outer loop. -/
namespace Go.Proofs.YtaijpiebjhhkjaaGreatDoor
open Go.RowKit
theorem inBlock_exit {id : Nat} {Q : Exit → Act → World → Prop} {a : Act} {w : World} (h : Q .normal a w) : Exit.inBlock id Q (.exit id) a w := by
  show (if id = id then Q .normal a w else Q (.exit id) a w)
  rw [if_pos rfl]
  exact h
def lkI1 (w : World) (C : Option Addr) (cc : Nat) (caps : List Int) (P : Option Addr) (cp : Nat) (paths : List (List Int)) (D : Option Addr) (cd : Nat) (drops : List Int) (Y : Option Addr) (cy : Nat) (syncs : List Int) (F : Option Addr) (cf : Nat) (fails : List Int) (K : Option Addr) (ck : Nat) (keeps : List Int) (C' : Option Addr) (cc' bl gl : Nat) (a : Act) (W : World) : Prop := ∃ (m d ro a2 : Nat) (O : List LG.Op) (p : Option Nat) (bs : ByteArray) (safe : Nat) (left : Int) (st : Bool) (cn cm : Nat) (dv : List Value), ro ≤ 4 ∧ a2 ≤ 10 * ro ∧ FrS a 397 (lkR d m O.length cn cm a2 ro (lkS C caps.length cc P paths.length cp D drops.length cd Y syncs.length cy F fails.length cf K keeps.length ck gl)) ∧ Hid (Keeps W w bl gl m d C' cc' caps C cc a2 O O O p bs safe left st cn cm dv)
noncomputable def lkM1 (a : Act) (_ : World) : Nat := 4 - (intOf ((a.tmps[28]?).getD undef)).toNat
theorem lkM1_is {a : Act} {d m n cn cm a2 k : Nat} {l : List (Nat × Value)} (h : FrS a 397 (lkR d m n cn cm a2 k l)) (W : World) : lkM1 a W = 4 - k := by
  have := h.2.2.2.2.2.1
  simp [lkM1, this, intOf]
set_option maxHeartbeats 8000000 in
set_option maxRecDepth 100000 in
theorem lk_round1 (w : World) (C : Option Addr) (cc : Nat) (caps : List Int) (P : Option Addr) (cp : Nat) (paths : List (List Int)) (D : Option Addr) (cd : Nat) (drops : List Int) (Y : Option Addr) (cy : Nat) (syncs : List Int) (F : Option Addr) (cf : Nat) (fails : List Int) (K : Option Addr) (ck : Nat) (keeps : List Int) (C' : Option Addr) (cc' bl gl : Nat) (hc : Ints w w.heap.size C cc caps) (hp : Rows2 w w.heap.size P cp paths) (hd : Ints w w.heap.size D cd drops) (hy : Ints w w.heap.size Y cy syncs) (hf : Ints w w.heap.size F cf fails) (hfw : ∀ n ∈ fails, (Lit.int .i64 n).wf = true) (hk : Ints w w.heap.size K ck keeps) (hc6 : caps.length ≤ 6) (hfl : linksErr caps = 0) (hg : LaidLog w) (a : Act) (W : World) (hI : lkI1 w C cc caps P cp paths D cd drops Y cy syncs F cf fails K ck keeps C' cc' bl gl a W) (Q : Exit → Act → World → Prop) (hx : ∀ a' W', lkI1 w C cc caps P cp paths D cd drops Y cy syncs F cf fails K ck keeps C' cc' bl gl a' W' → Q (.exit 0) a' W') : lk1.wp Tryz.prog (Exit.then (fun a' W' => lkI1 w C cc caps P cp paths D cd drops Y cy syncs F cf fails K ck keeps C' cc' bl gl a' W' ∧ lkM1 a' W' < lkM1 a W) Q) a W := by
  obtain ⟨m, d, ro, a2, O, p, bs, safe, left, st, cn, cm, dv, hro, ha2, hst, HS⟩ := hI
  by_cases hin : ro ≤ fails.length ∧ ro < 4
  · obtain ⟨h1, h2⟩ := hin
    have hmu := lkM1_is hst W
    refine wp_cutc 0 lk1 rfl (lk_head1 C cc caps P cp paths D cd drops Y cy syncs F cf fails K ck keeps gl m d ro a2 O.length cn cm a W hst h1 h2 _ _ fun a1 hst1 => ?_)
    refine wp_seq (wp_block (wp_cutc 0 lkX1 rfl ?_))
    refine lk_fail w C cc caps P cp paths D cd drops Y cy syncs F cf fails K ck keeps C' cc' bl gl hf hfw m d ro a2 O p bs safe left st cn cm dv a1 W hst1 HS _ _ fun a2_ W2 left2 hst2 HS2 => ?_
    refine wp_seq (wp_seq ?_)
    refine lk_zero C cc caps P cp paths D cd drops Y cy syncs F cf fails K ck keeps gl m d ro a2 O.length cn cm a2_ W2 hst2 _ fun a3 hst3 => ?_
    refine wp_block (lk_loop2 w C cc caps P cp paths D cd drops Y cy syncs F cf fails K ck keeps C' cc' bl gl hd hp hy hc6 hg ro hro a3 W2 ⟨m, d, 0, a2, O, p, bs, safe, left2, st, cn, cm, dv, by omega, by omega, hst3, HS2⟩ _ fun a4 W4 hI2 => ?_)
    obtain ⟨m2, d2, k2, a22, O2, p2, bs2, safe2, left3, st3, cn2, cm2, dv2, hk2, ha22, hst4, HS4⟩ := hI2
    refine inBlock_exit ?_
    refine wp_cutc 1 lkZ1 rfl (lk_keep w C cc caps P cp paths D cd drops Y cy syncs F cf fails K ck keeps C' cc' bl gl hk m2 d2 ro a22 O2 p2 bs2 safe2 left3 st3 cn2 cm2 dv2 a4 W4 (hst4.mono fun h => h.2) HS4 _ _ fun a5 kv hst5 hkv => ?_)
    obtain ⟨high, hh⟩ : ∃ high : Nat, (safe2 : Int) + max 0 (min kv ((bs2.size : Int) - safe2)) = high := ⟨((safe2 : Int) + max 0 (min kv ((bs2.size : Int) - safe2))).toNat, by omega⟩
    have hsf := HS4.out.T.sf
    have hln := HS4.out.T.len
    have hnu := HS4.out.T.num
    refine wp_cutc 3 (Code.dr 1 lkZ1) rfl (lk_crash w C cc caps P cp paths D cd drops Y cy syncs F cf fails K ck keeps C' cc' bl gl m2 d2 ro a22 O2 p2 bs2 safe2 left3 st3 cn2 cm2 dv2 kv high hh a5 W4 hst5 HS4 (by omega) hg _ _ fun a6 W6 p' bs' hst6 hf6 HS6 => ?_)
    refine wp_cutc 0 (Code.dr 5 lkZ1) rfl (lk_high C cc caps P cp paths D cd drops Y cy syncs F cf fails K ck keeps gl m2 d2 ro a22 O2.length cn2 cm2 kv bs2.size safe2 high hh hsf (by omega) a6 W6 hst6 _ _ fun a7 hst7 => ?_)
    refine wp_cutc 0 (Code.dr 6 lkZ1) rfl (lk_left0 C cc caps P cp paths D cd drops Y cy syncs F cf fails K ck keeps gl m2 d2 ro a22 O2.length cn2 cm2 high a7 W6 (hst7.mono fun h => h.2.2.2) _ _ fun a8 hst8 => ?_)
    refine wp_seq (wp_seq (lk_i0 C cc caps P cp paths D cd drops Y cy syncs F cf fails K ck keeps gl m2 d2 ro a22 O2.length cn2 cm2 high a8 W6 hst8 _ fun a9 hst9 => ?_))
    refine wp_block (lk_loop3 w C cc caps P cp paths D cd drops Y cy syncs F cf fails K ck keeps C' cc' bl gl m2 d2 ro a22 O2 p' bs' bs'.size (-1) false cn2 cm2 dv2 (O2.take (LG.full O2 high)) high a9 W6 hst9 HS6 (by omega) _ fun a10 hst10 => ?_)
    refine inBlock_exit ?_
    have hfle := LG.full_le O2 high
    obtain ⟨r1, r2, _⟩ := HS6.out.D.room
    obtain ⟨r3, r4, _⟩ := HS6.out.M.room
    refine wp_cutc 1 (Code.dr 8 lkZ1) rfl (lk_slice C cc caps P cp paths D cd drops Y cy syncs F cf fails K ck keeps gl m2 d2 ro a22 O2.length cn2 cm2 (LG.full O2 high) hfle r1 r2 r3 r4 a10 W6 (hst10.mono fun h => ⟨h.1, h.2.2⟩) _ _ fun a11 hst11 => ?_)
    have HS7 := HS6.out.take hfle hfle
    have hl3 : (O2.take (LG.full O2 high)).length = LG.full O2 high := by rw [List.length_take]; omega
    generalize O2.take (LG.full O2 high) = O3 at HS7 hl3 hf6
    rw [← hl3] at hst11
    have hbz : (LG.flat O3).length = bs'.size := by rw [← hf6, bytes_len]
    refine wp_cutc 0 (Code.dr 10 lkZ1) rfl (lk_check2 w C cc caps P cp paths D cd drops Y cy syncs F cf fails K ck keeps C' cc' bl gl m2 d2 ro a22 O3 p' bs' cn2 cm2 _ a11 W6 hst11 (Lib.hid HS7) hbz (by omega) hc6 _ _ fun a12 W12 hst12 HS12 => ?_)
    have fin : ∀ a' W', FrS a' 397 (lkR d2 m2 O3.length cn2 cm2 a22 ro (lkS C caps.length cc P paths.length cp D drops.length cd Y syncs.length cy F fails.length cf K keeps.length ck gl)) → Hid (Keeps W' w bl gl m2 d2 C' cc' caps C cc a22 O3 O3 O3 p' bs' bs'.size (-1) false cn2 cm2 (dv2.take ((LG.full O2 high + 1) * 2))) → Exit.inBlock 1 (Exit.then ((Code.at' [1, 1] lk1).wp Tryz.prog (Exit.then (fun a' W' => lkI1 w C cc caps P cp paths D cd drops Y cy syncs F cf fails K ck keeps C' cc' bl gl a' W' ∧ lkM1 a' W' < lkM1 a W) Q)) (Exit.then (fun a' W' => lkI1 w C cc caps P cp paths D cd drops Y cy syncs F cf fails K ck keeps C' cc' bl gl a' W' ∧ lkM1 a' W' < lkM1 a W) Q)) .normal a' W' := by
      intro a13 W13 hst13 HS13
      refine lk_next1 C cc caps P cp paths D cd drops Y cy syncs F cf fails K ck keeps gl m2 d2 ro a22 O3.length cn2 cm2 a13 W13 hst13 hro _ fun a14 hst14 => ?_
      exact ⟨⟨m2, d2, ro + 1, a22, O3, p', bs', bs'.size, -1, false, cn2, cm2, _, by omega, by omega, hst14, HS13⟩, by rw [lkM1_is hst14, hmu]; omega⟩
    by_cases hn : LG.runs O3 = []
    · exact lk_rates_none w C cc caps P cp paths D cd drops Y cy syncs F cf fails K ck keeps C' cc' bl gl m2 d2 ro a22 O3 p' bs' cn2 cm2 _ a12 W12 hst12 HS12 hfl hg (by omega) hn _ fin
    · exact lk_rates_some w C cc caps P cp paths D cd drops Y cy syncs F cf fails K ck keeps C' cc' bl gl m2 d2 ro a22 O3 p' bs' cn2 cm2 _ a12 W12 hst12 HS12 hfl hg (by omega) hc hc6 hn _ fin
  · refine wp_cutc 0 lk1 rfl (lk_exit1 C cc caps P cp paths D cd drops Y cy syncs F cf fails K ck keeps gl m d ro a2 O.length cn cm a W hst hin _ _ fun a1 hst1 => ?_)
    exact hx a1 W ⟨m, d, ro, a2, O, p, bs, safe, left, st, cn, cm, dv, hro, ha2, hst1, HS⟩
theorem lk_loop1 (w : World) (C : Option Addr) (cc : Nat) (caps : List Int) (P : Option Addr) (cp : Nat) (paths : List (List Int)) (D : Option Addr) (cd : Nat) (drops : List Int) (Y : Option Addr) (cy : Nat) (syncs : List Int) (F : Option Addr) (cf : Nat) (fails : List Int) (K : Option Addr) (ck : Nat) (keeps : List Int) (C' : Option Addr) (cc' bl gl : Nat) (hc : Ints w w.heap.size C cc caps) (hp : Rows2 w w.heap.size P cp paths) (hd : Ints w w.heap.size D cd drops) (hy : Ints w w.heap.size Y cy syncs) (hf : Ints w w.heap.size F cf fails) (hfw : ∀ n ∈ fails, (Lit.int .i64 n).wf = true) (hk : Ints w w.heap.size K ck keeps) (hc6 : caps.length ≤ 6) (hfl : linksErr caps = 0) (hg : LaidLog w) (a : Act) (W : World) (hI : lkI1 w C cc caps P cp paths D cd drops Y cy syncs F cf fails K ck keeps C' cc' bl gl a W) (Q : Exit → Act → World → Prop) (hx : ∀ a' W', lkI1 w C cc caps P cp paths D cd drops Y cy syncs F cf fails K ck keeps C' cc' bl gl a' W' → Q (.exit 0) a' W') : (Code.loop lk1).wp Tryz.prog Q a W :=
  wp_loop (lkI1 w C cc caps P cp paths D cd drops Y cy syncs F cf fails K ck keeps C' cc' bl gl) lkM1 hI fun a W h => lk_round1 w C cc caps P cp paths D cd drops Y cy syncs F cf fails K ck keeps C' cc' bl gl hc hp hd hy hf hfw hk hc6 hfl hg a W h Q hx
end Go.Proofs.YtaijpiebjhhkjaaGreatDoor
