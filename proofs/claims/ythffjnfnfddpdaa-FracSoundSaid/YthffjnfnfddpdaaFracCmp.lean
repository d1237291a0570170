/- frac.checks of two, frac.Compare. -/
import Derived.Test.YthffjnfnfddpdaaFrac
namespace Go.Proofs.Ythffjnfnfddpdaa
open Go.RowKit
attribute [local go_sem ↓] run_min_mn run_max_mx
theorem fcheck_no (t b er : Int) (w : World) (h : fracErr t b = er) (hp : er ≠ 0) : Calls Try.prog 30 #[.agg #[.int .i64 t, .int .i64 b]] w fun e w' => e = .returned (.iface 103 (.int .i64 er)) ∧ Below w.heap.size w w' :=
  (fcheck_all t b w).mono fun _ _ ⟨h1, h2⟩ => ⟨by rw [h1, h, errVal_pos hp], h2⟩
theorem fcheck_yes (t b : Int) (w : World) (h : fracErr t b = 0) : Calls Try.prog 30 #[.agg #[.int .i64 t, .int .i64 b]] w fun e w' => e = .returned .nilIface ∧ Below w.heap.size w w' :=
  (fcheck_all t b w).mono fun _ _ ⟨h1, h2⟩ => ⟨by rw [h1, h, errVal_zero], h2⟩
set_option maxHeartbeats 2000000 in
theorem checks_first (t b u c er : Int) (g : Nat) (w : World) (hb : Blk w g 44 #[.int .i64 t, .int .i64 b, .int .i64 u, .int .i64 c]) (h : fracErr t b = er) (hp : er ≠ 0) :
    Calls Try.prog 70 #[.slice (some ⟨g, 0, none⟩) 2 2] w fun e w' => e = .returned (.iface 103 (.int .i64 er)) ∧ Below w.heap.size w w' := by
  obtain ⟨p0, p1, p2, p3, f0, f1, f2, f3, z0⟩ := hb.four
  have z1 : g < w.heap.size + 1 := by omega
  have H := Lib.hid h
  have HP := Lib.hid hp
  clear hb h hp
  go_enter Try.func70, Try.ntmps70
  go_wp2_with fail
  refine wp_loop_rounds 3 ?_
  rw [rounds_succ]
  go_wp2_with fail
  refine (fcheck_no t b er _ H.out HP.out).mono ?_; rintro e w1 ⟨rfl, hb1⟩
  have HBL := Lib.hid (((Below.refl w.heap.size w).alloc (Nat.le_refl _) (.cells #[.int .i64 t, .int .i64 b] 44)).trans (hb1.mono (by simp)))
  clear hb1
  go_wp2
  go_ret
  exact ⟨rfl, HBL.out⟩
set_option maxHeartbeats 4000000 in
theorem checks_second (t b u c er : Int) (g : Nat) (w : World) (hb : Blk w g 44 #[.int .i64 t, .int .i64 b, .int .i64 u, .int .i64 c]) (h : fracErr t b = 0) (k : fracErr u c = er) (hp : er ≠ 0) :
    Calls Try.prog 70 #[.slice (some ⟨g, 0, none⟩) 2 2] w fun e w' => e = .returned (.iface 103 (.int .i64 er)) ∧ Below w.heap.size w w' := by
  have HB := Lib.hid hb
  obtain ⟨p0, p1, p2, p3, f0, f1, f2, f3, z0⟩ := hb.four
  have z1 : g < w.heap.size + 1 := by omega
  have H := Lib.hid h
  have K := Lib.hid k
  have HP := Lib.hid hp
  clear hb h hp k
  go_enter Try.func70, Try.ntmps70
  go_wp2_with fail
  refine wp_loop_rounds 3 ?_
  rw [rounds_succ]
  go_wp2_with fail
  refine (fcheck_yes t b _ H.out).mono ?_; rintro e w1 ⟨rfl, hb1⟩
  have HBL := Lib.hid (((Below.refl w.heap.size w).alloc (Nat.le_refl _) (.cells #[.int .i64 t, .int .i64 b] 44)).trans (hb1.mono (by simp)))
  have HB1 := Lib.hid (HB.out.below HBL.out z0)
  clear hb1 p0 p1 p2 p3 f0 f1 f2 f3 z1
  obtain ⟨p0, p1, p2, p3, f0, f1, f2, f3, z2⟩ := HB1.out.four
  have z3 : g < w1.heap.size + 1 := by omega
  go_wp2_with fail
  rw [rounds_succ]
  go_wp2_with fail
  refine (fcheck_no u c er _ K.out HP.out).mono ?_; rintro e w2 ⟨rfl, hb2⟩
  have HBL2 := Lib.hid ((HBL.out.alloc HBL.out.size (.cells #[.int .i64 u, .int .i64 c] 44)).trans (hb2.mono (by have := HBL.out.size; simp; omega)))
  clear hb2
  go_wp2
  go_ret
  exact ⟨rfl, HBL2.out⟩
set_option maxHeartbeats 4000000 in
theorem checks_ok (t b u c : Int) (g : Nat) (w : World) (hb : Blk w g 44 #[.int .i64 t, .int .i64 b, .int .i64 u, .int .i64 c]) (h : fracErr t b = 0) (k : fracErr u c = 0) :
    Calls Try.prog 70 #[.slice (some ⟨g, 0, none⟩) 2 2] w fun e w' => e = .returned .nilIface ∧ Below w.heap.size w w' := by
  have HB := Lib.hid hb
  obtain ⟨p0, p1, p2, p3, f0, f1, f2, f3, z0⟩ := hb.four
  have z1 : g < w.heap.size + 1 := by omega
  have H := Lib.hid h
  have K := Lib.hid k
  clear hb h k
  go_enter Try.func70, Try.ntmps70
  go_wp2_with fail
  refine wp_loop_rounds 3 ?_
  rw [rounds_succ]
  go_wp2_with fail
  refine (fcheck_yes t b _ H.out).mono ?_; rintro e w1 ⟨rfl, hb1⟩
  have HBL := Lib.hid (((Below.refl w.heap.size w).alloc (Nat.le_refl _) (.cells #[.int .i64 t, .int .i64 b] 44)).trans (hb1.mono (by simp)))
  have HB1 := Lib.hid (HB.out.below HBL.out z0)
  clear hb1 p0 p1 p2 p3 f0 f1 f2 f3 z1
  obtain ⟨p0, p1, p2, p3, f0, f1, f2, f3, z2⟩ := HB1.out.four
  have z3 : g < w1.heap.size + 1 := by omega
  go_wp2_with fail
  rw [rounds_succ]
  go_wp2_with fail
  refine (fcheck_yes u c _ K.out).mono ?_; rintro e w2 ⟨rfl, hb2⟩
  have HBL2 := Lib.hid ((HBL.out.alloc HBL.out.size (.cells #[.int .i64 u, .int .i64 c] 44)).trans (hb2.mono (by have := HBL.out.size; simp; omega)))
  clear hb2
  go_wp2_with fail
  rw [rounds_succ]
  go_wp2
  go_ret
  exact ⟨rfl, HBL2.out⟩
/-- the fault of two -/
def fracs2 (t b u c : Int) : Int := if fracErr t b ≠ 0 then fracErr t b else fracErr u c
theorem checks_all (t b u c : Int) (g : Nat) (w : World) (hb : Blk w g 44 #[.int .i64 t, .int .i64 b, .int .i64 u, .int .i64 c]) :
    Calls Try.prog 70 #[.slice (some ⟨g, 0, none⟩) 2 2] w fun e w' => e = .returned (errVal (fracs2 t b u c)) ∧ Below w.heap.size w w' := by
  unfold fracs2
  by_cases h : fracErr t b = 0
  · rw [if_neg (fun x => x h)]
    by_cases k : fracErr u c = 0
    · rw [k]; exact checks_ok t b u c g w hb h k
    · rw [errVal_pos k]; exact checks_second t b u c _ g w hb h rfl k
  · rw [if_pos h, errVal_pos h]; exact checks_first t b u c _ g w hb rfl h
theorem checks_no (t b u c er : Int) (g : Nat) (w : World) (hb : Blk w g 44 #[.int .i64 t, .int .i64 b, .int .i64 u, .int .i64 c]) (h : fracs2 t b u c = er) (hp : er ≠ 0) :
    Calls Try.prog 70 #[.slice (some ⟨g, 0, none⟩) 2 2] w fun e w' => e = .returned (.iface 103 (.int .i64 er)) ∧ Below w.heap.size w w' :=
  (checks_all t b u c g w hb).mono fun _ _ ⟨h1, h2⟩ => ⟨by rw [h1, h, errVal_pos hp], h2⟩
set_option maxHeartbeats 2000000 in
theorem fcompare_no (t b u c er : Int) (w : World) (h : fracs2 t b u c = er) (hp : er ≠ 0) :
    Calls Try.prog 33 #[.agg #[.int .i64 t, .int .i64 b], .agg #[.int .i64 u, .int .i64 c]] w fun e w' => e = .returned (.tuple #[.int .i64 0, .iface 103 (.int .i64 er)]) ∧ Below w.heap.size w w' := by
  have HC := Lib.hid fun (g : Nat) (W : World) hb => checks_no t b u c er g W hb h hp
  clear h hp
  go_enter Try.func33, Try.ntmps33
  go_wp2_with fail
  refine (HC.out _ _ (Blk.new' _ _ _ (by simp))).mono ?_; rintro e w1 ⟨rfl, hb1⟩
  go_wp2
  go_ret2
  exact ⟨rfl, ((((Below.refl _ _).alloc (Nat.le_refl _) _).alloc (by simp) _).alloc (by simp; omega) _).trans (hb1.mono (by simp; omega))⟩
set_option maxHeartbeats 2000000 in
theorem fcompare_yes (t b u c y : Int) (w : World) (h : fracErr t b = 0) (k : fracErr u c = 0) (hy : cmpI (t * c) (u * b) = y) :
    Calls Try.prog 33 #[.agg #[.int .i64 t, .int .i64 b], .agg #[.int .i64 u, .int .i64 c]] w fun e w' => e = .returned (.tuple #[.int .i64 y, .nilIface]) ∧ Below w.heap.size w w' := by
  subst hy
  have HC := Lib.hid fun (g : Nat) (W : World) hb => checks_ok t b u c g W hb h k
  have HO := Lib.hid fun W => order_any t b u c W (frac_ok h).1 (frac_ok k).1
  clear h k
  generalize cmpI (t * c) (u * b) = y at *
  have b0 : Below w.heap.size w (((w.alloc (.cells #[.int .i64 t, .int .i64 b] 44)).alloc (.cells #[.int .i64 u, .int .i64 c] 44)).alloc (.cells #[.int .i64 t, .int .i64 b, .int .i64 u, .int .i64 c] 44)) := ((((Below.refl _ _).alloc (Nat.le_refl _) _).alloc (by simp) _).alloc (by simp; omega) _)
  have HP := Lib.hid (((Blk.new w 44 #[.int .i64 t, .int .i64 b]).alloc (.cells #[.int .i64 u, .int .i64 c] 44)).alloc (.cells #[.int .i64 t, .int .i64 b, .int .i64 u, .int .i64 c] 44))
  have HQ := Lib.hid ((Blk.new' (w.alloc (.cells #[.int .i64 t, .int .i64 b] 44)) 44 #[.int .i64 u, .int .i64 c] (g := w.heap.size + 1) (by simp)).alloc (.cells #[.int .i64 t, .int .i64 b, .int .i64 u, .int .i64 c] 44))
  go_enter Try.func33, Try.ntmps33
  go_wp2_with fail
  refine (HC.out _ _ (Blk.new' _ _ _ (by simp))).mono ?_; rintro e w1 ⟨rfl, hb1⟩
  have HP1 := Lib.hid (HP.out.below hb1 (by simp; omega))
  have HQ1 := Lib.hid (HQ.out.below hb1 (by simp))
  have hbel := b0.trans (hb1.mono (by simp; omega))
  obtain ⟨p0, p1, _, _, z0⟩ := HP1.out.two
  obtain ⟨q0, q1, _, _, z1⟩ := HQ1.out.two
  have HBEL := Lib.hid hbel
  clear hb1 b0 hbel HP HQ
  go_wp2_with fail
  refine (HO.out _).mono ?_; rintro e w2 ⟨rfl, hb2⟩
  go_wp2
  go_ret2
  exact ⟨rfl, HBEL.out.trans (hb2.mono HBEL.out.size)⟩
end Go.Proofs.Ythffjnfnfddpdaa
