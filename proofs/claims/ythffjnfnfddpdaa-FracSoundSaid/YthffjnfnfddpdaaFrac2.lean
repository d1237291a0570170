/- Package frac, second part: sums, parts, times, and what fits. -/
import Derived.Test.YthffjnfnfddpdaaFracCmp
import Derived.Test.YthffjnfnfddpdaaPlRat
namespace Go.Proofs.Ythffjnfnfddpdaa
open Go.RowKit
attribute [local go_sem ↓] run_min_mn run_max_mx
theorem fits_yes (t b : Int) (w : World) (h : FracIn t b) :
    Calls Try.prog 71 #[.agg #[.int .i64 t, .int .i64 b]] w fun e w' => e = .returned (.tuple #[.agg #[.int .i64 t, .int .i64 b], .nilIface]) ∧ Below w.heap.size w w' := by
  obtain ⟨h0, h1, h2, h3⟩ := h
  go_enter Try.func71, Try.ntmps71
  go_wp2_with fail
  refine (top_yes t _ h2 h3).mono ?_; rintro e w' ⟨rfl, rfl⟩
  go_wp2_with fail
  refine (bottom_yes b _ h0 h1).mono ?_; rintro e w' ⟨rfl, rfl⟩
  go_wp2
  refine bodyPost_ret (v := .tuple #[.agg #[.int .i64 t, .int .i64 b], .nilIface]) (by simp [results, Try.results71, go_sem]) rfl ⟨rfl, ?_⟩
  exact ((Below.refl _ _).alloc (Nat.le_refl _) _).alloc (by simp) _
theorem fits_no (t b : Int) (w : World) (h : ¬ FracIn t b) :
    Calls Try.prog 71 #[.agg #[.int .i64 t, .int .i64 b]] w fun e w' => e = .returned (.tuple #[.agg #[.int .i64 0, .int .i64 0], .iface 103 (.int .i64 4)]) ∧ Below w.heap.size w w' := by
  unfold FracIn at h
  by_cases ht : t < -1000000000 ∨ 1000000000 < t
  · clear h
    go_enter Try.func71, Try.ntmps71
    go_wp2_with fail
    refine (top_no t _ ht).mono ?_; rintro e w' ⟨rfl, rfl⟩
    clear ht
    go_wp2
    refine bodyPost_ret (v := .tuple #[.agg #[.int .i64 0, .int .i64 0], .iface 103 (.int .i64 4)]) (by simp [results, Try.results71, go_sem]) rfl ⟨rfl, ?_⟩
    exact ((Below.refl _ _).alloc (Nat.le_refl _) _).alloc (by simp) _
  · have h2 : -1000000000 ≤ t := by omega
    have h3 : t ≤ 1000000000 := by omega
    have hb : b < 1 ∨ 100000000 < b := by omega
    clear h ht
    go_enter Try.func71, Try.ntmps71
    go_wp2_with fail
    refine (top_yes t _ h2 h3).mono ?_; rintro e w' ⟨rfl, rfl⟩
    go_wp2_with fail
    refine (bottom_no b _ hb).mono ?_; rintro e w' ⟨rfl, rfl⟩
    clear hb
    go_wp2
    refine bodyPost_ret (v := .tuple #[.agg #[.int .i64 0, .int .i64 0], .iface 103 (.int .i64 4)]) (by simp [results, Try.results71, go_sem]) rfl ⟨rfl, ?_⟩
    exact ((Below.refl _ _).alloc (Nat.le_refl _) _).alloc (by simp) _
theorem whole_any (n : Int) (w : World) :
    Calls Try.prog 89 #[.int .i64 n] w fun e w' => e = .returned (.agg #[.int .i64 n, .int .i64 1]) ∧ Below w.heap.size w w' := by
  go_enter Try.func89, Try.ntmps89
  go_wp2
  refine bodyPost_ret (v := .agg #[.int .i64 n, .int .i64 1]) (by simp [results, Try.results89, go_sem]) rfl ⟨rfl, ?_⟩
  repeat (first | exact Below.refl _ _ | apply Below.drew | refine Below.setCell ?_ (by simp) _ | refine Below.alloc ?_ (by simp) _)
theorem minus_any (t b : Int) (w : World) (h2 : -1000000000 ≤ t) (h3 : t ≤ 1000000000) :
    Calls Try.prog 93 #[.agg #[.int .i64 t, .int .i64 b]] w fun e w' => e = .returned (.agg #[.int .i64 (-t), .int .i64 b]) ∧ Below w.heap.size w w' := by
  go_enter Try.func93, Try.ntmps93
  go_wp2
  refine bodyPost_ret (v := .agg #[.int .i64 (-t), .int .i64 b]) (by simp [results, Try.results93, go_sem]) rfl ⟨rfl, ?_⟩
  repeat (first | exact Below.refl _ _ | apply Below.drew | apply below_drewN | refine Below.setCell ?_ (by simp) _ | refine Below.alloc ?_ (by simp) _)
theorem mul_pos_in (b c : Int) (h0 : 1 ≤ b) (h1 : b ≤ 100000000) (h2 : 1 ≤ c) (h3 : c ≤ 100000000) : 1 ≤ b * c ∧ b * c ≤ 10000000000000000 := by
  have a : b * c ≤ 100000000 * c := Int.mul_le_mul_of_nonneg_right h1 (by omega)
  have d : 1 * c ≤ b * c := Int.mul_le_mul_of_nonneg_right h0 (by omega)
  omega
def sumT (t b u c : Int) : Int := lowT (t * c + u * b) (b * c)
def sumB (t b u c : Int) : Int := lowB (t * c + u * b) (b * c)
set_option maxHeartbeats 1000000 in
theorem sum_any (t b u c : Int) (w : World) (h : FracIn t b) (k : FracIn u c) :
    Calls Try.prog 72 #[.agg #[.int .i64 t, .int .i64 b], .agg #[.int .i64 u, .int .i64 c]] w fun e w' => e = .returned (.agg #[.int .i64 (sumT t b u c), .int .i64 (sumB t b u c)]) ∧ Below w.heap.size w w' := by
  obtain ⟨h0, h1, h2, h3⟩ := h
  obtain ⟨k0, k1, k2, k3⟩ := k
  obtain ⟨m1, m3⟩ := mul_in t c h2 h3 k0 k1
  obtain ⟨m2, m4⟩ := mul_in u b k2 k3 h0 h1
  obtain ⟨m5, m6⟩ := mul_pos_in b c h0 h1 k0 k1
  have HL := Lib.hid fun W => low_any (t * c + u * b) (b * c) W (by omega) (by omega) (by omega) (by omega)
  unfold sumT sumB
  generalize lowT (t * c + u * b) (b * c) = vt at *
  generalize lowB (t * c + u * b) (b * c) = vb at *
  go_enter Try.func72, Try.ntmps72
  go_wp2_with fail
  refine (HL.out _).mono ?_; rintro e w2 ⟨rfl, hb2⟩
  have hbel := ((((Below.refl w.heap.size w).alloc (Nat.le_refl _) (.cells #[.int .i64 t, .int .i64 b] 44)).alloc (by simp) (.cells #[.int .i64 u, .int .i64 c] 44)).alloc (by simp; omega) (.cells #[.int .i64 0, .int .i64 0] 44))
  have HP := Lib.hid ((Blk.new' ((w.alloc (.cells #[.int .i64 t, .int .i64 b] 44)).alloc (.cells #[.int .i64 u, .int .i64 c] 44)) 44 #[.int .i64 0, .int .i64 0] (g := w.heap.size + 1 + 1) (by simp)).below hb2 (by simp))
  obtain ⟨p0, p1, f0, f1, z0⟩ := HP.out.two
  have HBEL := Lib.hid (hbel.trans (hb2.mono (by simp; omega)))
  clear hbel hb2
  go_wp2
  refine bodyPost_ret (v := .agg #[.int .i64 vt, .int .i64 vb]) (by simp [results, Try.results72, go_sem, *]) rfl ⟨rfl, ?_⟩
  exact (HBEL.out.setCell (by first | (focus (simp; done)) | (simp; omega)) _).setCell (by first | (focus (simp; done)) | (simp; omega)) _
set_option maxHeartbeats 1000000 in
theorem parts_any (t b n : Int) (w : World) (h : FracIn t b) (n0 : 1 ≤ n) (n1 : n ≤ 1000) :
    Calls Try.prog 77 #[.agg #[.int .i64 t, .int .i64 b], .int .i64 n] w fun e w' => e = .returned (.agg #[.int .i64 (lowT t (b * n)), .int .i64 (lowB t (b * n))]) ∧ Below w.heap.size w w' := by
  obtain ⟨h0, h1, h2, h3⟩ := h
  obtain ⟨m5, m6⟩ := mul_pos_in b n h0 h1 n0 (by omega)
  have HL := Lib.hid fun W => low_any t (b * n) W (by omega) (by omega) (by omega) (by omega)
  generalize lowT t (b * n) = vt at *
  generalize lowB t (b * n) = vb at *
  go_enter Try.func77, Try.ntmps77
  go_wp2_with fail
  refine (HL.out _).mono ?_; rintro e w2 ⟨rfl, hb2⟩
  have hbel := (((Below.refl w.heap.size w).alloc (Nat.le_refl _) (.cells #[.int .i64 t, .int .i64 b] 44)).alloc (by simp) (.cells #[.int .i64 0, .int .i64 0] 44))
  have HP := Lib.hid ((Blk.new' ((w.alloc (.cells #[.int .i64 t, .int .i64 b] 44))) 44 #[.int .i64 0, .int .i64 0] (g := w.heap.size + 1) (by simp)).below hb2 (by simp))
  obtain ⟨p0, p1, f0, f1, z0⟩ := HP.out.two
  have HBEL := Lib.hid (hbel.trans (hb2.mono (by simp; omega)))
  clear hbel hb2
  go_wp2
  refine bodyPost_ret (v := .agg #[.int .i64 vt, .int .i64 vb]) (by simp [results, Try.results77, go_sem, *]) rfl ⟨rfl, ?_⟩
  exact (HBEL.out.setCell (by first | (focus (simp; done)) | (simp; omega)) _).setCell (by first | (focus (simp; done)) | (simp; omega)) _
/-- a result that fits, or the fault -/
def fitV (t b : Int) : Value := if FracIn t b then .tuple #[.agg #[.int .i64 t, .int .i64 b], .nilIface] else .tuple #[.agg #[.int .i64 0, .int .i64 0], .iface 103 (.int .i64 4)]
theorem fits_any (t b : Int) (w : World) : Calls Try.prog 71 #[.agg #[.int .i64 t, .int .i64 b]] w fun e w' => e = .returned (fitV t b) ∧ Below w.heap.size w w' := by
  unfold fitV
  by_cases h : FracIn t b
  · rw [if_pos h]; exact fits_yes t b w h
  · rw [if_neg h]; exact fits_no t b w h
set_option maxHeartbeats 4000000 in
theorem fadd_no (t b u c er : Int) (w : World) (h : fracs2 t b u c = er) (hp : er ≠ 0) :
    Calls Try.prog 28 #[.agg #[.int .i64 t, .int .i64 b], .agg #[.int .i64 u, .int .i64 c]] w fun e w' => e = .returned (.tuple #[.agg #[.int .i64 0, .int .i64 0], .iface 103 (.int .i64 er)]) ∧ Below w.heap.size w w' := by
  have HC := Lib.hid fun (g : Nat) (W : World) hb => checks_no t b u c er g W hb h hp
  clear h hp
  have b0 : Below w.heap.size w ((((w.alloc (.cells #[.int .i64 t, .int .i64 b] 44)).alloc (.cells #[.int .i64 u, .int .i64 c] 44)).alloc (.cells #[.int .i64 0, .int .i64 0] 44)).alloc (.cells #[.int .i64 t, .int .i64 b, .int .i64 u, .int .i64 c] 44)) := (((((Below.refl _ _).alloc (Nat.le_refl _) _).alloc (by simp) _).alloc (by simp; omega) _).alloc (by simp; omega) _)
  have HR := Lib.hid ((Blk.new' ((w.alloc (.cells #[.int .i64 t, .int .i64 b] 44)).alloc (.cells #[.int .i64 u, .int .i64 c] 44)) 44 #[.int .i64 0, .int .i64 0] (g := w.heap.size + 1 + 1) (by simp)).alloc (.cells #[.int .i64 t, .int .i64 b, .int .i64 u, .int .i64 c] 44))
  go_enter Try.func28, Try.ntmps28
  go_wp2_with fail
  refine (HC.out _ _ (Blk.new' _ _ _ (by simp))).mono ?_; rintro e w1 ⟨rfl, hb1⟩
  have HR1 := Lib.hid (HR.out.below hb1 (by simp))
  have HBEL := Lib.hid (b0.trans (hb1.mono (by simp; omega)))
  obtain ⟨r0, r1, f0, f1, z2⟩ := HR1.out.two
  clear hb1 b0 HR
  go_wp2
  refine bodyPost_ret (v := .tuple #[.agg #[.int .i64 0, .int .i64 0], .iface 103 (.int .i64 er)]) (by simp [results, Try.results28, go_sem, *]) rfl ⟨rfl, ?_⟩
  exact (HBEL.out.setCell (by first | (focus (simp; done)) | (simp; omega)) _).setCell (by first | (focus (simp; done)) | (simp; omega)) _
set_option maxHeartbeats 4000000 in
theorem fadd_yes (t b u c : Int) (v1 v2 er : Int) (w : World) (h : fracErr t b = 0) (k : fracErr u c = 0) (hv : fitV (sumT t b u c) (sumB t b u c) = .tuple #[.agg #[.int .i64 v1, .int .i64 v2], errVal er]) :
    Calls Try.prog 28 #[.agg #[.int .i64 t, .int .i64 b], .agg #[.int .i64 u, .int .i64 c]] w fun e w' => e = .returned (.tuple #[.agg #[.int .i64 v1, .int .i64 v2], errVal er]) ∧ Below w.heap.size w w' := by
  have HC := Lib.hid fun (g : Nat) (W : World) hb => checks_ok t b u c g W hb h k
  have HS := Lib.hid fun W => sum_any t b u c W (frac_ok h).1 (frac_ok k).1
  have HF := Lib.hid fun W => fits_any (sumT t b u c) (sumB t b u c) W
  rw [hv] at HF
  clear h k hv
  generalize sumT t b u c = x at *
  generalize sumB t b u c = y at *
  generalize errVal er = ev at *
  have b0 : Below w.heap.size w ((((w.alloc (.cells #[.int .i64 t, .int .i64 b] 44)).alloc (.cells #[.int .i64 u, .int .i64 c] 44)).alloc (.cells #[.int .i64 0, .int .i64 0] 44)).alloc (.cells #[.int .i64 t, .int .i64 b, .int .i64 u, .int .i64 c] 44)) := (((((Below.refl _ _).alloc (Nat.le_refl _) _).alloc (by simp) _).alloc (by simp; omega) _).alloc (by simp; omega) _)
  have HP := Lib.hid ((((Blk.new w 44 #[.int .i64 t, .int .i64 b]).alloc (.cells #[.int .i64 u, .int .i64 c] 44)).alloc (.cells #[.int .i64 0, .int .i64 0] 44)).alloc (.cells #[.int .i64 t, .int .i64 b, .int .i64 u, .int .i64 c] 44))
  have HQ := Lib.hid (((Blk.new' (w.alloc (.cells #[.int .i64 t, .int .i64 b] 44)) 44 #[.int .i64 u, .int .i64 c] (g := w.heap.size + 1) (by simp)).alloc (.cells #[.int .i64 0, .int .i64 0] 44)).alloc (.cells #[.int .i64 t, .int .i64 b, .int .i64 u, .int .i64 c] 44))
  have HR := Lib.hid ((Blk.new' ((w.alloc (.cells #[.int .i64 t, .int .i64 b] 44)).alloc (.cells #[.int .i64 u, .int .i64 c] 44)) 44 #[.int .i64 0, .int .i64 0] (g := w.heap.size + 1 + 1) (by simp)).alloc (.cells #[.int .i64 t, .int .i64 b, .int .i64 u, .int .i64 c] 44))
  go_enter Try.func28, Try.ntmps28
  go_wp2_with fail
  refine (HC.out _ _ (Blk.new' _ _ _ (by simp))).mono ?_; rintro e w1 ⟨rfl, hb1⟩
  have HP1 := Lib.hid (HP.out.below hb1 (by simp; omega))
  have HQ1 := Lib.hid (HQ.out.below hb1 (by simp))
  have HR1 := Lib.hid (HR.out.below hb1 (by simp))
  have HBEL := Lib.hid (b0.trans (hb1.mono (by simp; omega)))
  obtain ⟨p0, p1, _, _, z0⟩ := HP1.out.two
  obtain ⟨q0, q1, _, _, z1⟩ := HQ1.out.two
  clear hb1 b0 HP HQ HR
  go_wp2_with fail
  refine (HS.out _).mono ?_; rintro e w2 ⟨rfl, hb2⟩
  have HR2 := Lib.hid (HR1.out.below hb2 HR1.out.lt)
  have HBEL2 := Lib.hid (HBEL.out.trans (hb2.mono HBEL.out.size))
  clear p0 p1 q0 q1 z0 z1 hb2
  go_wp2_with fail
  refine (HF.out _).mono ?_; rintro e w3 ⟨rfl, hb3⟩
  have HR3 := Lib.hid (HR2.out.below hb3 HR2.out.lt)
  have HBEL3 := Lib.hid (HBEL2.out.trans (hb3.mono HBEL2.out.size))
  obtain ⟨r0, r1, f0, f1, z2⟩ := HR3.out.two
  clear hb3
  go_wp2
  refine bodyPost_ret (v := .tuple #[.agg #[.int .i64 v1, .int .i64 v2], ev]) (by simp [results, Try.results28, go_sem, *]) rfl ⟨rfl, ?_⟩
  exact (HBEL3.out.setCell (by first | (focus (simp; done)) | (simp; omega)) _).setCell (by first | (focus (simp; done)) | (simp; omega)) _
theorem mul_k (t n : Int) (h0 : -1000000000 ≤ t) (h1 : t ≤ 1000000000) (h2 : -1000 ≤ n) (h3 : n ≤ 1000) : -1000000000000 ≤ t * n ∧ t * n ≤ 1000000000000 := by
  have e : (t * n).natAbs = t.natAbs * n.natAbs := Int.natAbs_mul t n
  have : t.natAbs * n.natAbs ≤ 1000000000 * 1000 := Nat.mul_le_mul (by omega) (by omega)
  omega
set_option maxHeartbeats 2000000 in
theorem times_bad (t b n er : Int) (w : World) (h : fracErr t b = er) (hp : er ≠ 0) :
    Calls Try.prog 29 #[.agg #[.int .i64 t, .int .i64 b], .int .i64 n] w fun e w' => e = .returned (.tuple #[.agg #[.int .i64 0, .int .i64 0], .iface 103 (.int .i64 er)]) ∧ Below w.heap.size w w' := by
  have HC := Lib.hid fun (W : World) => fcheck_no t b er W h hp
  clear h hp
  have b0 : Below w.heap.size w ((w.alloc (.cells #[.int .i64 t, .int .i64 b] 44)).alloc (.cells #[.int .i64 0, .int .i64 0] 44)) := (((Below.refl _ _).alloc (Nat.le_refl _) _).alloc (by simp) _)
  have HR := Lib.hid (Blk.new' (w.alloc (.cells #[.int .i64 t, .int .i64 b] 44)) 44 #[.int .i64 0, .int .i64 0] (g := w.heap.size + 1) (by simp))
  go_enter Try.func29, Try.ntmps29
  go_wp2_with fail
  refine (HC.out _).mono ?_; rintro e w1 ⟨rfl, hb1⟩
  have HR1 := Lib.hid (HR.out.below hb1 (by simp))
  have HBEL := Lib.hid (b0.trans (hb1.mono (by simp; omega)))
  obtain ⟨r0, r1, f0, f1, z2⟩ := HR1.out.two
  clear hb1 b0 HR
  go_wp2
  refine bodyPost_ret (v := .tuple #[.agg #[.int .i64 0, .int .i64 0], .iface 103 (.int .i64 er)]) (by simp [results, Try.results29, go_sem, *]) rfl ⟨rfl, ?_⟩
  exact (HBEL.out.setCell (by first | (focus (simp; done)) | (simp; omega)) _).setCell (by first | (focus (simp; done)) | (simp; omega)) _
set_option maxHeartbeats 2000000 in
theorem times_out0 (t b n : Int) (w : World) (h : fracErr t b = 0) (hn : n < -1000) :
    Calls Try.prog 29 #[.agg #[.int .i64 t, .int .i64 b], .int .i64 n] w fun e w' => e = .returned (.tuple #[.agg #[.int .i64 0, .int .i64 0], .iface 103 (.int .i64 1)]) ∧ Below w.heap.size w w' := by
  have HC := Lib.hid fun (W : World) => fcheck_yes t b W h
  clear h
  have b0 : Below w.heap.size w ((w.alloc (.cells #[.int .i64 t, .int .i64 b] 44)).alloc (.cells #[.int .i64 0, .int .i64 0] 44)) := (((Below.refl _ _).alloc (Nat.le_refl _) _).alloc (by simp) _)
  have HR := Lib.hid (Blk.new' (w.alloc (.cells #[.int .i64 t, .int .i64 b] 44)) 44 #[.int .i64 0, .int .i64 0] (g := w.heap.size + 1) (by simp))
  go_enter Try.func29, Try.ntmps29
  go_wp2_with fail
  refine (HC.out _).mono ?_; rintro e w1 ⟨rfl, hb1⟩
  have HR1 := Lib.hid (HR.out.below hb1 (by simp))
  have HBEL := Lib.hid (b0.trans (hb1.mono (by simp; omega)))
  obtain ⟨r0, r1, f0, f1, z2⟩ := HR1.out.two
  clear hb1 b0 HR
  go_wp2
  refine bodyPost_ret (v := .tuple #[.agg #[.int .i64 0, .int .i64 0], .iface 103 (.int .i64 1)]) (by simp [results, Try.results29, go_sem, *]) rfl ⟨rfl, ?_⟩
  exact (HBEL.out.setCell (by first | (focus (simp; done)) | (simp; omega)) _).setCell (by first | (focus (simp; done)) | (simp; omega)) _
set_option maxHeartbeats 2000000 in
theorem times_out1 (t b n : Int) (w : World) (h : fracErr t b = 0) (hn : 1000 < n) :
    Calls Try.prog 29 #[.agg #[.int .i64 t, .int .i64 b], .int .i64 n] w fun e w' => e = .returned (.tuple #[.agg #[.int .i64 0, .int .i64 0], .iface 103 (.int .i64 1)]) ∧ Below w.heap.size w w' := by
  have HC := Lib.hid fun (W : World) => fcheck_yes t b W h
  have h0 : -1000 ≤ n := by omega
  clear h
  have b0 : Below w.heap.size w ((w.alloc (.cells #[.int .i64 t, .int .i64 b] 44)).alloc (.cells #[.int .i64 0, .int .i64 0] 44)) := (((Below.refl _ _).alloc (Nat.le_refl _) _).alloc (by simp) _)
  have HR := Lib.hid (Blk.new' (w.alloc (.cells #[.int .i64 t, .int .i64 b] 44)) 44 #[.int .i64 0, .int .i64 0] (g := w.heap.size + 1) (by simp))
  go_enter Try.func29, Try.ntmps29
  go_wp2_with fail
  refine (HC.out _).mono ?_; rintro e w1 ⟨rfl, hb1⟩
  have HR1 := Lib.hid (HR.out.below hb1 (by simp))
  have HBEL := Lib.hid (b0.trans (hb1.mono (by simp; omega)))
  obtain ⟨r0, r1, f0, f1, z2⟩ := HR1.out.two
  clear hb1 b0 HR
  go_wp2
  refine bodyPost_ret (v := .tuple #[.agg #[.int .i64 0, .int .i64 0], .iface 103 (.int .i64 1)]) (by simp [results, Try.results29, go_sem, *]) rfl ⟨rfl, ?_⟩
  exact (HBEL.out.setCell (by first | (focus (simp; done)) | (simp; omega)) _).setCell (by first | (focus (simp; done)) | (simp; omega)) _
set_option maxHeartbeats 4000000 in
theorem times_yes (t b n v1 v2 er : Int) (w : World) (h : fracErr t b = 0) (n0 : -1000 ≤ n) (n1 : n ≤ 1000) (hv : fitV (lowT (t * n) b) (lowB (t * n) b) = .tuple #[.agg #[.int .i64 v1, .int .i64 v2], errVal er]) :
    Calls Try.prog 29 #[.agg #[.int .i64 t, .int .i64 b], .int .i64 n] w fun e w' => e = .returned (.tuple #[.agg #[.int .i64 v1, .int .i64 v2], errVal er]) ∧ Below w.heap.size w w' := by
  have HC := Lib.hid fun (W : World) => fcheck_yes t b W h
  have hin := (frac_ok h).1
  obtain ⟨i0, i1, i2, i3⟩ := hin
  obtain ⟨m1, m2⟩ := mul_k t n i2 i3 n0 n1
  have HS := Lib.hid fun W => low_any (t * n) b W (by omega) (by omega) (by omega) (by omega)
  have HF := Lib.hid fun W => fits_any (lowT (t * n) b) (lowB (t * n) b) W
  rw [hv] at HF
  clear h hv
  generalize lowT (t * n) b = x at *
  generalize lowB (t * n) b = y at *
  generalize errVal er = ev at *
  have b0 : Below w.heap.size w ((w.alloc (.cells #[.int .i64 t, .int .i64 b] 44)).alloc (.cells #[.int .i64 0, .int .i64 0] 44)) := (((Below.refl _ _).alloc (Nat.le_refl _) _).alloc (by simp) _)
  have HP := Lib.hid ((Blk.new w 44 #[.int .i64 t, .int .i64 b]).alloc (.cells #[.int .i64 0, .int .i64 0] 44))
  have HR := Lib.hid (Blk.new' (w.alloc (.cells #[.int .i64 t, .int .i64 b] 44)) 44 #[.int .i64 0, .int .i64 0] (g := w.heap.size + 1) (by simp))
  go_enter Try.func29, Try.ntmps29
  go_wp2_with fail
  refine (HC.out _).mono ?_; rintro e w1 ⟨rfl, hb1⟩
  have HP1 := Lib.hid (HP.out.below hb1 (by simp; omega))
  have HR1 := Lib.hid (HR.out.below hb1 (by simp))
  have HBEL := Lib.hid (b0.trans (hb1.mono (by simp; omega)))
  obtain ⟨p0, p1, _, _, z0⟩ := HP1.out.two
  clear hb1 b0 HP HR
  go_wp2_with fail
  refine (HS.out _).mono ?_; rintro e w2 ⟨rfl, hb2⟩
  have HR2 := Lib.hid (HR1.out.below hb2 HR1.out.lt)
  have HBEL2 := Lib.hid (HBEL.out.trans (hb2.mono HBEL.out.size))
  clear p0 p1 z0 hb2
  go_wp2_with fail
  refine (HF.out _).mono ?_; rintro e w3 ⟨rfl, hb3⟩
  have HR3 := Lib.hid (HR2.out.below hb3 HR2.out.lt)
  have HBEL3 := Lib.hid (HBEL2.out.trans (hb3.mono HBEL2.out.size))
  obtain ⟨r0, r1, f0, f1, z2⟩ := HR3.out.two
  clear hb3
  go_wp2
  refine bodyPost_ret (v := .tuple #[.agg #[.int .i64 v1, .int .i64 v2], ev]) (by simp [results, Try.results29, go_sem, *]) rfl ⟨rfl, ?_⟩
  exact (HBEL3.out.setCell (by first | (focus (simp; done)) | (simp; omega)) _).setCell (by first | (focus (simp; done)) | (simp; omega)) _
set_option maxHeartbeats 2000000 in
theorem by_bad (t b n er : Int) (w : World) (h : fracErr t b = er) (hp : er ≠ 0) :
    Calls Try.prog 32 #[.agg #[.int .i64 t, .int .i64 b], .int .i64 n] w fun e w' => e = .returned (.tuple #[.agg #[.int .i64 0, .int .i64 0], .iface 103 (.int .i64 er)]) ∧ Below w.heap.size w w' := by
  have HC := Lib.hid fun (W : World) => fcheck_no t b er W h hp
  clear h hp
  have b0 : Below w.heap.size w ((w.alloc (.cells #[.int .i64 t, .int .i64 b] 44)).alloc (.cells #[.int .i64 0, .int .i64 0] 44)) := (((Below.refl _ _).alloc (Nat.le_refl _) _).alloc (by simp) _)
  have HR := Lib.hid (Blk.new' (w.alloc (.cells #[.int .i64 t, .int .i64 b] 44)) 44 #[.int .i64 0, .int .i64 0] (g := w.heap.size + 1) (by simp))
  go_enter Try.func32, Try.ntmps32
  go_wp2_with fail
  refine (HC.out _).mono ?_; rintro e w1 ⟨rfl, hb1⟩
  have HR1 := Lib.hid (HR.out.below hb1 (by simp))
  have HBEL := Lib.hid (b0.trans (hb1.mono (by simp; omega)))
  obtain ⟨r0, r1, f0, f1, z2⟩ := HR1.out.two
  clear hb1 b0 HR
  go_wp2
  refine bodyPost_ret (v := .tuple #[.agg #[.int .i64 0, .int .i64 0], .iface 103 (.int .i64 er)]) (by simp [results, Try.results32, go_sem, *]) rfl ⟨rfl, ?_⟩
  exact (HBEL.out.setCell (by first | (focus (simp; done)) | (simp; omega)) _).setCell (by first | (focus (simp; done)) | (simp; omega)) _
set_option maxHeartbeats 2000000 in
theorem by_out0 (t b n : Int) (w : World) (h : fracErr t b = 0) (hn : n < 1) :
    Calls Try.prog 32 #[.agg #[.int .i64 t, .int .i64 b], .int .i64 n] w fun e w' => e = .returned (.tuple #[.agg #[.int .i64 0, .int .i64 0], .iface 103 (.int .i64 1)]) ∧ Below w.heap.size w w' := by
  have HC := Lib.hid fun (W : World) => fcheck_yes t b W h
  clear h
  have b0 : Below w.heap.size w ((w.alloc (.cells #[.int .i64 t, .int .i64 b] 44)).alloc (.cells #[.int .i64 0, .int .i64 0] 44)) := (((Below.refl _ _).alloc (Nat.le_refl _) _).alloc (by simp) _)
  have HR := Lib.hid (Blk.new' (w.alloc (.cells #[.int .i64 t, .int .i64 b] 44)) 44 #[.int .i64 0, .int .i64 0] (g := w.heap.size + 1) (by simp))
  go_enter Try.func32, Try.ntmps32
  go_wp2_with fail
  refine (HC.out _).mono ?_; rintro e w1 ⟨rfl, hb1⟩
  have HR1 := Lib.hid (HR.out.below hb1 (by simp))
  have HBEL := Lib.hid (b0.trans (hb1.mono (by simp; omega)))
  obtain ⟨r0, r1, f0, f1, z2⟩ := HR1.out.two
  clear hb1 b0 HR
  go_wp2
  refine bodyPost_ret (v := .tuple #[.agg #[.int .i64 0, .int .i64 0], .iface 103 (.int .i64 1)]) (by simp [results, Try.results32, go_sem, *]) rfl ⟨rfl, ?_⟩
  exact (HBEL.out.setCell (by first | (focus (simp; done)) | (simp; omega)) _).setCell (by first | (focus (simp; done)) | (simp; omega)) _
set_option maxHeartbeats 2000000 in
theorem by_out1 (t b n : Int) (w : World) (h : fracErr t b = 0) (hn : 1000 < n) :
    Calls Try.prog 32 #[.agg #[.int .i64 t, .int .i64 b], .int .i64 n] w fun e w' => e = .returned (.tuple #[.agg #[.int .i64 0, .int .i64 0], .iface 103 (.int .i64 1)]) ∧ Below w.heap.size w w' := by
  have HC := Lib.hid fun (W : World) => fcheck_yes t b W h
  have h0 : 1 ≤ n := by omega
  clear h
  have b0 : Below w.heap.size w ((w.alloc (.cells #[.int .i64 t, .int .i64 b] 44)).alloc (.cells #[.int .i64 0, .int .i64 0] 44)) := (((Below.refl _ _).alloc (Nat.le_refl _) _).alloc (by simp) _)
  have HR := Lib.hid (Blk.new' (w.alloc (.cells #[.int .i64 t, .int .i64 b] 44)) 44 #[.int .i64 0, .int .i64 0] (g := w.heap.size + 1) (by simp))
  go_enter Try.func32, Try.ntmps32
  go_wp2_with fail
  refine (HC.out _).mono ?_; rintro e w1 ⟨rfl, hb1⟩
  have HR1 := Lib.hid (HR.out.below hb1 (by simp))
  have HBEL := Lib.hid (b0.trans (hb1.mono (by simp; omega)))
  obtain ⟨r0, r1, f0, f1, z2⟩ := HR1.out.two
  clear hb1 b0 HR
  go_wp2
  refine bodyPost_ret (v := .tuple #[.agg #[.int .i64 0, .int .i64 0], .iface 103 (.int .i64 1)]) (by simp [results, Try.results32, go_sem, *]) rfl ⟨rfl, ?_⟩
  exact (HBEL.out.setCell (by first | (focus (simp; done)) | (simp; omega)) _).setCell (by first | (focus (simp; done)) | (simp; omega)) _
set_option maxHeartbeats 4000000 in
theorem by_yes (t b n v1 v2 er : Int) (w : World) (h : fracErr t b = 0) (n0 : 1 ≤ n) (n1 : n ≤ 1000) (hv : fitV (lowT t (b * n)) (lowB t (b * n)) = .tuple #[.agg #[.int .i64 v1, .int .i64 v2], errVal er]) :
    Calls Try.prog 32 #[.agg #[.int .i64 t, .int .i64 b], .int .i64 n] w fun e w' => e = .returned (.tuple #[.agg #[.int .i64 v1, .int .i64 v2], errVal er]) ∧ Below w.heap.size w w' := by
  have HC := Lib.hid fun (W : World) => fcheck_yes t b W h
  have hin := (frac_ok h).1
  obtain ⟨i0, i1, i2, i3⟩ := hin
  have HS := Lib.hid fun W => parts_any t b n W ⟨i0, i1, i2, i3⟩ n0 n1
  have HF := Lib.hid fun W => fits_any (lowT t (b * n)) (lowB t (b * n)) W
  rw [hv] at HF
  clear h hv
  generalize lowT t (b * n) = x at *
  generalize lowB t (b * n) = y at *
  generalize errVal er = ev at *
  have b0 : Below w.heap.size w ((w.alloc (.cells #[.int .i64 t, .int .i64 b] 44)).alloc (.cells #[.int .i64 0, .int .i64 0] 44)) := (((Below.refl _ _).alloc (Nat.le_refl _) _).alloc (by simp) _)
  have HP := Lib.hid ((Blk.new w 44 #[.int .i64 t, .int .i64 b]).alloc (.cells #[.int .i64 0, .int .i64 0] 44))
  have HR := Lib.hid (Blk.new' (w.alloc (.cells #[.int .i64 t, .int .i64 b] 44)) 44 #[.int .i64 0, .int .i64 0] (g := w.heap.size + 1) (by simp))
  go_enter Try.func32, Try.ntmps32
  go_wp2_with fail
  refine (HC.out _).mono ?_; rintro e w1 ⟨rfl, hb1⟩
  have HP1 := Lib.hid (HP.out.below hb1 (by simp; omega))
  have HR1 := Lib.hid (HR.out.below hb1 (by simp))
  have HBEL := Lib.hid (b0.trans (hb1.mono (by simp; omega)))
  obtain ⟨p0, p1, _, _, z0⟩ := HP1.out.two
  clear hb1 b0 HP HR
  go_wp2_with fail
  refine (HS.out _).mono ?_; rintro e w2 ⟨rfl, hb2⟩
  have HR2 := Lib.hid (HR1.out.below hb2 HR1.out.lt)
  have HBEL2 := Lib.hid (HBEL.out.trans (hb2.mono HBEL.out.size))
  clear p0 p1 z0 hb2
  go_wp2_with fail
  refine (HF.out _).mono ?_; rintro e w3 ⟨rfl, hb3⟩
  have HR3 := Lib.hid (HR2.out.below hb3 HR2.out.lt)
  have HBEL3 := Lib.hid (HBEL2.out.trans (hb3.mono HBEL2.out.size))
  obtain ⟨r0, r1, f0, f1, z2⟩ := HR3.out.two
  clear hb3
  go_wp2
  refine bodyPost_ret (v := .tuple #[.agg #[.int .i64 v1, .int .i64 v2], ev]) (by simp [results, Try.results32, go_sem, *]) rfl ⟨rfl, ?_⟩
  exact (HBEL3.out.setCell (by first | (focus (simp; done)) | (simp; omega)) _).setCell (by first | (focus (simp; done)) | (simp; omega)) _
end Go.Proofs.Ythffjnfnfddpdaa
