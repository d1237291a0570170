/- The walk of SourceTells: it returns true for every input. -/
import Derived.Test.YtkheobdkmmbjnaaDoorSourceRef
import Derived.Test.YtkheobdkmmbjnaaDoorSt4
namespace Go.Proofs.YtkheobdkmmbjnaaDoor
open Go.RowKit
attribute [local go_sem ↓] run_min_mn run_max_mx
theorem four_four : ((4 : Int) == 4) = true := rfl
theorem eight_eight : ((8 : Int) == 8) = true := rfl
theorem zero_zero : ((0 : Int) == 0) = true := rfl
theorem one_one : ((1 : Int) == 1) = true := rfl
set_option maxHeartbeats 4000000 in
set_option maxRecDepth 100000 in
theorem sourceTells_bad (W a l c : Int) (b : Bool) (w : World) (hg : Laid w) (no : ¬ SourceOk W a l c) :
    Calls Tryd.prog 7 #[.agg #[.int .i64 W, .int .i64 a, .int .i64 l, .int .i64 c], .bool b] w fun e w' => e = .returned (.bool true) ∧ Below w.heap.size w w' := by
  have HG := Lib.hid hg; clear hg
  have H := Lib.hid no; clear no
  have b0 : Below w.heap.size w (w.alloc (.cells #[.int .i64 W, .int .i64 a, .int .i64 l, .int .i64 c] 56)) := (Below.refl _ _).alloc (Nat.le_refl _) _
  go_enter Tryd.func7, Tryd.ntmps7
  go_wp2_with fail
  refine (refSource_no W a l c _ H.out).mono ?_; rintro e w1 ⟨rfl, rfl⟩
  go_wp2_with fail
  refine (scheck_no W a l c _ H.out).mono ?_; rintro e w1 ⟨rfl, rfl⟩
  go_wp2_with fail
  refine (same_err 1 1 _ (((HG.out.alloc _).alloc _).alloc _)).mono ?_; rintro e w1 ⟨rfl, hb1⟩
  rw [one_one]
  have b1 : Below w.heap.size w w1 := (((b0.alloc b0.size _).alloc (by simp; omega) _)).trans (hb1.mono (by simp; omega))
  have HS1 := Lib.hid ((((Blk.new w 56 #[.int .i64 W, .int .i64 a, .int .i64 l, .int .i64 c]).alloc _).alloc _).below hb1 (by simp; omega))
  have HL1 := Lib.hid ((((HG.out.alloc _).alloc _).alloc _).below hb1)
  have hs1 : w.heap.size < w1.heap.size := HS1.out.lt
  clear hb1 HG
  obtain ⟨p0, p1, p2, p3, _, _, _, _, z0⟩ := HS1.out.four
  go_wp2_with fail
  refine (send_no W a l c _ H.out).mono ?_; rintro e w2 ⟨rfl, hb2⟩
  have S2 : Hid (St4 w (w2.alloc (.cells #[.int .i64 0, .int .i64 0, .int .i64 0, .int .i64 0] 56)) 56 w1.heap.size w2.heap.size (.int .i64 W) (.int .i64 a) (.int .i64 l) (.int .i64 c) (.int .i64 0) (.int .i64 0) (.int .i64 0) (.int .i64 0) (.int .i64 0) (.int .i64 0) (.int .i64 0) (.int .i64 0)) :=
    Lib.hid ⟨((HS1.out.alloc _).below hb2 (by simp; omega)).alloc _, ((Blk.new w1 _ _).below hb2 (by simp)).alloc _, Blk.new w2 _ _, ((b1.alloc b1.size _).trans (hb2.mono (by simp; omega))).alloc (by have := hb2.size; simp at this; omega) _, ((HL1.out.alloc _).below hb2).alloc _, hs1, by have := hb2.size; simp at this; omega⟩
  clear hb2 HS1 HL1 b1 b0 p0 p1 p2 p3 z0
  go_wp2_with fail
  refine (same_err 1 1 _ S2.out.laid).mono ?_; rintro e w3 ⟨rfl, hb3⟩
  rw [one_one]
  have S3 := Lib.hid (S2.out.below hb3); clear hb3 S2
  obtain ⟨⟨p0, p1, p2, p3⟩, ⟨y0, y1, y2, y3⟩, ⟨x0, x1, x2, x3⟩, ⟨fy0, fy1, fy2, fy3⟩, ⟨fx0, fx1, fx2, fx3⟩, z0, z1, z2⟩ := S3.out.open
  go_wp2_with fail
  refine (ack_no W a l c b _ H.out).mono ?_; rintro e w4 ⟨rfl, hb4⟩
  have S4 := Lib.hid ((S3.out.setY (.int .i64 0) (.int .i64 0) (.int .i64 0) (.int .i64 0)).below hb4); clear hb4 S3
  clear p0 p1 p2 p3 y0 y1 y2 y3 x0 x1 x2 x3 fy0 fy1 fy2 fy3 fx0 fx1 fx2 fx3 z0 z1 z2
  obtain ⟨⟨p0, p1, p2, p3⟩, ⟨y0, y1, y2, y3⟩, ⟨x0, x1, x2, x3⟩, ⟨fy0, fy1, fy2, fy3⟩, ⟨fx0, fx1, fx2, fx3⟩, z0, z1, z2⟩ := S4.out.open
  go_wp2_with fail
  refine (same_err 1 1 _ (S4.out.setX (.int .i64 0) (.int .i64 0) (.int .i64 0) (.int .i64 0)).laid).mono ?_; rintro e w5 ⟨rfl, hb5⟩
  rw [one_one]
  have S5 := Lib.hid ((S4.out.setX (.int .i64 0) (.int .i64 0) (.int .i64 0) (.int .i64 0)).below hb5); clear hb5 S4
  clear p0 p1 p2 p3 y0 y1 y2 y3 x0 x1 x2 x3 fy0 fy1 fy2 fy3 fx0 fx1 fx2 fx3 z0 z1 z2
  obtain ⟨⟨p0, p1, p2, p3⟩, ⟨y0, y1, y2, y3⟩, ⟨x0, x1, x2, x3⟩, ⟨fy0, fy1, fy2, fy3⟩, ⟨fx0, fx1, fx2, fx3⟩, z0, z1, z2⟩ := S5.out.open
  go_wp2_with fail
  refine (lost_no W a l c _ H.out).mono ?_; rintro e w6 ⟨rfl, hb6⟩
  have S6 := Lib.hid ((S5.out.setY (.int .i64 0) (.int .i64 0) (.int .i64 0) (.int .i64 0)).below hb6); clear hb6 S5
  clear p0 p1 p2 p3 y0 y1 y2 y3 x0 x1 x2 x3 fy0 fy1 fy2 fy3 fx0 fx1 fx2 fx3 z0 z1 z2
  obtain ⟨⟨p0, p1, p2, p3⟩, ⟨y0, y1, y2, y3⟩, ⟨x0, x1, x2, x3⟩, ⟨fy0, fy1, fy2, fy3⟩, ⟨fx0, fx1, fx2, fx3⟩, z0, z1, z2⟩ := S6.out.open
  go_wp2_with fail
  refine (same_err 1 1 _ (S6.out.setX (.int .i64 0) (.int .i64 0) (.int .i64 0) (.int .i64 0)).laid).mono ?_; rintro e w7 ⟨rfl, hb7⟩
  rw [one_one]
  have S7 := Lib.hid ((S6.out.setX (.int .i64 0) (.int .i64 0) (.int .i64 0) (.int .i64 0)).below hb7); clear hb7 S6
  clear p0 p1 p2 p3 y0 y1 y2 y3 x0 x1 x2 x3 fy0 fy1 fy2 fy3 fx0 fx1 fx2 fx3 z0 z1 z2
  obtain ⟨⟨p0, p1, p2, p3⟩, ⟨y0, y1, y2, y3⟩, ⟨x0, x1, x2, x3⟩, ⟨fy0, fy1, fy2, fy3⟩, ⟨fx0, fx1, fx2, fx3⟩, z0, z1, z2⟩ := S7.out.open
  have hfin := S7.out.bel
  go_wp2
  go_ret
  exact ⟨rfl, hfin⟩
set_option maxHeartbeats 8000000 in
set_option maxRecDepth 100000 in
theorem sourceTells_low (W l c : Int) (b : Bool) (w : World) (hg : Laid w) (ok : SourceOk W 0 l c) :
    Calls Tryd.prog 7 #[.agg #[.int .i64 W, .int .i64 0, .int .i64 l, .int .i64 c], .bool b] w fun e w' => e = .returned (.bool true) ∧ Below w.heap.size w w' := by
  have HG := Lib.hid hg; clear hg
  have H := Lib.hid ok
  have hN : 0 ≤ sentN W 0 l ∧ sentN W 0 l ≤ 10000 := by unfold SourceOk at ok; unfold sentN; omega
  have hok := ok
  obtain ⟨_, _, g3, g4, g5, g6, g7, g8⟩ := hok
  clear ok
  have b0 : Below w.heap.size w (w.alloc (.cells #[.int .i64 W, .int .i64 0, .int .i64 l, .int .i64 c] 56)) := (Below.refl _ _).alloc (Nat.le_refl _) _
  go_enter Tryd.func7, Tryd.ntmps7
  go_wp2_with fail
  refine (refSource_yes W 0 l c _ H.out).mono ?_; rintro e w1 ⟨rfl, rfl⟩
  go_wp2_with fail
  refine (scheck_yes W 0 l c _ H.out).mono ?_; rintro e w1 ⟨rfl, rfl⟩
  go_wp2_with fail
  refine (same_nil 0 _).mono ?_; rintro e w1 ⟨rfl, hb1⟩
  rw [zero_zero]
  have b1 : Below w.heap.size w w1 := (((b0.alloc b0.size _).alloc (by simp; omega) _)).trans (hb1.mono (by simp; omega))
  have HS1 := Lib.hid ((((Blk.new w 56 #[.int .i64 W, .int .i64 0, .int .i64 l, .int .i64 c]).alloc _).alloc _).below hb1 (by simp; omega))
  have HL1 := Lib.hid ((((HG.out.alloc _).alloc _).alloc _).below hb1)
  have hs1 : w.heap.size < w1.heap.size := HS1.out.lt
  clear hb1 HG
  obtain ⟨p0, p1, p2, p3, _, _, _, _, z0⟩ := HS1.out.four
  go_wp2_with fail
  refine (refSend W 0 l c _ H.out).mono ?_; rintro e w2 ⟨rfl, hb2⟩
  obtain ⟨n, hn⟩ : ∃ n, n = sentN W 0 l := ⟨_, rfl⟩
  rw [← hn] at hN ⊢
  have HNN := Lib.hid hn; clear hn
  obtain ⟨n0, n1⟩ := hN
  have HS2 := Lib.hid ((HS1.out.alloc (.cells #[.int .i64 0, .int .i64 0, .int .i64 0, .int .i64 0] 56)).below hb2 (by simp; omega))
  have HY2 := Lib.hid ((Blk.new w1 56 #[.int .i64 0, .int .i64 0, .int .i64 0, .int .i64 0]).below hb2 (by simp))
  have HL2 := Lib.hid ((HL1.out.alloc _).below hb2)
  have b2 := (b1.alloc b1.size (.cells #[.int .i64 0, .int .i64 0, .int .i64 0, .int .i64 0] 56)).trans (hb2.mono (by simp; omega))
  clear p0 p1 p2 p3 HS1 HL1 b1 hb2 z0
  obtain ⟨p0, p1, p2, p3, _, _, _, _, z0⟩ := HS2.out.four
  obtain ⟨y0, y1, y2, y3, fy0, fy1, fy2, fy3, z1⟩ := HY2.out.four
  go_wp2_with fail
  refine (send_yes W 0 l c _ H.out).mono ?_; rintro e w3 ⟨rfl, hb3⟩
  rw [← HNN.out]
  have HSx := Lib.hid ((HS2.out.far4 (g := w1.heap.size) (Nat.ne_of_lt hs1) (.int .i64 W) (.int .i64 n) (.int .i64 (l - n)) (.int .i64 c)).below hb3 (by simp; omega))
  have HYx := Lib.hid ((HY2.out.set4 (.int .i64 W) (.int .i64 n) (.int .i64 (l - n)) (.int .i64 c)).below hb3 (by simp; omega))
  have HLx := Lib.hid ((laid_set4 HL2.out (g := w1.heap.size) (by omega) (.int .i64 W) (.int .i64 n) (.int .i64 (l - n)) (.int .i64 c)).below hb3)
  have bx := (below_set4 b2 (g := w1.heap.size) (Nat.le_of_lt hs1) (.int .i64 W) (.int .i64 n) (.int .i64 (l - n)) (.int .i64 c)).trans (hb3.mono (by have := b2.size; simp; omega))
  have hs3 := hb3.size
  clear hb3 p0 p1 p2 p3 y0 y1 y2 y3 fy0 fy1 fy2 fy3 HS2 HY2 HL2 b2 HNN
  have S2 : Hid (St4 w (w3.alloc (.cells #[.int .i64 W, .int .i64 n, .int .i64 (l - n), .int .i64 c] 56)) 56 w1.heap.size w3.heap.size (.int .i64 W) (.int .i64 0) (.int .i64 l) (.int .i64 c) (.int .i64 W) (.int .i64 n) (.int .i64 (l - n)) (.int .i64 c) (.int .i64 W) (.int .i64 n) (.int .i64 (l - n)) (.int .i64 c)) :=
    Lib.hid ⟨HSx.out.alloc _, HYx.out.alloc _, Blk.new w3 _ _, bx.alloc bx.size _, HLx.out.alloc _, hs1, HYx.out.lt⟩
  clear HSx HYx HLx bx hs3 z0 z1
  go_wp2_with fail
  refine (same_nil 0 _).mono ?_; rintro e w4 ⟨rfl, hb4⟩
  rw [zero_zero]
  have S3 := Lib.hid (S2.out.below hb4); clear hb4 S2
  obtain ⟨⟨p0, p1, p2, p3⟩, ⟨y0, y1, y2, y3⟩, ⟨x0, x1, x2, x3⟩, ⟨fy0, fy1, fy2, fy3⟩, ⟨fx0, fx1, fx2, fx3⟩, z0, z1, z2⟩ := S3.out.open
  -- TAIL
  go_wp2_with fail
  refine (ack_low W l c b _ H.out).mono ?_; rintro e w6 ⟨rfl, hb6⟩
  have S3 := Lib.hid ((S3.out.setY (.int .i64 0) (.int .i64 0) (.int .i64 0) (.int .i64 0)).below hb6); clear hb6
  clear p0 p1 p2 p3 y0 y1 y2 y3 x0 x1 x2 x3 fy0 fy1 fy2 fy3 fx0 fx1 fx2 fx3 z0 z1 z2
  obtain ⟨⟨p0, p1, p2, p3⟩, ⟨y0, y1, y2, y3⟩, ⟨x0, x1, x2, x3⟩, ⟨fy0, fy1, fy2, fy3⟩, ⟨fx0, fx1, fx2, fx3⟩, z0, z1, z2⟩ := S3.out.open
  go_wp2_with fail
  refine (same_err 8 8 _ (S3.out.setX (.int .i64 0) (.int .i64 0) (.int .i64 0) (.int .i64 0)).laid).mono ?_; rintro e w7 ⟨rfl, hb7⟩
  rw [eight_eight]
  have S3 := Lib.hid ((S3.out.setX (.int .i64 0) (.int .i64 0) (.int .i64 0) (.int .i64 0)).below hb7); clear hb7
  clear p0 p1 p2 p3 y0 y1 y2 y3 x0 x1 x2 x3 fy0 fy1 fy2 fy3 fx0 fx1 fx2 fx3 z0 z1 z2
  obtain ⟨⟨p0, p1, p2, p3⟩, ⟨y0, y1, y2, y3⟩, ⟨x0, x1, x2, x3⟩, ⟨fy0, fy1, fy2, fy3⟩, ⟨fx0, fx1, fx2, fx3⟩, z0, z1, z2⟩ := S3.out.open
  go_wp2_with fail
  refine (lost_low W l c _ H.out).mono ?_; rintro e w6 ⟨rfl, hb6⟩
  have S3 := Lib.hid ((S3.out.setY (.int .i64 0) (.int .i64 0) (.int .i64 0) (.int .i64 0)).below hb6); clear hb6
  clear p0 p1 p2 p3 y0 y1 y2 y3 x0 x1 x2 x3 fy0 fy1 fy2 fy3 fx0 fx1 fx2 fx3 z0 z1 z2
  obtain ⟨⟨p0, p1, p2, p3⟩, ⟨y0, y1, y2, y3⟩, ⟨x0, x1, x2, x3⟩, ⟨fy0, fy1, fy2, fy3⟩, ⟨fx0, fx1, fx2, fx3⟩, z0, z1, z2⟩ := S3.out.open
  go_wp2_with fail
  refine (same_err 8 8 _ (S3.out.setX (.int .i64 0) (.int .i64 0) (.int .i64 0) (.int .i64 0)).laid).mono ?_; rintro e w7 ⟨rfl, hb7⟩
  rw [eight_eight]
  have S3 := Lib.hid ((S3.out.setX (.int .i64 0) (.int .i64 0) (.int .i64 0) (.int .i64 0)).below hb7); clear hb7
  clear p0 p1 p2 p3 y0 y1 y2 y3 x0 x1 x2 x3 fy0 fy1 fy2 fy3 fx0 fx1 fx2 fx3 z0 z1 z2
  obtain ⟨⟨p0, p1, p2, p3⟩, ⟨y0, y1, y2, y3⟩, ⟨x0, x1, x2, x3⟩, ⟨fy0, fy1, fy2, fy3⟩, ⟨fx0, fx1, fx2, fx3⟩, z0, z1, z2⟩ := S3.out.open
  have hfin := S3.out.bel
  go_wp2
  go_ret
  exact ⟨rfl, hfin⟩
set_option maxHeartbeats 8000000 in
set_option maxRecDepth 100000 in
theorem sourceTells_ok (W a l c : Int) (b : Bool) (w : World) (hg : Laid w) (ok : SourceOk W a l c) (ha : a ≠ 0) :
    Calls Tryd.prog 7 #[.agg #[.int .i64 W, .int .i64 a, .int .i64 l, .int .i64 c], .bool b] w fun e w' => e = .returned (.bool true) ∧ Below w.heap.size w w' := by
  have HG := Lib.hid hg; clear hg
  have H := Lib.hid ok
  have hN : 0 ≤ sentN W a l ∧ sentN W a l ≤ 10000 := by unfold SourceOk at ok; unfold sentN; omega
  have hok := ok
  obtain ⟨_, _, g3, g4, g5, g6, g7, g8⟩ := hok
  clear ok
  have b0 : Below w.heap.size w (w.alloc (.cells #[.int .i64 W, .int .i64 a, .int .i64 l, .int .i64 c] 56)) := (Below.refl _ _).alloc (Nat.le_refl _) _
  go_enter Tryd.func7, Tryd.ntmps7
  go_wp2_with fail
  refine (refSource_yes W a l c _ H.out).mono ?_; rintro e w1 ⟨rfl, rfl⟩
  go_wp2_with fail
  refine (scheck_yes W a l c _ H.out).mono ?_; rintro e w1 ⟨rfl, rfl⟩
  go_wp2_with fail
  refine (same_nil 0 _).mono ?_; rintro e w1 ⟨rfl, hb1⟩
  rw [zero_zero]
  have b1 : Below w.heap.size w w1 := (((b0.alloc b0.size _).alloc (by simp; omega) _)).trans (hb1.mono (by simp; omega))
  have HS1 := Lib.hid ((((Blk.new w 56 #[.int .i64 W, .int .i64 a, .int .i64 l, .int .i64 c]).alloc _).alloc _).below hb1 (by simp; omega))
  have HL1 := Lib.hid ((((HG.out.alloc _).alloc _).alloc _).below hb1)
  have hs1 : w.heap.size < w1.heap.size := HS1.out.lt
  clear hb1 HG
  obtain ⟨p0, p1, p2, p3, _, _, _, _, z0⟩ := HS1.out.four
  go_wp2_with fail
  refine (refSend W a l c _ H.out).mono ?_; rintro e w2 ⟨rfl, hb2⟩
  obtain ⟨n, hn⟩ : ∃ n, n = sentN W a l := ⟨_, rfl⟩
  rw [← hn] at hN ⊢
  have HNN := Lib.hid hn; clear hn
  obtain ⟨n0, n1⟩ := hN
  have HS2 := Lib.hid ((HS1.out.alloc (.cells #[.int .i64 0, .int .i64 0, .int .i64 0, .int .i64 0] 56)).below hb2 (by simp; omega))
  have HY2 := Lib.hid ((Blk.new w1 56 #[.int .i64 0, .int .i64 0, .int .i64 0, .int .i64 0]).below hb2 (by simp))
  have HL2 := Lib.hid ((HL1.out.alloc _).below hb2)
  have b2 := (b1.alloc b1.size (.cells #[.int .i64 0, .int .i64 0, .int .i64 0, .int .i64 0] 56)).trans (hb2.mono (by simp; omega))
  clear p0 p1 p2 p3 HS1 HL1 b1 hb2 z0
  obtain ⟨p0, p1, p2, p3, _, _, _, _, z0⟩ := HS2.out.four
  obtain ⟨y0, y1, y2, y3, fy0, fy1, fy2, fy3, z1⟩ := HY2.out.four
  go_wp2_with fail
  refine (send_yes W a l c _ H.out).mono ?_; rintro e w3 ⟨rfl, hb3⟩
  rw [← HNN.out]
  have HSx := Lib.hid ((HS2.out.far4 (g := w1.heap.size) (Nat.ne_of_lt hs1) (.int .i64 W) (.int .i64 (a + n)) (.int .i64 (l - n)) (.int .i64 c)).below hb3 (by simp; omega))
  have HYx := Lib.hid ((HY2.out.set4 (.int .i64 W) (.int .i64 (a + n)) (.int .i64 (l - n)) (.int .i64 c)).below hb3 (by simp; omega))
  have HLx := Lib.hid ((laid_set4 HL2.out (g := w1.heap.size) (by omega) (.int .i64 W) (.int .i64 (a + n)) (.int .i64 (l - n)) (.int .i64 c)).below hb3)
  have bx := (below_set4 b2 (g := w1.heap.size) (Nat.le_of_lt hs1) (.int .i64 W) (.int .i64 (a + n)) (.int .i64 (l - n)) (.int .i64 c)).trans (hb3.mono (by have := b2.size; simp; omega))
  have hs3 := hb3.size
  clear hb3 p0 p1 p2 p3 y0 y1 y2 y3 fy0 fy1 fy2 fy3 HS2 HY2 HL2 b2 HNN
  have S2 : Hid (St4 w (w3.alloc (.cells #[.int .i64 W, .int .i64 (a + n), .int .i64 (l - n), .int .i64 c] 56)) 56 w1.heap.size w3.heap.size (.int .i64 W) (.int .i64 a) (.int .i64 l) (.int .i64 c) (.int .i64 W) (.int .i64 (a + n)) (.int .i64 (l - n)) (.int .i64 c) (.int .i64 W) (.int .i64 (a + n)) (.int .i64 (l - n)) (.int .i64 c)) :=
    Lib.hid ⟨HSx.out.alloc _, HYx.out.alloc _, Blk.new w3 _ _, bx.alloc bx.size _, HLx.out.alloc _, hs1, HYx.out.lt⟩
  clear HSx HYx HLx bx hs3 z0 z1
  go_wp2_with fail
  refine (same_nil 0 _).mono ?_; rintro e w4 ⟨rfl, hb4⟩
  rw [zero_zero]
  have S3 := Lib.hid (S2.out.below hb4); clear hb4 S2
  obtain ⟨⟨p0, p1, p2, p3⟩, ⟨y0, y1, y2, y3⟩, ⟨x0, x1, x2, x3⟩, ⟨fy0, fy1, fy2, fy3⟩, ⟨fx0, fx1, fx2, fx3⟩, z0, z1, z2⟩ := S3.out.open
  -- TAIL
  have hab : (a == 0) = false := beq_eq_false_iff_ne.2 ha
  by_cases hc : c = 10000
  · subst hc
    go_wp2_with fail
    refine (ack_full W a l b _ H.out ha).mono ?_; rintro e w6 ⟨rfl, hb6⟩
    have S3 := Lib.hid ((S3.out.setY (.int .i64 0) (.int .i64 0) (.int .i64 0) (.int .i64 0)).below hb6); clear hb6
    clear p0 p1 p2 p3 y0 y1 y2 y3 x0 x1 x2 x3 fy0 fy1 fy2 fy3 fx0 fx1 fx2 fx3 z0 z1 z2
    obtain ⟨⟨p0, p1, p2, p3⟩, ⟨y0, y1, y2, y3⟩, ⟨x0, x1, x2, x3⟩, ⟨fy0, fy1, fy2, fy3⟩, ⟨fx0, fx1, fx2, fx3⟩, z0, z1, z2⟩ := S3.out.open
    go_wp2_with fail
    refine (same_err 4 4 _ (S3.out.setX (.int .i64 0) (.int .i64 0) (.int .i64 0) (.int .i64 0)).laid).mono ?_; rintro e w7 ⟨rfl, hb7⟩
    rw [four_four]
    have S3 := Lib.hid ((S3.out.setX (.int .i64 0) (.int .i64 0) (.int .i64 0) (.int .i64 0)).below hb7); clear hb7
    clear p0 p1 p2 p3 y0 y1 y2 y3 x0 x1 x2 x3 fy0 fy1 fy2 fy3 fx0 fx1 fx2 fx3 z0 z1 z2
    obtain ⟨⟨p0, p1, p2, p3⟩, ⟨y0, y1, y2, y3⟩, ⟨x0, x1, x2, x3⟩, ⟨fy0, fy1, fy2, fy3⟩, ⟨fx0, fx1, fx2, fx3⟩, z0, z1, z2⟩ := S3.out.open
    by_cases hl : l = 10000
    · subst hl
      go_wp2_with fail
      refine (lost_full W a 10000 _ H.out ha).mono ?_; rintro e w6 ⟨rfl, hb6⟩
      have S3 := Lib.hid ((S3.out.setY (.int .i64 0) (.int .i64 0) (.int .i64 0) (.int .i64 0)).below hb6); clear hb6
      clear p0 p1 p2 p3 y0 y1 y2 y3 x0 x1 x2 x3 fy0 fy1 fy2 fy3 fx0 fx1 fx2 fx3 z0 z1 z2
      obtain ⟨⟨p0, p1, p2, p3⟩, ⟨y0, y1, y2, y3⟩, ⟨x0, x1, x2, x3⟩, ⟨fy0, fy1, fy2, fy3⟩, ⟨fx0, fx1, fx2, fx3⟩, z0, z1, z2⟩ := S3.out.open
      go_wp2_with fail
      refine (same_err 4 4 _ (S3.out.setX (.int .i64 0) (.int .i64 0) (.int .i64 0) (.int .i64 0)).laid).mono ?_; rintro e w7 ⟨rfl, hb7⟩
      rw [four_four]
      have S3 := Lib.hid ((S3.out.setX (.int .i64 0) (.int .i64 0) (.int .i64 0) (.int .i64 0)).below hb7); clear hb7
      clear p0 p1 p2 p3 y0 y1 y2 y3 x0 x1 x2 x3 fy0 fy1 fy2 fy3 fx0 fx1 fx2 fx3 z0 z1 z2
      obtain ⟨⟨p0, p1, p2, p3⟩, ⟨y0, y1, y2, y3⟩, ⟨x0, x1, x2, x3⟩, ⟨fy0, fy1, fy2, fy3⟩, ⟨fx0, fx1, fx2, fx3⟩, z0, z1, z2⟩ := S3.out.open
      have hfin := S3.out.bel
      go_wp2
      go_ret
      exact ⟨rfl, hfin⟩
    · have hlb : (l == 10000) = false := beq_eq_false_iff_ne.2 hl
      go_wp2_with fail
      refine (refLost W a l 10000 _ H.out).mono ?_; rintro e w5 ⟨rfl, hb5⟩
      have S3 := Lib.hid ((S3.out.setY (.int .i64 0) (.int .i64 0) (.int .i64 0) (.int .i64 0)).below hb5); clear hb5
      clear p0 p1 p2 p3 y0 y1 y2 y3 x0 x1 x2 x3 fy0 fy1 fy2 fy3 fx0 fx1 fx2 fx3 z0 z1 z2
      obtain ⟨⟨p0, p1, p2, p3⟩, ⟨y0, y1, y2, y3⟩, ⟨x0, x1, x2, x3⟩, ⟨fy0, fy1, fy2, fy3⟩, ⟨fx0, fx1, fx2, fx3⟩, z0, z1, z2⟩ := S3.out.open
      go_wp2_with fail
      refine (lost_yes W a l 10000 _ H.out ha hl).mono ?_; rintro e w6 ⟨rfl, hb6⟩
      have S3 := Lib.hid ((S3.out.setY (.int .i64 (max 1 (W / 2))) (.int .i64 (a - 1)) (.int .i64 (l + 1)) (.int .i64 10000)).below hb6); clear hb6
      clear p0 p1 p2 p3 y0 y1 y2 y3 x0 x1 x2 x3 fy0 fy1 fy2 fy3 fx0 fx1 fx2 fx3 z0 z1 z2
      obtain ⟨⟨p0, p1, p2, p3⟩, ⟨y0, y1, y2, y3⟩, ⟨x0, x1, x2, x3⟩, ⟨fy0, fy1, fy2, fy3⟩, ⟨fx0, fx1, fx2, fx3⟩, z0, z1, z2⟩ := S3.out.open
      go_wp2_with fail
      refine (same_nil 0 _).mono ?_; rintro e w7 ⟨rfl, hb7⟩
      rw [zero_zero]
      have S3 := Lib.hid ((S3.out.setX (.int .i64 (max 1 (W / 2))) (.int .i64 (a - 1)) (.int .i64 (l + 1)) (.int .i64 10000)).below hb7); clear hb7
      clear p0 p1 p2 p3 y0 y1 y2 y3 x0 x1 x2 x3 fy0 fy1 fy2 fy3 fx0 fx1 fx2 fx3 z0 z1 z2
      obtain ⟨⟨p0, p1, p2, p3⟩, ⟨y0, y1, y2, y3⟩, ⟨x0, x1, x2, x3⟩, ⟨fy0, fy1, fy2, fy3⟩, ⟨fx0, fx1, fx2, fx3⟩, z0, z1, z2⟩ := S3.out.open
      have hfin := S3.out.bel
      go_wp2
      go_ret
      exact ⟨rfl, hfin⟩
  · have hcb : (c == 10000) = false := beq_eq_false_iff_ne.2 hc
    go_wp2_with fail
    refine (refAck W a l c b _ H.out).mono ?_; rintro e w5 ⟨rfl, hb5⟩
    have S3 := Lib.hid ((S3.out.setY (.int .i64 0) (.int .i64 0) (.int .i64 0) (.int .i64 0)).below hb5); clear hb5
    clear p0 p1 p2 p3 y0 y1 y2 y3 x0 x1 x2 x3 fy0 fy1 fy2 fy3 fx0 fx1 fx2 fx3 z0 z1 z2
    obtain ⟨⟨p0, p1, p2, p3⟩, ⟨y0, y1, y2, y3⟩, ⟨x0, x1, x2, x3⟩, ⟨fy0, fy1, fy2, fy3⟩, ⟨fx0, fx1, fx2, fx3⟩, z0, z1, z2⟩ := S3.out.open
    go_wp2_with fail
    refine (ack_yes W a l c b _ H.out ha hc).mono ?_; rintro e w6 ⟨rfl, hb6⟩
    have S3 := Lib.hid ((S3.out.setY (.int .i64 (ackW W b)) (.int .i64 (a - 1)) (.int .i64 l) (.int .i64 (c + 1))).below hb6); clear hb6
    clear p0 p1 p2 p3 y0 y1 y2 y3 x0 x1 x2 x3 fy0 fy1 fy2 fy3 fx0 fx1 fx2 fx3 z0 z1 z2
    obtain ⟨⟨p0, p1, p2, p3⟩, ⟨y0, y1, y2, y3⟩, ⟨x0, x1, x2, x3⟩, ⟨fy0, fy1, fy2, fy3⟩, ⟨fx0, fx1, fx2, fx3⟩, z0, z1, z2⟩ := S3.out.open
    go_wp2_with fail
    refine (same_nil 0 _).mono ?_; rintro e w7 ⟨rfl, hb7⟩
    rw [zero_zero]
    have S3 := Lib.hid ((S3.out.setX (.int .i64 (ackW W b)) (.int .i64 (a - 1)) (.int .i64 l) (.int .i64 (c + 1))).below hb7); clear hb7
    clear p0 p1 p2 p3 y0 y1 y2 y3 x0 x1 x2 x3 fy0 fy1 fy2 fy3 fx0 fx1 fx2 fx3 z0 z1 z2
    obtain ⟨⟨p0, p1, p2, p3⟩, ⟨y0, y1, y2, y3⟩, ⟨x0, x1, x2, x3⟩, ⟨fy0, fy1, fy2, fy3⟩, ⟨fx0, fx1, fx2, fx3⟩, z0, z1, z2⟩ := S3.out.open
    by_cases hl : l = 10000
    · subst hl
      go_wp2_with fail
      refine (lost_full W a c _ H.out ha).mono ?_; rintro e w6 ⟨rfl, hb6⟩
      have S3 := Lib.hid ((S3.out.setY (.int .i64 0) (.int .i64 0) (.int .i64 0) (.int .i64 0)).below hb6); clear hb6
      clear p0 p1 p2 p3 y0 y1 y2 y3 x0 x1 x2 x3 fy0 fy1 fy2 fy3 fx0 fx1 fx2 fx3 z0 z1 z2
      obtain ⟨⟨p0, p1, p2, p3⟩, ⟨y0, y1, y2, y3⟩, ⟨x0, x1, x2, x3⟩, ⟨fy0, fy1, fy2, fy3⟩, ⟨fx0, fx1, fx2, fx3⟩, z0, z1, z2⟩ := S3.out.open
      go_wp2_with fail
      refine (same_err 4 4 _ (S3.out.setX (.int .i64 0) (.int .i64 0) (.int .i64 0) (.int .i64 0)).laid).mono ?_; rintro e w7 ⟨rfl, hb7⟩
      rw [four_four]
      have S3 := Lib.hid ((S3.out.setX (.int .i64 0) (.int .i64 0) (.int .i64 0) (.int .i64 0)).below hb7); clear hb7
      clear p0 p1 p2 p3 y0 y1 y2 y3 x0 x1 x2 x3 fy0 fy1 fy2 fy3 fx0 fx1 fx2 fx3 z0 z1 z2
      obtain ⟨⟨p0, p1, p2, p3⟩, ⟨y0, y1, y2, y3⟩, ⟨x0, x1, x2, x3⟩, ⟨fy0, fy1, fy2, fy3⟩, ⟨fx0, fx1, fx2, fx3⟩, z0, z1, z2⟩ := S3.out.open
      have hfin := S3.out.bel
      go_wp2
      go_ret
      exact ⟨rfl, hfin⟩
    · have hlb : (l == 10000) = false := beq_eq_false_iff_ne.2 hl
      go_wp2_with fail
      refine (refLost W a l c _ H.out).mono ?_; rintro e w5 ⟨rfl, hb5⟩
      have S3 := Lib.hid ((S3.out.setY (.int .i64 0) (.int .i64 0) (.int .i64 0) (.int .i64 0)).below hb5); clear hb5
      clear p0 p1 p2 p3 y0 y1 y2 y3 x0 x1 x2 x3 fy0 fy1 fy2 fy3 fx0 fx1 fx2 fx3 z0 z1 z2
      obtain ⟨⟨p0, p1, p2, p3⟩, ⟨y0, y1, y2, y3⟩, ⟨x0, x1, x2, x3⟩, ⟨fy0, fy1, fy2, fy3⟩, ⟨fx0, fx1, fx2, fx3⟩, z0, z1, z2⟩ := S3.out.open
      go_wp2_with fail
      refine (lost_yes W a l c _ H.out ha hl).mono ?_; rintro e w6 ⟨rfl, hb6⟩
      have S3 := Lib.hid ((S3.out.setY (.int .i64 (max 1 (W / 2))) (.int .i64 (a - 1)) (.int .i64 (l + 1)) (.int .i64 c)).below hb6); clear hb6
      clear p0 p1 p2 p3 y0 y1 y2 y3 x0 x1 x2 x3 fy0 fy1 fy2 fy3 fx0 fx1 fx2 fx3 z0 z1 z2
      obtain ⟨⟨p0, p1, p2, p3⟩, ⟨y0, y1, y2, y3⟩, ⟨x0, x1, x2, x3⟩, ⟨fy0, fy1, fy2, fy3⟩, ⟨fx0, fx1, fx2, fx3⟩, z0, z1, z2⟩ := S3.out.open
      go_wp2_with fail
      refine (same_nil 0 _).mono ?_; rintro e w7 ⟨rfl, hb7⟩
      rw [zero_zero]
      have S3 := Lib.hid ((S3.out.setX (.int .i64 (max 1 (W / 2))) (.int .i64 (a - 1)) (.int .i64 (l + 1)) (.int .i64 c)).below hb7); clear hb7
      clear p0 p1 p2 p3 y0 y1 y2 y3 x0 x1 x2 x3 fy0 fy1 fy2 fy3 fx0 fx1 fx2 fx3 z0 z1 z2
      obtain ⟨⟨p0, p1, p2, p3⟩, ⟨y0, y1, y2, y3⟩, ⟨x0, x1, x2, x3⟩, ⟨fy0, fy1, fy2, fy3⟩, ⟨fx0, fx1, fx2, fx3⟩, z0, z1, z2⟩ := S3.out.open
      have hfin := S3.out.bel
      go_wp2
      go_ret
      exact ⟨rfl, hfin⟩
theorem sourceTells_walk (W a l c : Int) (_ : (Lit.int .i64 W).wf = true) (_ : (Lit.int .i64 a).wf = true) (_ : (Lit.int .i64 l).wf = true) (_ : (Lit.int .i64 c).wf = true) (b : Bool) (w : World) (hg : Laid w) :
    Calls Tryd.prog 7 #[.agg #[.int .i64 W, .int .i64 a, .int .i64 l, .int .i64 c], .bool b] w fun e w' => e = .returned (.bool true) ∧ Below w.heap.size w w' := by
  by_cases ok : SourceOk W a l c
  · by_cases ha : a = 0
    · subst ha; exact sourceTells_low W l c b w hg ok
    · exact sourceTells_ok W a l c b w hg ok ha
  · exact sourceTells_bad W a l c b w hg ok
end Go.Proofs.YtkheobdkmmbjnaaDoor
