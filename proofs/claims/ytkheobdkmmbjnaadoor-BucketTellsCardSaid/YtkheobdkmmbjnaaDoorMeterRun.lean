/- meter.Run: the rates of so many ticks. -/
import Derived.Test.YtkheobdkmmbjnaaDoorMeter
import Derived.Test.YtkheobdkmmbjnaaDoorOwn
namespace Go.Proofs.YtkheobdkmmbjnaaDoor
open Go.RowKit
attribute [local go_sem ↓] run_min_mn run_max_mx
set_option maxHeartbeats 4000000 in
theorem mrun_yes (c a k r : Int) (A : Option Addr) (cp : Nat) (l : List Int) (w : World) (h : MeterOk c a k) (hr0 : 1 ≤ r) (hr1 : r ≤ 1000) (hi : Ints w w.heap.size A cp l) (hl : l.length ≤ 60) (hok : l.any badRate = false) :
    Calls Tryd.prog 49 #[.agg #[.int .i64 c, .int .i64 a, .int .i64 k], .int .i64 r, .slice A l.length cp] w fun e w' =>
      ∃ v, e = .returned (.tuple #[v, .nilIface]) ∧ w'.ownsRow (w.heap.size + 1) 3 1 v l.length ((PM.rates c k r l).map (Value.int .i64)) ∧ Below w.heap.size w w' := by
  have hk := h
  obtain ⟨h1, h2, h3, h4, h5, h8⟩ := hk
  have H := Lib.hid h; clear h
  have HI := Lib.hid hi; clear hi
  have HO := Lib.hid hok; clear hok
  have b0 : Below w.heap.size w (w.alloc (.cells #[.int .i64 c, .int .i64 a, .int .i64 k] 77)) := (Below.refl _ _).alloc (Nat.le_refl _) _
  go_enter Tryd.func49, Tryd.ntmps49
  go_wp2_with fail
  refine (mchk_yes c a k r _ H.out hr0 hr1).mono ?_; rintro e w1 ⟨rfl, hb1⟩
  have hw1 := b0.trans (hb1.mono (by simp))
  have HP1 := Lib.hid ((Blk.new w 77 #[.int .i64 c, .int .i64 a, .int .i64 k]).below hb1 (by simp))
  have hs1 : w.heap.size + 1 ≤ w1.heap.size := by have := HP1.out.lt; omega
  clear hb1 b0
  go_wp2_with fail
  refine (ticks_ok A cp l w.heap.size _ (HI.out.below hw1 (Nat.le_refl _)) hl HO.out).mono ?_; rintro e w2 ⟨rfl, rfl⟩
  go_wp2_with fail
  go_loopw [1, 10, 26] (fun rt v i wr => ∃ (j : Nat) (x wt y : Int), j ≤ l.length ∧ i = .int .i64 j ∧ rt = .int .i64 y ∧ Hid (PM.after c k r (l.take j) = (wt, y)) ∧ 0 ≤ wt ∧ wt ≤ 10000 ∧ 1 ≤ y ∧ y ≤ 1000 ∧ 0 ≤ x ∧ x ≤ 10000 ∧
      Hid (Blk wr w.heap.size 77 #[.int .i64 c, .int .i64 x, .int .i64 wt]) ∧ Hid (wr.ownsRow (w.heap.size + 1) 3 1 v j ((PM.rates c k r (l.take j)).map (Value.int .i64))) ∧ Below w.heap.size w wr ∧ w.heap.size + 1 ≤ wr.heap.size)
    (fun _ _ i _ => l.length - (intOf i).toNat)
  case atStart => exact ⟨0, a, k, r, Nat.zero_le _, rfl, rfl, rfl, h5, h8, hr0, hr1, h3, h4, HP1, World.ownsRow_nil _ _ _ _, hw1, hs1⟩
  case round =>
    obtain ⟨j, x, wt, y, hj, rfl, rfl, HR, ha0, ha1, hy0, hy1, hx0, hx1, HP, HOWN, hbel, hsz⟩ := hrel
    by_cases hlt : j < l.length
    · obtain ⟨bb, off, n, rfl, hbb, hc, hn, HT, HX⟩ := (HI.out.below hbel (Nat.le_refl _)).elem hlt
      obtain ⟨n0, n1⟩ := ticks_in HO.out n hn
      obtain ⟨p0, p1, p2, f0, f1, f2, z0⟩ := HP.out.three
      have HBX := ((HP.out.set_ 1 (.int .i64 n)).set_ 2 (.int .i64 (max 0 (min 10000 (wt + n - c))))).val (cs' := #[.int .i64 c, .int .i64 n, .int .i64 (max 0 (min 10000 (wt + n - c)))]) rfl
      have HOX := own_set (i := 2) (own_set (i := 1) HOWN.out (g := w.heap.size) (by omega) (.int .i64 n)) (g := w.heap.size) (by omega) (.int .i64 (max 0 (min 10000 (wt + n - c))))
      have hbx : Below w.heap.size w ((wr.setCell ⟨w.heap.size, 1, none⟩ (.int .i64 n)).setCell ⟨w.heap.size, 2, none⟩ (.int .i64 (max 0 (min 10000 (wt + n - c))))) := (hbel.setCell (by simp) _).setCell (by simp) _
      have HBX := Lib.hid HBX
      have HOX := Lib.hid HOX
      have HRS := Lib.hid (PM.rates_snoc c (l.take j) k r n)
      have HAS := Lib.hid (PM.after_snoc c (l.take j) k r n)
      have hnb := PM.bounds c n (max 0 (min 10000 (wt + n - c))) y h1
      go_wp2_with fail
      refine (next_any c n (max 0 (min 10000 (wt + n - c))) y _ ⟨h1, h2, n0, n1, by omega, by omega⟩ hy0 hy1).mono ?_; rintro e w3 ⟨rfl, hb3⟩
      have hw3 := hbx.trans (hb3.mono hbx.size)
      have hs3 : w.heap.size + 1 ≤ w3.heap.size := by have := hb3.size; simp [World.setCell] at this; omega
      have HP3 := Lib.hid (HBX.out.below hb3 (by have := HBX.out.lt; omega))
      have HO3 := Lib.hid (own_below HOX.out hb3)
      have HRS' : Hid ((PM.rates c k r (l.take (j + 1))).map (Value.int .i64) = (PM.rates c k r (l.take j)).map (Value.int .i64) ++ [.int .i64 (PM.nxt c n (max 0 (min 10000 (wt + n - c))) y)]) := by
        show _ = _
        rw [HT.out, HRS.out, HR.out]; simp
      have HAS' : Hid (PM.after c k r (l.take (j + 1)) = (max 0 (min 10000 (wt + n - c)), PM.nxt c n (max 0 (min 10000 (wt + n - c))) y)) := by
        show _ = _
        rw [HT.out, HAS.out, HR.out]
      clear HRS HAS HT HX HBX HOX HP HOWN hb3 hbx p0 p1 p2 f0 f1 f2
      generalize PM.nxt c n (max 0 (min 10000 (wt + n - c))) y = y' at *
      go_wp2_with (at_builtin; refine wpList_push w3 _ rfl (.tmp 45) (.tmp 47) 42 rfl (w.heap.size + 1) 3 (.int .i64 0) 1 8 Tryd.underlying42 Tryd.info_int rfl (by omega) _ j _ rfl HO3.out rfl rfl (by simp [Value.oneCell']) (by omega) (by omega) hs3 ?_; intro v' w4 hown4 hg4)
      go_roundw
      case rel =>
        refine ⟨j + 1, n, max 0 (min 10000 (wt + n - c)), y', by omega, by go_num, rfl, HAS', by omega, by omega, by omega, by omega, n0, n1, ?_, ?_, ?_, ?_⟩
        · exact HP3.out.grown hg4 (fun e => by have := (HO3.out.lt _ e.symm).1; omega)
        · show World.ownsRow _ _ _ _ _ _ _
          rw [HRS'.out]; exact hown4
        · exact below_push hw3 HO3.out hg4 (by omega) (by omega)
        · have := hg4.size; omega
      case measure => simp [intOf]; omega
    · have hj' : j = l.length := by omega
      subst hj'
      go_wp2
      go_ret2
      refine ⟨_, rfl, ?_, hbel⟩
      have := HOWN.out
      rwa [List.take_length] at this
end Go.Proofs.YtkheobdkmmbjnaaDoor
