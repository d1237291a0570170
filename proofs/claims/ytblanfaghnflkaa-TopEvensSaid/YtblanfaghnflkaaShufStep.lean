/- shuffle.Step of shares that are right. -/
import Derived.Test.YtblanfaghnflkaaShufFns
import Derived.Test.YtblanfaghnflkaaAimdStep
import Derived.Deep.RegionLaw
import Derived.BigRegion
namespace Go.Proofs.Ytblanfaghnflkaa
open Go.RowKit
def shufBase (l : List Int) (p : Int) (i : Nat) : Int := l.getD i 0 - PS.tk l p i + PS.all l p / l.length
theorem shufStep_incs (l : List Int) (p : Int) : PS.step l p = PR.incs (shufBase l p) (PS.key l) l.length (PS.all l p % l.length).toNat := rfl
theorem range_snoc (f : Nat → Int) (k : Nat) : ((List.range (k + 1)).map f).map (Value.int .i64) = ((List.range k).map f).map (Value.int .i64) ++ [.int .i64 (f k)] := by rw [List.range_succ]; simp
theorem idxs_snoc (k : Nat) : idxs (List.range (k + 1)) = idxs (List.range k) ++ [.int .i64 (k : Int)] := by rw [List.range_succ]; simp [idxs]
theorem shufBase_bd {l : List Int} {p : Int} (hb : ∀ a ∈ l, 0 ≤ a ∧ a ≤ 10000) (h6 : l.length ≤ 6) (p0 : 0 ≤ p) (p1 : p ≤ 1000) (i : Nat) (hi : i < l.length) : 0 ≤ shufBase l p i ∧ shufBase l p i ≤ 70000 := by
  have h1 := hb _ (getD_mem l i hi)
  have h2 := all_bd hb h6 p0 p1
  have h3 : 0 ≤ PS.all l p / (l.length : Int) := Int.ediv_nonneg h2.1 (by omega)
  have h4 : PS.all l p / (l.length : Int) ≤ PS.all l p := Int.ediv_le_self _ h2.1
  have h5 := PS.left_mono 0 (l.getD i 0) p h1.1 p0 p1
  have h6 : 0 ≤ l.getD i 0 * p := Int.mul_nonneg h1.1 p0
  unfold shufBase PS.tk
  simp only [Int.zero_mul, Int.zero_ediv] at h5
  omega
set_option maxHeartbeats 8000000 in
set_option maxRecDepth 100000 in
theorem shufstep_yes (A : Option Addr) (c : Nat) (l : List Int) (p : Int) (w : World) (h : Ints w w.heap.size A c l) (he : shufErr l p = 0) :
    Calls Try.prog 31 #[.slice A l.length c, .int .i64 p] w fun e w' => ∃ v, e = .returned (.tuple #[v, .nilIface]) ∧ w'.ownsRow w.heap.size 3 1 v l.length ((PS.step l p).map (Value.int .i64)) ∧ Below w.heap.size w w' := by
  have b0 : Below w.heap.size w (w.alloc (.cells #[.slice A l.length c] 22)) := (Below.refl _ _).alloc (Nat.le_refl _) _
  obtain ⟨y, hy⟩ : ∃ y, PS.all l p = y := ⟨_, rfl⟩
  have HC := Lib.hid (takenAll_yes A c l p w.heap.size _ (h.below b0 (Nat.le_refl _)) he y hy)
  obtain ⟨⟨h0, h6, hbad⟩, p0, p1⟩ := shuf_ok he
  have hb := shares_in hbad
  have hyb := all_bd hb h6 p0 p1
  rw [hy] at hyb
  obtain ⟨y0, y1⟩ := hyb
  have HY := Lib.hid hy
  have HB := Lib.hid hb
  have H := Lib.hid h
  have hm := Nat.le_trans h.le h.cap
  unfold maxLen at hm
  have q0 : 0 ≤ y / (l.length : Int) := Int.ediv_nonneg y0 (by omega)
  have q1 : y / (l.length : Int) ≤ y := Int.ediv_le_self _ y0
  have hz : ((l.length : Int) == 0) = false := beq_eq_false_iff_ne.2 (by omega)
  have HP0 := Lib.hid (Blk.new w 22 #[.slice A l.length c])
  clear h he hbad hy hb
  go_enter Try.func31, Try.ntmps31
  go_wp2_with fail
  refine HC.out.mono ?_; rintro e w' ⟨rfl, rfl⟩
  clear HC
  go_wp2
  go_loopw [8, 9, 25] (fun v8 v9 i wr => ∃ k : Nat, k ≤ l.length ∧ i = .int .i64 k ∧ Hid (wr.ownsRow (w.heap.size + 1) 3 1 v8 k (((List.range k).map (shufBase l p)).map (Value.int .i64))) ∧ Hid (wr.ownsRow (w.heap.size + 1) 3 1 v9 k (idxs (List.range k))) ∧ Hid (Apart v8 v9) ∧ Hid (Blk wr w.heap.size 22 #[.slice A l.length c]) ∧ Hid (Below (w.heap.size + 1) (w.alloc (.cells #[.slice A l.length c] 22)) wr))
    (fun _ _ i _ => l.length - (intOf i).toNat)
  case atStart => exact ⟨0, Nat.zero_le _, rfl, Lib.hid (World.ownsRow_nil _ _ _ _), Lib.hid (World.ownsRow_nil _ _ _ _), Lib.hid (.inl rfl), HP0, Lib.hid (Below.refl _ _)⟩
  case round =>
    obtain ⟨k, hk, rfl, HO8, HO9, HA, HP, HBL⟩ := hrel
    obtain ⟨pc, pf, pz⟩ := HP.out.one
    by_cases hlt : k < l.length
    · obtain ⟨b, off, x, rfl, hbb, hc0, hx, HT, HX⟩ := H.out.elem hlt
      have hc : _ = some (Value.int .i64 x) := (HBL.out.cell (p := ⟨b, off + k, none⟩) (by simp; omega)).trans (((Below.refl w.heap.size w).alloc (Nat.le_refl _) (.cells #[.slice (some ⟨b, off, none⟩) l.length c] 22)).cell (p := ⟨b, off + k, none⟩) hbb |>.trans hc0)
      clear hc0
      have hxb := HB.out x hx
      obtain ⟨x0, x1⟩ := hxb
      have m0 : 0 ≤ x * p := Int.mul_nonneg x0 p0
      have m1 : x * p ≤ 10000 * 1000 := Int.mul_le_mul x1 p1 p0 (by omega)
      have t0 : 0 ≤ x * p / 1000 ∧ x * p / 1000 ≤ 10000 := by omega
      have HV : Hid (shufBase l p k = x - x * p / 1000 + y / l.length) := Lib.hid (by unfold shufBase PS.tk; rw [HX.out, HY.out])
      have HTK := Lib.hid fun W => taken1_any x p W x0 x1 p0 p1
      generalize x * p / 1000 = t at *
      obtain ⟨t0, t1⟩ := t0
      clear m0 m1 HT HX hx
      have hne : ¬ l = [] := by intro hl; subst hl; simp at hlt
      have wq : IntKind.i64.wrap (y.tdiv (l.length : Int)) = y / (l.length : Int) := by rw [Int.tdiv_eq_ediv_of_nonneg y0]; exact IntWalk.i64_in _ (by omega)
      have wx1 : IntKind.i64.wrap (x - t) = x - t := IntWalk.i64_in _ (by omega)
      have wx2 : IntKind.i64.wrap (x - t + y / (l.length : Int)) = x - t + y / (l.length : Int) := IntWalk.i64_in _ (by omega)
      go_wp2
      have hs8 := HO8.out.alloc (.cells #[.int .i64 (x - t + y / (l.length : Int))] 3)
      have HS8 := Lib.hid (own_below hs8 ((Below.refl _ _).drew))
      have hbs := HBL.out.size
      simp at hbs
      have hn0 : Hid (w.heap.size + 1 ≤ (wr.alloc (.cells #[.int .i64 (x - t + y / (l.length : Int))] 3)).drew.heap.size) := Lib.hid (by simp; omega)
      have hg0 : Hid ((wr.alloc (.cells #[.int .i64 (x - t + y / (l.length : Int))] 3)).drew.heap[wr.heap.size]? = some (.cells #[.int .i64 (x - t + y / (l.length : Int))] 3 (0, 0))) := Lib.hid (heap_alloc_new wr _)
      have hk6 : k ≤ 1000000 := by omega
      have one1 : Hid (∀ u ∈ (#[Value.int .i64 (x - t + y / (l.length : Int))] : Array Value).toList, u.oneCell' = true) := Lib.hid (by simp [Value.oneCell'])
      clear hs8
      go_region_law (first | (go_simp; go_at_call 60; refine (HTK.out _).mono ?_; rintro e w' ⟨rfl, rfl⟩) | (refine step_push rfl (.tmp 30) (.tmp 41) 22 rfl (w.heap.size + 1) 3 (.int .i64 0) 1 8 Try.underlying22 Try.info_int rfl Nat.one_pos _ k _ rfl HS8.out wr.heap.size #[.int .i64 (x - t + y / (l.length : Int))] rfl hg0.out rfl one1.out hk6 (by decide) hn0.out ?_; intro v8 w8 hown8 hgrow8 hblk8))
      all_goals
        have H8 := Lib.hid hown8
        have G8 := Lib.hid hgrow8
        have B8 := Lib.hid (hblk8.imp id fun e => (by simpa using e : v8.ownBlock = some (wr.heap.size + 1)))
        have HO9' := Lib.hid ((own_below (HO9.out.alloc (.cells #[.int .i64 (x - t + y / (l.length : Int))] 3)) ((Below.refl _ _).drew)).kept G8.out (HA.out.symm))
        have hs8 := G8.out.size
        simp at hs8
        clear hown8 hgrow8 hblk8 HTK wx1 wx2 wq hc pc pf
        have hbase9 : w.heap.size + 1 ≤ w8.heap.size := by omega
        go_wp2_with (at_builtin; refine wpList_push2 w8 _ rfl (.tmp 43) (.tmp 45) 22 rfl (w.heap.size + 1) 3 (.int .i64 0) 1 8 Try.underlying22 Try.info_int rfl (by omega) _ k _ rfl HO9'.out rfl rfl (by simp [Value.oneCell']) (by omega) (by omega) hbase9 ?_; intro v9 w9 hown9 hgrow9 hblk9)
        have A1 := HA.out.push HO9.out (Nat.le_succ _) B8.out
        have H8' := Lib.hid (H8.out.kept hgrow9 A1)
        have A2 := Lib.hid ((A1.symm.push H8.out (Nat.le_succ _) hblk9).symm)
        have H9' := Lib.hid (show w9.ownsRow (w.heap.size + 1) 3 1 v9 (k + 1) (idxs (List.range (k + 1))) from by rw [idxs_snoc]; exact hown9)
        have H8'' := Lib.hid (show w9.ownsRow (w.heap.size + 1) 3 1 v8 (k + 1) (((List.range (k + 1)).map (shufBase l p)).map (Value.int .i64)) from by rw [range_snoc, HV.out]; exact H8'.out)
        have BL1 := Lib.hid (below_push ((HBL.out.alloc (by omega) (.cells #[.int .i64 (x - t + y / (l.length : Int))] 3)).drew) (own_below (HO8.out.alloc (.cells #[.int .i64 (x - t + y / (l.length : Int))] 3)) ((Below.refl _ _).drew)) G8.out (Nat.le_refl _) (by simp; omega))
        have BL2 := Lib.hid (below_push BL1.out HO9'.out hgrow9 (Nat.le_refl _) hbase9)
        have HP' := Lib.hid ((HP0.out).below BL2.out (by omega))
        clear hown9 hgrow9 hblk9 A1
        go_roundw
        case rel => exact ⟨k + 1, by omega, by go_num, H8'', H9', A2, HP', BL2⟩
        case measure => simp [intOf]; omega
    · obtain rfl : k = l.length := by omega
      obtain ⟨g9, cap9, rfl, hg90, hg91, hc90, hc91⟩ := own_form HO9.out h0
      obtain ⟨g8, cap8, rfl, hg80, hg81, hc80, hc81⟩ := own_form HO8.out h0
      have hbw : Hid (Below w.heap.size w wr) := Lib.hid (((Below.refl _ _).alloc (Nat.le_refl _) _).trans (HBL.out.mono (by omega)))
      have hcm : Compares (PS.key l) (fun x y => cmpI (l.getD x 0) (l.getD y 0)) l.length (w.heap.size + 1) 62 #[.pointer (some ⟨w.heap.size, 0, none⟩)] wr :=
        ⟨fun x y => by rw [less_cmp]; unfold PS.key; omega, fun W x y hx hy hW => shufcmp_any A c l w.heap.size w.heap.size W (H.out.below (hbw.out.trans (hW.mono (by omega))) (Nat.le_refl _)) (HP.out.below hW (by omega)).one.1 x y hx hy⟩
      have hrow : Row (w.heap.size + 1) l.length g9 cap9 (List.range l.length) wr := HO9.out
      have hbs := HBL.out.size
      simp at hbs
      have HS := Lib.hid (sortStable_any (PS.key l) _ l.length g9 cap9 (w.heap.size + 1) 62 #[.pointer (some ⟨w.heap.size, 0, none⟩)] wr h0 h6 hrow shufcmp_cf hcm hg90 hbs)
      clear hcm hrow
      go_wp2_with fail
      refine HS.out.mono ?_; rintro e w3 ⟨rfl, o, ho, hrow, hgr⟩
      have HORD := Lib.hid ho
      have HROW := Lib.hid hrow
      have HGR := Lib.hid hgr
      have g89 : g8 ≠ g9 := fun e => by
        subst e
        rcases HA.out with h | h
        · simp [Value.ownBlock] at h
        · exact h rfl
      have H8 := Lib.hid (HO8.out.kept hgr (.inr (by simpa [Value.ownBlock] using g89)))
      have BL3 := Lib.hid (HBL.out.trans (below_of_grown hgr hg90 hbs))
      have HP3 := Lib.hid (HP.out.below (below_of_grown hgr hg90 hbs) (by omega))
      clear ho hrow hgr HS HO8 HO9
      obtain ⟨pc3, pf3, pz3⟩ := HP3.out.one
      have m0 : 0 ≤ y % (l.length : Int) := Int.emod_nonneg _ (by omega)
      have m1 : y % (l.length : Int) < l.length := Int.emod_lt_of_pos _ (by omega)
      obtain ⟨m, hmm⟩ : ∃ m : Nat, (m : Int) = y % (l.length : Int) := ⟨(y % (l.length : Int)).toNat, by omega⟩
      have hne : ¬ l = [] := by intro hl; subst hl; simp at h0
      have wt : y.tmod (l.length : Int) = m := by rw [Int.tmod_eq_emod_of_nonneg y0]; exact hmm.symm
      have hm1 : m < l.length := by omega
      have HM := Lib.hid hmm
      clear hmm m0 m1
      have k0 : (0 : Int) ≤ (m : Int) := by omega
      have k1 : (m : Int) ≤ (cap9 : Int) := by omega
      have H8z : Hid (w3.ownsRow (w.heap.size + 1) 3 1 (.slice (some ⟨g8, 0, none⟩) l.length cap8) l.length ((PR.incs (shufBase l p) (PS.key l) l.length 0).map (Value.int .i64))) := Lib.hid (by rw [PR.incs_zero]; exact H8.out)
      clear H8 HA HBL HP pc pf pz hbs
      go_wp2_with fail
      go_loopw [58] (fun vi wr => ∃ k : Nat, k ≤ m ∧ vi = .int .i64 k ∧ Hid (wr.ownsRow (w.heap.size + 1) 3 1 (.slice (some ⟨g8, 0, none⟩) l.length cap8) l.length ((PR.incs (shufBase l p) (PS.key l) l.length k).map (Value.int .i64))) ∧ Hid (Row (w.heap.size + 1) l.length g9 cap9 o wr) ∧ Hid (Below (w.heap.size + 1) (w.alloc (.cells #[.slice A l.length c] 22)) wr))
        (fun vi _ => m - (intOf vi).toNat)
      case atStart => exact ⟨0, Nat.zero_le _, rfl, H8z, HROW, BL3⟩
      case round =>
        obtain ⟨k, hk, rfl, HO, HR, HL⟩ := hrel
        clear H8z HROW BL3
        by_cases hlt : k < m
        · obtain ⟨i, hoi, hi, hrk⟩ := HORD.out.at_ (k := k) (by omega)
          obtain ⟨c9, f9⟩ := HR.out.cell hoi HORD.out.len
          obtain ⟨c8, f8, hset⟩ := incs_cell HO.out hi hrk
          obtain ⟨b0, b1⟩ := shufBase_bd HB.out h6 p0 p1 i hi
          have HS := Lib.hid hset
          have HR' : Hid (Row (w.heap.size + 1) l.length g9 cap9 o (wr.setCell ⟨g8, i, none⟩ (.int .i64 (shufBase l p i + 1)))) := Lib.hid (HR.out.kept (row := some g8) (grown_set (grown_refl _ _)) (.inr (by simpa [Value.ownBlock] using fun e => g89 e.symm)))
          have HL' := Lib.hid (HL.out.setCell (p := ⟨g8, i, none⟩) hg80 (.int .i64 (shufBase l p i + 1)))
          clear hset hoi hrk
          generalize shufBase l p i = z at *
          have hi0 : (0 : Int) ≤ (i : Int) := by omega
          have hi1 : (i : Int) < l.length := by omega
          go_wp2
          go_roundw
          case rel => exact ⟨k + 1, by omega, by go_num, HS, HR', HL'⟩
          case measure => simp [intOf]; omega
        · obtain rfl : k = m := by omega
          have hfin : wr.ownsRow w.heap.size 3 1 (.slice (some ⟨g8, 0, none⟩) l.length cap8) l.length ((PS.step l p).map (Value.int .i64)) := by
            rw [shufStep_incs, HY.out, ← HM.out]
            exact own_base HO.out (by omega)
          have HF := Lib.hid hfin; clear hfin
          go_wp2
          go_ret2
          exact ⟨_, rfl, HF.out, ((Below.refl _ _).alloc (Nat.le_refl _) _).trans (HL.out.mono (by omega))⟩
end Go.Proofs.Ytblanfaghnflkaa
