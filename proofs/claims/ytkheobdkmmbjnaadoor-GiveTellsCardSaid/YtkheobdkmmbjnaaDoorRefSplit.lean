/- fairref2.Split: the reference's. -/
import Derived.Test.YtkheobdkmmbjnaaDoorSeek
import Derived.Test.YtkheobdkmmbjnaaDoorGiveParts
import Derived.Test.YtkheobdkmmbjnaaDoorTotal
namespace Go.Proofs.YtkheobdkmmbjnaaDoor
open Go.RowKit
theorem range_snoc' (f : Nat → Int) (k : Nat) : ((List.range (k + 1)).map f).map (Value.int .i64) = ((List.range k).map f).map (Value.int .i64) ++ [.int .i64 (f k)] := by rw [List.range_succ]; simp
set_option maxHeartbeats 8000000 in
set_option maxRecDepth 100000 in
theorem refSplit_any (m : Int) (A : Option Addr) (c : Nat) (l : List Int) (w : World) (h : Ints w w.heap.size A c l) (hw : Weighs l) (m0 : 0 ≤ m) (m1 : m ≤ 10000) :
    Calls Tryd.prog 74 #[.int .i64 m, .slice A l.length c] w fun e w' => ∃ v, e = .returned v ∧ w'.ownsRow w.heap.size 3 1 v l.length ((PG.parts m l).map (Value.int .i64)) ∧ Below w.heap.size w w' := by
  have HW := Lib.hid hw
  have H := Lib.hid h
  have hm := Nat.le_trans h.le h.cap
  unfold maxLen at hm
  have h0 := hw.pos
  have h6 := hw.six
  have t0 := hw.sum
  have t1 := (tot_bound l 1000 hw.bd).2
  have HS := Lib.hid (total_any A c l w.heap.size w h (fun a ha => by have := hw.bd a ha; omega) (by omega))
  obtain ⟨T, hT⟩ : ∃ T, tot l = T := ⟨_, rfl⟩
  rw [hT] at t0 t1 HS
  have HTE := Lib.hid hT
  have hTz : ¬ T = 0 := by omega
  have hl6 : l.length ≤ 1000000 := by omega
  clear h hw hT
  go_enter Tryd.func74, Tryd.ntmps74
  go_wp2_with fail
  refine HS.out.mono ?_; rintro e w' ⟨rfl, rfl⟩
  clear HS
  go_wp2
  go_loopw [6, 7, 8] (fun v s i wr => ∃ k : Nat, k ≤ l.length ∧ i = .int .i64 k ∧ s = .int .i64 (m - tot ((List.range k).map (PG.base m l))) ∧ Hid (wr.ownsRow w.heap.size 3 1 v k (((List.range k).map (PG.base m l)).map (Value.int .i64))) ∧ Below w.heap.size w wr)
    (fun _ _ i _ => l.length - (intOf i).toNat)
  case atStart => exact ⟨0, Nat.zero_le _, rfl, by simp [tot], Lib.hid (World.ownsRow_nil _ _ _ _), Below.refl _ _⟩
  case round =>
    obtain ⟨k, hk, rfl, rfl, HO, hbel⟩ := hrel
    by_cases hlt : k < l.length
    · obtain ⟨b, off, x, rfl, hbb, hc0, hx, _, HX⟩ := H.out.elem hlt
      have hc : wr.cell? ⟨b, off + k, none⟩ = some (.int .i64 x) := (hbel.cell (p := ⟨b, off + k, none⟩) hbb).trans hc0
      obtain ⟨p0, p1, b0, b1, _, _⟩ := HW.out.base m0 m1 k hlt
      obtain ⟨s0, s1⟩ := base_take_bd HW.out m0 m1 k hk
      have hbe : PG.base m l k = m * x / T := by unfold PG.base; rw [HX.out, HTE.out]
      have HTS : Hid (tot ((List.range (k + 1)).map (PG.base m l)) = tot ((List.range k).map (PG.base m l)) + PG.base m l k) := Lib.hid (by rw [List.range_succ, List.map_append]; exact tot_snoc _ _)
      rw [HX.out] at p0 p1
      rw [hbe] at b0 b1 HTS
      have HV := Lib.hid hbe
      clear HX hx hc0 hbe
      generalize tot ((List.range k).map (PG.base m l)) = Q at *
      go_wp2_with (at_builtin; refine wpList_push wr _ rfl (.tmp 30) (.tmp 32) 42 rfl w.heap.size 3 (.int .i64 0) 1 8 Tryd.underlying42 Tryd.info_int rfl (by omega) _ k _ rfl HO.out rfl rfl (by simp [Value.oneCell']) (by omega) (by omega) hbel.size ?_; intro v' w1 hown1 hg1)
      go_roundw
      case rel => exact ⟨k + 1, by omega, by go_num, by rw [HTS.out]; first | rfl | go_num | (congr 1; omega), Lib.hid (by rw [range_snoc', HV.out]; exact hown1), below_push hbel HO.out hg1 (Nat.le_refl _) hbel.size⟩
      case measure => simp [intOf]; omega
    · obtain rfl : k = l.length := by omega
      obtain ⟨z0, z1⟩ := PG.left_bounds m l HW.out.sum
      have hlf : m - tot ((List.range l.length).map (PG.base m l)) = PG.left m l := rfl
      rw [hlf]
      have hmx : max 1 l.length = l.length := by omega
      rw [hmx] at z1
      have hpi := parts_incs m l
      obtain ⟨L, hL⟩ : ∃ L : Nat, (L : Int) = PG.left m l := ⟨(PG.left m l).toNat, by omega⟩
      rw [← hL] at z1 hpi ⊢
      rw [Int.toNat_natCast] at hpi
      have HPI := Lib.hid hpi
      clear hL hlf hmx z0 hpi
      obtain ⟨g, cap, rfl, hg0, hg1, hcap, hcm⟩ := own_form HO.out h0
      have hsz := hbel.size
      obtain ⟨wo, rfl⟩ : ∃ wo : World, wo = wr := ⟨_, rfl⟩
      have hL1 : L < l.length := by omega
      go_wp2_with (refine wpList_makeN wo rfl (.tmp 38) (.tmp 38) 30 rfl w.heap.size 4 (.bool false) 1 Tryd.underlying30 Tryd.info_bool' rfl l.length rfl rfl hl6 (by decide) hsz ?_; intro w2 hown2 hgr2 hsz2)
      have hgb : g ≠ wo.heap.size := by omega
      have HO6 : Hid (w2.ownsRow w.heap.size 3 1 (.slice (some ⟨g, 0, none⟩) l.length cap) l.length ((PR.incs (PG.base m l) (PG.rest m l) l.length 0).map (Value.int .i64))) := Lib.hid (by rw [PR.incs_zero]; exact HO.out.kept hgr2 (.inr (by simp [Value.ownBlock])))
      have HOB : Hid (w2.ownsRow w.heap.size 4 1 (.slice (some ⟨wo.heap.size, 0, none⟩) l.length l.length) l.length ((PR.takens (PG.rest m l) l.length 0).map Value.bool)) := Lib.hid (by rw [gots_zero]; exact hown2)
      have HB2 := Lib.hid (below_none hbel hgr2 hsz)
      clear hown2 hgr2 hsz2 HO
      go_loopw [7] (fun vk wx => ∃ t : Nat, t ≤ L ∧ vk = .int .i64 ((L : Int) - t) ∧ Hid (wx.ownsRow w.heap.size 3 1 (.slice (some ⟨g, 0, none⟩) l.length cap) l.length ((PR.incs (PG.base m l) (PG.rest m l) l.length t).map (Value.int .i64))) ∧ Hid (wx.ownsRow w.heap.size 4 1 (.slice (some ⟨wo.heap.size, 0, none⟩) l.length l.length) l.length ((PR.takens (PG.rest m l) l.length t).map Value.bool)) ∧ Hid (Below w.heap.size w wx))
        (fun vk _ => (intOf vk).toNat)
      case atStart => exact ⟨0, Nat.zero_le _, by simp, HO6, HOB, HB2⟩
      case round =>
        obtain ⟨t, ht, rfl, HO, HOB, HBL⟩ := hrel
        clear HO6 HB2
        by_cases hlt : t < L
        · have hpos : (0 : Int) < (L : Int) - t := by omega
          obtain ⟨wo2, rfl⟩ : ∃ wo2 : World, wo2 = wr := ⟨_, rfl⟩
          go_wp2_with fail
          have HI := Lib.hid (H.out.below HBL.out (Nat.le_refl _))
          go_loopw [11, 12] (fun vb vi wx => ∃ (k d : Nat) (v : Int), k ≤ l.length ∧ vi = .int .i64 k ∧ vb = .int .i64 v ∧ Hid (Seek (PG.rest m l) l.length t k v) ∧ wx = wo2.drewN d) (fun _ vi _ => l.length - (intOf vi).toNat)
          case atStart => exact ⟨0, 0, -1, Nat.zero_le _, rfl, rfl, Lib.hid (Seek.zero _ _ _), rfl⟩
          case round =>
            obtain ⟨k, d, v, hk, rfl, rfl, HSK, rfl⟩ := hrel
            by_cases hlk : k < l.length
            · obtain ⟨b, off, x, rfl, hbb, hc, hx, _, HX⟩ := HI.out.elem hlk
              obtain ⟨cg, fg⟩ := taken_cell HOB.out hlk
              have hk0 : (0 : Int) ≤ (k : Int) := by omega
              have hk1 : (k : Int) < l.length := by omega
              obtain ⟨tk, htk⟩ : ∃ b, PR.taken (PG.rest m l) l.length t k = b := ⟨_, rfl⟩
              rw [htk] at cg
              have HTK := Lib.hid htk
              clear htk hx
              cases tk with
              | true =>
                have HN := Lib.hid (HSK.out.skip HTK.out)
                clear HSK
                go_wp2_with fail
                go_quiet (fail)
                go_wp2
                go_roundw
                case rel => exact ⟨k + 1, _, v, by omega, by go_num, rfl, HN, rfl⟩
                case measure => simp [intOf]; omega
              | false =>
                rcases HSK.out.form with rfl | ⟨vb, rfl⟩
                · have HN := Lib.hid (HSK.out.take HTK.out)
                  clear HSK
                  go_wp2_with fail
                  go_quiet (fail)
                  go_wp2
                  go_roundw
                  case rel => exact ⟨k + 1, _, k, by omega, by go_num, rfl, HN, rfl⟩
                  case measure => simp [intOf]; omega
                · have hvl := HSK.out.lt
                  obtain ⟨z, hcz, _, HZ⟩ := HI.out.here (k := vb) (by omega)
                  have hzk : l.getD vb 0 = z := by
                    have := HZ.out
                    simp [this]
                  have hvn : ¬ (vb : Int) < 0 := by omega
                  have hvd : decide ((vb : Int) < 0) = false := decide_eq_false hvn
                  have hv0 : (0 : Int) ≤ (vb : Int) := by omega
                  have hv1 : (vb : Int) < l.length := by omega
                  obtain ⟨x0, x1, _, _, rx0, rx1⟩ := HW.out.base m0 m1 k hlk
                  obtain ⟨z0, z1, _, _, rz0, rz1⟩ := HW.out.base m0 m1 vb (by omega)
                  have ex : PG.rest m l k = m * x % T := by unfold PG.rest; rw [HX.out, HTE.out]
                  have ez : PG.rest m l vb = m * z % T := by unfold PG.rest; rw [hzk, HTE.out]
                  rw [HX.out] at x0 x1
                  rw [hzk] at z0 z1
                  have wx1 : IntKind.i64.wrap (m * x) = m * x := IntWalk.i64_in _ (by omega)
                  have wz1 : IntKind.i64.wrap (m * z) = m * z := IntWalk.i64_in _ (by omega)
                  have tx : (m * x).tmod T = PG.rest m l k := by rw [Int.tmod_eq_emod_of_nonneg x0, ex]
                  have tz : (m * z).tmod T = PG.rest m l vb := by rw [Int.tmod_eq_emod_of_nonneg z0, ez]
                  clear hzk HX HZ ex ez
                  by_cases hxz : PG.rest m l vb < PG.rest m l k
                  · have HN := Lib.hid (HSK.out.turn HTK.out hxz)
                    clear HSK
                    generalize PG.rest m l k = rk at *
                    generalize PG.rest m l vb = rv at *
                    go_wp2_with fail
                    go_quiet (fail)
                    go_wp2
                    go_roundw
                    case rel => exact ⟨k + 1, _, k, by omega, by go_num, rfl, HN, rfl⟩
                    case measure => simp [intOf]; omega
                  · have HN := Lib.hid (HSK.out.stay hxz)
                    clear HSK
                    generalize PG.rest m l k = rk at *
                    generalize PG.rest m l vb = rv at *
                    have hxd : decide (rv < rk) = false := decide_eq_false hxz
                    go_wp2_with fail
                    go_quiet (fail)
                    go_wp2
                    go_roundw
                    case rel => exact ⟨k + 1, _, vb, by omega, by go_num, rfl, HN, rfl⟩
                    case measure => simp [intOf]; omega
            · obtain rfl : k = l.length := by omega
              obtain ⟨b, rfl, hb, hrk⟩ := HSK.out.done (by omega)
              have HOd := own_below HO.out (below_drewN (Below.refl _ _) d)
              have HBd := own_below HOB.out (below_drewN (Below.refl _ _) d)
              obtain ⟨cg, fg⟩ := taken_cell HBd hb
              have sg := taken_set HBd hb hrk
              obtain ⟨c6, f6, s6⟩ := incs_cell (own_far (k := b) HOd (g := wo.heap.size) (by simpa [Value.ownBlock] using hgb) (.bool true)) hb hrk
              have S6 := Lib.hid s6
              have SB := Lib.hid (own_far (k := b) sg (g := g) (by simpa [Value.ownBlock] using fun e => hgb e.symm) (.int .i64 (PG.base m l b + 1)))
              have SL := Lib.hid (((below_drewN HBL.out d).setCell (p := ⟨wo.heap.size, b, none⟩) hsz (.bool true)).setCell (p := ⟨g, b, none⟩) hg0 (.int .i64 (PG.base m l b + 1)))
              obtain ⟨_, _, b0, b1, _, _⟩ := HW.out.base m0 m1 b hb
              obtain ⟨tb, htb⟩ : ∃ x, PR.taken (PG.rest m l) l.length t b = x := ⟨_, rfl⟩
              rw [htb] at cg
              clear HOd HBd sg s6 hrk htb HSK
              generalize PG.base m l b = z at *
              have hb0 : (0 : Int) ≤ (b : Int) := by omega
              have hb1 : (b : Int) < l.length := by omega
              go_wp2
              go_roundw
              case rel => exact ⟨t + 1, by omega, by first | rfl | go_num | (congr 1; omega), S6, SB, SL⟩
              case measure => simp [intOf]; omega
        · obtain rfl : t = L := by omega
          have hz0 : (t : Int) - t = 0 := by omega
          rw [hz0]
          have HF := Lib.hid HO.out
          rw [← HPI.out] at HF
          go_wp2
          go_ret
          exact ⟨_, rfl, HF.out, HBL.out⟩
end Go.Proofs.YtkheobdkmmbjnaaDoor
