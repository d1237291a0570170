/- The reference's wants: what is wrong with them; the wide net. -/
import Derived.Test.YtblanfaghnflkaaDoorWant1
import Derived.Test.YtblanfaghnflkaaDoorRefWith
namespace Go.Proofs.YtblanfaghnflkaaDoor
open Go.RowKit
theorem bad_take {l : List Int} {k : Nat} {x : Int} (h : l.take (k + 1) = l.take k ++ [x]) : (l.take (k + 1)).any badCap = ((l.take k).any badCap || badCap x) := by rw [h]; simp
set_option maxHeartbeats 8000000 in
set_option maxRecDepth 100000 in
theorem refWants_any (C : Option Addr) (cc : Nat) (caps : List Int) (P : Option Addr) (cp : Nat) (paths : List (List Int)) (A : Option Addr) (c : Nat) (want : List Int) (B : Nat) (w : World) (e : Int) (hB : B ≤ w.heap.size) (hc : Ints w B C cc caps) (hp : Rows2 w B P cp paths) (hi : Ints w B A c want) (he : wantsErr caps paths want = e) :
    Calls Tryd.prog 55 #[.agg #[.slice C caps.length cc, .slice P paths.length cp], .slice A want.length c] w fun r w' => r = .returned (.int .i64 e) ∧ Below w.heap.size w w' := by
  have HB0 := Lib.hid ((Below.refl w.heap.size w).alloc (Nat.le_refl _) (.cells #[.slice C caps.length cc, .slice P paths.length cp] 43))
  have HN0 := Lib.hid (Blk.new w 43 #[.slice C caps.length cc, .slice P paths.length cp])
  have HRN := Lib.hid (refNet_all C cc caps P cp paths B (w.alloc (.cells #[.slice C caps.length cc, .slice P paths.length cp] 43)) (by simp; omega) (hc.below HB0.out hB) (hp.below HB0.out hB))
  have HI := Lib.hid hi
  have him := hi.cap; have hil := hi.le; have hpm := hp.cap; have hpl := hp.le
  unfold maxLen at him hpm
  unfold wantsErr at he
  clear hc hp hi
  by_cases h1 : netErr caps paths = 0
  · rw [if_pos h1] at he
    rw [h1] at HRN
    by_cases hl : want.length = paths.length
    · rw [if_pos hl] at he
      have HE : Hid ((if want.any badCap = true then (1 : Int) else 0) = e) := Lib.hid he
      have hd : ((want.length : Int) != (paths.length : Int)) = false := by rw [hl]; simp
      clear he hl h1 hpm hpl
      go_enter Tryd.func55, Tryd.ntmps55
      go_wp2_with fail
      refine HRN.out.mono ?_; rintro r w1 ⟨rfl, hb1⟩
      have HB1 := Lib.hid (HB0.out.trans (hb1.mono HB0.out.size)); have HN1 := Lib.hid (HN0.out.go hb1)
      obtain ⟨n0, n1, _, _, nz⟩ := HN1.out.two
      have hz1 := HB1.out.size
      clear hb1 HRN
      go_wp2
      go_loop [5, 6] (fun ev iv => ∃ (k : Nat) (x : Int), k ≤ want.length ∧ ev = .int .i64 x ∧ iv = .int .i64 k ∧ ((x = 0 ∧ Hid ((want.take k).any badCap = false)) ∨ (x = 1 ∧ Hid (want.any badCap = true)))) (fun _ iv => want.length - (intOf iv).toNat)
      case atStart => exact ⟨0, 0, Nat.zero_le _, rfl, rfl, .inl ⟨rfl, Lib.hid (by simp)⟩⟩
      case round =>
        obtain ⟨k, x, hk, rfl, rfl, hx⟩ := hrel
        by_cases hlt : k < want.length
        · have k0 : (0 : Int) ≤ (k : Int) := by omega
          have k1 : (k : Int) < (want.length : Int) := by omega
          rcases hx with ⟨rfl, HT⟩ | ⟨rfl, HT⟩
          · obtain ⟨b, off, y, rfl, hb, hcell, hy, HTK, _⟩ := (HI.out.below HB1.out hB).elem hlt
            have hbt := bad_take HTK.out
            rw [HT.out, Bool.false_or] at hbt
            have hbz : b < w1.heap.size := by omega
            clear HTK
            by_cases y1 : y < 1
            · have hbad : badCap y = true := by unfold badCap; simp [y1]
              have HBAD : Hid (want.any badCap = true) := Lib.hid (any_of_take want badCap (k + 1) (by rw [hbt, hbad]))
              clear hbt hbad
              go_wp2
              go_round
              case rel => exact ⟨k + 1, 1, by omega, rfl, by go_num, .inr ⟨rfl, HBAD⟩⟩
              case measure => simp [intOf]; omega
            · have y1' : decide (y < 1) = false := decide_eq_false y1
              by_cases y2 : 1000 < y
              · have hbad : badCap y = true := by unfold badCap; simp [y2]
                have HBAD : Hid (want.any badCap = true) := Lib.hid (any_of_take want badCap (k + 1) (by rw [hbt, hbad]))
                clear hbt hbad
                go_wp2
                go_round
                case rel => exact ⟨k + 1, 1, by omega, rfl, by go_num, .inr ⟨rfl, HBAD⟩⟩
                case measure => simp [intOf]; omega
              · have y2' : decide (1000 < y) = false := decide_eq_false y2
                have hbad : badCap y = false := by unfold badCap; simp [y1, y2]
                rw [hbad] at hbt
                have HBT := Lib.hid hbt
                clear hbt hbad
                go_wp2
                go_round
                case rel => exact ⟨k + 1, 0, by omega, rfl, by go_num, .inl ⟨rfl, HBT⟩⟩
                case measure => simp [intOf]; omega
          · have he1 : e = 1 := by have := HE.out; rw [HT.out, if_pos rfl] at this; exact this.symm
            subst he1
            go_wp2
            go_ret
            exact ⟨rfl, HB1.out⟩
        · obtain rfl : k = want.length := by omega
          have he1 : x = e := by
            rw [← HE.out]
            rcases hx with ⟨rfl, HT⟩ | ⟨rfl, HT⟩
            · rw [List.take_length] at HT; rw [HT.out]; rfl
            · rw [HT.out]; rfl
          subst he1
          clear hx
          go_wp2
          go_ret
          exact ⟨rfl, HB1.out⟩
    · rw [if_neg hl] at he
      subst he
      have hd : ((want.length : Int) != (paths.length : Int)) = true := by rw [bne_iff_ne]; omega
      clear hl h1
      go_enter Tryd.func55, Tryd.ntmps55
      go_wp2_with fail
      refine HRN.out.mono ?_; rintro r w1 ⟨rfl, hb1⟩
      have HB1 := Lib.hid (HB0.out.trans (hb1.mono HB0.out.size)); have HN1 := Lib.hid (HN0.out.go hb1)
      obtain ⟨n0, n1, _, _, nz⟩ := HN1.out.two
      clear hb1 HRN
      go_wp2
      refine wp_loop_rounds 1 ?_
      rw [rounds_succ]
      go_wp2
      all_goals
        go_ret
        exact ⟨rfl, HB1.out⟩
  · rw [if_neg h1] at he
    rw [he] at HRN h1
    have h1' : (e == 0) = false := beq_eq_false_iff_ne.2 h1
    clear he
    go_enter Tryd.func55, Tryd.ntmps55
    go_wp2_with fail
    refine HRN.out.mono ?_; rintro r w1 ⟨rfl, hb1⟩
    have HB1 := Lib.hid (HB0.out.trans (hb1.mono HB0.out.size)); have HN1 := Lib.hid (HN0.out.go hb1)
    obtain ⟨n0, n1, _, _, nz⟩ := HN1.out.two
    clear hb1 HRN
    go_wp2
    refine wp_loop_rounds 1 ?_
    rw [rounds_succ]
    go_wp2
    all_goals
      go_ret
      exact ⟨rfl, HB1.out⟩
end Go.Proofs.YtblanfaghnflkaaDoor
