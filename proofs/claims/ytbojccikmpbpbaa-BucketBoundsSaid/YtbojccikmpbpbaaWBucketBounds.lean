/- The walk of BucketBounds: it returns true for every input. -/
import Derived.Test.YtbojccikmpbpbaaBucket
namespace Go.Proofs.Ytbojccikmpbpbaa
open Go.RowKit
attribute [local go_sem ↓] run_min_mn run_max_mx
theorem ints3 {w : World} {g B : Nat} (h : Blk w g 3 #[.int .i64 9, .int .i64 0, .int .i64 0]) (hB : g < B) : Ints w B (some ⟨g, 0, none⟩) 3 [9, 0, 0] := by
  refine ⟨⟨rfl, fun _ => ⟨g, 0, rfl, hB, fun j u hu => ?_⟩⟩, by simp, by simp [maxLen]⟩
  rw [h.cell]
  match j, hu with
  | 0, hu => simpa using hu
  | 1, hu => simpa using hu
  | 2, hu => simpa using hu
  | j + 3, hu => simp at hu
theorem send_fact (w : World) (g : Nat) (h : Blk w g 3 #[.int .i64 9, .int .i64 0, .int .i64 0]) : Calls Try.prog 4 #[.agg #[.int .i64 5, .int .i64 2, .int .i64 5], .slice (some ⟨g, 0, none⟩) 3 3] w fun e w' =>
    ∃ b off c, e = .returned (.tuple #[.slice (some ⟨b, off, none⟩) 3 c, .nilIface]) ∧ w'.cell? ⟨b, off, none⟩ = some (.int .i64 5) ∧ w'.cell? ⟨b, off + 1, none⟩ = some (.int .i64 2) ∧ w'.cell? ⟨b, off + 2, none⟩ = some (.int .i64 2) ∧ 3 ≤ c ∧ Below w.heap.size w w' := by
  refine (bsend_yes 5 2 5 (some ⟨g, 0, none⟩) 3 [9, 0, 0] w ⟨by omega, by omega, by omega, by omega, by omega, by omega⟩ (ints3 h h.lt) (by decide) (by decide)).mono ?_
  rintro e w' ⟨v, rfl, hown, hb⟩
  obtain ⟨A, c, rfl, hc, _, hr⟩ := owns_reads hown
  obtain ⟨b, off, rfl, _, hcell⟩ := hr.2 (by decide)
  exact ⟨b, off, c, rfl, hcell 0 _ rfl, hcell 1 _ rfl, hcell 2 _ rfl, hc, hb⟩
theorem drop_take_succ (l : List Int) (j k : Nat) (x : Int) (hx : l[j + k]? = some x) : (l.drop j).take (k + 1) = (l.drop j).take k ++ [x] := by
  rw [List.take_add_one, List.getElem?_drop, hx]; rfl
set_option maxHeartbeats 4000000 in
set_option maxRecDepth 100000 in
theorem bucketBounds_walk (s r h : Int) (_ : (Lit.int .i64 s).wf = true) (_ : (Lit.int .i64 r).wf = true) (_ : (Lit.int .i64 h).wf = true) (A : Option Addr) (cp : Nat) (l : List Int) (w : World) (hi : Ints w w.heap.size A cp l)
    (_ : ∀ n ∈ l, (Lit.int .i64 n).wf = true) :
    Calls Try.prog 3 #[.agg #[.int .i64 s, .int .i64 r, .int .i64 h], .slice A l.length cp] w fun e w' => e = .returned (.bool true) ∧ Below w.heap.size w w' := by
  have HI := Lib.hid hi; clear hi
  have b0 : Below w.heap.size w (w.alloc (.cells #[.int .i64 s, .int .i64 r, .int .i64 h] 23)) := (Below.refl _ _).alloc (Nat.le_refl _) _
  go_enter Try.func3, Try.ntmps3
  go_wp2_with fail
  refine (send_fact _ _ (Blk.new' _ _ _ (by simp))).mono ?_; rintro e w1 ⟨b, off, c, rfl, l0, l1, l2, hc, hb1⟩
  have hw1 : Below w.heap.size w w1 := (b0.alloc (by simp) _).trans (hb1.mono (by simp; omega))
  have HP1 := Lib.hid (((Blk.new w 23 #[.int .i64 s, .int .i64 r, .int .i64 h]).alloc _).below hb1 (by simp <;> omega))
  obtain ⟨p0, p1, p2, f0, f1, f2, z0⟩ := HP1.out.three
  clear hb1 b0
  go_wp2_with fail
  clear l0 l1 l2
  refine (bsend_any s r h A cp l _ ((HI.out.below hw1 (Nat.le_refl _)).more hw1.size)).mono ?_; rintro e w2 ⟨v, rfl, hv, hb2⟩
  have hw2 := hw1.trans (hb2.mono hw1.size)
  have HP2 := Lib.hid (HP1.out.below hb2 (by omega))
  clear p0 p1 p2 f0 f1 f2 hb2 HP1
  obtain ⟨p0, p1, p2, f0, f1, f2, z2⟩ := HP2.out.three
  rcases hv with ⟨hok, hl, hbad, _, u, rfl, hown⟩ | ⟨_, ev, rfl⟩
  · have HIN := Lib.hid (ticks_in hbad)
    obtain ⟨g1, g2, g3, g4, g5, g6⟩ := hok
    have F := PB.facts s r h l (by omega) g3 g5 g6 fun n hn => (HIN.out n hn).1
    have HH : Hid (∀ n l', l = n :: l' → PB.send s r h 0 l = min n h :: PB.send s r (min s (h - min n h + r)) (n - min n h) l') := Lib.hid fun n l' e => by rw [e]; exact PB.send_head s r h n l'
    generalize PB.send s r h 0 l = xs at *
    obtain ⟨X, cx, rfl, hlx, hx⟩ := owns_ints hown
    have HX := Lib.hid hx
    have HF := Lib.hid F
    have HIL := Lib.hid (HI.out.below hw2 (Nat.le_refl _))
    clear hx F hown hbad
    rw [← hlx]
    have HN := Lib.hid hlx
    clear hlx
    have hxr : Hid (∀ x ∈ xs, 0 ≤ x ∧ x ≤ 10000) := Lib.hid fun x hx => by have := HF.out.range x hx; omega
    go_wp2_with fail
    go_loop [9, 10, 11] (fun ca we i => ∃ j : Nat, j ≤ l.length ∧ i = .int .i64 j ∧ ca = .int .i64 (tot (l.take j)) ∧ we = .int .i64 (tot (xs.take j))) (fun _ _ i => l.length - (intOf i).toNat)
    case atStart => exact ⟨0, Nat.zero_le _, rfl, rfl, rfl⟩
    case round =>
      obtain ⟨j, hj, rfl, rfl, rfl⟩ := hrel
      by_cases hlt : j < l.length
      · obtain ⟨b1, o1, a, hA, _, hc1, ha, HTa, HXa⟩ := HIL.out.elem hlt
        obtain ⟨b2, o2, x, hX, _, hc2, hx, HTx, HXx⟩ := HX.out.elem (k := j) (by have := HN.out; omega)
        have ba := HIN.out a ha
        have bx := hxr.out x hx
        have t1 := tot_bound_take l 10000 HIN.out j
        have t2 := tot_bound_take xs 10000 hxr.out j
        have t3 : (l.take j).length ≤ j := List.length_take_le _ _
        have t4 : (xs.take j).length ≤ j := List.length_take_le _ _
        have cm := HF.out.came (j + 1)
        rw [HTa.out, HTx.out, tot_snoc, tot_snoc] at cm
        have HTa' : Hid (tot (l.take (j + 1)) = tot (l.take j) + a) := Lib.hid (by rw [HTa.out, tot_snoc])
        have HTx' : Hid (tot (xs.take (j + 1)) = tot (xs.take j) + x) := Lib.hid (by rw [HTx.out, tot_snoc])
        clear HTa HTx HXa HXx ha hx
        subst hA hX
        go_wp2_with fail
        go_loop [12, 13] (fun su k => ∃ d : Nat, j + d ≤ l.length ∧ k = .int .i64 ((j : Int) + (d : Int)) ∧ su = .int .i64 (tot ((xs.drop j).take d))) (fun _ k => l.length - (intOf k).toNat)
        case atStart => exact ⟨0, by omega, by simp, rfl⟩
        case round =>
          obtain ⟨d, hd, rfl, rfl⟩ := hrel
          by_cases hlt2 : j + d < l.length
          · obtain ⟨y, hcy, hy, HY⟩ := HX.out.here (k := j + d) (by have := HN.out; omega)
            have bY := hxr.out y hy
            have hs' : Hid ((xs.drop j).take (d + 1) = (xs.drop j).take d ++ [y]) := Lib.hid (drop_take_succ xs j d y HY.out)
            have wn := HF.out.win j d
            rw [hs'.out, tot_snoc] at wn
            have t5 : 0 ≤ tot ((xs.drop j).take d) ∧ tot ((xs.drop j).take d) ≤ ((xs.drop j).take d).length * 10000 := tot_bound _ 10000 fun z hz => hxr.out z (List.mem_of_mem_drop (List.mem_of_mem_take hz))
            have t6 : ((xs.drop j).take d).length ≤ d := List.length_take_le _ _
            have hS' : Hid (tot ((xs.drop j).take (d + 1)) = tot ((xs.drop j).take d) + y) := Lib.hid (by rw [hs'.out, tot_snoc])
            have m0 : 0 ≤ (d : Int) * r ∧ (d : Int) * r ≤ 60 * 10000 := ⟨Int.mul_nonneg (by omega) g3, Int.mul_le_mul (by omega) (by omega) g3 (by omega)⟩
            have e2 : (j : Int) + (d : Int) - (j : Int) = d := by omega
            clear hs' HY hy
            go_wp2_with fail
            exact ⟨⟨d + 1, by omega, by rw [show (j : Int) + (d : Int) + 1 = (j : Int) + ((d + 1 : Nat) : Int) by omega], by rw [hS'.out]⟩, by simp [intOf]; omega⟩
          · have hz : (j : Int) + (d : Int) = l.length := by omega
            go_wp2_with fail
            first | exact ⟨⟨j + 1, by omega, by go_num, by rw [HTa'.out], by rw [HTx'.out]⟩, by simp [intOf]; omega⟩
      · have hj' : j = l.length := by omega
        subst hj'
        clear hlt hj
        cases hL : l with
        | nil =>
          subst hL
          go_wp2_with fail
          go_quiet (fail)
          go_wp2
          go_ret
          exact ⟨rfl, below_drewN hw2 _⟩
        | cons n l' =>
          have h0 : 0 < l.length := by rw [hL]; simp
          obtain ⟨b1, o1, a, rfl, _, hc1, ha, _, HXa⟩ := HIL.out.elem h0
          obtain ⟨b2, o2, x, rfl, _, hc2, hx, _, HXx⟩ := HX.out.elem (k := 0) (by have := HN.out; omega)
          have ea : a = n := by rw [← HXa.out, hL]; rfl
          have ex : x = min n h := by rw [← HXx.out, HH.out n l' hL]; rfl
          have hq : (x == a) = true ∧ decide (a ≤ h) = true ∨ (x == a) = false ∧ (x == h) = true ∧ decide (h < a) = true := by
            by_cases q : n ≤ h
            · rw [Int.min_eq_left q] at ex
              exact .inl ⟨beq_iff_eq.2 (by rw [ex, ea]), decide_eq_true (by rw [ea]; exact q)⟩
            · rw [Int.min_eq_right (show h ≤ n by omega)] at ex
              exact .inr ⟨beq_eq_false_iff_ne.2 (by rw [ex, ea]; omega), beq_iff_eq.2 ex, decide_eq_true (by rw [ea]; omega)⟩
          have hne : ((l.length : Int) == 0) = false := beq_eq_false_iff_ne.2 (by omega)
          have hp1 : (0 : Int) < (l.length : Int) := by omega
          clear ea ex HXa HXx ha hx hL
          simp only [Nat.add_zero] at hc1 hc2
          rcases hq with ⟨q1, q2⟩ | ⟨q1, q2, q3⟩
          all_goals
            go_wp2_with fail
            refine wp_region_quiet_lit (by kernel_rfl) (by kernel_rfl) ?_
            repeat (any_goals (first | go_big_quiet_step (fail) | quiet_step (fail)))
            refine wpQuiet_nil ?_
            intro _ hw'
            obtain ⟨nq, hw''⟩ := hw'
            subst hw''
            go_wp2
            go_ret
            exact ⟨rfl, below_drewN hw2 _⟩
  · go_wp2
    go_ret
    exact ⟨rfl, hw2⟩
end Go.Proofs.Ytbojccikmpbpbaa
