/- The walk of GiveAll: it returns true for every input. -/
import Derived.Test.YtkheobdkmmbjnaaGiveSplit
import Derived.Test.YtkheobdkmmbjnaaTotal
namespace Go.Proofs.Ytkheobdkmmbjnaa
open Go.RowKit
theorem le_tot {l : List Int} (h : ∀ a ∈ l, 0 ≤ a) {a : Int} (ha : a ∈ l) : a ≤ tot l := by
  induction l with
  | nil => cases ha
  | cons b l ih =>
    have h1 := h b List.mem_cons_self
    have h2 := PG.tot_nonneg l fun c hc => h c (List.mem_cons_of_mem _ hc)
    rcases List.mem_cons.1 ha with rfl | ha
    · simp only [tot]; omega
    · have := ih (fun c hc => h c (List.mem_cons_of_mem _ hc)) ha
      simp only [tot]; omega
theorem tot_neg (l : List Int) : tot (l.map fun x => -x) = - tot l := by
  induction l with
  | nil => rfl
  | cons a l ih => simp only [List.map_cons, tot, ih]; omega
theorem splitL_tot {m : Int} {l : List Int} (h : Weighs l) : tot (splitL m l) = m := by
  unfold splitL
  split
  · rw [tot_neg, PG.parts_tot _ _ h.sum]; omega
  · rw [PG.parts_tot _ _ h.sum]; omega
theorem splitL_bd {m : Int} {l : List Int} (h : Weighs l) (m0 : -10000 ≤ m) (m1 : m ≤ 10000) : ∀ a ∈ splitL m l, -10000 ≤ a ∧ a ≤ 10000 := fun a ha => by
  have hn := parts_bd h (m := max m (-m)) (by omega) (by omega)
  have ht := PG.parts_tot (max m (-m)) l h.sum
  unfold splitL at ha
  split at ha
  · obtain ⟨b, hb, rfl⟩ := List.mem_map.1 ha
    have := le_tot (fun c hc => (hn c hc).1) hb
    have := (hn b hb).1
    omega
  · have := le_tot (fun c hc => (hn c hc).1) ha
    have := (hn a ha).1
    omega
/-- what one gets: its own, or one more; nothing of nothing -/
theorem splitL_one {m : Int} {l : List Int} (h : Weighs l) (i : Nat) (hi : i < l.length) :
    ∃ p : Int, (splitL m l).getD i 0 = (if m < 0 then -p else p) ∧ PG.base (max m (-m)) l i ≤ p ∧ p ≤ PG.base (max m (-m)) l i + 1 ∧ (l.getD i 0 = 0 → p = 0) := by
  refine ⟨(PG.parts (max m (-m)) l).getD i 0, ?_, ?_⟩
  · unfold splitL
    have hi' : i < (PG.parts (max m (-m)) l).length := by rw [PG.parts_len]; exact hi
    split
    · simp [hi']
    · rfl
  · have e : (PG.parts (max m (-m)) l).getD i 0 = PG.base (max m (-m)) l i + if PR.rank (PG.rest (max m (-m)) l) l.length i < (PG.left (max m (-m)) l).toNat then 1 else 0 := by
      unfold PG.parts; simp [hi]
    rw [e]
    refine ⟨by split <;> omega, by split <;> omega, fun h0 => ?_⟩
    obtain ⟨b0, r0⟩ := PG.base_zero (max m (-m)) l i h0
    rw [b0, if_neg (PG.none_more (max m (-m)) l h.sum i hi r0)]
    rfl
theorem giveFact : splitErr (-7) [1, 2, 0] = 0 ∧ splitL (-7) [1, 2, 0] = [-2, -5, 0] := by decide
set_option maxHeartbeats 4000000 in
set_option maxRecDepth 100000 in
theorem giveAll_bad (m : Int) (A : Option Addr) (c : Nat) (l : List Int) (w : World) (h : Ints w w.heap.size A c l) (er : Int) (he : splitErr m l = er) (hp : er ≠ 0) :
    Calls Try.prog 18 #[.int .i64 m, .slice A l.length c] w fun e w' => e = .returned (.bool true) ∧ Below w.heap.size w w' := by
  have HE := Lib.hid he
  have HP := Lib.hid hp
  have H := Lib.hid h
  clear h he hp
  go_enter Try.func18, Try.ntmps18
  go_wp2_with fail
  refine (split_yes (-7) (some ⟨w.heap.size, 0, none⟩) 3 [1, 2, 0] _ (Ints.ofBlk (t := 3) (l := [1, 2, 0]) (Blk.new' _ _ _ (by simp)) (by simp)) giveFact.1).mono ?_
  rintro e w1 ⟨v, rfl, ho, hb⟩
  rw [giveFact.2] at ho
  obtain ⟨g, cap, rfl, hg0, hg1, hcap, hcm⟩ := own_form ho (by simp)
  have c0 := own_cell ho (k := 0) (x := -2) rfl (by simp)
  have c1 := own_cell ho (k := 1) (x := -5) rfl (by simp)
  have c2 := own_cell ho (k := 2) (x := 0) rfl (by simp)
  have HB := Lib.hid (((Below.refl _ _).alloc (Nat.le_refl _) (.cells #[.int .i64 1, .int .i64 2, .int .i64 0] 3)).trans (hb.mono (by simp)))
  clear ho hb
  go_wp2_with fail
  refine (split_bad m A c l _ ((H.out.below HB.out (Nat.le_refl _)).more HB.out.size) er HE.out HP.out).mono ?_; rintro e w2 ⟨rfl, hb2⟩
  have HB2 := Lib.hid (HB.out.trans (hb2.mono HB.out.size))
  clear hb2
  go_wp2
  go_ret
  exact ⟨rfl, HB2.out⟩
set_option maxHeartbeats 8000000 in
set_option maxRecDepth 100000 in
theorem giveAll_neg (m : Int) (A : Option Addr) (c : Nat) (l : List Int) (w : World) (h : Ints w w.heap.size A c l) (he : splitErr m l = 0) (hm : m < 0) :
    Calls Try.prog 18 #[.int .i64 m, .slice A l.length c] w fun e w' => e = .returned (.bool true) ∧ Below w.heap.size w w' := by
  obtain ⟨hix, m0, m1⟩ := split_ok he
  have hw := weighs_of hix
  have HW := Lib.hid hw
  have HE := Lib.hid he
  have H := Lib.hid h
  have h0 := hw.pos
  have h6 := hw.six
  have HBD := Lib.hid (splitL_bd hw m0 m1)
  have HTT := Lib.hid (splitL_tot (m := m) hw)
  have HON := Lib.hid (splitL_one (m := m) hw)
  have t0 := hw.sum
  have t1 := (tot_bound l 1000 hw.bd).2
  obtain ⟨T, hT⟩ : ∃ T, tot l = T := ⟨_, rfl⟩
  rw [hT] at t0 t1
  have HT := Lib.hid hT
  have hm9 := Nat.le_trans h.le h.cap
  unfold maxLen at hm9
  clear h he hix hw hT
  go_enter Try.func18, Try.ntmps18
  go_wp2_with fail
  refine (split_yes (-7) (some ⟨w.heap.size, 0, none⟩) 3 [1, 2, 0] _ (Ints.ofBlk (t := 3) (l := [1, 2, 0]) (Blk.new' _ _ _ (by simp)) (by simp)) giveFact.1).mono ?_
  rintro e w1 ⟨v, rfl, ho, hb⟩
  rw [giveFact.2] at ho
  obtain ⟨g, cap, rfl, hg0, hg1, hcap, hcm⟩ := own_form ho (by simp)
  have c0 := own_cell ho (k := 0) (x := -2) rfl (by simp)
  have c1 := own_cell ho (k := 1) (x := -5) rfl (by simp)
  have c2 := own_cell ho (k := 2) (x := 0) rfl (by simp)
  have HB := Lib.hid (((Below.refl _ _).alloc (Nat.le_refl _) (.cells #[.int .i64 1, .int .i64 2, .int .i64 0] 3)).trans (hb.mono (by simp)))
  clear ho hb
  go_wp2_with fail
  refine (split_yes m A c l _ ((H.out.below HB.out (Nat.le_refl _)).more HB.out.size) HE.out).mono ?_; rintro e w2 ⟨v2, rfl, ho2, hb2⟩
  clear c0 c1 c2 hg0 hg1 hcap hcm
  obtain ⟨L, hL⟩ : ∃ L, splitL m l = L := ⟨_, rfl⟩
  have hll : L.length = l.length := by rw [← hL]; exact splitL_len m l
  rw [hL] at ho2 HBD HTT HON
  rw [← hll] at ho2
  obtain ⟨A2, cp2, rfl, _, hi2⟩ := owns_ints ho2
  have HLL := Lib.hid hll
  have HI2 := Lib.hid hi2
  have HB2 := Lib.hid (HB.out.trans (hb2.mono HB.out.size))
  clear hb2 ho2 hi2 hL hll
  go_wp2_with fail
  refine (total_any A2 cp2 L w2.heap.size w2 HI2.out (fun a ha => by have := HBD.out a ha; omega) (by rw [HLL.out]; omega)).mono ?_; rintro e w' ⟨rfl, rfl⟩
  rw [HTT.out, HLL.out]
  go_wp2_with fail
  refine (total_any A c l w.heap.size w2 (H.out.below HB2.out (Nat.le_refl _)) (fun a ha => by have := HW.out.bd a ha; omega) (by omega)).mono ?_; rintro e w' ⟨rfl, rfl⟩
  rw [HT.out]
  have hl1 : ¬ (l.length : Int) < 1 := by omega
  have hl2 : (l.length : Int) ≤ 6 := by omega
  go_wp2
  go_loop [11] (fun i => ∃ k : Nat, k ≤ l.length ∧ i = .int .i64 k) (fun i => l.length - (intOf i).toNat)
  case atStart => exact ⟨0, Nat.zero_le _, rfl⟩
  case round =>
    obtain ⟨k, hk, rfl⟩ := hrel
    by_cases hlt : k < l.length
    · obtain ⟨b, off, x, rfl, hbb, hc0, hx, _, HX⟩ := H.out.elem hlt
      have hc : w2.cell? ⟨b, off + k, none⟩ = some (.int .i64 x) := (HB2.out.cell (p := ⟨b, off + k, none⟩) hbb).trans hc0
      obtain ⟨b2, off2, y, rfl, _, hc2, hy, _, HY⟩ := HI2.out.elem (k := k) (by rw [HLL.out]; exact hlt)
      obtain ⟨p, ep, p0, p1, pz⟩ := HON.out k hlt
      rw [HX.out] at pz
      rw [HY.out, if_pos (show m < 0 by omega)] at ep
      obtain ⟨x0, x1⟩ := HW.out.bd x hx
      have hbs : PG.base (max m (-m)) l k = -m * x / T := by unfold PG.base; rw [HX.out, HT.out, show max m (-m) = -m by omega]
      rw [hbs] at p0 p1
      have q0 : 0 ≤ -m * x := Int.mul_nonneg (by omega) x0
      have q1 : -m * x ≤ 10000 * 1000 := Int.mul_le_mul (by omega) x1 x0 (by omega)
      have hTz : (T == 0) = false := beq_eq_false_iff_ne.2 (by omega)
      have hTz' : ¬ T = 0 := by omega
      have b0 : 0 ≤ -m * x / T := Int.ediv_nonneg q0 (by omega)
      have b1 : -m * x / T ≤ -m * x := Int.ediv_le_self _ q0
      subst ep
      clear hc0 hx HX HY hbs hy
      have n1 : ¬ p < -m * x / T := by omega
      have n2 : ¬ -m * x / T + 1 < p := by omega
      by_cases hx0 : x = 0
      · obtain rfl := pz hx0
        subst hx0
        go_wp2
        go_round
        case rel => exact ⟨k + 1, by omega, by go_num⟩
        case measure => simp [intOf]; omega
      · have e1 : (x == 0) = false := beq_eq_false_iff_ne.2 hx0
        clear pz
        go_wp2
        go_round
        case rel => exact ⟨k + 1, by omega, by go_num⟩
        case measure => simp [intOf]; omega
    · go_wp2
      go_ret
      exact ⟨rfl, HB2.out⟩
set_option maxHeartbeats 8000000 in
set_option maxRecDepth 100000 in
theorem giveAll_pos (m : Int) (A : Option Addr) (c : Nat) (l : List Int) (w : World) (h : Ints w w.heap.size A c l) (he : splitErr m l = 0) (hm : ¬ m < 0) :
    Calls Try.prog 18 #[.int .i64 m, .slice A l.length c] w fun e w' => e = .returned (.bool true) ∧ Below w.heap.size w w' := by
  obtain ⟨hix, m0, m1⟩ := split_ok he
  have hw := weighs_of hix
  have HW := Lib.hid hw
  have HE := Lib.hid he
  have H := Lib.hid h
  have h0 := hw.pos
  have h6 := hw.six
  have HBD := Lib.hid (splitL_bd hw m0 m1)
  have HTT := Lib.hid (splitL_tot (m := m) hw)
  have HON := Lib.hid (splitL_one (m := m) hw)
  have t0 := hw.sum
  have t1 := (tot_bound l 1000 hw.bd).2
  obtain ⟨T, hT⟩ : ∃ T, tot l = T := ⟨_, rfl⟩
  rw [hT] at t0 t1
  have HT := Lib.hid hT
  have hm9 := Nat.le_trans h.le h.cap
  unfold maxLen at hm9
  clear h he hix hw hT
  go_enter Try.func18, Try.ntmps18
  go_wp2_with fail
  refine (split_yes (-7) (some ⟨w.heap.size, 0, none⟩) 3 [1, 2, 0] _ (Ints.ofBlk (t := 3) (l := [1, 2, 0]) (Blk.new' _ _ _ (by simp)) (by simp)) giveFact.1).mono ?_
  rintro e w1 ⟨v, rfl, ho, hb⟩
  rw [giveFact.2] at ho
  obtain ⟨g, cap, rfl, hg0, hg1, hcap, hcm⟩ := own_form ho (by simp)
  have c0 := own_cell ho (k := 0) (x := -2) rfl (by simp)
  have c1 := own_cell ho (k := 1) (x := -5) rfl (by simp)
  have c2 := own_cell ho (k := 2) (x := 0) rfl (by simp)
  have HB := Lib.hid (((Below.refl _ _).alloc (Nat.le_refl _) (.cells #[.int .i64 1, .int .i64 2, .int .i64 0] 3)).trans (hb.mono (by simp)))
  clear ho hb
  go_wp2_with fail
  refine (split_yes m A c l _ ((H.out.below HB.out (Nat.le_refl _)).more HB.out.size) HE.out).mono ?_; rintro e w2 ⟨v2, rfl, ho2, hb2⟩
  clear c0 c1 c2 hg0 hg1 hcap hcm
  obtain ⟨L, hL⟩ : ∃ L, splitL m l = L := ⟨_, rfl⟩
  have hll : L.length = l.length := by rw [← hL]; exact splitL_len m l
  rw [hL] at ho2 HBD HTT HON
  rw [← hll] at ho2
  obtain ⟨A2, cp2, rfl, _, hi2⟩ := owns_ints ho2
  have HLL := Lib.hid hll
  have HI2 := Lib.hid hi2
  have HB2 := Lib.hid (HB.out.trans (hb2.mono HB.out.size))
  clear hb2 ho2 hi2 hL hll
  go_wp2_with fail
  refine (total_any A2 cp2 L w2.heap.size w2 HI2.out (fun a ha => by have := HBD.out a ha; omega) (by rw [HLL.out]; omega)).mono ?_; rintro e w' ⟨rfl, rfl⟩
  rw [HTT.out, HLL.out]
  go_wp2_with fail
  refine (total_any A c l w.heap.size w2 (H.out.below HB2.out (Nat.le_refl _)) (fun a ha => by have := HW.out.bd a ha; omega) (by omega)).mono ?_; rintro e w' ⟨rfl, rfl⟩
  rw [HT.out]
  have hl1 : ¬ (l.length : Int) < 1 := by omega
  have hl2 : (l.length : Int) ≤ 6 := by omega
  go_wp2
  go_loop [11] (fun i => ∃ k : Nat, k ≤ l.length ∧ i = .int .i64 k) (fun i => l.length - (intOf i).toNat)
  case atStart => exact ⟨0, Nat.zero_le _, rfl⟩
  case round =>
    obtain ⟨k, hk, rfl⟩ := hrel
    by_cases hlt : k < l.length
    · obtain ⟨b, off, x, rfl, hbb, hc0, hx, _, HX⟩ := H.out.elem hlt
      have hc : w2.cell? ⟨b, off + k, none⟩ = some (.int .i64 x) := (HB2.out.cell (p := ⟨b, off + k, none⟩) hbb).trans hc0
      obtain ⟨b2, off2, y, rfl, _, hc2, hy, _, HY⟩ := HI2.out.elem (k := k) (by rw [HLL.out]; exact hlt)
      obtain ⟨p, ep, p0, p1, pz⟩ := HON.out k hlt
      rw [HX.out] at pz
      rw [HY.out, if_neg (show ¬ m < 0 by omega)] at ep
      obtain ⟨x0, x1⟩ := HW.out.bd x hx
      have hbs : PG.base (max m (-m)) l k = m * x / T := by unfold PG.base; rw [HX.out, HT.out, show max m (-m) = m by omega]
      rw [hbs] at p0 p1
      have q0 : 0 ≤ m * x := Int.mul_nonneg (by omega) x0
      have q1 : m * x ≤ 10000 * 1000 := Int.mul_le_mul (by omega) x1 x0 (by omega)
      have hTz : (T == 0) = false := beq_eq_false_iff_ne.2 (by omega)
      have hTz' : ¬ T = 0 := by omega
      have b0 : 0 ≤ m * x / T := Int.ediv_nonneg q0 (by omega)
      have b1 : m * x / T ≤ m * x := Int.ediv_le_self _ q0
      have ep := ep.symm
      subst ep
      clear hc0 hx HX HY hbs hy
      have n1 : ¬ p < m * x / T := by omega
      have n2 : ¬ m * x / T + 1 < p := by omega
      by_cases hx0 : x = 0
      · obtain rfl := pz hx0
        subst hx0
        go_wp2
        go_round
        case rel => exact ⟨k + 1, by omega, by go_num⟩
        case measure => simp [intOf]; omega
      · have e1 : (x == 0) = false := beq_eq_false_iff_ne.2 hx0
        clear pz
        go_wp2
        go_round
        case rel => exact ⟨k + 1, by omega, by go_num⟩
        case measure => simp [intOf]; omega
    · go_wp2
      go_ret
      exact ⟨rfl, HB2.out⟩
theorem giveAll_walk {w : World} (m : Int) (_ : (Lit.int .i64 m).wf = true) (A : Option Addr) (c : Nat) (l : List Int) (hi : Ints w w.heap.size A c l) (_ : ∀ x ∈ l, (Lit.int .i64 x).wf = true) :
    Calls Try.prog 18 #[.int .i64 m, .slice A l.length c] w fun e w' => e = .returned (.bool true) ∧ Below w.heap.size w w' := by
  by_cases he : splitErr m l = 0
  · by_cases hm : m < 0
    · exact giveAll_neg m A c l w hi he hm
    · exact giveAll_pos m A c l w hi he hm
  · exact giveAll_bad m A c l w hi _ rfl he
end Go.Proofs.Ytkheobdkmmbjnaa
