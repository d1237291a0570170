/- The walk of GiveEven: it returns true for every input. -/
import Derived.Test.YtkheobdkmmbjnaaDoorGivePart
import Derived.Test.YtkheobdkmmbjnaaDoorEvenLow
import Derived.Test.YtkheobdkmmbjnaaDoorTold
namespace Go.Proofs.YtkheobdkmmbjnaaDoor
open Go.RowKit
attribute [local go_sem ↓] run_min_mn run_max_mx
theorem tot_repl (n : Nat) (x : Int) : tot (List.replicate n x) = n * x := by
  induction n with
  | zero => simp [tot]
  | succ n ih => rw [List.replicate_succ]; simp only [tot, ih, Int.natCast_add, Int.add_mul]; simp; omega
theorem repl_idx (n : Nat) (x : Int) (h0 : 0 < n) (h6 : n ≤ 6) (x0 : 1 ≤ x) (x1 : x ≤ 1000) : idxErr (List.replicate n x) = 0 := by
  have ht : tot (List.replicate n x) ≠ 0 := by
    rw [tot_repl]
    have : 0 < (n : Int) * x := Int.mul_pos (by omega) (by omega)
    omega
  have hf : fewErr (List.replicate n x) 1000 = 0 := by
    unfold fewErr
    rw [List.length_replicate, if_neg (by omega), if_neg (by omega)]
    have : (List.replicate n x).any (badTo 1000) = false := by
      cases e : (List.replicate n x).any (badTo 1000)
      · rfl
      · obtain ⟨y, hy, hb⟩ := List.any_eq_true.1 e
        rw [List.eq_of_mem_replicate hy, (badTo_iff 1000 x).2 ⟨by omega, x1⟩] at hb
        cases hb
    rw [this]; rfl
  unfold idxErr
  rw [if_neg (show ¬ fewErr (List.replicate n x) 1000 ≠ 0 from fun h => h hf), if_neg ht]
theorem rank_id (n i : Nat) (hi : i < n) (key : Nat → Int) (h : ∀ j, j < n → key j = key i) : PR.rank key n i = i := by
  unfold PR.rank
  have e : (List.range n).countP (fun j => PR.ahead key j i) = (List.range n).countP (fun j => decide (j < i)) := by
    apply List.countP_congr
    intro j hj
    have := h j (List.mem_range.1 hj)
    simp [PR.ahead, this]
  rw [e]
  have h2 : ∀ m, (List.range m).countP (fun j => decide (j < i)) = min m i := fun m => by
    induction m with
    | zero => simp
    | succ m ih =>
      rw [List.range_succ, List.countP_append, ih]
      by_cases c : m < i
      · simp [c]; omega
      · simp [c]; omega
  rw [h2]; omega
theorem even_parts (m x : Int) (n i : Nat) (h0 : 0 < n) (hi : i < n) (m0 : 0 ≤ m) (x0 : 1 ≤ x) :
    (splitL m (List.replicate n x)).getD i 0 = m / n + if (i : Int) < m % n then 1 else 0 := by
  have hm : splitL m (List.replicate n x) = PG.parts m (List.replicate n x) := by
    unfold splitL; rw [if_neg (by omega), show max m (-m) = m by omega]
  have ht := tot_repl n x
  have hg : ∀ j, j < n → (List.replicate n x).getD j 0 = x := fun j hj => by simp [hj]
  have hb : ∀ j, j < n → PG.base m (List.replicate n x) j = m / n := fun j hj => by
    unfold PG.base; rw [hg j hj, ht]; exact Int.mul_ediv_mul_of_pos_left _ _ (by omega)
  have hr : ∀ j, j < n → PG.rest m (List.replicate n x) j = (m * x) % (n * x) := fun j hj => by
    unfold PG.rest; rw [hg j hj, ht]
  have hl : PG.left m (List.replicate n x) = m % n := by
    unfold PG.left
    rw [List.length_replicate]
    have e : (List.range n).map (PG.base m (List.replicate n x)) = List.replicate n (m / n) := by
      apply List.ext_getElem
      · simp
      · intro j h1 h2
        have hj : j < n := by simpa using h2
        simp [hb j hj]
    rw [e, tot_repl]
    have := Int.mul_ediv_add_emod m n
    omega
  rw [hm]
  unfold PG.parts
  rw [List.length_replicate]
  have hrk := rank_id n i hi (PG.rest m (List.replicate n x)) (fun j hj => by rw [hr j hj, hr i hi])
  have e : ((List.range n).map fun i => PG.base m (List.replicate n x) i + if PR.rank (PG.rest m (List.replicate n x)) n i < (PG.left m (List.replicate n x)).toNat then 1 else 0).getD i 0
      = PG.base m (List.replicate n x) i + if PR.rank (PG.rest m (List.replicate n x)) n i < (PG.left m (List.replicate n x)).toNat then 1 else 0 := by simp [hi]
  rw [e, hb i hi, hl, hrk]
  have m1 := Int.emod_nonneg m (show (n : Int) ≠ 0 by omega)
  by_cases c : (i : Int) < m % n
  · rw [if_pos c, if_pos (by omega)]
  · rw [if_neg c, if_neg (by omega)]
theorem splitErr_in' (m : Int) (l : List Int) (h : idxErr l = 0) (h0 : -10000 ≤ m) (h1 : m ≤ 10000) : splitErr m l = 0 := by
  unfold splitErr; rw [if_neg (show ¬ idxErr l ≠ 0 from fun x => x h), if_neg (by omega)]
theorem zero_idx : splitErr 1 [0] = 5 := by decide
set_option maxHeartbeats 4000000 in
set_option maxRecDepth 100000 in
theorem giveEven_out0 (m p x : Int) (w : World) (hg : Laid w) (h : p < 1) :
    Calls Tryd.prog 16 #[.int .i64 m, .int .i64 p, .int .i64 x] w fun e w' => e = .returned (.bool true) ∧ Below w.heap.size w w' := by
  have LAID := Lib.hid hg; clear hg
  have HP5 : Hid ((5 : Int) ≠ 0) := Lib.hid (by decide)
  have BEL : Hid (Below w.heap.size w w) := Lib.hid (Below.refl _ _)
  have yB : w.heap.size ≤ w.heap.size := Nat.le_refl _
  go_enter Tryd.func16, Tryd.ntmps16
  go_wp2_with fail
  refine (split_bad 1 (some ⟨w.heap.size, 0, none⟩) 1 [0] _ (Ints.ofBlk (t := 3) (l := [0]) (Blk.new' _ _ _ (by simp)) (by simp)) 5 zero_idx HP5.out).mono ?_; rintro e w1 ⟨rfl, hb1⟩
  have z_w1 : w.heap.size ≤ w1.heap.size := Nat.le_trans (by first | with_reducible exact Nat.le_refl _ | (simp; done) | (simp; omega) | (simp [World.setCell]; done)) hb1.size
  replace BEL : Hid (Below w.heap.size w w1) := Lib.hid (Below.trans (by repeat (first | with_reducible exact BEL.out | with_reducible apply Below.alloc | with_reducible apply Below.setCell | with_reducible apply Below.drew | with_reducible apply below_drewN | (first | omega | (focus (simp; done)) | (focus (simp; omega)) | (focus (simp [World.setCell]; omega))))) (hb1.mono (by (first | omega | (focus (simp; done)) | (focus (simp; omega)) | (focus (simp [World.setCell]; omega))))))
  have y_w1 : w.heap.size ≤ w1.heap.size := BEL.out.size
  clear hb1
  go_wp2_with fail
  refine (same_hit 5 _ (LAID.out.below (by repeat (first | with_reducible exact BEL.out | with_reducible apply Below.alloc | with_reducible apply Below.setCell | with_reducible apply Below.drew | with_reducible apply below_drewN | (first | omega | (focus (simp; done)) | (focus (simp; omega)) | (focus (simp [World.setCell]; omega))))))).mono ?_; rintro e w2 ⟨rfl, hb2⟩
  have z_w2 : w1.heap.size ≤ w2.heap.size := Nat.le_trans (by first | with_reducible exact Nat.le_refl _ | (simp; done) | (simp; omega) | (simp [World.setCell]; done)) hb2.size
  replace BEL : Hid (Below w.heap.size w w2) := Lib.hid (Below.trans (by repeat (first | with_reducible exact BEL.out | with_reducible apply Below.alloc | with_reducible apply Below.setCell | with_reducible apply Below.drew | with_reducible apply below_drewN | (first | omega | (focus (simp; done)) | (focus (simp; omega)) | (focus (simp [World.setCell]; omega))))) (hb2.mono (by (first | omega | (focus (simp; done)) | (focus (simp; omega)) | (focus (simp [World.setCell]; omega))))))
  have y_w2 : w.heap.size ≤ w2.heap.size := BEL.out.size
  clear hb2
  go_wp2
  go_ret
  exact ⟨rfl, (by repeat (first | with_reducible exact BEL.out | with_reducible apply Below.alloc | with_reducible apply Below.setCell | with_reducible apply Below.drew | with_reducible apply below_drewN | (first | omega | (focus (simp; done)) | (focus (simp; omega)) | (focus (simp [World.setCell]; omega)))))⟩
set_option maxHeartbeats 4000000 in
set_option maxRecDepth 100000 in
theorem giveEven_out1 (m p x : Int) (w : World) (hg : Laid w) (g0 : ¬ p < 1) (h : 6 < p) :
    Calls Tryd.prog 16 #[.int .i64 m, .int .i64 p, .int .i64 x] w fun e w' => e = .returned (.bool true) ∧ Below w.heap.size w w' := by
  have LAID := Lib.hid hg; clear hg
  have d0 : decide (p < 1) = false := decide_eq_false g0
  have HP5 : Hid ((5 : Int) ≠ 0) := Lib.hid (by decide)
  have BEL : Hid (Below w.heap.size w w) := Lib.hid (Below.refl _ _)
  have yB : w.heap.size ≤ w.heap.size := Nat.le_refl _
  go_enter Tryd.func16, Tryd.ntmps16
  go_wp2_with fail
  refine (split_bad 1 (some ⟨w.heap.size, 0, none⟩) 1 [0] _ (Ints.ofBlk (t := 3) (l := [0]) (Blk.new' _ _ _ (by simp)) (by simp)) 5 zero_idx HP5.out).mono ?_; rintro e w1 ⟨rfl, hb1⟩
  have z_w1 : w.heap.size ≤ w1.heap.size := Nat.le_trans (by first | with_reducible exact Nat.le_refl _ | (simp; done) | (simp; omega) | (simp [World.setCell]; done)) hb1.size
  replace BEL : Hid (Below w.heap.size w w1) := Lib.hid (Below.trans (by repeat (first | with_reducible exact BEL.out | with_reducible apply Below.alloc | with_reducible apply Below.setCell | with_reducible apply Below.drew | with_reducible apply below_drewN | (first | omega | (focus (simp; done)) | (focus (simp; omega)) | (focus (simp [World.setCell]; omega))))) (hb1.mono (by (first | omega | (focus (simp; done)) | (focus (simp; omega)) | (focus (simp [World.setCell]; omega))))))
  have y_w1 : w.heap.size ≤ w1.heap.size := BEL.out.size
  clear hb1
  go_wp2_with fail
  refine (same_hit 5 _ (LAID.out.below (by repeat (first | with_reducible exact BEL.out | with_reducible apply Below.alloc | with_reducible apply Below.setCell | with_reducible apply Below.drew | with_reducible apply below_drewN | (first | omega | (focus (simp; done)) | (focus (simp; omega)) | (focus (simp [World.setCell]; omega))))))).mono ?_; rintro e w2 ⟨rfl, hb2⟩
  have z_w2 : w1.heap.size ≤ w2.heap.size := Nat.le_trans (by first | with_reducible exact Nat.le_refl _ | (simp; done) | (simp; omega) | (simp [World.setCell]; done)) hb2.size
  replace BEL : Hid (Below w.heap.size w w2) := Lib.hid (Below.trans (by repeat (first | with_reducible exact BEL.out | with_reducible apply Below.alloc | with_reducible apply Below.setCell | with_reducible apply Below.drew | with_reducible apply below_drewN | (first | omega | (focus (simp; done)) | (focus (simp; omega)) | (focus (simp [World.setCell]; omega))))) (hb2.mono (by (first | omega | (focus (simp; done)) | (focus (simp; omega)) | (focus (simp [World.setCell]; omega))))))
  have y_w2 : w.heap.size ≤ w2.heap.size := BEL.out.size
  clear hb2
  go_wp2
  go_ret
  exact ⟨rfl, (by repeat (first | with_reducible exact BEL.out | with_reducible apply Below.alloc | with_reducible apply Below.setCell | with_reducible apply Below.drew | with_reducible apply below_drewN | (first | omega | (focus (simp; done)) | (focus (simp; omega)) | (focus (simp [World.setCell]; omega)))))⟩
set_option maxHeartbeats 4000000 in
set_option maxRecDepth 100000 in
theorem giveEven_out2 (m p x : Int) (w : World) (hg : Laid w) (g0 : ¬ p < 1) (g1 : ¬ 6 < p) (h : m < 0) :
    Calls Tryd.prog 16 #[.int .i64 m, .int .i64 p, .int .i64 x] w fun e w' => e = .returned (.bool true) ∧ Below w.heap.size w w' := by
  have LAID := Lib.hid hg; clear hg
  have d0 : decide (p < 1) = false := decide_eq_false g0
  have d1 : decide (6 < p) = false := decide_eq_false g1
  have HP5 : Hid ((5 : Int) ≠ 0) := Lib.hid (by decide)
  have BEL : Hid (Below w.heap.size w w) := Lib.hid (Below.refl _ _)
  have yB : w.heap.size ≤ w.heap.size := Nat.le_refl _
  go_enter Tryd.func16, Tryd.ntmps16
  go_wp2_with fail
  refine (split_bad 1 (some ⟨w.heap.size, 0, none⟩) 1 [0] _ (Ints.ofBlk (t := 3) (l := [0]) (Blk.new' _ _ _ (by simp)) (by simp)) 5 zero_idx HP5.out).mono ?_; rintro e w1 ⟨rfl, hb1⟩
  have z_w1 : w.heap.size ≤ w1.heap.size := Nat.le_trans (by first | with_reducible exact Nat.le_refl _ | (simp; done) | (simp; omega) | (simp [World.setCell]; done)) hb1.size
  replace BEL : Hid (Below w.heap.size w w1) := Lib.hid (Below.trans (by repeat (first | with_reducible exact BEL.out | with_reducible apply Below.alloc | with_reducible apply Below.setCell | with_reducible apply Below.drew | with_reducible apply below_drewN | (first | omega | (focus (simp; done)) | (focus (simp; omega)) | (focus (simp [World.setCell]; omega))))) (hb1.mono (by (first | omega | (focus (simp; done)) | (focus (simp; omega)) | (focus (simp [World.setCell]; omega))))))
  have y_w1 : w.heap.size ≤ w1.heap.size := BEL.out.size
  clear hb1
  go_wp2_with fail
  refine (same_hit 5 _ (LAID.out.below (by repeat (first | with_reducible exact BEL.out | with_reducible apply Below.alloc | with_reducible apply Below.setCell | with_reducible apply Below.drew | with_reducible apply below_drewN | (first | omega | (focus (simp; done)) | (focus (simp; omega)) | (focus (simp [World.setCell]; omega))))))).mono ?_; rintro e w2 ⟨rfl, hb2⟩
  have z_w2 : w1.heap.size ≤ w2.heap.size := Nat.le_trans (by first | with_reducible exact Nat.le_refl _ | (simp; done) | (simp; omega) | (simp [World.setCell]; done)) hb2.size
  replace BEL : Hid (Below w.heap.size w w2) := Lib.hid (Below.trans (by repeat (first | with_reducible exact BEL.out | with_reducible apply Below.alloc | with_reducible apply Below.setCell | with_reducible apply Below.drew | with_reducible apply below_drewN | (first | omega | (focus (simp; done)) | (focus (simp; omega)) | (focus (simp [World.setCell]; omega))))) (hb2.mono (by (first | omega | (focus (simp; done)) | (focus (simp; omega)) | (focus (simp [World.setCell]; omega))))))
  have y_w2 : w.heap.size ≤ w2.heap.size := BEL.out.size
  clear hb2
  go_wp2
  go_ret
  exact ⟨rfl, (by repeat (first | with_reducible exact BEL.out | with_reducible apply Below.alloc | with_reducible apply Below.setCell | with_reducible apply Below.drew | with_reducible apply below_drewN | (first | omega | (focus (simp; done)) | (focus (simp; omega)) | (focus (simp [World.setCell]; omega)))))⟩
set_option maxHeartbeats 4000000 in
set_option maxRecDepth 100000 in
theorem giveEven_out3 (m p x : Int) (w : World) (hg : Laid w) (g0 : ¬ p < 1) (g1 : ¬ 6 < p) (g2 : ¬ m < 0) (h : 10000 < m) :
    Calls Tryd.prog 16 #[.int .i64 m, .int .i64 p, .int .i64 x] w fun e w' => e = .returned (.bool true) ∧ Below w.heap.size w w' := by
  have LAID := Lib.hid hg; clear hg
  have d0 : decide (p < 1) = false := decide_eq_false g0
  have d1 : decide (6 < p) = false := decide_eq_false g1
  have d2 : decide (m < 0) = false := decide_eq_false g2
  have HP5 : Hid ((5 : Int) ≠ 0) := Lib.hid (by decide)
  have BEL : Hid (Below w.heap.size w w) := Lib.hid (Below.refl _ _)
  have yB : w.heap.size ≤ w.heap.size := Nat.le_refl _
  go_enter Tryd.func16, Tryd.ntmps16
  go_wp2_with fail
  refine (split_bad 1 (some ⟨w.heap.size, 0, none⟩) 1 [0] _ (Ints.ofBlk (t := 3) (l := [0]) (Blk.new' _ _ _ (by simp)) (by simp)) 5 zero_idx HP5.out).mono ?_; rintro e w1 ⟨rfl, hb1⟩
  have z_w1 : w.heap.size ≤ w1.heap.size := Nat.le_trans (by first | with_reducible exact Nat.le_refl _ | (simp; done) | (simp; omega) | (simp [World.setCell]; done)) hb1.size
  replace BEL : Hid (Below w.heap.size w w1) := Lib.hid (Below.trans (by repeat (first | with_reducible exact BEL.out | with_reducible apply Below.alloc | with_reducible apply Below.setCell | with_reducible apply Below.drew | with_reducible apply below_drewN | (first | omega | (focus (simp; done)) | (focus (simp; omega)) | (focus (simp [World.setCell]; omega))))) (hb1.mono (by (first | omega | (focus (simp; done)) | (focus (simp; omega)) | (focus (simp [World.setCell]; omega))))))
  have y_w1 : w.heap.size ≤ w1.heap.size := BEL.out.size
  clear hb1
  go_wp2_with fail
  refine (same_hit 5 _ (LAID.out.below (by repeat (first | with_reducible exact BEL.out | with_reducible apply Below.alloc | with_reducible apply Below.setCell | with_reducible apply Below.drew | with_reducible apply below_drewN | (first | omega | (focus (simp; done)) | (focus (simp; omega)) | (focus (simp [World.setCell]; omega))))))).mono ?_; rintro e w2 ⟨rfl, hb2⟩
  have z_w2 : w1.heap.size ≤ w2.heap.size := Nat.le_trans (by first | with_reducible exact Nat.le_refl _ | (simp; done) | (simp; omega) | (simp [World.setCell]; done)) hb2.size
  replace BEL : Hid (Below w.heap.size w w2) := Lib.hid (Below.trans (by repeat (first | with_reducible exact BEL.out | with_reducible apply Below.alloc | with_reducible apply Below.setCell | with_reducible apply Below.drew | with_reducible apply below_drewN | (first | omega | (focus (simp; done)) | (focus (simp; omega)) | (focus (simp [World.setCell]; omega))))) (hb2.mono (by (first | omega | (focus (simp; done)) | (focus (simp; omega)) | (focus (simp [World.setCell]; omega))))))
  have y_w2 : w.heap.size ≤ w2.heap.size := BEL.out.size
  clear hb2
  go_wp2
  go_ret
  exact ⟨rfl, (by repeat (first | with_reducible exact BEL.out | with_reducible apply Below.alloc | with_reducible apply Below.setCell | with_reducible apply Below.drew | with_reducible apply below_drewN | (first | omega | (focus (simp; done)) | (focus (simp; omega)) | (focus (simp [World.setCell]; omega)))))⟩
set_option maxHeartbeats 4000000 in
set_option maxRecDepth 100000 in
theorem giveEven_out4 (m p x : Int) (w : World) (hg : Laid w) (g0 : ¬ p < 1) (g1 : ¬ 6 < p) (g2 : ¬ m < 0) (g3 : ¬ 10000 < m) (h : x < 1) :
    Calls Tryd.prog 16 #[.int .i64 m, .int .i64 p, .int .i64 x] w fun e w' => e = .returned (.bool true) ∧ Below w.heap.size w w' := by
  have LAID := Lib.hid hg; clear hg
  have d0 : decide (p < 1) = false := decide_eq_false g0
  have d1 : decide (6 < p) = false := decide_eq_false g1
  have d2 : decide (m < 0) = false := decide_eq_false g2
  have d3 : decide (10000 < m) = false := decide_eq_false g3
  have HP5 : Hid ((5 : Int) ≠ 0) := Lib.hid (by decide)
  have BEL : Hid (Below w.heap.size w w) := Lib.hid (Below.refl _ _)
  have yB : w.heap.size ≤ w.heap.size := Nat.le_refl _
  go_enter Tryd.func16, Tryd.ntmps16
  go_wp2_with fail
  refine (split_bad 1 (some ⟨w.heap.size, 0, none⟩) 1 [0] _ (Ints.ofBlk (t := 3) (l := [0]) (Blk.new' _ _ _ (by simp)) (by simp)) 5 zero_idx HP5.out).mono ?_; rintro e w1 ⟨rfl, hb1⟩
  have z_w1 : w.heap.size ≤ w1.heap.size := Nat.le_trans (by first | with_reducible exact Nat.le_refl _ | (simp; done) | (simp; omega) | (simp [World.setCell]; done)) hb1.size
  replace BEL : Hid (Below w.heap.size w w1) := Lib.hid (Below.trans (by repeat (first | with_reducible exact BEL.out | with_reducible apply Below.alloc | with_reducible apply Below.setCell | with_reducible apply Below.drew | with_reducible apply below_drewN | (first | omega | (focus (simp; done)) | (focus (simp; omega)) | (focus (simp [World.setCell]; omega))))) (hb1.mono (by (first | omega | (focus (simp; done)) | (focus (simp; omega)) | (focus (simp [World.setCell]; omega))))))
  have y_w1 : w.heap.size ≤ w1.heap.size := BEL.out.size
  clear hb1
  go_wp2_with fail
  refine (same_hit 5 _ (LAID.out.below (by repeat (first | with_reducible exact BEL.out | with_reducible apply Below.alloc | with_reducible apply Below.setCell | with_reducible apply Below.drew | with_reducible apply below_drewN | (first | omega | (focus (simp; done)) | (focus (simp; omega)) | (focus (simp [World.setCell]; omega))))))).mono ?_; rintro e w2 ⟨rfl, hb2⟩
  have z_w2 : w1.heap.size ≤ w2.heap.size := Nat.le_trans (by first | with_reducible exact Nat.le_refl _ | (simp; done) | (simp; omega) | (simp [World.setCell]; done)) hb2.size
  replace BEL : Hid (Below w.heap.size w w2) := Lib.hid (Below.trans (by repeat (first | with_reducible exact BEL.out | with_reducible apply Below.alloc | with_reducible apply Below.setCell | with_reducible apply Below.drew | with_reducible apply below_drewN | (first | omega | (focus (simp; done)) | (focus (simp; omega)) | (focus (simp [World.setCell]; omega))))) (hb2.mono (by (first | omega | (focus (simp; done)) | (focus (simp; omega)) | (focus (simp [World.setCell]; omega))))))
  have y_w2 : w.heap.size ≤ w2.heap.size := BEL.out.size
  clear hb2
  go_wp2
  go_ret
  exact ⟨rfl, (by repeat (first | with_reducible exact BEL.out | with_reducible apply Below.alloc | with_reducible apply Below.setCell | with_reducible apply Below.drew | with_reducible apply below_drewN | (first | omega | (focus (simp; done)) | (focus (simp; omega)) | (focus (simp [World.setCell]; omega)))))⟩
set_option maxHeartbeats 4000000 in
set_option maxRecDepth 100000 in
theorem giveEven_out5 (m p x : Int) (w : World) (hg : Laid w) (g0 : ¬ p < 1) (g1 : ¬ 6 < p) (g2 : ¬ m < 0) (g3 : ¬ 10000 < m) (g4 : ¬ x < 1) (h : 1000 < x) :
    Calls Tryd.prog 16 #[.int .i64 m, .int .i64 p, .int .i64 x] w fun e w' => e = .returned (.bool true) ∧ Below w.heap.size w w' := by
  have LAID := Lib.hid hg; clear hg
  have d0 : decide (p < 1) = false := decide_eq_false g0
  have d1 : decide (6 < p) = false := decide_eq_false g1
  have d2 : decide (m < 0) = false := decide_eq_false g2
  have d3 : decide (10000 < m) = false := decide_eq_false g3
  have d4 : decide (x < 1) = false := decide_eq_false g4
  have HP5 : Hid ((5 : Int) ≠ 0) := Lib.hid (by decide)
  have BEL : Hid (Below w.heap.size w w) := Lib.hid (Below.refl _ _)
  have yB : w.heap.size ≤ w.heap.size := Nat.le_refl _
  go_enter Tryd.func16, Tryd.ntmps16
  go_wp2_with fail
  refine (split_bad 1 (some ⟨w.heap.size, 0, none⟩) 1 [0] _ (Ints.ofBlk (t := 3) (l := [0]) (Blk.new' _ _ _ (by simp)) (by simp)) 5 zero_idx HP5.out).mono ?_; rintro e w1 ⟨rfl, hb1⟩
  have z_w1 : w.heap.size ≤ w1.heap.size := Nat.le_trans (by first | with_reducible exact Nat.le_refl _ | (simp; done) | (simp; omega) | (simp [World.setCell]; done)) hb1.size
  replace BEL : Hid (Below w.heap.size w w1) := Lib.hid (Below.trans (by repeat (first | with_reducible exact BEL.out | with_reducible apply Below.alloc | with_reducible apply Below.setCell | with_reducible apply Below.drew | with_reducible apply below_drewN | (first | omega | (focus (simp; done)) | (focus (simp; omega)) | (focus (simp [World.setCell]; omega))))) (hb1.mono (by (first | omega | (focus (simp; done)) | (focus (simp; omega)) | (focus (simp [World.setCell]; omega))))))
  have y_w1 : w.heap.size ≤ w1.heap.size := BEL.out.size
  clear hb1
  go_wp2_with fail
  refine (same_hit 5 _ (LAID.out.below (by repeat (first | with_reducible exact BEL.out | with_reducible apply Below.alloc | with_reducible apply Below.setCell | with_reducible apply Below.drew | with_reducible apply below_drewN | (first | omega | (focus (simp; done)) | (focus (simp; omega)) | (focus (simp [World.setCell]; omega))))))).mono ?_; rintro e w2 ⟨rfl, hb2⟩
  have z_w2 : w1.heap.size ≤ w2.heap.size := Nat.le_trans (by first | with_reducible exact Nat.le_refl _ | (simp; done) | (simp; omega) | (simp [World.setCell]; done)) hb2.size
  replace BEL : Hid (Below w.heap.size w w2) := Lib.hid (Below.trans (by repeat (first | with_reducible exact BEL.out | with_reducible apply Below.alloc | with_reducible apply Below.setCell | with_reducible apply Below.drew | with_reducible apply below_drewN | (first | omega | (focus (simp; done)) | (focus (simp; omega)) | (focus (simp [World.setCell]; omega))))) (hb2.mono (by (first | omega | (focus (simp; done)) | (focus (simp; omega)) | (focus (simp [World.setCell]; omega))))))
  have y_w2 : w.heap.size ≤ w2.heap.size := BEL.out.size
  clear hb2
  go_wp2
  go_ret
  exact ⟨rfl, (by repeat (first | with_reducible exact BEL.out | with_reducible apply Below.alloc | with_reducible apply Below.setCell | with_reducible apply Below.drew | with_reducible apply below_drewN | (first | omega | (focus (simp; done)) | (focus (simp; omega)) | (focus (simp [World.setCell]; omega)))))⟩
set_option maxHeartbeats 8000000 in
set_option maxRecDepth 100000 in
theorem giveEven_in (m : Int) (n : Nat) (x : Int) (w : World) (h0 : 0 < n) (h6 : n ≤ 6) (m0 : 0 ≤ m) (m1 : m ≤ 10000) (x0 : 1 ≤ x) (x1 : x ≤ 1000) :
    Calls Tryd.prog 16 #[.int .i64 m, .int .i64 n, .int .i64 x] w fun e w' => e = .returned (.bool true) ∧ Below w.heap.size w w' := by
  have HE := Lib.hid (splitErr_in' m (List.replicate n x) (repl_idx n x h0 h6 x0 x1) (by omega) m1)
  have HV := Lib.hid fun i hi => even_parts m x n i h0 hi m0 x0
  have HLN : Hid ((splitL m (List.replicate n x)).length = n) := Lib.hid (by rw [splitL_len]; simp)
  have g0 : ¬ (n : Int) < 1 := by omega
  have g1 : ¬ (6 : Int) < n := by omega
  have g2 : ¬ m < 0 := by omega
  have g3 : ¬ 10000 < m := by omega
  have g4 : ¬ x < 1 := by omega
  have g5 : ¬ 1000 < x := by omega
  have d0 : decide ((n : Int) < 1) = false := decide_eq_false g0
  have d1 : decide ((6 : Int) < n) = false := decide_eq_false g1
  have d2 : decide (m < 0) = false := decide_eq_false g2
  have d3 : decide (10000 < m) = false := decide_eq_false g3
  have d4 : decide (x < 1) = false := decide_eq_false g4
  have d5 : decide (1000 < x) = false := decide_eq_false g5
  go_enter Tryd.func16, Tryd.ntmps16
  go_wp2
  go_loopw [9, 10] (fun v i wr => ∃ k : Nat, k ≤ n ∧ i = .int .i64 k ∧ Hid (wr.ownsRow w.heap.size 3 1 v k ((List.replicate k x).map (Value.int .i64))) ∧ Below w.heap.size w wr) (fun _ i _ => n - (intOf i).toNat)
  case atStart => exact ⟨0, Nat.zero_le _, rfl, Lib.hid (World.ownsRow_nil _ _ _ _), Below.refl _ _⟩
  case round =>
    obtain ⟨k, hk, rfl, HO, hbel⟩ := hrel
    by_cases hlt : k < n
    · have HM : Hid ((List.replicate (k + 1) x).map (Value.int .i64) = (List.replicate k x).map (Value.int .i64) ++ [.int .i64 x]) := Lib.hid (by rw [List.replicate_succ']; simp)
      go_wp2_with (at_builtin; refine wpList_push wr _ rfl (.tmp 49) (.tmp 51) 42 rfl w.heap.size 3 (.int .i64 0) 1 8 Tryd.underlying42 Tryd.info_int rfl (by omega) _ k _ rfl HO.out rfl rfl (by simp [Value.oneCell']) (by omega) (by omega) hbel.size ?_; intro v' w1 hown1 hg1)
      go_roundw
      case rel => exact ⟨k + 1, by omega, by go_num, Lib.hid (by rw [HM.out]; exact hown1), below_push hbel HO.out hg1 (Nat.le_refl _) hbel.size⟩
      case measure => simp [intOf]; omega
    · obtain rfl : k = n := by omega
      obtain ⟨A, c, rfl, hq, hi⟩ := owns_ints HO.out
      clear hq
      have hl : (List.replicate k x).length = k := by simp
      rw [hl]
      have HI := Lib.hid hi
      have HB := Lib.hid hbel
      clear hi hbel HO hl
      go_wp2_with fail
      refine (splitN m A c k (List.replicate k x) _ HI.out HE.out (by simp)).mono ?_; rintro e w2 ⟨A2, c2, rfl, hi2, hb2⟩
      have HI2 := Lib.hid hi2
      have HB2 := Lib.hid (HB.out.trans (hb2.mono HB.out.size))
      clear hi2 hb2
      go_wp2
      go_loop [13] (fun i => ∃ j : Nat, j ≤ k ∧ i = .int .i64 j) (fun i => k - (intOf i).toNat)
      case atStart => exact ⟨0, Nat.zero_le _, rfl⟩
      case round =>
        obtain ⟨j, hj, rfl⟩ := hrel
        by_cases hlt : j < k
        · obtain ⟨b2, off2, y, rfl, _, hc2, _, _, HY⟩ := HI2.out.elem (k := j) (by rw [HLN.out]; exact hlt)
          have ey := HV.out j hlt
          rw [HY.out] at ey
          have q0 : 0 ≤ m / (k : Int) := Int.ediv_nonneg m0 (by omega)
          have q1 : m / (k : Int) ≤ m := Int.ediv_le_self _ m0
          have r0 : 0 ≤ m % (k : Int) := Int.emod_nonneg _ (by omega)
          have hz : ((k : Int) == 0) = false := beq_eq_false_iff_ne.2 (by omega)
          have hz' : ¬ (k : Int) = 0 := by omega
          have hz2 : ¬ k = 0 := by omega
          have wt : m.tmod (k : Int) = m % k := Int.tmod_eq_emod_of_nonneg m0
          clear HY
          by_cases hjm : (j : Int) < m % (k : Int)
          · rw [if_pos hjm] at ey
            subst ey
            go_wp2
            go_round
            case rel => exact ⟨j + 1, by omega, by go_num⟩
            case measure => simp [intOf]; omega
          · rw [if_neg hjm, Int.add_zero] at ey
            subst ey
            go_wp2
            go_round
            case rel => exact ⟨j + 1, by omega, by go_num⟩
            case measure => simp [intOf]; omega
        · go_wp2
          go_ret
          exact ⟨rfl, HB2.out⟩
theorem giveEven_walk {w : World} (m : Int) (_ : (Lit.int .i64 m).wf = true) (p : Int) (_ : (Lit.int .i64 p).wf = true) (x : Int) (_ : (Lit.int .i64 x).wf = true) (hg : Laid w) :
    Calls Tryd.prog 16 #[.int .i64 m, .int .i64 p, .int .i64 x] w fun e w' => e = .returned (.bool true) ∧ Below w.heap.size w w' := by
  by_cases g0 : p < 1
  · exact giveEven_out0 m p x w hg g0
  · by_cases g1 : 6 < p
    · exact giveEven_out1 m p x w hg g0 g1
    · by_cases g2 : m < 0
      · exact giveEven_out2 m p x w hg g0 g1 g2
      · by_cases g3 : 10000 < m
        · exact giveEven_out3 m p x w hg g0 g1 g2 g3
        · by_cases g4 : x < 1
          · exact giveEven_out4 m p x w hg g0 g1 g2 g3 g4
          · by_cases g5 : 1000 < x
            · exact giveEven_out5 m p x w hg g0 g1 g2 g3 g4 g5
            · obtain ⟨n, rfl⟩ := Int.eq_ofNat_of_zero_le (show 0 ≤ p by omega)
              exact giveEven_in m n x w (by omega) (by omega) (by omega) (by omega) (by omega) (by omega)
end Go.Proofs.YtkheobdkmmbjnaaDoor
