/- The walk of EvenBetween: it returns true for every input. -/
import Derived.Test.YtkheobdkmmbjnaaEvenIdx
import Derived.Test.YtkheobdkmmbjnaaEvenJain
import Derived.Test.YtkheobdkmmbjnaaMeterRunNo
import Derived.Deep.DeepCutAuto
namespace Go.Proofs.Ytkheobdkmmbjnaa
open Go.RowKit
attribute [local go_sem ↓] run_min_mn run_max_mx
theorem idx10 : idxErr [1, 0] = 0 ∧ idxT [1, 0] = 1 ∧ idxB [1, 0] = 2 := by decide
theorem low_one (n : Int) (_ : 0 < n) : lowT 1 n = 1 ∧ lowB 1 n = n := by
  unfold lowT lowB
  have : Int.gcd 1 n = 1 := by simp
  rw [this]; simp
/-- what of an index holds -/
theorem idx_laws (l : List Int) (he : idxErr l = 0) : fracErr (idxT l) (idxB l) = 0 ∧ cmpI (1 * idxB l) (idxT l * l.length) ≤ 0 ∧ cmpI (idxT l * 1) (1 * idxB l) ≤ 0 ∧ (cmpI (idxT l * 1) (1 * idxB l) = 0 ↔ gapL l = 0) := by
  obtain ⟨hf, ht⟩ := idx_parts he
  obtain ⟨h0, h6, hbad⟩ := few_ok hf
  have hb := badTo_in hbad
  have s1 := tot_bound l 1000 hb
  have s2 := sqs_bd l hb
  have hne : l ≠ [] := by intro h; rw [h] at h0; simp at h0
  have hq : sqs l ≠ 0 := fun h => ht ((tot_sq l fun a ha => (hb a ha).1).1 h)
  have m1 : 0 ≤ tot l * tot l ∧ tot l * tot l ≤ 6000 * 6000 := ⟨Int.mul_nonneg s1.1 s1.1, Int.mul_le_mul (by omega) (by omega) s1.1 (by omega)⟩
  have m2 : 0 < (l.length : Int) * sqs l ∧ (l.length : Int) * sqs l ≤ 6 * 6000000 := ⟨Int.mul_pos (by omega) (by omega), Int.mul_le_mul (by omega) (by omega) s2.1 (by omega)⟩
  have hv := vari_nn l
  have hs := sqs_le l fun a ha => (hb a ha).1
  have c1 := low_cmp 1 l.length (tot l * tot l) (l.length * sqs l) (by omega) m2.1
  have c2 := low_cmp (tot l * tot l) (l.length * sqs l) 1 1 m2.1 (by omega)
  obtain ⟨o1, o2⟩ := low_one l.length (by omega)
  obtain ⟨o3, o4⟩ := low_one 1 (by omega)
  rw [o1, o2] at c1
  rw [o3, o4] at c2
  refine ⟨low_err _ _ (by omega) (by omega) m2.1 (by omega), ?_, ?_, ?_⟩
  · rw [cmp_le]
    refine c1.1.2 ?_
    have : (l.length : Int) * sqs l ≤ l.length * (tot l * tot l) := Int.mul_le_mul_of_nonneg_left hs (by omega)
    grind
  · rw [cmp_le]
    refine c2.1.2 ?_
    unfold vari at hv; omega
  · rw [cmp_zero, gap_zero l hne, ← vari_zero l]
    constructor
    · intro h
      have h1 := c2.2.1 (Int.le_of_eq h.symm)
      unfold vari at hv ⊢; omega
    · intro h
      unfold vari at h
      exact Int.le_antisymm (c2.1.2 (by omega)) (c2.2.2 (by omega))
theorem idx_less (l k : List Int) (he : idxErr l = 0) (hk : idxErr k = 0) (hl : k.length = l.length) (ht : tot k = tot l) (hs : sqs k ≤ sqs l) : cmpI (idxT l * idxB k) (idxT k * idxB l) ≤ 0 := by
  obtain ⟨hf, h0⟩ := idx_parts he
  obtain ⟨hf', h0'⟩ := idx_parts hk
  obtain ⟨n0, n6, hbad⟩ := few_ok hf
  obtain ⟨_, _, hbad'⟩ := few_ok hf'
  have hb := badTo_in hbad
  have hb' := badTo_in hbad'
  have s2 := sqs_bd l hb
  have s2' := sqs_bd k hb'
  have hq : sqs l ≠ 0 := fun h => h0 ((tot_sq l fun a ha => (hb a ha).1).1 h)
  have hq' : sqs k ≠ 0 := fun h => h0' ((tot_sq k fun a ha => (hb' a ha).1).1 h)
  rw [cmp_le]
  have c := low_cmp (tot l * tot l) (l.length * sqs l) (tot k * tot k) (k.length * sqs k) (Int.mul_pos (by omega) (by omega)) (Int.mul_pos (by omega) (by omega))
  refine c.1.2 ?_
  rw [hl, ht]
  exact Int.mul_le_mul_of_nonneg_left (Int.mul_le_mul_of_nonneg_left hs (by omega)) (sq_nn _)
theorem idx_given (l : List Int) (f t : Nat) (m : Int) (he : idxErr l = 0) (hf : f < l.length) (ht : t < l.length) (m0 : 0 ≤ m) (hm : 2 * m ≤ l.getD f 0 - l.getD t 0) :
    idxErr (giveTo l f t m) = 0 ∧ fewErr (giveTo l f t m) 1000 = 0 ∧ cmpI (idxT l * idxB (giveTo l f t m)) (idxT (giveTo l f t m) * idxB l) ≤ 0 ∧ gapL (giveTo l f t m) ≤ gapL l := by
  obtain ⟨hf0, h0⟩ := idx_parts he
  obtain ⟨n0, n6, hbad⟩ := few_ok hf0
  have hb := badTo_in hbad
  have hne : l ≠ [] := by intro h; rw [h] at n0; simp at n0
  obtain ⟨g1, g2, g3, g4⟩ := give_laws l f t m hf ht m0 hm
  have x1 := hb _ (lmax_spec l hne).1
  have x2 := hb _ (lmin_spec l hne).1
  have hfew : fewErr (giveTo l f t m) 1000 = 0 := by
    unfold fewErr
    rw [g1, if_neg (by omega), if_neg (by omega)]
    have : (giveTo l f t m).any (badTo 1000) = false := by
      cases e : (giveTo l f t m).any (badTo 1000)
      · rfl
      · obtain ⟨y, hy, hbd⟩ := List.any_eq_true.1 e
        have := g4 y hy
        rw [(badTo_iff 1000 y).2 ⟨by omega, by omega⟩] at hbd; cases hbd
    rw [this]; rfl
  have hie : idxErr (giveTo l f t m) = 0 := by
    unfold idxErr
    rw [if_neg (by rw [hfew]; simp), g2, if_neg h0]
  have hne' : giveTo l f t m ≠ [] := by intro h; rw [h] at g1; simp at g1; omega
  refine ⟨hie, hfew, idx_less l _ he hie g1 g2 g3, ?_⟩
  have y1 := g4 _ (lmax_spec _ hne').1
  have y2 := g4 _ (lmin_spec _ hne').1
  unfold gapL; omega
set_option maxHeartbeats 8000000 in
set_option maxRecDepth 100000 in
theorem evenBetween_bad (A : Option Addr) (c : Nat) (l : List Int) (f t : Int) (m : Int) (w : World) (hi : Ints w w.heap.size A c l) (er : Int) (he : idxErr l = er) (hp : er ≠ 0) :
    Calls Try.prog 14 #[.slice A l.length c, .int .i64 f, .int .i64 t, .int .i64 m] w fun e w' => e = .returned (.bool true) ∧ Below w.heap.size w w' := by
  have HI := Lib.hid hi; clear hi
  have HE := Lib.hid he; clear he
  have HP := Lib.hid hp; clear hp
  have BEL : Hid (Below w.heap.size w w) := Lib.hid (Below.refl _ _)
  have yB : w.heap.size ≤ w.heap.size := Nat.le_refl _
  go_enter Try.func14, Try.ntmps14
  go_wp2_with fail
  refine (index_ok (some ⟨w.heap.size, 0, none⟩) 2 [1, 0] _ (Ints.ofBlk (t := 3) (l := [1, 0]) (Blk.new' _ _ _ (by simp)) (by simp)) idx10.1 1 2 idx10.2.1 idx10.2.2).mono ?_; rintro e w1 ⟨rfl, hb1⟩
  have z_w1 : w.heap.size ≤ w1.heap.size := Nat.le_trans (by first | with_reducible exact Nat.le_refl _ | (simp; done) | (simp; omega) | (simp [World.setCell]; done)) hb1.size
  replace BEL : Hid (Below w.heap.size w w1) := Lib.hid (Below.trans (by repeat (first | with_reducible exact BEL.out | with_reducible apply Below.alloc | with_reducible apply Below.setCell | with_reducible apply Below.drew | with_reducible apply below_drewN | (first | omega | (focus (simp; done)) | (focus (simp; omega)) | (focus (simp [World.setCell]; omega))))) (hb1.mono (by (first | omega | (focus (simp; done)) | (focus (simp; omega)) | (focus (simp [World.setCell]; omega))))))
  have y_w1 : w.heap.size ≤ w1.heap.size := BEL.out.size
  clear hb1
  go_wp2_with fail
  refine (index_bad A c l _ ((HI.out.below (by repeat (first | with_reducible exact BEL.out | with_reducible apply Below.alloc | with_reducible apply Below.setCell | with_reducible apply Below.drew | with_reducible apply below_drewN | (first | omega | (focus (simp; done)) | (focus (simp; omega)) | (focus (simp [World.setCell]; omega))))) (Nat.le_refl _)).more (by (first | omega | (focus (simp; done)) | (focus (simp; omega)) | (focus (simp [World.setCell]; omega))))) er HE.out HP.out).mono ?_; rintro e w2 ⟨rfl, hb2⟩
  have z_w2 : w1.heap.size ≤ w2.heap.size := Nat.le_trans (by first | with_reducible exact Nat.le_refl _ | (simp; done) | (simp; omega) | (simp [World.setCell]; done)) hb2.size
  replace BEL : Hid (Below w.heap.size w w2) := Lib.hid (Below.trans (by repeat (first | with_reducible exact BEL.out | with_reducible apply Below.alloc | with_reducible apply Below.setCell | with_reducible apply Below.drew | with_reducible apply below_drewN | (first | omega | (focus (simp; done)) | (focus (simp; omega)) | (focus (simp [World.setCell]; omega))))) (hb2.mono (by (first | omega | (focus (simp; done)) | (focus (simp; omega)) | (focus (simp [World.setCell]; omega))))))
  have y_w2 : w.heap.size ≤ w2.heap.size := BEL.out.size
  clear hb2
  go_wp2
  go_ret
  exact ⟨rfl, (by repeat (first | with_reducible exact BEL.out | with_reducible apply Below.alloc | with_reducible apply Below.setCell | with_reducible apply Below.drew | with_reducible apply below_drewN | (first | omega | (focus (simp; done)) | (focus (simp; omega)) | (focus (simp [World.setCell]; omega)))))⟩
set_option maxHeartbeats 8000000 in
set_option maxRecDepth 100000 in
theorem evenBetween_err (A : Option Addr) (c : Nat) (l : List Int) (f t : Int) (m : Int) (w : World) (hi : Ints w w.heap.size A c l) (he : idxErr l = 0) (no : ¬ (GiveRange l.length f t m ∧ m ≤ l.getD f.toNat 0 ∧ (giveTo l f.toNat t.toNat m).getD t.toNat 0 ≤ 1000)) :
    Calls Try.prog 14 #[.slice A l.length c, .int .i64 f, .int .i64 t, .int .i64 m] w fun e w' => e = .returned (.bool true) ∧ Below w.heap.size w w' := by
  have HI := Lib.hid hi; clear hi
  have HNO := Lib.hid no; clear no
  have HE := Lib.hid he
  obtain ⟨hf9, ht9⟩ := idx_parts he
  obtain ⟨h0, h6, hbad⟩ := few_ok hf9
  have HF := Lib.hid hf9
  have HB := Lib.hid (badTo_in hbad)
  obtain ⟨vt, hvt⟩ : ∃ v, idxT l = v := ⟨_, rfl⟩
  obtain ⟨vb, hvb⟩ : ∃ v, idxB l = v := ⟨_, rfl⟩
  obtain ⟨gg, hgg⟩ : ∃ v, gapL l = v := ⟨_, rfl⟩
  have hl := idx_laws l he
  rw [hvt, hvb, hgg] at hl
  obtain ⟨l1, l2, l3, l4⟩ := hl
  obtain ⟨va, hva⟩ : ∃ v, cmpI (1 * vb) (vt * l.length) = v := ⟨_, rfl⟩
  obtain ⟨vc, hvc⟩ : ∃ v, cmpI (vt * 1) (1 * vb) = v := ⟨_, rfl⟩
  rw [hva] at l2
  rw [hvc] at l3 l4
  have hlo := low_one l.length (by omega)
  have hin : FracIn 1 l.length := ⟨by omega, by omega, by omega, by omega⟩
  have hfe : fracErr 1 (l.length : Int) = 0 := by
    have := low_err 1 l.length (by omega) (by omega) (by omega) (by omega)
    rwa [hlo.1, hlo.2] at this
  have h11 : fracErr 1 1 = 0 := by decide
  have VT := Lib.hid hvt
  have VB := Lib.hid hvb
  have VG := Lib.hid hgg
  have VA := Lib.hid hva
  have VC := Lib.hid hvc
  have L1 := Lib.hid l1
  have L4 := Lib.hid l4
  have HLO := Lib.hid hlo
  have HIN := Lib.hid hin
  have HFE := Lib.hid hfe
  have H11 := Lib.hid h11
  clear hf9 ht9 hbad hvt hvb hgg hva hvc l1 l4 hlo hin hfe h11
  have BEL : Hid (Below w.heap.size w w) := Lib.hid (Below.refl _ _)
  have yB : w.heap.size ≤ w.heap.size := Nat.le_refl _
  go_enter Try.func14, Try.ntmps14
  go_wp2_with fail
  refine (index_ok (some ⟨w.heap.size, 0, none⟩) 2 [1, 0] _ (Ints.ofBlk (t := 3) (l := [1, 0]) (Blk.new' _ _ _ (by simp)) (by simp)) idx10.1 1 2 idx10.2.1 idx10.2.2).mono ?_; rintro e w1 ⟨rfl, hb1⟩
  have z_w1 : w.heap.size ≤ w1.heap.size := Nat.le_trans (by first | with_reducible exact Nat.le_refl _ | (simp; done) | (simp; omega) | (simp [World.setCell]; done)) hb1.size
  replace BEL : Hid (Below w.heap.size w w1) := Lib.hid (Below.trans (by repeat (first | with_reducible exact BEL.out | with_reducible apply Below.alloc | with_reducible apply Below.setCell | with_reducible apply Below.drew | with_reducible apply below_drewN | (first | omega | (focus (simp; done)) | (focus (simp; omega)) | (focus (simp [World.setCell]; omega))))) (hb1.mono (by (first | omega | (focus (simp; done)) | (focus (simp; omega)) | (focus (simp [World.setCell]; omega))))))
  have y_w1 : w.heap.size ≤ w1.heap.size := BEL.out.size
  clear hb1
  go_wp2_with fail
  refine (index_ok A c l _ ((HI.out.below (by repeat (first | with_reducible exact BEL.out | with_reducible apply Below.alloc | with_reducible apply Below.setCell | with_reducible apply Below.drew | with_reducible apply below_drewN | (first | omega | (focus (simp; done)) | (focus (simp; omega)) | (focus (simp [World.setCell]; omega))))) (Nat.le_refl _)).more (by (first | omega | (focus (simp; done)) | (focus (simp; omega)) | (focus (simp [World.setCell]; omega))))) HE.out vt vb VT.out VB.out).mono ?_; rintro e w2 ⟨rfl, hb2⟩
  have z_w2 : w1.heap.size ≤ w2.heap.size := Nat.le_trans (by first | with_reducible exact Nat.le_refl _ | (simp; done) | (simp; omega) | (simp [World.setCell]; done)) hb2.size
  replace BEL : Hid (Below w.heap.size w w2) := Lib.hid (Below.trans (by repeat (first | with_reducible exact BEL.out | with_reducible apply Below.alloc | with_reducible apply Below.setCell | with_reducible apply Below.drew | with_reducible apply below_drewN | (first | omega | (focus (simp; done)) | (focus (simp; omega)) | (focus (simp [World.setCell]; omega))))) (hb2.mono (by (first | omega | (focus (simp; done)) | (focus (simp; omega)) | (focus (simp [World.setCell]; omega))))))
  have y_w2 : w.heap.size ≤ w2.heap.size := BEL.out.size
  clear hb2
  go_wp2_with fail
  refine (of_in 1 l.length 1 l.length _ HIN.out HLO.out.1 HLO.out.2).mono ?_; rintro e w3 ⟨rfl, hb3⟩
  have z_w3 : w2.heap.size ≤ w3.heap.size := Nat.le_trans (by first | with_reducible exact Nat.le_refl _ | (simp; done) | (simp; omega) | (simp [World.setCell]; done)) hb3.size
  have HX := Lib.hid (show Blk w3 (w2.heap.size) 77 _ from by (with_reducible apply Blk.below (hb := hb3); (repeat (first | (with_reducible apply Blk.new'; first | with_reducible rfl | (focus (simp; done)) | (focus (simp; omega))) | with_reducible apply Blk.s3_0 | with_reducible apply Blk.s3_1 | with_reducible apply Blk.s3_2 | with_reducible apply Blk.s2_0 | with_reducible apply Blk.s2_1 | with_reducible apply Blk.s4_0 | with_reducible apply Blk.s4_1 | with_reducible apply Blk.s4_2 | with_reducible apply Blk.s4_3 | with_reducible apply Blk.s1_0 | with_reducible apply Blk.set_ | with_reducible apply Blk.far | with_reducible apply Blk.alloc | with_reducible apply Blk.drew | with_reducible apply Blk.drewN | (first | omega | (focus (simp; done)) | (focus (simp; omega)) | (focus (simp [World.setCell]; omega)))))))
  have q_X_w3 : w2.heap.size < w3.heap.size := HX.out.lt
  replace BEL : Hid (Below w.heap.size w w3) := Lib.hid (Below.trans (by repeat (first | with_reducible exact BEL.out | with_reducible apply Below.alloc | with_reducible apply Below.setCell | with_reducible apply Below.drew | with_reducible apply below_drewN | (first | omega | (focus (simp; done)) | (focus (simp; omega)) | (focus (simp [World.setCell]; omega))))) (hb3.mono (by (first | omega | (focus (simp; done)) | (focus (simp; omega)) | (focus (simp [World.setCell]; omega))))))
  have y_w3 : w.heap.size ≤ w3.heap.size := BEL.out.size
  clear hb3
  obtain ⟨pX0, pX1, fX0, fX1, zX⟩ := HX.out.two
  have zX_1 : w2.heap.size < w3.heap.size + 1 := by omega
  have zX_2 : w2.heap.size < w3.heap.size + 1 + 1 := by omega
  have zX_3 : w2.heap.size < w3.heap.size + 1 + 1 + 1 := by omega
  go_wp2_with fail
  refine (fcompare_yes 1 l.length vt vb va _ HFE.out L1.out VA.out).mono ?_; rintro e w4 ⟨rfl, hb4⟩
  have z_w4 : w3.heap.size ≤ w4.heap.size := Nat.le_trans (by first | with_reducible exact Nat.le_refl _ | (simp; done) | (simp; omega) | (simp [World.setCell]; done)) hb4.size
  replace HX := Lib.hid (show Blk w4 (w2.heap.size) 77 _ from by (with_reducible apply Blk.below (hb := hb4); (repeat (first | with_reducible exact HX.out | (with_reducible apply Blk.new'; first | with_reducible rfl | (focus (simp; done)) | (focus (simp; omega))) | with_reducible apply Blk.s3_0 | with_reducible apply Blk.s3_1 | with_reducible apply Blk.s3_2 | with_reducible apply Blk.s2_0 | with_reducible apply Blk.s2_1 | with_reducible apply Blk.s4_0 | with_reducible apply Blk.s4_1 | with_reducible apply Blk.s4_2 | with_reducible apply Blk.s4_3 | with_reducible apply Blk.s1_0 | with_reducible apply Blk.set_ | with_reducible apply Blk.far | with_reducible apply Blk.alloc | with_reducible apply Blk.drew | with_reducible apply Blk.drewN | (first | omega | (focus (simp; done)) | (focus (simp; omega)) | (focus (simp [World.setCell]; omega)))))))
  replace BEL : Hid (Below w.heap.size w w4) := Lib.hid (Below.trans (by repeat (first | with_reducible exact BEL.out | with_reducible apply Below.alloc | with_reducible apply Below.setCell | with_reducible apply Below.drew | with_reducible apply below_drewN | (first | omega | (focus (simp; done)) | (focus (simp; omega)) | (focus (simp [World.setCell]; omega))))) (hb4.mono (by (first | omega | (focus (simp; done)) | (focus (simp; omega)) | (focus (simp [World.setCell]; omega))))))
  have y_w4 : w.heap.size ≤ w4.heap.size := BEL.out.size
  clear hb4
  clear pX0 pX1 fX0 fX1 zX zX_1 zX_2 zX_3
  obtain ⟨pX0, pX1, fX0, fX1, zX⟩ := HX.out.two
  have zX_1 : w2.heap.size < w4.heap.size + 1 := by omega
  have zX_2 : w2.heap.size < w4.heap.size + 1 + 1 := by omega
  have zX_3 : w2.heap.size < w4.heap.size + 1 + 1 + 1 := by omega
  go_wp2_with fail
  refine (fcompare_yes vt vb 1 1 vc _ L1.out H11.out VC.out).mono ?_; rintro e w5 ⟨rfl, hb5⟩
  have z_w5 : w4.heap.size ≤ w5.heap.size := Nat.le_trans (by first | with_reducible exact Nat.le_refl _ | (simp; done) | (simp; omega) | (simp [World.setCell]; done)) hb5.size
  replace HX := Lib.hid (show Blk w5 (w2.heap.size) 77 _ from by (with_reducible apply Blk.below (hb := hb5); (repeat (first | with_reducible exact HX.out | (with_reducible apply Blk.new'; first | with_reducible rfl | (focus (simp; done)) | (focus (simp; omega))) | with_reducible apply Blk.s3_0 | with_reducible apply Blk.s3_1 | with_reducible apply Blk.s3_2 | with_reducible apply Blk.s2_0 | with_reducible apply Blk.s2_1 | with_reducible apply Blk.s4_0 | with_reducible apply Blk.s4_1 | with_reducible apply Blk.s4_2 | with_reducible apply Blk.s4_3 | with_reducible apply Blk.s1_0 | with_reducible apply Blk.set_ | with_reducible apply Blk.far | with_reducible apply Blk.alloc | with_reducible apply Blk.drew | with_reducible apply Blk.drewN | (first | omega | (focus (simp; done)) | (focus (simp; omega)) | (focus (simp [World.setCell]; omega)))))))
  replace BEL : Hid (Below w.heap.size w w5) := Lib.hid (Below.trans (by repeat (first | with_reducible exact BEL.out | with_reducible apply Below.alloc | with_reducible apply Below.setCell | with_reducible apply Below.drew | with_reducible apply below_drewN | (first | omega | (focus (simp; done)) | (focus (simp; omega)) | (focus (simp [World.setCell]; omega))))) (hb5.mono (by (first | omega | (focus (simp; done)) | (focus (simp; omega)) | (focus (simp [World.setCell]; omega))))))
  have y_w5 : w.heap.size ≤ w5.heap.size := BEL.out.size
  clear hb5
  clear pX0 pX1 fX0 fX1 zX zX_1 zX_2 zX_3
  obtain ⟨pX0, pX1, fX0, fX1, zX⟩ := HX.out.two
  have zX_1 : w2.heap.size < w5.heap.size + 1 := by omega
  have zX_2 : w2.heap.size < w5.heap.size + 1 + 1 := by omega
  have zX_3 : w2.heap.size < w5.heap.size + 1 + 1 + 1 := by omega
  go_wp2_with fail
  refine (egap_is A c _ l w.heap.size _ (HI.out.below (by repeat (first | with_reducible exact BEL.out | with_reducible apply Below.alloc | with_reducible apply Below.setCell | with_reducible apply Below.drew | with_reducible apply below_drewN | (first | omega | (focus (simp; done)) | (focus (simp; omega)) | (focus (simp [World.setCell]; omega))))) (Nat.le_refl _)) HF.out gg VG.out rfl).mono ?_; rintro e w' ⟨rfl, rfl⟩
  by_cases hg0 : gg = 0
  · have evc : vc = 0 := L4.out.2 hg0
    subst hg0 evc
    go_wp2_with fail
    refine (egive_bad A c l f t m _ ((HI.out.below (by repeat (first | with_reducible exact BEL.out | with_reducible apply Below.alloc | with_reducible apply Below.setCell | with_reducible apply Below.drew | with_reducible apply below_drewN | (first | omega | (focus (simp; done)) | (focus (simp; omega)) | (focus (simp [World.setCell]; omega))))) (Nat.le_refl _)).more (by (first | omega | (focus (simp; done)) | (focus (simp; omega)) | (focus (simp [World.setCell]; omega))))) HF.out HNO.out).mono ?_; rintro e w6 ⟨er, rfl, hb6⟩
    have z_w6 : w5.heap.size ≤ w6.heap.size := Nat.le_trans (by first | with_reducible exact Nat.le_refl _ | (simp; done) | (simp; omega) | (simp [World.setCell]; done)) hb6.size
    replace HX := Lib.hid (show Blk w6 (w2.heap.size) 77 _ from by (with_reducible apply Blk.below (hb := hb6); (repeat (first | with_reducible exact HX.out | (with_reducible apply Blk.new'; first | with_reducible rfl | (focus (simp; done)) | (focus (simp; omega))) | with_reducible apply Blk.s3_0 | with_reducible apply Blk.s3_1 | with_reducible apply Blk.s3_2 | with_reducible apply Blk.s2_0 | with_reducible apply Blk.s2_1 | with_reducible apply Blk.s4_0 | with_reducible apply Blk.s4_1 | with_reducible apply Blk.s4_2 | with_reducible apply Blk.s4_3 | with_reducible apply Blk.s1_0 | with_reducible apply Blk.set_ | with_reducible apply Blk.far | with_reducible apply Blk.alloc | with_reducible apply Blk.drew | with_reducible apply Blk.drewN | (first | omega | (focus (simp; done)) | (focus (simp; omega)) | (focus (simp [World.setCell]; omega)))))))
    replace BEL : Hid (Below w.heap.size w w6) := Lib.hid (Below.trans (by repeat (first | with_reducible exact BEL.out | with_reducible apply Below.alloc | with_reducible apply Below.setCell | with_reducible apply Below.drew | with_reducible apply below_drewN | (first | omega | (focus (simp; done)) | (focus (simp; omega)) | (focus (simp [World.setCell]; omega))))) (hb6.mono (by (first | omega | (focus (simp; done)) | (focus (simp; omega)) | (focus (simp [World.setCell]; omega))))))
    have y_w6 : w.heap.size ≤ w6.heap.size := BEL.out.size
    clear hb6
    clear pX0 pX1 fX0 fX1 zX zX_1 zX_2 zX_3
    obtain ⟨pX0, pX1, fX0, fX1, zX⟩ := HX.out.two
    have zX_1 : w2.heap.size < w6.heap.size + 1 := by omega
    have zX_2 : w2.heap.size < w6.heap.size + 1 + 1 := by omega
    have zX_3 : w2.heap.size < w6.heap.size + 1 + 1 + 1 := by omega
    go_wp2
    go_quiet (fail)
    go_wp2
    go_ret
    exact ⟨rfl, (by repeat (first | with_reducible exact BEL.out | with_reducible apply Below.alloc | with_reducible apply Below.setCell | with_reducible apply Below.drew | with_reducible apply below_drewN | (first | omega | (focus (simp; done)) | (focus (simp; omega)) | (focus (simp [World.setCell]; omega)))))⟩
  · have hvc0 : vc ≠ 0 := fun h => hg0 (L4.out.1 h)
    have bg : (gg == 0) = false := beq_eq_false_iff_ne.2 hg0
    have bc : (vc == 0) = false := beq_eq_false_iff_ne.2 hvc0
    go_wp2_with fail
    refine (egive_bad A c l f t m _ ((HI.out.below (by repeat (first | with_reducible exact BEL.out | with_reducible apply Below.alloc | with_reducible apply Below.setCell | with_reducible apply Below.drew | with_reducible apply below_drewN | (first | omega | (focus (simp; done)) | (focus (simp; omega)) | (focus (simp [World.setCell]; omega))))) (Nat.le_refl _)).more (by (first | omega | (focus (simp; done)) | (focus (simp; omega)) | (focus (simp [World.setCell]; omega))))) HF.out HNO.out).mono ?_; rintro e w6 ⟨er, rfl, hb6⟩
    have z_w6 : w5.heap.size ≤ w6.heap.size := Nat.le_trans (by first | with_reducible exact Nat.le_refl _ | (simp; done) | (simp; omega) | (simp [World.setCell]; done)) hb6.size
    replace HX := Lib.hid (show Blk w6 (w2.heap.size) 77 _ from by (with_reducible apply Blk.below (hb := hb6); (repeat (first | with_reducible exact HX.out | (with_reducible apply Blk.new'; first | with_reducible rfl | (focus (simp; done)) | (focus (simp; omega))) | with_reducible apply Blk.s3_0 | with_reducible apply Blk.s3_1 | with_reducible apply Blk.s3_2 | with_reducible apply Blk.s2_0 | with_reducible apply Blk.s2_1 | with_reducible apply Blk.s4_0 | with_reducible apply Blk.s4_1 | with_reducible apply Blk.s4_2 | with_reducible apply Blk.s4_3 | with_reducible apply Blk.s1_0 | with_reducible apply Blk.set_ | with_reducible apply Blk.far | with_reducible apply Blk.alloc | with_reducible apply Blk.drew | with_reducible apply Blk.drewN | (first | omega | (focus (simp; done)) | (focus (simp; omega)) | (focus (simp [World.setCell]; omega)))))))
    replace BEL : Hid (Below w.heap.size w w6) := Lib.hid (Below.trans (by repeat (first | with_reducible exact BEL.out | with_reducible apply Below.alloc | with_reducible apply Below.setCell | with_reducible apply Below.drew | with_reducible apply below_drewN | (first | omega | (focus (simp; done)) | (focus (simp; omega)) | (focus (simp [World.setCell]; omega))))) (hb6.mono (by (first | omega | (focus (simp; done)) | (focus (simp; omega)) | (focus (simp [World.setCell]; omega))))))
    have y_w6 : w.heap.size ≤ w6.heap.size := BEL.out.size
    clear hb6
    clear pX0 pX1 fX0 fX1 zX zX_1 zX_2 zX_3
    obtain ⟨pX0, pX1, fX0, fX1, zX⟩ := HX.out.two
    have zX_1 : w2.heap.size < w6.heap.size + 1 := by omega
    have zX_2 : w2.heap.size < w6.heap.size + 1 + 1 := by omega
    have zX_3 : w2.heap.size < w6.heap.size + 1 + 1 + 1 := by omega
    go_wp2
    go_quiet (fail)
    go_wp2
    go_ret
    exact ⟨rfl, (by repeat (first | with_reducible exact BEL.out | with_reducible apply Below.alloc | with_reducible apply Below.setCell | with_reducible apply Below.drew | with_reducible apply below_drewN | (first | omega | (focus (simp; done)) | (focus (simp; omega)) | (focus (simp [World.setCell]; omega)))))⟩
set_option maxHeartbeats 8000000 in
set_option maxRecDepth 100000 in
theorem evenBetween_more (A : Option Addr) (c : Nat) (l : List Int) (f t : Nat) (m : Int) (w : World) (hi : Ints w w.heap.size A c l) (he : idxErr l = 0) (hf : f < l.length) (ht : t < l.length) (m0 : 0 ≤ m) (m1 : m ≤ 1000) (hlow : m ≤ l.getD f 0) (hfull : (giveTo l f t m).getD t 0 ≤ 1000) (hhalf : l.getD f 0 - l.getD t 0 < 2 * m) :
    Calls Try.prog 14 #[.slice A l.length c, .int .i64 f, .int .i64 t, .int .i64 m] w fun e w' => e = .returned (.bool true) ∧ Below w.heap.size w w' := by
  have HI := Lib.hid hi; clear hi
  have HLOW := Lib.hid hlow
  have HFULL := Lib.hid hfull
  obtain ⟨bb, off, hA, hbb, hcells⟩ := HI.out.at_ hf
  have HCF0 := hcells f hf
  have HCT0 := hcells t ht
  have hmem1 := getD_mem l f hf
  have hmem2 := getD_mem l t ht
  obtain ⟨x, hx⟩ : ∃ x, l.getD f 0 = x := ⟨_, rfl⟩
  obtain ⟨y, hy⟩ : ∃ x, l.getD t 0 = x := ⟨_, rfl⟩
  rw [hx] at HCF0 hlow hhalf hmem1
  rw [hy] at HCT0 hhalf hmem2
  have HCF := Lib.hid HCF0
  have HCT := Lib.hid HCT0
  clear HCF0 HCT0 hcells hx hy hfull
  subst hA
  have hf0 : (0 : Int) ≤ (f : Int) := by omega
  have hf1 : (f : Int) < l.length := by omega
  have ht0 : (0 : Int) ≤ (t : Int) := by omega
  have ht1 : (t : Int) < l.length := by omega
  have HM1 := Lib.hid hmem1
  have HM2 := Lib.hid hmem2
  clear hmem1 hmem2
  have HE := Lib.hid he
  obtain ⟨hf9, ht9⟩ := idx_parts he
  obtain ⟨h0, h6, hbad⟩ := few_ok hf9
  have HF := Lib.hid hf9
  have HB := Lib.hid (badTo_in hbad)
  obtain ⟨vt, hvt⟩ : ∃ v, idxT l = v := ⟨_, rfl⟩
  obtain ⟨vb, hvb⟩ : ∃ v, idxB l = v := ⟨_, rfl⟩
  obtain ⟨gg, hgg⟩ : ∃ v, gapL l = v := ⟨_, rfl⟩
  have hl := idx_laws l he
  rw [hvt, hvb, hgg] at hl
  obtain ⟨l1, l2, l3, l4⟩ := hl
  obtain ⟨va, hva⟩ : ∃ v, cmpI (1 * vb) (vt * l.length) = v := ⟨_, rfl⟩
  obtain ⟨vc, hvc⟩ : ∃ v, cmpI (vt * 1) (1 * vb) = v := ⟨_, rfl⟩
  rw [hva] at l2
  rw [hvc] at l3 l4
  have hlo := low_one l.length (by omega)
  have hin : FracIn 1 l.length := ⟨by omega, by omega, by omega, by omega⟩
  have hfe : fracErr 1 (l.length : Int) = 0 := by
    have := low_err 1 l.length (by omega) (by omega) (by omega) (by omega)
    rwa [hlo.1, hlo.2] at this
  have h11 : fracErr 1 1 = 0 := by decide
  have VT := Lib.hid hvt
  have VB := Lib.hid hvb
  have VG := Lib.hid hgg
  have VA := Lib.hid hva
  have VC := Lib.hid hvc
  have L1 := Lib.hid l1
  have L4 := Lib.hid l4
  have HLO := Lib.hid hlo
  have HIN := Lib.hid hin
  have HFE := Lib.hid hfe
  have H11 := Lib.hid h11
  clear hf9 ht9 hbad hvt hvb hgg hva hvc l1 l4 hlo hin hfe h11
  have BEL : Hid (Below w.heap.size w w) := Lib.hid (Below.refl _ _)
  have yB : w.heap.size ≤ w.heap.size := Nat.le_refl _
  go_enter Try.func14, Try.ntmps14
  go_wp2_with fail
  refine (index_ok (some ⟨w.heap.size, 0, none⟩) 2 [1, 0] _ (Ints.ofBlk (t := 3) (l := [1, 0]) (Blk.new' _ _ _ (by simp)) (by simp)) idx10.1 1 2 idx10.2.1 idx10.2.2).mono ?_; rintro e w1 ⟨rfl, hb1⟩
  have z_w1 : w.heap.size ≤ w1.heap.size := Nat.le_trans (by first | with_reducible exact Nat.le_refl _ | (simp; done) | (simp; omega) | (simp [World.setCell]; done)) hb1.size
  replace BEL : Hid (Below w.heap.size w w1) := Lib.hid (Below.trans (by repeat (first | with_reducible exact BEL.out | with_reducible apply Below.alloc | with_reducible apply Below.setCell | with_reducible apply Below.drew | with_reducible apply below_drewN | (first | omega | (focus (simp; done)) | (focus (simp; omega)) | (focus (simp [World.setCell]; omega))))) (hb1.mono (by (first | omega | (focus (simp; done)) | (focus (simp; omega)) | (focus (simp [World.setCell]; omega))))))
  have y_w1 : w.heap.size ≤ w1.heap.size := BEL.out.size
  clear hb1
  go_wp2_with fail
  refine (index_ok (some ⟨bb, off, none⟩) c l _ ((HI.out.below (by repeat (first | with_reducible exact BEL.out | with_reducible apply Below.alloc | with_reducible apply Below.setCell | with_reducible apply Below.drew | with_reducible apply below_drewN | (first | omega | (focus (simp; done)) | (focus (simp; omega)) | (focus (simp [World.setCell]; omega))))) (Nat.le_refl _)).more (by (first | omega | (focus (simp; done)) | (focus (simp; omega)) | (focus (simp [World.setCell]; omega))))) HE.out vt vb VT.out VB.out).mono ?_; rintro e w2 ⟨rfl, hb2⟩
  have z_w2 : w1.heap.size ≤ w2.heap.size := Nat.le_trans (by first | with_reducible exact Nat.le_refl _ | (simp; done) | (simp; omega) | (simp [World.setCell]; done)) hb2.size
  replace BEL : Hid (Below w.heap.size w w2) := Lib.hid (Below.trans (by repeat (first | with_reducible exact BEL.out | with_reducible apply Below.alloc | with_reducible apply Below.setCell | with_reducible apply Below.drew | with_reducible apply below_drewN | (first | omega | (focus (simp; done)) | (focus (simp; omega)) | (focus (simp [World.setCell]; omega))))) (hb2.mono (by (first | omega | (focus (simp; done)) | (focus (simp; omega)) | (focus (simp [World.setCell]; omega))))))
  have y_w2 : w.heap.size ≤ w2.heap.size := BEL.out.size
  clear hb2
  go_wp2_with fail
  refine (of_in 1 l.length 1 l.length _ HIN.out HLO.out.1 HLO.out.2).mono ?_; rintro e w3 ⟨rfl, hb3⟩
  have z_w3 : w2.heap.size ≤ w3.heap.size := Nat.le_trans (by first | with_reducible exact Nat.le_refl _ | (simp; done) | (simp; omega) | (simp [World.setCell]; done)) hb3.size
  have HX := Lib.hid (show Blk w3 (w2.heap.size) 77 _ from by (with_reducible apply Blk.below (hb := hb3); (repeat (first | (with_reducible apply Blk.new'; first | with_reducible rfl | (focus (simp; done)) | (focus (simp; omega))) | with_reducible apply Blk.s3_0 | with_reducible apply Blk.s3_1 | with_reducible apply Blk.s3_2 | with_reducible apply Blk.s2_0 | with_reducible apply Blk.s2_1 | with_reducible apply Blk.s4_0 | with_reducible apply Blk.s4_1 | with_reducible apply Blk.s4_2 | with_reducible apply Blk.s4_3 | with_reducible apply Blk.s1_0 | with_reducible apply Blk.set_ | with_reducible apply Blk.far | with_reducible apply Blk.alloc | with_reducible apply Blk.drew | with_reducible apply Blk.drewN | (first | omega | (focus (simp; done)) | (focus (simp; omega)) | (focus (simp [World.setCell]; omega)))))))
  have q_X_w3 : w2.heap.size < w3.heap.size := HX.out.lt
  replace BEL : Hid (Below w.heap.size w w3) := Lib.hid (Below.trans (by repeat (first | with_reducible exact BEL.out | with_reducible apply Below.alloc | with_reducible apply Below.setCell | with_reducible apply Below.drew | with_reducible apply below_drewN | (first | omega | (focus (simp; done)) | (focus (simp; omega)) | (focus (simp [World.setCell]; omega))))) (hb3.mono (by (first | omega | (focus (simp; done)) | (focus (simp; omega)) | (focus (simp [World.setCell]; omega))))))
  have y_w3 : w.heap.size ≤ w3.heap.size := BEL.out.size
  clear hb3
  obtain ⟨pX0, pX1, fX0, fX1, zX⟩ := HX.out.two
  have zX_1 : w2.heap.size < w3.heap.size + 1 := by omega
  have zX_2 : w2.heap.size < w3.heap.size + 1 + 1 := by omega
  have zX_3 : w2.heap.size < w3.heap.size + 1 + 1 + 1 := by omega
  go_wp2_with fail
  refine (fcompare_yes 1 l.length vt vb va _ HFE.out L1.out VA.out).mono ?_; rintro e w4 ⟨rfl, hb4⟩
  have z_w4 : w3.heap.size ≤ w4.heap.size := Nat.le_trans (by first | with_reducible exact Nat.le_refl _ | (simp; done) | (simp; omega) | (simp [World.setCell]; done)) hb4.size
  replace HX := Lib.hid (show Blk w4 (w2.heap.size) 77 _ from by (with_reducible apply Blk.below (hb := hb4); (repeat (first | with_reducible exact HX.out | (with_reducible apply Blk.new'; first | with_reducible rfl | (focus (simp; done)) | (focus (simp; omega))) | with_reducible apply Blk.s3_0 | with_reducible apply Blk.s3_1 | with_reducible apply Blk.s3_2 | with_reducible apply Blk.s2_0 | with_reducible apply Blk.s2_1 | with_reducible apply Blk.s4_0 | with_reducible apply Blk.s4_1 | with_reducible apply Blk.s4_2 | with_reducible apply Blk.s4_3 | with_reducible apply Blk.s1_0 | with_reducible apply Blk.set_ | with_reducible apply Blk.far | with_reducible apply Blk.alloc | with_reducible apply Blk.drew | with_reducible apply Blk.drewN | (first | omega | (focus (simp; done)) | (focus (simp; omega)) | (focus (simp [World.setCell]; omega)))))))
  replace BEL : Hid (Below w.heap.size w w4) := Lib.hid (Below.trans (by repeat (first | with_reducible exact BEL.out | with_reducible apply Below.alloc | with_reducible apply Below.setCell | with_reducible apply Below.drew | with_reducible apply below_drewN | (first | omega | (focus (simp; done)) | (focus (simp; omega)) | (focus (simp [World.setCell]; omega))))) (hb4.mono (by (first | omega | (focus (simp; done)) | (focus (simp; omega)) | (focus (simp [World.setCell]; omega))))))
  have y_w4 : w.heap.size ≤ w4.heap.size := BEL.out.size
  clear hb4
  clear pX0 pX1 fX0 fX1 zX zX_1 zX_2 zX_3
  obtain ⟨pX0, pX1, fX0, fX1, zX⟩ := HX.out.two
  have zX_1 : w2.heap.size < w4.heap.size + 1 := by omega
  have zX_2 : w2.heap.size < w4.heap.size + 1 + 1 := by omega
  have zX_3 : w2.heap.size < w4.heap.size + 1 + 1 + 1 := by omega
  go_wp2_with fail
  refine (fcompare_yes vt vb 1 1 vc _ L1.out H11.out VC.out).mono ?_; rintro e w5 ⟨rfl, hb5⟩
  have z_w5 : w4.heap.size ≤ w5.heap.size := Nat.le_trans (by first | with_reducible exact Nat.le_refl _ | (simp; done) | (simp; omega) | (simp [World.setCell]; done)) hb5.size
  replace HX := Lib.hid (show Blk w5 (w2.heap.size) 77 _ from by (with_reducible apply Blk.below (hb := hb5); (repeat (first | with_reducible exact HX.out | (with_reducible apply Blk.new'; first | with_reducible rfl | (focus (simp; done)) | (focus (simp; omega))) | with_reducible apply Blk.s3_0 | with_reducible apply Blk.s3_1 | with_reducible apply Blk.s3_2 | with_reducible apply Blk.s2_0 | with_reducible apply Blk.s2_1 | with_reducible apply Blk.s4_0 | with_reducible apply Blk.s4_1 | with_reducible apply Blk.s4_2 | with_reducible apply Blk.s4_3 | with_reducible apply Blk.s1_0 | with_reducible apply Blk.set_ | with_reducible apply Blk.far | with_reducible apply Blk.alloc | with_reducible apply Blk.drew | with_reducible apply Blk.drewN | (first | omega | (focus (simp; done)) | (focus (simp; omega)) | (focus (simp [World.setCell]; omega)))))))
  replace BEL : Hid (Below w.heap.size w w5) := Lib.hid (Below.trans (by repeat (first | with_reducible exact BEL.out | with_reducible apply Below.alloc | with_reducible apply Below.setCell | with_reducible apply Below.drew | with_reducible apply below_drewN | (first | omega | (focus (simp; done)) | (focus (simp; omega)) | (focus (simp [World.setCell]; omega))))) (hb5.mono (by (first | omega | (focus (simp; done)) | (focus (simp; omega)) | (focus (simp [World.setCell]; omega))))))
  have y_w5 : w.heap.size ≤ w5.heap.size := BEL.out.size
  clear hb5
  clear pX0 pX1 fX0 fX1 zX zX_1 zX_2 zX_3
  obtain ⟨pX0, pX1, fX0, fX1, zX⟩ := HX.out.two
  have zX_1 : w2.heap.size < w5.heap.size + 1 := by omega
  have zX_2 : w2.heap.size < w5.heap.size + 1 + 1 := by omega
  have zX_3 : w2.heap.size < w5.heap.size + 1 + 1 + 1 := by omega
  go_wp2_with fail
  refine (egap_is (some ⟨bb, off, none⟩) c _ l w.heap.size _ (HI.out.below (by repeat (first | with_reducible exact BEL.out | with_reducible apply Below.alloc | with_reducible apply Below.setCell | with_reducible apply Below.drew | with_reducible apply below_drewN | (first | omega | (focus (simp; done)) | (focus (simp; omega)) | (focus (simp [World.setCell]; omega))))) (Nat.le_refl _)) HF.out gg VG.out rfl).mono ?_; rintro e w' ⟨rfl, rfl⟩
  obtain ⟨x0, x1⟩ := HB.out x HM1.out
  obtain ⟨y0, y1⟩ := HB.out y HM2.out
  by_cases hg0 : gg = 0
  · have evc : vc = 0 := L4.out.2 hg0
    subst hg0 evc
    go_wp2_with fail
    refine (egive_fine (some ⟨bb, off, none⟩) c l f t m _ ((HI.out.below (by repeat (first | with_reducible exact BEL.out | with_reducible apply Below.alloc | with_reducible apply Below.setCell | with_reducible apply Below.drew | with_reducible apply below_drewN | (first | omega | (focus (simp; done)) | (focus (simp; omega)) | (focus (simp [World.setCell]; omega))))) (Nat.le_refl _)).more (by (first | omega | (focus (simp; done)) | (focus (simp; omega)) | (focus (simp [World.setCell]; omega))))) HF.out hf ht m0 m1 HLOW.out HFULL.out).mono ?_; rintro e w6 ⟨u2, rfl, ho2, hb6⟩
    have HO2 := Lib.hid ho2; clear ho2
    have z_w6 : w5.heap.size ≤ w6.heap.size := Nat.le_trans (by first | with_reducible exact Nat.le_refl _ | (simp; done) | (simp; omega) | (simp [World.setCell]; done)) hb6.size
    replace HX := Lib.hid (show Blk w6 (w2.heap.size) 77 _ from by (with_reducible apply Blk.below (hb := hb6); (repeat (first | with_reducible exact HX.out | (with_reducible apply Blk.new'; first | with_reducible rfl | (focus (simp; done)) | (focus (simp; omega))) | with_reducible apply Blk.s3_0 | with_reducible apply Blk.s3_1 | with_reducible apply Blk.s3_2 | with_reducible apply Blk.s2_0 | with_reducible apply Blk.s2_1 | with_reducible apply Blk.s4_0 | with_reducible apply Blk.s4_1 | with_reducible apply Blk.s4_2 | with_reducible apply Blk.s4_3 | with_reducible apply Blk.s1_0 | with_reducible apply Blk.set_ | with_reducible apply Blk.far | with_reducible apply Blk.alloc | with_reducible apply Blk.drew | with_reducible apply Blk.drewN | (first | omega | (focus (simp; done)) | (focus (simp; omega)) | (focus (simp [World.setCell]; omega)))))))
    replace BEL : Hid (Below w.heap.size w w6) := Lib.hid (Below.trans (by repeat (first | with_reducible exact BEL.out | with_reducible apply Below.alloc | with_reducible apply Below.setCell | with_reducible apply Below.drew | with_reducible apply below_drewN | (first | omega | (focus (simp; done)) | (focus (simp; omega)) | (focus (simp [World.setCell]; omega))))) (hb6.mono (by (first | omega | (focus (simp; done)) | (focus (simp; omega)) | (focus (simp [World.setCell]; omega))))))
    have y_w6 : w.heap.size ≤ w6.heap.size := BEL.out.size
    clear hb6
    clear pX0 pX1 fX0 fX1 zX zX_1 zX_2 zX_3
    obtain ⟨pX0, pX1, fX0, fX1, zX⟩ := HX.out.two
    have zX_1 : w2.heap.size < w6.heap.size + 1 := by omega
    have zX_2 : w2.heap.size < w6.heap.size + 1 + 1 := by omega
    have zX_3 : w2.heap.size < w6.heap.size + 1 + 1 + 1 := by omega
    obtain ⟨A2, c2, rfl, hln2, hi2⟩ := owns_ints' HO2.out
    have HI2 := Lib.hid hi2
    have HLN2 := Lib.hid hln2
    clear hln2 hi2
    have hcf1 : w6.cell? ⟨bb, off + f, none⟩ = some (.int .i64 x) := (BEL.out.cell (p := ⟨bb, off + f, none⟩) hbb).trans HCF.out
    have hct1 : w6.cell? ⟨bb, off + t, none⟩ = some (.int .i64 y) := (BEL.out.cell (p := ⟨bb, off + t, none⟩) hbb).trans HCT.out
    have wx1 : IntKind.i64.wrap (x - y) = x - y := IntWalk.i64_in _ (by omega)
    have wx2 : IntKind.i64.wrap (2 * m) = 2 * m := IntWalk.i64_in _ (by omega)
    go_wp2
    go_quiet (fail)
    clear wx1 wx2
    go_wp2
    go_ret
    exact ⟨rfl, (by repeat (first | with_reducible exact BEL.out | with_reducible apply Below.alloc | with_reducible apply Below.setCell | with_reducible apply Below.drew | with_reducible apply below_drewN | (first | omega | (focus (simp; done)) | (focus (simp; omega)) | (focus (simp [World.setCell]; omega)))))⟩
  · have hvc0 : vc ≠ 0 := fun h => hg0 (L4.out.1 h)
    have bg : (gg == 0) = false := beq_eq_false_iff_ne.2 hg0
    have bc : (vc == 0) = false := beq_eq_false_iff_ne.2 hvc0
    go_wp2_with fail
    refine (egive_fine (some ⟨bb, off, none⟩) c l f t m _ ((HI.out.below (by repeat (first | with_reducible exact BEL.out | with_reducible apply Below.alloc | with_reducible apply Below.setCell | with_reducible apply Below.drew | with_reducible apply below_drewN | (first | omega | (focus (simp; done)) | (focus (simp; omega)) | (focus (simp [World.setCell]; omega))))) (Nat.le_refl _)).more (by (first | omega | (focus (simp; done)) | (focus (simp; omega)) | (focus (simp [World.setCell]; omega))))) HF.out hf ht m0 m1 HLOW.out HFULL.out).mono ?_; rintro e w6 ⟨u2, rfl, ho2, hb6⟩
    have HO2 := Lib.hid ho2; clear ho2
    have z_w6 : w5.heap.size ≤ w6.heap.size := Nat.le_trans (by first | with_reducible exact Nat.le_refl _ | (simp; done) | (simp; omega) | (simp [World.setCell]; done)) hb6.size
    replace HX := Lib.hid (show Blk w6 (w2.heap.size) 77 _ from by (with_reducible apply Blk.below (hb := hb6); (repeat (first | with_reducible exact HX.out | (with_reducible apply Blk.new'; first | with_reducible rfl | (focus (simp; done)) | (focus (simp; omega))) | with_reducible apply Blk.s3_0 | with_reducible apply Blk.s3_1 | with_reducible apply Blk.s3_2 | with_reducible apply Blk.s2_0 | with_reducible apply Blk.s2_1 | with_reducible apply Blk.s4_0 | with_reducible apply Blk.s4_1 | with_reducible apply Blk.s4_2 | with_reducible apply Blk.s4_3 | with_reducible apply Blk.s1_0 | with_reducible apply Blk.set_ | with_reducible apply Blk.far | with_reducible apply Blk.alloc | with_reducible apply Blk.drew | with_reducible apply Blk.drewN | (first | omega | (focus (simp; done)) | (focus (simp; omega)) | (focus (simp [World.setCell]; omega)))))))
    replace BEL : Hid (Below w.heap.size w w6) := Lib.hid (Below.trans (by repeat (first | with_reducible exact BEL.out | with_reducible apply Below.alloc | with_reducible apply Below.setCell | with_reducible apply Below.drew | with_reducible apply below_drewN | (first | omega | (focus (simp; done)) | (focus (simp; omega)) | (focus (simp [World.setCell]; omega))))) (hb6.mono (by (first | omega | (focus (simp; done)) | (focus (simp; omega)) | (focus (simp [World.setCell]; omega))))))
    have y_w6 : w.heap.size ≤ w6.heap.size := BEL.out.size
    clear hb6
    clear pX0 pX1 fX0 fX1 zX zX_1 zX_2 zX_3
    obtain ⟨pX0, pX1, fX0, fX1, zX⟩ := HX.out.two
    have zX_1 : w2.heap.size < w6.heap.size + 1 := by omega
    have zX_2 : w2.heap.size < w6.heap.size + 1 + 1 := by omega
    have zX_3 : w2.heap.size < w6.heap.size + 1 + 1 + 1 := by omega
    obtain ⟨A2, c2, rfl, hln2, hi2⟩ := owns_ints' HO2.out
    have HI2 := Lib.hid hi2
    have HLN2 := Lib.hid hln2
    clear hln2 hi2
    have hcf1 : w6.cell? ⟨bb, off + f, none⟩ = some (.int .i64 x) := (BEL.out.cell (p := ⟨bb, off + f, none⟩) hbb).trans HCF.out
    have hct1 : w6.cell? ⟨bb, off + t, none⟩ = some (.int .i64 y) := (BEL.out.cell (p := ⟨bb, off + t, none⟩) hbb).trans HCT.out
    have wx1 : IntKind.i64.wrap (x - y) = x - y := IntWalk.i64_in _ (by omega)
    have wx2 : IntKind.i64.wrap (2 * m) = 2 * m := IntWalk.i64_in _ (by omega)
    go_wp2
    go_quiet (fail)
    clear wx1 wx2
    go_wp2
    go_ret
    exact ⟨rfl, (by repeat (first | with_reducible exact BEL.out | with_reducible apply Below.alloc | with_reducible apply Below.setCell | with_reducible apply Below.drew | with_reducible apply below_drewN | (first | omega | (focus (simp; done)) | (focus (simp; omega)) | (focus (simp [World.setCell]; omega)))))⟩
set_option maxHeartbeats 8000000 in
set_option maxRecDepth 100000 in
theorem evenBetween_in (A : Option Addr) (c : Nat) (l : List Int) (f t : Nat) (m : Int) (w : World) (hi : Ints w w.heap.size A c l) (he : idxErr l = 0) (hf : f < l.length) (ht : t < l.length) (m0 : 0 ≤ m) (m1 : m ≤ 1000) (hlow : m ≤ l.getD f 0) (hfull : (giveTo l f t m).getD t 0 ≤ 1000) (hhalf : 2 * m ≤ l.getD f 0 - l.getD t 0) :
    Calls Try.prog 14 #[.slice A l.length c, .int .i64 f, .int .i64 t, .int .i64 m] w fun e w' => e = .returned (.bool true) ∧ Below w.heap.size w w' := by
  have HI := Lib.hid hi; clear hi
  have HLOW := Lib.hid hlow
  have HFULL := Lib.hid hfull
  obtain ⟨bb, off, hA, hbb, hcells⟩ := HI.out.at_ hf
  have HCF0 := hcells f hf
  have HCT0 := hcells t ht
  have hmem1 := getD_mem l f hf
  have hmem2 := getD_mem l t ht
  obtain ⟨g1, g2, g3, g4⟩ := idx_given l f t m he hf ht m0 hhalf
  obtain ⟨zt, hzt⟩ : ∃ v, idxT (giveTo l f t m) = v := ⟨_, rfl⟩
  obtain ⟨zb, hzb⟩ : ∃ v, idxB (giveTo l f t m) = v := ⟨_, rfl⟩
  obtain ⟨zg, hzg⟩ : ∃ v, gapL (giveTo l f t m) = v := ⟨_, rfl⟩
  have hzf := (idx_laws _ g1).1
  rw [hzt, hzb] at g3 hzf
  rw [hzg] at g4
  have G1 := Lib.hid g1
  have G2 := Lib.hid g2
  have ZT := Lib.hid hzt
  have ZB := Lib.hid hzb
  have ZG := Lib.hid hzg
  have ZF := Lib.hid hzf
  clear g1 g2 hzt hzb hzg hzf
  obtain ⟨x, hx⟩ : ∃ x, l.getD f 0 = x := ⟨_, rfl⟩
  obtain ⟨y, hy⟩ : ∃ x, l.getD t 0 = x := ⟨_, rfl⟩
  rw [hx] at HCF0 hlow hhalf hmem1
  rw [hy] at HCT0 hhalf hmem2
  have HCF := Lib.hid HCF0
  have HCT := Lib.hid HCT0
  clear HCF0 HCT0 hcells hx hy hfull
  subst hA
  have hf0 : (0 : Int) ≤ (f : Int) := by omega
  have hf1 : (f : Int) < l.length := by omega
  have ht0 : (0 : Int) ≤ (t : Int) := by omega
  have ht1 : (t : Int) < l.length := by omega
  have HM1 := Lib.hid hmem1
  have HM2 := Lib.hid hmem2
  clear hmem1 hmem2
  have HE := Lib.hid he
  obtain ⟨hf9, ht9⟩ := idx_parts he
  obtain ⟨h0, h6, hbad⟩ := few_ok hf9
  have HF := Lib.hid hf9
  have HB := Lib.hid (badTo_in hbad)
  obtain ⟨vt, hvt⟩ : ∃ v, idxT l = v := ⟨_, rfl⟩
  obtain ⟨vb, hvb⟩ : ∃ v, idxB l = v := ⟨_, rfl⟩
  obtain ⟨gg, hgg⟩ : ∃ v, gapL l = v := ⟨_, rfl⟩
  have hl := idx_laws l he
  rw [hvt, hvb, hgg] at hl
  obtain ⟨l1, l2, l3, l4⟩ := hl
  obtain ⟨va, hva⟩ : ∃ v, cmpI (1 * vb) (vt * l.length) = v := ⟨_, rfl⟩
  obtain ⟨vc, hvc⟩ : ∃ v, cmpI (vt * 1) (1 * vb) = v := ⟨_, rfl⟩
  rw [hva] at l2
  rw [hvc] at l3 l4
  have hlo := low_one l.length (by omega)
  have hin : FracIn 1 l.length := ⟨by omega, by omega, by omega, by omega⟩
  have hfe : fracErr 1 (l.length : Int) = 0 := by
    have := low_err 1 l.length (by omega) (by omega) (by omega) (by omega)
    rwa [hlo.1, hlo.2] at this
  have h11 : fracErr 1 1 = 0 := by decide
  have VT := Lib.hid hvt
  have VB := Lib.hid hvb
  have VG := Lib.hid hgg
  have VA := Lib.hid hva
  have VC := Lib.hid hvc
  have L1 := Lib.hid l1
  have L4 := Lib.hid l4
  have HLO := Lib.hid hlo
  have HIN := Lib.hid hin
  have HFE := Lib.hid hfe
  have H11 := Lib.hid h11
  clear hf9 ht9 hbad hvt hvb hgg hva hvc l1 l4 hlo hin hfe h11
  have BEL : Hid (Below w.heap.size w w) := Lib.hid (Below.refl _ _)
  have yB : w.heap.size ≤ w.heap.size := Nat.le_refl _
  go_enter Try.func14, Try.ntmps14
  go_wp2_with fail
  refine (index_ok (some ⟨w.heap.size, 0, none⟩) 2 [1, 0] _ (Ints.ofBlk (t := 3) (l := [1, 0]) (Blk.new' _ _ _ (by simp)) (by simp)) idx10.1 1 2 idx10.2.1 idx10.2.2).mono ?_; rintro e w1 ⟨rfl, hb1⟩
  have z_w1 : w.heap.size ≤ w1.heap.size := Nat.le_trans (by first | with_reducible exact Nat.le_refl _ | (simp; done) | (simp; omega) | (simp [World.setCell]; done)) hb1.size
  replace BEL : Hid (Below w.heap.size w w1) := Lib.hid (Below.trans (by repeat (first | with_reducible exact BEL.out | with_reducible apply Below.alloc | with_reducible apply Below.setCell | with_reducible apply Below.drew | with_reducible apply below_drewN | (first | omega | (focus (simp; done)) | (focus (simp; omega)) | (focus (simp [World.setCell]; omega))))) (hb1.mono (by (first | omega | (focus (simp; done)) | (focus (simp; omega)) | (focus (simp [World.setCell]; omega))))))
  have y_w1 : w.heap.size ≤ w1.heap.size := BEL.out.size
  clear hb1
  go_wp2_with fail
  refine (index_ok (some ⟨bb, off, none⟩) c l _ ((HI.out.below (by repeat (first | with_reducible exact BEL.out | with_reducible apply Below.alloc | with_reducible apply Below.setCell | with_reducible apply Below.drew | with_reducible apply below_drewN | (first | omega | (focus (simp; done)) | (focus (simp; omega)) | (focus (simp [World.setCell]; omega))))) (Nat.le_refl _)).more (by (first | omega | (focus (simp; done)) | (focus (simp; omega)) | (focus (simp [World.setCell]; omega))))) HE.out vt vb VT.out VB.out).mono ?_; rintro e w2 ⟨rfl, hb2⟩
  have z_w2 : w1.heap.size ≤ w2.heap.size := Nat.le_trans (by first | with_reducible exact Nat.le_refl _ | (simp; done) | (simp; omega) | (simp [World.setCell]; done)) hb2.size
  replace BEL : Hid (Below w.heap.size w w2) := Lib.hid (Below.trans (by repeat (first | with_reducible exact BEL.out | with_reducible apply Below.alloc | with_reducible apply Below.setCell | with_reducible apply Below.drew | with_reducible apply below_drewN | (first | omega | (focus (simp; done)) | (focus (simp; omega)) | (focus (simp [World.setCell]; omega))))) (hb2.mono (by (first | omega | (focus (simp; done)) | (focus (simp; omega)) | (focus (simp [World.setCell]; omega))))))
  have y_w2 : w.heap.size ≤ w2.heap.size := BEL.out.size
  clear hb2
  go_wp2_with fail
  refine (of_in 1 l.length 1 l.length _ HIN.out HLO.out.1 HLO.out.2).mono ?_; rintro e w3 ⟨rfl, hb3⟩
  have z_w3 : w2.heap.size ≤ w3.heap.size := Nat.le_trans (by first | with_reducible exact Nat.le_refl _ | (simp; done) | (simp; omega) | (simp [World.setCell]; done)) hb3.size
  have HX := Lib.hid (show Blk w3 (w2.heap.size) 77 _ from by (with_reducible apply Blk.below (hb := hb3); (repeat (first | (with_reducible apply Blk.new'; first | with_reducible rfl | (focus (simp; done)) | (focus (simp; omega))) | with_reducible apply Blk.s3_0 | with_reducible apply Blk.s3_1 | with_reducible apply Blk.s3_2 | with_reducible apply Blk.s2_0 | with_reducible apply Blk.s2_1 | with_reducible apply Blk.s4_0 | with_reducible apply Blk.s4_1 | with_reducible apply Blk.s4_2 | with_reducible apply Blk.s4_3 | with_reducible apply Blk.s1_0 | with_reducible apply Blk.set_ | with_reducible apply Blk.far | with_reducible apply Blk.alloc | with_reducible apply Blk.drew | with_reducible apply Blk.drewN | (first | omega | (focus (simp; done)) | (focus (simp; omega)) | (focus (simp [World.setCell]; omega)))))))
  have q_X_w3 : w2.heap.size < w3.heap.size := HX.out.lt
  replace BEL : Hid (Below w.heap.size w w3) := Lib.hid (Below.trans (by repeat (first | with_reducible exact BEL.out | with_reducible apply Below.alloc | with_reducible apply Below.setCell | with_reducible apply Below.drew | with_reducible apply below_drewN | (first | omega | (focus (simp; done)) | (focus (simp; omega)) | (focus (simp [World.setCell]; omega))))) (hb3.mono (by (first | omega | (focus (simp; done)) | (focus (simp; omega)) | (focus (simp [World.setCell]; omega))))))
  have y_w3 : w.heap.size ≤ w3.heap.size := BEL.out.size
  clear hb3
  obtain ⟨pX0, pX1, fX0, fX1, zX⟩ := HX.out.two
  have zX_1 : w2.heap.size < w3.heap.size + 1 := by omega
  have zX_2 : w2.heap.size < w3.heap.size + 1 + 1 := by omega
  have zX_3 : w2.heap.size < w3.heap.size + 1 + 1 + 1 := by omega
  go_wp2_with fail
  refine (fcompare_yes 1 l.length vt vb va _ HFE.out L1.out VA.out).mono ?_; rintro e w4 ⟨rfl, hb4⟩
  have z_w4 : w3.heap.size ≤ w4.heap.size := Nat.le_trans (by first | with_reducible exact Nat.le_refl _ | (simp; done) | (simp; omega) | (simp [World.setCell]; done)) hb4.size
  replace HX := Lib.hid (show Blk w4 (w2.heap.size) 77 _ from by (with_reducible apply Blk.below (hb := hb4); (repeat (first | with_reducible exact HX.out | (with_reducible apply Blk.new'; first | with_reducible rfl | (focus (simp; done)) | (focus (simp; omega))) | with_reducible apply Blk.s3_0 | with_reducible apply Blk.s3_1 | with_reducible apply Blk.s3_2 | with_reducible apply Blk.s2_0 | with_reducible apply Blk.s2_1 | with_reducible apply Blk.s4_0 | with_reducible apply Blk.s4_1 | with_reducible apply Blk.s4_2 | with_reducible apply Blk.s4_3 | with_reducible apply Blk.s1_0 | with_reducible apply Blk.set_ | with_reducible apply Blk.far | with_reducible apply Blk.alloc | with_reducible apply Blk.drew | with_reducible apply Blk.drewN | (first | omega | (focus (simp; done)) | (focus (simp; omega)) | (focus (simp [World.setCell]; omega)))))))
  replace BEL : Hid (Below w.heap.size w w4) := Lib.hid (Below.trans (by repeat (first | with_reducible exact BEL.out | with_reducible apply Below.alloc | with_reducible apply Below.setCell | with_reducible apply Below.drew | with_reducible apply below_drewN | (first | omega | (focus (simp; done)) | (focus (simp; omega)) | (focus (simp [World.setCell]; omega))))) (hb4.mono (by (first | omega | (focus (simp; done)) | (focus (simp; omega)) | (focus (simp [World.setCell]; omega))))))
  have y_w4 : w.heap.size ≤ w4.heap.size := BEL.out.size
  clear hb4
  clear pX0 pX1 fX0 fX1 zX zX_1 zX_2 zX_3
  obtain ⟨pX0, pX1, fX0, fX1, zX⟩ := HX.out.two
  have zX_1 : w2.heap.size < w4.heap.size + 1 := by omega
  have zX_2 : w2.heap.size < w4.heap.size + 1 + 1 := by omega
  have zX_3 : w2.heap.size < w4.heap.size + 1 + 1 + 1 := by omega
  go_wp2_with fail
  refine (fcompare_yes vt vb 1 1 vc _ L1.out H11.out VC.out).mono ?_; rintro e w5 ⟨rfl, hb5⟩
  have z_w5 : w4.heap.size ≤ w5.heap.size := Nat.le_trans (by first | with_reducible exact Nat.le_refl _ | (simp; done) | (simp; omega) | (simp [World.setCell]; done)) hb5.size
  replace HX := Lib.hid (show Blk w5 (w2.heap.size) 77 _ from by (with_reducible apply Blk.below (hb := hb5); (repeat (first | with_reducible exact HX.out | (with_reducible apply Blk.new'; first | with_reducible rfl | (focus (simp; done)) | (focus (simp; omega))) | with_reducible apply Blk.s3_0 | with_reducible apply Blk.s3_1 | with_reducible apply Blk.s3_2 | with_reducible apply Blk.s2_0 | with_reducible apply Blk.s2_1 | with_reducible apply Blk.s4_0 | with_reducible apply Blk.s4_1 | with_reducible apply Blk.s4_2 | with_reducible apply Blk.s4_3 | with_reducible apply Blk.s1_0 | with_reducible apply Blk.set_ | with_reducible apply Blk.far | with_reducible apply Blk.alloc | with_reducible apply Blk.drew | with_reducible apply Blk.drewN | (first | omega | (focus (simp; done)) | (focus (simp; omega)) | (focus (simp [World.setCell]; omega)))))))
  replace BEL : Hid (Below w.heap.size w w5) := Lib.hid (Below.trans (by repeat (first | with_reducible exact BEL.out | with_reducible apply Below.alloc | with_reducible apply Below.setCell | with_reducible apply Below.drew | with_reducible apply below_drewN | (first | omega | (focus (simp; done)) | (focus (simp; omega)) | (focus (simp [World.setCell]; omega))))) (hb5.mono (by (first | omega | (focus (simp; done)) | (focus (simp; omega)) | (focus (simp [World.setCell]; omega))))))
  have y_w5 : w.heap.size ≤ w5.heap.size := BEL.out.size
  clear hb5
  clear pX0 pX1 fX0 fX1 zX zX_1 zX_2 zX_3
  obtain ⟨pX0, pX1, fX0, fX1, zX⟩ := HX.out.two
  have zX_1 : w2.heap.size < w5.heap.size + 1 := by omega
  have zX_2 : w2.heap.size < w5.heap.size + 1 + 1 := by omega
  have zX_3 : w2.heap.size < w5.heap.size + 1 + 1 + 1 := by omega
  go_wp2_with fail
  refine (egap_is (some ⟨bb, off, none⟩) c _ l w.heap.size _ (HI.out.below (by repeat (first | with_reducible exact BEL.out | with_reducible apply Below.alloc | with_reducible apply Below.setCell | with_reducible apply Below.drew | with_reducible apply below_drewN | (first | omega | (focus (simp; done)) | (focus (simp; omega)) | (focus (simp [World.setCell]; omega))))) (Nat.le_refl _)) HF.out gg VG.out rfl).mono ?_; rintro e w' ⟨rfl, rfl⟩
  obtain ⟨x0, x1⟩ := HB.out x HM1.out
  obtain ⟨y0, y1⟩ := HB.out y HM2.out
  obtain ⟨vo, hvo⟩ : ∃ v, cmpI (vt * zb) (zt * vb) = v := ⟨_, rfl⟩
  have g3' : vo ≤ 0 := by rw [← hvo, ← VT.out, ← VB.out]; exact g3
  have g4' : zg ≤ gg := by rw [← VG.out]; exact g4
  have VO := Lib.hid hvo
  clear g3 g4 hvo
  by_cases hg0 : gg = 0
  · have evc : vc = 0 := L4.out.2 hg0
    subst hg0 evc
    go_wp2_with fail
    refine (egive_fine (some ⟨bb, off, none⟩) c l f t m _ ((HI.out.below (by repeat (first | with_reducible exact BEL.out | with_reducible apply Below.alloc | with_reducible apply Below.setCell | with_reducible apply Below.drew | with_reducible apply below_drewN | (first | omega | (focus (simp; done)) | (focus (simp; omega)) | (focus (simp [World.setCell]; omega))))) (Nat.le_refl _)).more (by (first | omega | (focus (simp; done)) | (focus (simp; omega)) | (focus (simp [World.setCell]; omega))))) HF.out hf ht m0 m1 HLOW.out HFULL.out).mono ?_; rintro e w6 ⟨u2, rfl, ho2, hb6⟩
    have HO2 := Lib.hid ho2; clear ho2
    have z_w6 : w5.heap.size ≤ w6.heap.size := Nat.le_trans (by first | with_reducible exact Nat.le_refl _ | (simp; done) | (simp; omega) | (simp [World.setCell]; done)) hb6.size
    replace HX := Lib.hid (show Blk w6 (w2.heap.size) 77 _ from by (with_reducible apply Blk.below (hb := hb6); (repeat (first | with_reducible exact HX.out | (with_reducible apply Blk.new'; first | with_reducible rfl | (focus (simp; done)) | (focus (simp; omega))) | with_reducible apply Blk.s3_0 | with_reducible apply Blk.s3_1 | with_reducible apply Blk.s3_2 | with_reducible apply Blk.s2_0 | with_reducible apply Blk.s2_1 | with_reducible apply Blk.s4_0 | with_reducible apply Blk.s4_1 | with_reducible apply Blk.s4_2 | with_reducible apply Blk.s4_3 | with_reducible apply Blk.s1_0 | with_reducible apply Blk.set_ | with_reducible apply Blk.far | with_reducible apply Blk.alloc | with_reducible apply Blk.drew | with_reducible apply Blk.drewN | (first | omega | (focus (simp; done)) | (focus (simp; omega)) | (focus (simp [World.setCell]; omega)))))))
    replace BEL : Hid (Below w.heap.size w w6) := Lib.hid (Below.trans (by repeat (first | with_reducible exact BEL.out | with_reducible apply Below.alloc | with_reducible apply Below.setCell | with_reducible apply Below.drew | with_reducible apply below_drewN | (first | omega | (focus (simp; done)) | (focus (simp; omega)) | (focus (simp [World.setCell]; omega))))) (hb6.mono (by (first | omega | (focus (simp; done)) | (focus (simp; omega)) | (focus (simp [World.setCell]; omega))))))
    have y_w6 : w.heap.size ≤ w6.heap.size := BEL.out.size
    clear hb6
    clear pX0 pX1 fX0 fX1 zX zX_1 zX_2 zX_3
    obtain ⟨pX0, pX1, fX0, fX1, zX⟩ := HX.out.two
    have zX_1 : w2.heap.size < w6.heap.size + 1 := by omega
    have zX_2 : w2.heap.size < w6.heap.size + 1 + 1 := by omega
    have zX_3 : w2.heap.size < w6.heap.size + 1 + 1 + 1 := by omega
    obtain ⟨A2, c2, rfl, hln2, hi2⟩ := owns_ints' HO2.out
    have HI2 := Lib.hid hi2
    have HLN2 := Lib.hid hln2
    clear hln2 hi2
    have hcf1 : w6.cell? ⟨bb, off + f, none⟩ = some (.int .i64 x) := (BEL.out.cell (p := ⟨bb, off + f, none⟩) hbb).trans HCF.out
    have hct1 : w6.cell? ⟨bb, off + t, none⟩ = some (.int .i64 y) := (BEL.out.cell (p := ⟨bb, off + t, none⟩) hbb).trans HCT.out
    have wx1 : IntKind.i64.wrap (x - y) = x - y := IntWalk.i64_in _ (by omega)
    have wx2 : IntKind.i64.wrap (2 * m) = 2 * m := IntWalk.i64_in _ (by omega)
    go_wp2
    go_quiet (fail)
    clear wx1 wx2
    clear hcf1 hct1
    go_wp2_with fail
    refine (index_ok' _ _ _ (giveTo l f t m) _ ((HI2.out.below (by exact below_drewN (Below.refl _ _) _) (Nat.le_refl _)).more (by exact Nat.le_refl _)) G1.out zt zb ZT.out ZB.out HLN2.out).mono ?_; rintro e w7 ⟨rfl, hb7⟩
    have HI2 := Lib.hid (HI2.out.below (Below.trans (below_drewN (Below.refl _ _) _) (hb7.mono (Nat.le_refl _))) (Nat.le_refl _))
    have z_w7 : w6.heap.size ≤ w7.heap.size := Nat.le_trans (by first | with_reducible exact Nat.le_refl _ | (simp; done) | (simp; omega) | (simp [World.setCell]; done)) hb7.size
    replace HX := Lib.hid (show Blk w7 (w2.heap.size) 77 _ from by (with_reducible apply Blk.below (hb := hb7); (repeat (first | with_reducible exact HX.out | (with_reducible apply Blk.new'; first | with_reducible rfl | (focus (simp; done)) | (focus (simp; omega))) | with_reducible apply Blk.s3_0 | with_reducible apply Blk.s3_1 | with_reducible apply Blk.s3_2 | with_reducible apply Blk.s2_0 | with_reducible apply Blk.s2_1 | with_reducible apply Blk.s4_0 | with_reducible apply Blk.s4_1 | with_reducible apply Blk.s4_2 | with_reducible apply Blk.s4_3 | with_reducible apply Blk.s1_0 | with_reducible apply Blk.set_ | with_reducible apply Blk.far | with_reducible apply Blk.alloc | with_reducible apply Blk.drew | with_reducible apply Blk.drewN | (first | omega | (focus (simp; done)) | (focus (simp; omega)) | (focus (simp [World.setCell]; omega)))))))
    replace BEL : Hid (Below w.heap.size w w7) := Lib.hid (Below.trans (by repeat (first | with_reducible exact BEL.out | with_reducible apply Below.alloc | with_reducible apply Below.setCell | with_reducible apply Below.drew | with_reducible apply below_drewN | (first | omega | (focus (simp; done)) | (focus (simp; omega)) | (focus (simp [World.setCell]; omega))))) (hb7.mono (by (first | omega | (focus (simp; done)) | (focus (simp; omega)) | (focus (simp [World.setCell]; omega))))))
    have y_w7 : w.heap.size ≤ w7.heap.size := BEL.out.size
    clear hb7
    clear pX0 pX1 fX0 fX1 zX zX_1 zX_2 zX_3
    obtain ⟨pX0, pX1, fX0, fX1, zX⟩ := HX.out.two
    have zX_1 : w2.heap.size < w7.heap.size + 1 := by omega
    have zX_2 : w2.heap.size < w7.heap.size + 1 + 1 := by omega
    have zX_3 : w2.heap.size < w7.heap.size + 1 + 1 + 1 := by omega
    go_wp2_with fail
    refine (fcompare_yes vt vb zt zb vo _ L1.out ZF.out VO.out).mono ?_; rintro e w8 ⟨rfl, hb8⟩
    have HI2 := Lib.hid (HI2.out.below (Below.trans (by repeat (first | with_reducible exact Below.refl _ _ | with_reducible apply Below.alloc | (first | omega | (focus (simp; done)) | (focus (simp; omega)) | (focus (simp [World.setCell]; omega))))) (hb8.mono (by (first | omega | (focus (simp; done)) | (focus (simp; omega)) | (focus (simp [World.setCell]; omega)))))) (Nat.le_refl _))
    have z_w8 : w7.heap.size ≤ w8.heap.size := Nat.le_trans (by first | with_reducible exact Nat.le_refl _ | (simp; done) | (simp; omega) | (simp [World.setCell]; done)) hb8.size
    have HY := Lib.hid (show Blk w8 (w7.heap.size) 77 _ from by (with_reducible apply Blk.below (hb := hb8); (repeat (first | (with_reducible apply Blk.new'; first | with_reducible rfl | (focus (simp; done)) | (focus (simp; omega))) | with_reducible apply Blk.s3_0 | with_reducible apply Blk.s3_1 | with_reducible apply Blk.s3_2 | with_reducible apply Blk.s2_0 | with_reducible apply Blk.s2_1 | with_reducible apply Blk.s4_0 | with_reducible apply Blk.s4_1 | with_reducible apply Blk.s4_2 | with_reducible apply Blk.s4_3 | with_reducible apply Blk.s1_0 | with_reducible apply Blk.set_ | with_reducible apply Blk.far | with_reducible apply Blk.alloc | with_reducible apply Blk.drew | with_reducible apply Blk.drewN | (first | omega | (focus (simp; done)) | (focus (simp; omega)) | (focus (simp [World.setCell]; omega)))))))
    replace HX := Lib.hid (show Blk w8 (w2.heap.size) 77 _ from by (with_reducible apply Blk.below (hb := hb8); (repeat (first | with_reducible exact HX.out | (with_reducible apply Blk.new'; first | with_reducible rfl | (focus (simp; done)) | (focus (simp; omega))) | with_reducible apply Blk.s3_0 | with_reducible apply Blk.s3_1 | with_reducible apply Blk.s3_2 | with_reducible apply Blk.s2_0 | with_reducible apply Blk.s2_1 | with_reducible apply Blk.s4_0 | with_reducible apply Blk.s4_1 | with_reducible apply Blk.s4_2 | with_reducible apply Blk.s4_3 | with_reducible apply Blk.s1_0 | with_reducible apply Blk.set_ | with_reducible apply Blk.far | with_reducible apply Blk.alloc | with_reducible apply Blk.drew | with_reducible apply Blk.drewN | (first | omega | (focus (simp; done)) | (focus (simp; omega)) | (focus (simp [World.setCell]; omega)))))))
    have q_Y_w8 : w7.heap.size < w8.heap.size := HY.out.lt
    replace BEL : Hid (Below w.heap.size w w8) := Lib.hid (Below.trans (by repeat (first | with_reducible exact BEL.out | with_reducible apply Below.alloc | with_reducible apply Below.setCell | with_reducible apply Below.drew | with_reducible apply below_drewN | (first | omega | (focus (simp; done)) | (focus (simp; omega)) | (focus (simp [World.setCell]; omega))))) (hb8.mono (by (first | omega | (focus (simp; done)) | (focus (simp; omega)) | (focus (simp [World.setCell]; omega))))))
    have y_w8 : w.heap.size ≤ w8.heap.size := BEL.out.size
    clear hb8
    clear pX0 pX1 fX0 fX1 zX zX_1 zX_2 zX_3
    obtain ⟨pX0, pX1, fX0, fX1, zX⟩ := HX.out.two
    have zX_1 : w2.heap.size < w8.heap.size + 1 := by omega
    have zX_2 : w2.heap.size < w8.heap.size + 1 + 1 := by omega
    have zX_3 : w2.heap.size < w8.heap.size + 1 + 1 + 1 := by omega
    obtain ⟨pY0, pY1, fY0, fY1, zY⟩ := HY.out.two
    have zY_1 : w7.heap.size < w8.heap.size + 1 := by omega
    have zY_2 : w7.heap.size < w8.heap.size + 1 + 1 := by omega
    have zY_3 : w7.heap.size < w8.heap.size + 1 + 1 + 1 := by omega
    go_wp2_with fail
    refine (egap_is _ _ _ (giveTo l f t m) _ _ HI2.out G2.out zg ZG.out HLN2.out).mono ?_; rintro e w' ⟨rfl, rfl⟩
    go_wp2
    go_ret
    exact ⟨rfl, (by repeat (first | with_reducible exact BEL.out | with_reducible apply Below.alloc | with_reducible apply Below.setCell | with_reducible apply Below.drew | with_reducible apply below_drewN | (first | omega | (focus (simp; done)) | (focus (simp; omega)) | (focus (simp [World.setCell]; omega)))))⟩
  · have hvc0 : vc ≠ 0 := fun h => hg0 (L4.out.1 h)
    have bg : (gg == 0) = false := beq_eq_false_iff_ne.2 hg0
    have bc : (vc == 0) = false := beq_eq_false_iff_ne.2 hvc0
    go_wp2_with fail
    refine (egive_fine (some ⟨bb, off, none⟩) c l f t m _ ((HI.out.below (by repeat (first | with_reducible exact BEL.out | with_reducible apply Below.alloc | with_reducible apply Below.setCell | with_reducible apply Below.drew | with_reducible apply below_drewN | (first | omega | (focus (simp; done)) | (focus (simp; omega)) | (focus (simp [World.setCell]; omega))))) (Nat.le_refl _)).more (by (first | omega | (focus (simp; done)) | (focus (simp; omega)) | (focus (simp [World.setCell]; omega))))) HF.out hf ht m0 m1 HLOW.out HFULL.out).mono ?_; rintro e w6 ⟨u2, rfl, ho2, hb6⟩
    have HO2 := Lib.hid ho2; clear ho2
    have z_w6 : w5.heap.size ≤ w6.heap.size := Nat.le_trans (by first | with_reducible exact Nat.le_refl _ | (simp; done) | (simp; omega) | (simp [World.setCell]; done)) hb6.size
    replace HX := Lib.hid (show Blk w6 (w2.heap.size) 77 _ from by (with_reducible apply Blk.below (hb := hb6); (repeat (first | with_reducible exact HX.out | (with_reducible apply Blk.new'; first | with_reducible rfl | (focus (simp; done)) | (focus (simp; omega))) | with_reducible apply Blk.s3_0 | with_reducible apply Blk.s3_1 | with_reducible apply Blk.s3_2 | with_reducible apply Blk.s2_0 | with_reducible apply Blk.s2_1 | with_reducible apply Blk.s4_0 | with_reducible apply Blk.s4_1 | with_reducible apply Blk.s4_2 | with_reducible apply Blk.s4_3 | with_reducible apply Blk.s1_0 | with_reducible apply Blk.set_ | with_reducible apply Blk.far | with_reducible apply Blk.alloc | with_reducible apply Blk.drew | with_reducible apply Blk.drewN | (first | omega | (focus (simp; done)) | (focus (simp; omega)) | (focus (simp [World.setCell]; omega)))))))
    replace BEL : Hid (Below w.heap.size w w6) := Lib.hid (Below.trans (by repeat (first | with_reducible exact BEL.out | with_reducible apply Below.alloc | with_reducible apply Below.setCell | with_reducible apply Below.drew | with_reducible apply below_drewN | (first | omega | (focus (simp; done)) | (focus (simp; omega)) | (focus (simp [World.setCell]; omega))))) (hb6.mono (by (first | omega | (focus (simp; done)) | (focus (simp; omega)) | (focus (simp [World.setCell]; omega))))))
    have y_w6 : w.heap.size ≤ w6.heap.size := BEL.out.size
    clear hb6
    clear pX0 pX1 fX0 fX1 zX zX_1 zX_2 zX_3
    obtain ⟨pX0, pX1, fX0, fX1, zX⟩ := HX.out.two
    have zX_1 : w2.heap.size < w6.heap.size + 1 := by omega
    have zX_2 : w2.heap.size < w6.heap.size + 1 + 1 := by omega
    have zX_3 : w2.heap.size < w6.heap.size + 1 + 1 + 1 := by omega
    obtain ⟨A2, c2, rfl, hln2, hi2⟩ := owns_ints' HO2.out
    have HI2 := Lib.hid hi2
    have HLN2 := Lib.hid hln2
    clear hln2 hi2
    have hcf1 : w6.cell? ⟨bb, off + f, none⟩ = some (.int .i64 x) := (BEL.out.cell (p := ⟨bb, off + f, none⟩) hbb).trans HCF.out
    have hct1 : w6.cell? ⟨bb, off + t, none⟩ = some (.int .i64 y) := (BEL.out.cell (p := ⟨bb, off + t, none⟩) hbb).trans HCT.out
    have wx1 : IntKind.i64.wrap (x - y) = x - y := IntWalk.i64_in _ (by omega)
    have wx2 : IntKind.i64.wrap (2 * m) = 2 * m := IntWalk.i64_in _ (by omega)
    go_wp2
    go_quiet (fail)
    clear wx1 wx2
    clear hcf1 hct1
    go_wp2_with fail
    refine (index_ok' _ _ _ (giveTo l f t m) _ ((HI2.out.below (by exact below_drewN (Below.refl _ _) _) (Nat.le_refl _)).more (by exact Nat.le_refl _)) G1.out zt zb ZT.out ZB.out HLN2.out).mono ?_; rintro e w7 ⟨rfl, hb7⟩
    have HI2 := Lib.hid (HI2.out.below (Below.trans (below_drewN (Below.refl _ _) _) (hb7.mono (Nat.le_refl _))) (Nat.le_refl _))
    have z_w7 : w6.heap.size ≤ w7.heap.size := Nat.le_trans (by first | with_reducible exact Nat.le_refl _ | (simp; done) | (simp; omega) | (simp [World.setCell]; done)) hb7.size
    replace HX := Lib.hid (show Blk w7 (w2.heap.size) 77 _ from by (with_reducible apply Blk.below (hb := hb7); (repeat (first | with_reducible exact HX.out | (with_reducible apply Blk.new'; first | with_reducible rfl | (focus (simp; done)) | (focus (simp; omega))) | with_reducible apply Blk.s3_0 | with_reducible apply Blk.s3_1 | with_reducible apply Blk.s3_2 | with_reducible apply Blk.s2_0 | with_reducible apply Blk.s2_1 | with_reducible apply Blk.s4_0 | with_reducible apply Blk.s4_1 | with_reducible apply Blk.s4_2 | with_reducible apply Blk.s4_3 | with_reducible apply Blk.s1_0 | with_reducible apply Blk.set_ | with_reducible apply Blk.far | with_reducible apply Blk.alloc | with_reducible apply Blk.drew | with_reducible apply Blk.drewN | (first | omega | (focus (simp; done)) | (focus (simp; omega)) | (focus (simp [World.setCell]; omega)))))))
    replace BEL : Hid (Below w.heap.size w w7) := Lib.hid (Below.trans (by repeat (first | with_reducible exact BEL.out | with_reducible apply Below.alloc | with_reducible apply Below.setCell | with_reducible apply Below.drew | with_reducible apply below_drewN | (first | omega | (focus (simp; done)) | (focus (simp; omega)) | (focus (simp [World.setCell]; omega))))) (hb7.mono (by (first | omega | (focus (simp; done)) | (focus (simp; omega)) | (focus (simp [World.setCell]; omega))))))
    have y_w7 : w.heap.size ≤ w7.heap.size := BEL.out.size
    clear hb7
    clear pX0 pX1 fX0 fX1 zX zX_1 zX_2 zX_3
    obtain ⟨pX0, pX1, fX0, fX1, zX⟩ := HX.out.two
    have zX_1 : w2.heap.size < w7.heap.size + 1 := by omega
    have zX_2 : w2.heap.size < w7.heap.size + 1 + 1 := by omega
    have zX_3 : w2.heap.size < w7.heap.size + 1 + 1 + 1 := by omega
    go_wp2_with fail
    refine (fcompare_yes vt vb zt zb vo _ L1.out ZF.out VO.out).mono ?_; rintro e w8 ⟨rfl, hb8⟩
    have HI2 := Lib.hid (HI2.out.below (Below.trans (by repeat (first | with_reducible exact Below.refl _ _ | with_reducible apply Below.alloc | (first | omega | (focus (simp; done)) | (focus (simp; omega)) | (focus (simp [World.setCell]; omega))))) (hb8.mono (by (first | omega | (focus (simp; done)) | (focus (simp; omega)) | (focus (simp [World.setCell]; omega)))))) (Nat.le_refl _))
    have z_w8 : w7.heap.size ≤ w8.heap.size := Nat.le_trans (by first | with_reducible exact Nat.le_refl _ | (simp; done) | (simp; omega) | (simp [World.setCell]; done)) hb8.size
    have HY := Lib.hid (show Blk w8 (w7.heap.size) 77 _ from by (with_reducible apply Blk.below (hb := hb8); (repeat (first | (with_reducible apply Blk.new'; first | with_reducible rfl | (focus (simp; done)) | (focus (simp; omega))) | with_reducible apply Blk.s3_0 | with_reducible apply Blk.s3_1 | with_reducible apply Blk.s3_2 | with_reducible apply Blk.s2_0 | with_reducible apply Blk.s2_1 | with_reducible apply Blk.s4_0 | with_reducible apply Blk.s4_1 | with_reducible apply Blk.s4_2 | with_reducible apply Blk.s4_3 | with_reducible apply Blk.s1_0 | with_reducible apply Blk.set_ | with_reducible apply Blk.far | with_reducible apply Blk.alloc | with_reducible apply Blk.drew | with_reducible apply Blk.drewN | (first | omega | (focus (simp; done)) | (focus (simp; omega)) | (focus (simp [World.setCell]; omega)))))))
    replace HX := Lib.hid (show Blk w8 (w2.heap.size) 77 _ from by (with_reducible apply Blk.below (hb := hb8); (repeat (first | with_reducible exact HX.out | (with_reducible apply Blk.new'; first | with_reducible rfl | (focus (simp; done)) | (focus (simp; omega))) | with_reducible apply Blk.s3_0 | with_reducible apply Blk.s3_1 | with_reducible apply Blk.s3_2 | with_reducible apply Blk.s2_0 | with_reducible apply Blk.s2_1 | with_reducible apply Blk.s4_0 | with_reducible apply Blk.s4_1 | with_reducible apply Blk.s4_2 | with_reducible apply Blk.s4_3 | with_reducible apply Blk.s1_0 | with_reducible apply Blk.set_ | with_reducible apply Blk.far | with_reducible apply Blk.alloc | with_reducible apply Blk.drew | with_reducible apply Blk.drewN | (first | omega | (focus (simp; done)) | (focus (simp; omega)) | (focus (simp [World.setCell]; omega)))))))
    have q_Y_w8 : w7.heap.size < w8.heap.size := HY.out.lt
    replace BEL : Hid (Below w.heap.size w w8) := Lib.hid (Below.trans (by repeat (first | with_reducible exact BEL.out | with_reducible apply Below.alloc | with_reducible apply Below.setCell | with_reducible apply Below.drew | with_reducible apply below_drewN | (first | omega | (focus (simp; done)) | (focus (simp; omega)) | (focus (simp [World.setCell]; omega))))) (hb8.mono (by (first | omega | (focus (simp; done)) | (focus (simp; omega)) | (focus (simp [World.setCell]; omega))))))
    have y_w8 : w.heap.size ≤ w8.heap.size := BEL.out.size
    clear hb8
    clear pX0 pX1 fX0 fX1 zX zX_1 zX_2 zX_3
    obtain ⟨pX0, pX1, fX0, fX1, zX⟩ := HX.out.two
    have zX_1 : w2.heap.size < w8.heap.size + 1 := by omega
    have zX_2 : w2.heap.size < w8.heap.size + 1 + 1 := by omega
    have zX_3 : w2.heap.size < w8.heap.size + 1 + 1 + 1 := by omega
    obtain ⟨pY0, pY1, fY0, fY1, zY⟩ := HY.out.two
    have zY_1 : w7.heap.size < w8.heap.size + 1 := by omega
    have zY_2 : w7.heap.size < w8.heap.size + 1 + 1 := by omega
    have zY_3 : w7.heap.size < w8.heap.size + 1 + 1 + 1 := by omega
    go_wp2_with fail
    refine (egap_is _ _ _ (giveTo l f t m) _ _ HI2.out G2.out zg ZG.out HLN2.out).mono ?_; rintro e w' ⟨rfl, rfl⟩
    go_wp2
    go_ret
    exact ⟨rfl, (by repeat (first | with_reducible exact BEL.out | with_reducible apply Below.alloc | with_reducible apply Below.setCell | with_reducible apply Below.drew | with_reducible apply below_drewN | (first | omega | (focus (simp; done)) | (focus (simp; omega)) | (focus (simp [World.setCell]; omega)))))⟩
theorem evenBetween_walk {w : World} (A : Option Addr) (c : Nat) (l : List Int) (hi : Ints w w.heap.size A c l) (_ : ∀ x ∈ l, (Lit.int .i64 x).wf = true) (f : Int) (_ : (Lit.int .i64 f).wf = true) (t : Int) (_ : (Lit.int .i64 t).wf = true) (m : Int) (_ : (Lit.int .i64 m).wf = true) :
    Calls Try.prog 14 #[.slice A l.length c, .int .i64 f, .int .i64 t, .int .i64 m] w fun e w' => e = .returned (.bool true) ∧ Below w.heap.size w w' := by
  by_cases he : idxErr l = 0
  · by_cases hr : GiveRange l.length f t m ∧ m ≤ l.getD f.toNat 0 ∧ (giveTo l f.toNat t.toNat m).getD t.toNat 0 ≤ 1000
    · obtain ⟨⟨f0, f1, t0, t1, m0, m1⟩, h1, h2⟩ := hr
      obtain ⟨f', rfl⟩ := Int.eq_ofNat_of_zero_le f0
      obtain ⟨t', rfl⟩ := Int.eq_ofNat_of_zero_le t0
      rw [Int.toNat_natCast] at h1
      rw [Int.toNat_natCast, Int.toNat_natCast] at h2
      by_cases hh : l.getD f' 0 - l.getD t' 0 < 2 * m
      · exact evenBetween_more A c l f' t' m w hi he (by omega) (by omega) m0 m1 h1 h2 hh
      · exact evenBetween_in A c l f' t' m w hi he (by omega) (by omega) m0 m1 h1 h2 (by omega)
    · exact evenBetween_err A c l f t m w hi he hr
  · exact evenBetween_bad A c l f t m w hi _ rfl he
end Go.Proofs.Ytkheobdkmmbjnaa
