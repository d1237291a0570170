/- The walk of EvenTimes: it returns true for every input. -/
import Derived.Test.YtkheobdkmmbjnaaDoorEvenLow
import Derived.Test.YtkheobdkmmbjnaaDoorMeterRunNo
import Derived.Test.YtkheobdkmmbjnaaDoorTold
namespace Go.Proofs.YtkheobdkmmbjnaaDoor
open Go.RowKit
attribute [local go_sem ↓] run_min_mn run_max_mx
theorem index_bad (A : Option Addr) (c : Nat) (l : List Int) (w : World) (h : Ints w w.heap.size A c l) (er : Int) (he : idxErr l = er) (hp : er ≠ 0) :
    Calls Tryd.prog 50 #[.slice A l.length c] w fun e w' => e = .returned (.tuple #[.agg #[.int .i64 0, .int .i64 0], .iface 124 (.int .i64 er)]) ∧ Below w.heap.size w w' := by
  unfold idxErr at he
  split at he
  · exact index_err A c l w h er he hp
  · rename_i h0
    split at he
    · subst he
      refine (index_in A c l w h (by simpa using h0)).mono ?_
      rintro e w' ⟨hb, ⟨_, rfl⟩ | ⟨h1, _⟩⟩
      · exact ⟨rfl, hb⟩
      · exact absurd (by assumption) h1
    · exact absurd he.symm hp
theorem index_ok (A : Option Addr) (c : Nat) (l : List Int) (w : World) (h : Ints w w.heap.size A c l) (he : idxErr l = 0) (vt vb : Int) (ht : idxT l = vt) (hb : idxB l = vb) :
    Calls Tryd.prog 50 #[.slice A l.length c] w fun e w' => e = .returned (.tuple #[.agg #[.int .i64 vt, .int .i64 vb], .nilIface]) ∧ Below w.heap.size w w' := by
  subst ht hb
  unfold idxErr at he
  split at he
  · rename_i h0; exact absurd he h0
  · rename_i h0
    split at he
    · omega
    · refine (index_in A c l w h (by simpa using h0)).mono ?_
      rintro e w' ⟨hb, ⟨h1, _⟩ | ⟨_, rfl⟩⟩
      · exact absurd h1 (by assumption)
      · exact ⟨rfl, hb⟩
theorem idx_parts {l : List Int} (h : idxErr l = 0) : fewErr l 1000 = 0 ∧ tot l ≠ 0 := by
  unfold idxErr at h
  split at h
  · rename_i h0; exact absurd h h0
  · rename_i h0
    split at h
    · omega
    · exact ⟨by simpa using h0, by assumption⟩
theorem egap_is (A : Option Addr) (c n : Nat) (l : List Int) (B : Nat) (w : World) (h : Ints w B A c l) (he : fewErr l 1000 = 0) (y : Int) (hy : gapL l = y) (hn : n = l.length) :
    Calls Tryd.prog 51 #[.slice A n c] w fun e w' => e = .returned (.tuple #[.int .i64 y, .nilIface]) ∧ w = w' := by
  subst hy hn; exact egap_in A c l B w h he
theorem index_ok' (A : Option Addr) (c n : Nat) (l : List Int) (w : World) (h : Ints w w.heap.size A c l) (he : idxErr l = 0) (vt vb : Int) (ht : idxT l = vt) (hb : idxB l = vb) (hn : n = l.length) :
    Calls Tryd.prog 50 #[.slice A n c] w fun e w' => e = .returned (.tuple #[.agg #[.int .i64 vt, .int .i64 vb], .nilIface]) ∧ Below w.heap.size w w' := by
  subst hn; exact index_ok A c l w h he vt vb ht hb
set_option maxHeartbeats 4000000 in
set_option maxRecDepth 100000 in
theorem eventimes_bad (A : Option Addr) (c : Nat) (l : List Int) (by_ : Int) (w : World) (hi : Ints w w.heap.size A c l) (hg : Laid w) (er : Int) (he : idxErr l = er) (hp : er ≠ 0) :
    Calls Tryd.prog 10 #[.slice A l.length c, .int .i64 by_] w fun e w' => e = .returned (.bool true) ∧ Below w.heap.size w w' := by
  have LAID := Lib.hid hg; clear hg
  have HI := Lib.hid hi; clear hi
  have HE := Lib.hid he; clear he
  have HP := Lib.hid hp; clear hp
  have BEL : Hid (Below w.heap.size w w) := Lib.hid (Below.refl _ _)
  have yB : w.heap.size ≤ w.heap.size := Nat.le_refl _
  go_enter Tryd.func10, Tryd.ntmps10
  go_wp2_with fail
  refine (index_bad A c l _ ((HI.out.below (by repeat (first | with_reducible exact BEL.out | with_reducible apply Below.alloc | with_reducible apply Below.setCell | with_reducible apply Below.drew | with_reducible apply below_drewN | (first | omega | (focus (simp; done)) | (focus (simp; omega)) | (focus (simp [World.setCell]; omega))))) (Nat.le_refl _)).more (by (first | omega | (focus (simp; done)) | (focus (simp; omega)) | (focus (simp [World.setCell]; omega))))) er HE.out HP.out).mono ?_; rintro e w1 ⟨rfl, hb1⟩
  have z_w1 : w.heap.size ≤ w1.heap.size := Nat.le_trans (by first | with_reducible exact Nat.le_refl _ | (simp; done) | (simp; omega) | (simp [World.setCell]; done)) hb1.size
  replace BEL : Hid (Below w.heap.size w w1) := Lib.hid (Below.trans (by repeat (first | with_reducible exact BEL.out | with_reducible apply Below.alloc | with_reducible apply Below.setCell | with_reducible apply Below.drew | with_reducible apply below_drewN | (first | omega | (focus (simp; done)) | (focus (simp; omega)) | (focus (simp [World.setCell]; omega))))) (hb1.mono (by (first | omega | (focus (simp; done)) | (focus (simp; omega)) | (focus (simp [World.setCell]; omega))))))
  have y_w1 : w.heap.size ≤ w1.heap.size := BEL.out.size
  clear hb1
  go_wp2_with fail
  refine (index_bad (some ⟨w1.heap.size + 1, 0, none⟩) 2 [0, 0] _ (Ints.ofBlk (t := 3) (l := [0, 0]) (Blk.new' _ _ _ (by simp)) (by simp)) 5 rfl (by omega)).mono ?_; rintro e w2 ⟨rfl, hb2⟩
  have z_w2 : w1.heap.size ≤ w2.heap.size := Nat.le_trans (by first | with_reducible exact Nat.le_refl _ | (simp; done) | (simp; omega) | (simp [World.setCell]; done)) hb2.size
  replace BEL : Hid (Below w.heap.size w w2) := Lib.hid (Below.trans (by repeat (first | with_reducible exact BEL.out | with_reducible apply Below.alloc | with_reducible apply Below.setCell | with_reducible apply Below.drew | with_reducible apply below_drewN | (first | omega | (focus (simp; done)) | (focus (simp; omega)) | (focus (simp [World.setCell]; omega))))) (hb2.mono (by (first | omega | (focus (simp; done)) | (focus (simp; omega)) | (focus (simp [World.setCell]; omega))))))
  have y_w2 : w.heap.size ≤ w2.heap.size := BEL.out.size
  clear hb2
  go_wp2_with fail
  refine (same_hit 5 _ (LAID.out.below (by repeat (first | with_reducible exact BEL.out | with_reducible apply Below.alloc | with_reducible apply Below.setCell | with_reducible apply Below.drew | with_reducible apply below_drewN | (first | omega | (focus (simp; done)) | (focus (simp; omega)) | (focus (simp [World.setCell]; omega))))))).mono ?_; rintro e w3 ⟨rfl, hb3⟩
  have z_w3 : w2.heap.size ≤ w3.heap.size := Nat.le_trans (by first | with_reducible exact Nat.le_refl _ | (simp; done) | (simp; omega) | (simp [World.setCell]; done)) hb3.size
  replace BEL : Hid (Below w.heap.size w w3) := Lib.hid (Below.trans (by repeat (first | with_reducible exact BEL.out | with_reducible apply Below.alloc | with_reducible apply Below.setCell | with_reducible apply Below.drew | with_reducible apply below_drewN | (first | omega | (focus (simp; done)) | (focus (simp; omega)) | (focus (simp [World.setCell]; omega))))) (hb3.mono (by (first | omega | (focus (simp; done)) | (focus (simp; omega)) | (focus (simp [World.setCell]; omega))))))
  have y_w3 : w.heap.size ≤ w3.heap.size := BEL.out.size
  clear hb3
  go_wp2
  go_ret
  exact ⟨rfl, (by repeat (first | with_reducible exact BEL.out | with_reducible apply Below.alloc | with_reducible apply Below.setCell | with_reducible apply Below.drew | with_reducible apply below_drewN | (first | omega | (focus (simp; done)) | (focus (simp; omega)) | (focus (simp [World.setCell]; omega)))))⟩
set_option maxHeartbeats 4000000 in
set_option maxRecDepth 100000 in
theorem eventimes_lo (A : Option Addr) (c : Nat) (l : List Int) (by_ : Int) (w : World) (hi : Ints w w.heap.size A c l) (hg : Laid w) (he : idxErr l = 0) (hk : by_ < 1) :
    Calls Tryd.prog 10 #[.slice A l.length c, .int .i64 by_] w fun e w' => e = .returned (.bool true) ∧ Below w.heap.size w w' := by
  have LAID := Lib.hid hg; clear hg
  have HI := Lib.hid hi; clear hi
  have HE := Lib.hid he; clear he
  obtain ⟨vt, hvt⟩ : ∃ v, idxT l = v := ⟨_, rfl⟩
  obtain ⟨vb, hvb⟩ : ∃ v, idxB l = v := ⟨_, rfl⟩
  have VT := Lib.hid hvt
  have VB := Lib.hid hvb
  clear hvt hvb
  have BEL : Hid (Below w.heap.size w w) := Lib.hid (Below.refl _ _)
  have yB : w.heap.size ≤ w.heap.size := Nat.le_refl _
  go_enter Tryd.func10, Tryd.ntmps10
  go_wp2_with fail
  refine (index_ok A c l _ ((HI.out.below (by repeat (first | with_reducible exact BEL.out | with_reducible apply Below.alloc | with_reducible apply Below.setCell | with_reducible apply Below.drew | with_reducible apply below_drewN | (first | omega | (focus (simp; done)) | (focus (simp; omega)) | (focus (simp [World.setCell]; omega))))) (Nat.le_refl _)).more (by (first | omega | (focus (simp; done)) | (focus (simp; omega)) | (focus (simp [World.setCell]; omega))))) HE.out vt vb VT.out VB.out).mono ?_; rintro e w1 ⟨rfl, hb1⟩
  have z_w1 : w.heap.size ≤ w1.heap.size := Nat.le_trans (by first | with_reducible exact Nat.le_refl _ | (simp; done) | (simp; omega) | (simp [World.setCell]; done)) hb1.size
  replace BEL : Hid (Below w.heap.size w w1) := Lib.hid (Below.trans (by repeat (first | with_reducible exact BEL.out | with_reducible apply Below.alloc | with_reducible apply Below.setCell | with_reducible apply Below.drew | with_reducible apply below_drewN | (first | omega | (focus (simp; done)) | (focus (simp; omega)) | (focus (simp [World.setCell]; omega))))) (hb1.mono (by (first | omega | (focus (simp; done)) | (focus (simp; omega)) | (focus (simp [World.setCell]; omega))))))
  have y_w1 : w.heap.size ≤ w1.heap.size := BEL.out.size
  clear hb1
  go_wp2_with fail
  refine (index_bad (some ⟨w1.heap.size + 1, 0, none⟩) 2 [0, 0] _ (Ints.ofBlk (t := 3) (l := [0, 0]) (Blk.new' _ _ _ (by simp)) (by simp)) 5 rfl (by omega)).mono ?_; rintro e w2 ⟨rfl, hb2⟩
  have z_w2 : w1.heap.size ≤ w2.heap.size := Nat.le_trans (by first | with_reducible exact Nat.le_refl _ | (simp; done) | (simp; omega) | (simp [World.setCell]; done)) hb2.size
  replace BEL : Hid (Below w.heap.size w w2) := Lib.hid (Below.trans (by repeat (first | with_reducible exact BEL.out | with_reducible apply Below.alloc | with_reducible apply Below.setCell | with_reducible apply Below.drew | with_reducible apply below_drewN | (first | omega | (focus (simp; done)) | (focus (simp; omega)) | (focus (simp [World.setCell]; omega))))) (hb2.mono (by (first | omega | (focus (simp; done)) | (focus (simp; omega)) | (focus (simp [World.setCell]; omega))))))
  have y_w2 : w.heap.size ≤ w2.heap.size := BEL.out.size
  clear hb2
  go_wp2_with fail
  refine (same_hit 5 _ (LAID.out.below (by repeat (first | with_reducible exact BEL.out | with_reducible apply Below.alloc | with_reducible apply Below.setCell | with_reducible apply Below.drew | with_reducible apply below_drewN | (first | omega | (focus (simp; done)) | (focus (simp; omega)) | (focus (simp [World.setCell]; omega))))))).mono ?_; rintro e w3 ⟨rfl, hb3⟩
  have z_w3 : w2.heap.size ≤ w3.heap.size := Nat.le_trans (by first | with_reducible exact Nat.le_refl _ | (simp; done) | (simp; omega) | (simp [World.setCell]; done)) hb3.size
  replace BEL : Hid (Below w.heap.size w w3) := Lib.hid (Below.trans (by repeat (first | with_reducible exact BEL.out | with_reducible apply Below.alloc | with_reducible apply Below.setCell | with_reducible apply Below.drew | with_reducible apply below_drewN | (first | omega | (focus (simp; done)) | (focus (simp; omega)) | (focus (simp [World.setCell]; omega))))) (hb3.mono (by (first | omega | (focus (simp; done)) | (focus (simp; omega)) | (focus (simp [World.setCell]; omega))))))
  have y_w3 : w.heap.size ≤ w3.heap.size := BEL.out.size
  clear hb3
  go_wp2
  go_ret
  exact ⟨rfl, (by repeat (first | with_reducible exact BEL.out | with_reducible apply Below.alloc | with_reducible apply Below.setCell | with_reducible apply Below.drew | with_reducible apply below_drewN | (first | omega | (focus (simp; done)) | (focus (simp; omega)) | (focus (simp [World.setCell]; omega)))))⟩
set_option maxHeartbeats 4000000 in
set_option maxRecDepth 100000 in
theorem eventimes_hi (A : Option Addr) (c : Nat) (l : List Int) (by_ : Int) (w : World) (hi : Ints w w.heap.size A c l) (hg : Laid w) (he : idxErr l = 0) (hk0 : 1 ≤ by_) (hk : 1000 < by_) :
    Calls Tryd.prog 10 #[.slice A l.length c, .int .i64 by_] w fun e w' => e = .returned (.bool true) ∧ Below w.heap.size w w' := by
  have LAID := Lib.hid hg; clear hg
  have HI := Lib.hid hi; clear hi
  have HE := Lib.hid he; clear he
  obtain ⟨vt, hvt⟩ : ∃ v, idxT l = v := ⟨_, rfl⟩
  obtain ⟨vb, hvb⟩ : ∃ v, idxB l = v := ⟨_, rfl⟩
  have VT := Lib.hid hvt
  have VB := Lib.hid hvb
  clear hvt hvb
  have BEL : Hid (Below w.heap.size w w) := Lib.hid (Below.refl _ _)
  have yB : w.heap.size ≤ w.heap.size := Nat.le_refl _
  go_enter Tryd.func10, Tryd.ntmps10
  go_wp2_with fail
  refine (index_ok A c l _ ((HI.out.below (by repeat (first | with_reducible exact BEL.out | with_reducible apply Below.alloc | with_reducible apply Below.setCell | with_reducible apply Below.drew | with_reducible apply below_drewN | (first | omega | (focus (simp; done)) | (focus (simp; omega)) | (focus (simp [World.setCell]; omega))))) (Nat.le_refl _)).more (by (first | omega | (focus (simp; done)) | (focus (simp; omega)) | (focus (simp [World.setCell]; omega))))) HE.out vt vb VT.out VB.out).mono ?_; rintro e w1 ⟨rfl, hb1⟩
  have z_w1 : w.heap.size ≤ w1.heap.size := Nat.le_trans (by first | with_reducible exact Nat.le_refl _ | (simp; done) | (simp; omega) | (simp [World.setCell]; done)) hb1.size
  replace BEL : Hid (Below w.heap.size w w1) := Lib.hid (Below.trans (by repeat (first | with_reducible exact BEL.out | with_reducible apply Below.alloc | with_reducible apply Below.setCell | with_reducible apply Below.drew | with_reducible apply below_drewN | (first | omega | (focus (simp; done)) | (focus (simp; omega)) | (focus (simp [World.setCell]; omega))))) (hb1.mono (by (first | omega | (focus (simp; done)) | (focus (simp; omega)) | (focus (simp [World.setCell]; omega))))))
  have y_w1 : w.heap.size ≤ w1.heap.size := BEL.out.size
  clear hb1
  go_wp2_with fail
  refine (index_bad (some ⟨w1.heap.size + 1, 0, none⟩) 2 [0, 0] _ (Ints.ofBlk (t := 3) (l := [0, 0]) (Blk.new' _ _ _ (by simp)) (by simp)) 5 rfl (by omega)).mono ?_; rintro e w2 ⟨rfl, hb2⟩
  have z_w2 : w1.heap.size ≤ w2.heap.size := Nat.le_trans (by first | with_reducible exact Nat.le_refl _ | (simp; done) | (simp; omega) | (simp [World.setCell]; done)) hb2.size
  replace BEL : Hid (Below w.heap.size w w2) := Lib.hid (Below.trans (by repeat (first | with_reducible exact BEL.out | with_reducible apply Below.alloc | with_reducible apply Below.setCell | with_reducible apply Below.drew | with_reducible apply below_drewN | (first | omega | (focus (simp; done)) | (focus (simp; omega)) | (focus (simp [World.setCell]; omega))))) (hb2.mono (by (first | omega | (focus (simp; done)) | (focus (simp; omega)) | (focus (simp [World.setCell]; omega))))))
  have y_w2 : w.heap.size ≤ w2.heap.size := BEL.out.size
  clear hb2
  go_wp2_with fail
  refine (same_hit 5 _ (LAID.out.below (by repeat (first | with_reducible exact BEL.out | with_reducible apply Below.alloc | with_reducible apply Below.setCell | with_reducible apply Below.drew | with_reducible apply below_drewN | (first | omega | (focus (simp; done)) | (focus (simp; omega)) | (focus (simp [World.setCell]; omega))))))).mono ?_; rintro e w3 ⟨rfl, hb3⟩
  have z_w3 : w2.heap.size ≤ w3.heap.size := Nat.le_trans (by first | with_reducible exact Nat.le_refl _ | (simp; done) | (simp; omega) | (simp [World.setCell]; done)) hb3.size
  replace BEL : Hid (Below w.heap.size w w3) := Lib.hid (Below.trans (by repeat (first | with_reducible exact BEL.out | with_reducible apply Below.alloc | with_reducible apply Below.setCell | with_reducible apply Below.drew | with_reducible apply below_drewN | (first | omega | (focus (simp; done)) | (focus (simp; omega)) | (focus (simp [World.setCell]; omega))))) (hb3.mono (by (first | omega | (focus (simp; done)) | (focus (simp; omega)) | (focus (simp [World.setCell]; omega))))))
  have y_w3 : w.heap.size ≤ w3.heap.size := BEL.out.size
  clear hb3
  go_wp2
  go_ret
  exact ⟨rfl, (by repeat (first | with_reducible exact BEL.out | with_reducible apply Below.alloc | with_reducible apply Below.setCell | with_reducible apply Below.drew | with_reducible apply below_drewN | (first | omega | (focus (simp; done)) | (focus (simp; omega)) | (focus (simp [World.setCell]; omega)))))⟩
set_option maxHeartbeats 4000000 in
set_option maxRecDepth 100000 in
theorem eventimes_in (A : Option Addr) (c : Nat) (l : List Int) (by_ : Int) (w : World) (hi : Ints w w.heap.size A c l) (hg : Laid w) (he : idxErr l = 0) (k0 : 1 ≤ by_) (k1 : by_ ≤ 1000) :
    Calls Tryd.prog 10 #[.slice A l.length c, .int .i64 by_] w fun e w' => e = .returned (.bool true) ∧ Below w.heap.size w w' := by
  have LAID := Lib.hid hg; clear hg
  have HI := Lib.hid hi; clear hi
  have HE := Lib.hid he
  obtain ⟨hf, ht⟩ := idx_parts he
  obtain ⟨h0, h6, hbad⟩ := few_ok hf
  have HB := Lib.hid (badTo_in hbad)
  have HF := Lib.hid hf
  have HTT := Lib.hid ht
  clear he hf hbad ht
  obtain ⟨vt, hvt⟩ : ∃ v, idxT l = v := ⟨_, rfl⟩
  obtain ⟨vb, hvb⟩ : ∃ v, idxB l = v := ⟨_, rfl⟩
  obtain ⟨gg, hgg⟩ : ∃ v, gapL l = v := ⟨_, rfl⟩
  have VT := Lib.hid hvt
  have VB := Lib.hid hvb
  have VG := Lib.hid hgg
  clear hvt hvb hgg
  have BEL : Hid (Below w.heap.size w w) := Lib.hid (Below.refl _ _)
  have yB : w.heap.size ≤ w.heap.size := Nat.le_refl _
  go_enter Tryd.func10, Tryd.ntmps10
  go_wp2_with fail
  refine (index_ok A c l _ ((HI.out.below (by repeat (first | with_reducible exact BEL.out | with_reducible apply Below.alloc | with_reducible apply Below.setCell | with_reducible apply Below.drew | with_reducible apply below_drewN | (first | omega | (focus (simp; done)) | (focus (simp; omega)) | (focus (simp [World.setCell]; omega))))) (Nat.le_refl _)).more (by (first | omega | (focus (simp; done)) | (focus (simp; omega)) | (focus (simp [World.setCell]; omega))))) HE.out vt vb VT.out VB.out).mono ?_; rintro e w1 ⟨rfl, hb1⟩
  have z_w1 : w.heap.size ≤ w1.heap.size := Nat.le_trans (by first | with_reducible exact Nat.le_refl _ | (simp; done) | (simp; omega) | (simp [World.setCell]; done)) hb1.size
  replace BEL : Hid (Below w.heap.size w w1) := Lib.hid (Below.trans (by repeat (first | with_reducible exact BEL.out | with_reducible apply Below.alloc | with_reducible apply Below.setCell | with_reducible apply Below.drew | with_reducible apply below_drewN | (first | omega | (focus (simp; done)) | (focus (simp; omega)) | (focus (simp [World.setCell]; omega))))) (hb1.mono (by (first | omega | (focus (simp; done)) | (focus (simp; omega)) | (focus (simp [World.setCell]; omega))))))
  have y_w1 : w.heap.size ≤ w1.heap.size := BEL.out.size
  clear hb1
  go_wp2_with fail
  go_loopw [9, 10] (fun v i wr => ∃ k : Nat, k ≤ l.length ∧ i = .int .i64 k ∧ Hid (Blk wr (w1.heap.size) 85 #[.int .i64 vt, .int .i64 vb]) ∧ Hid (wr.ownsRow (w1.heap.size + 1) 3 1 v k ((scale (l.take k) by_).map (Value.int .i64))) ∧ Hid (∀ a ∈ l.take k, a * by_ ≤ 1000) ∧ Hid (Below w.heap.size w wr) ∧ w1.heap.size + 1 ≤ wr.heap.size)
    (fun _ i _ => l.length - (intOf i).toNat)
  case atStart => exact ⟨0, Nat.zero_le _, rfl, Lib.hid (Blk.val (by (repeat (first | (with_reducible apply Blk.new'; first | with_reducible rfl | (focus (simp; done)) | (focus (simp; omega))) | with_reducible apply Blk.s3_0 | with_reducible apply Blk.s3_1 | with_reducible apply Blk.s3_2 | with_reducible apply Blk.s2_0 | with_reducible apply Blk.s2_1 | with_reducible apply Blk.s4_0 | with_reducible apply Blk.s4_1 | with_reducible apply Blk.s4_2 | with_reducible apply Blk.s4_3 | with_reducible apply Blk.s1_0 | with_reducible apply Blk.set_ | with_reducible apply Blk.far | with_reducible apply Blk.alloc | with_reducible apply Blk.drew | with_reducible apply Blk.drewN | (first | omega | (focus (simp; done)) | (focus (simp; omega)) | (focus (simp [World.setCell]; omega)))))) (by first | rfl | simp)), World.ownsRow_nil _ _ _ _, Lib.hid (by simp), Lib.hid (by repeat (first | with_reducible exact BEL.out | with_reducible apply Below.alloc | with_reducible apply Below.setCell | with_reducible apply Below.drew | with_reducible apply below_drewN | (first | omega | (focus (simp; done)) | (focus (simp; omega)) | (focus (simp [World.setCell]; omega))))), by simp⟩
  case round =>
    obtain ⟨k, hk, rfl, HX, HOWN, HLE, BEL, zz⟩ := hrel
    have y_wr : w.heap.size ≤ wr.heap.size := BEL.out.size
    have q_X_wr : w1.heap.size < wr.heap.size := HX.out.lt
    obtain ⟨pX0, pX1, fX0, fX1, zX⟩ := HX.out.two
    have zX_1 : w1.heap.size < wr.heap.size + 1 := by omega
    have zX_2 : w1.heap.size < wr.heap.size + 1 + 1 := by omega
    have zX_3 : w1.heap.size < wr.heap.size + 1 + 1 + 1 := by omega
    by_cases hlt : k < l.length
    · obtain ⟨bb, off, x, rfl, hbb, hc, hx, HTK, HXX⟩ := (HI.out.below BEL.out (Nat.le_refl _)).elem hlt
      obtain ⟨x0, x1⟩ := HB.out x hx
      have hbb1 : bb < wr.heap.size := by omega
      have p0 : 0 ≤ x * by_ := Int.mul_nonneg x0 (by omega)
      have p1 : x * by_ ≤ 1000 * 1000 := Int.mul_le_mul x1 k1 (by omega) (by omega)
      have HM : Hid ((scale (l.take (k + 1)) by_).map (Value.int .i64) = (scale (l.take k) by_).map (Value.int .i64) ++ [.int .i64 (x * by_)]) := Lib.hid (by rw [HTK.out]; simp [scale])
      have HLE' : Hid (x * by_ ≤ 1000 → ∀ a ∈ l.take (k + 1), a * by_ ≤ 1000) := by
        refine Lib.hid fun hh a ha => ?_
        rw [HTK.out] at ha
        rcases List.mem_append.1 ha with ha | ha
        · exact HLE.out a ha
        · simp at ha; subst ha; exact hh
      clear HTK HXX hx HLE
      by_cases hq : 1000 < x * by_
      · go_wp2
        go_ret
        exact ⟨rfl, (by repeat (first | with_reducible exact BEL.out | with_reducible apply Below.alloc | with_reducible apply Below.setCell | with_reducible apply Below.drew | with_reducible apply below_drewN | (first | omega | (focus (simp; done)) | (focus (simp; omega)) | (focus (simp [World.setCell]; omega)))))⟩
      · have HLE2 := Lib.hid (HLE'.out (by omega))
        go_wp2_with (at_builtin; refine wpList_push wr _ rfl (.tmp 52) (.tmp 59) 42 rfl (w1.heap.size + 1) 3 (.int .i64 0) 1 8 Tryd.underlying42 Tryd.info_int rfl (by omega) _ k _ rfl HOWN.out rfl rfl (by simp [Value.oneCell']) (by omega) (by omega) zz ?_; intro v' w4 hown4 hg4)
        go_roundw
        case rel =>
          refine ⟨k + 1, by omega, by go_num, ?_, ?_, HLE2, ?_, ?_⟩
          · exact Lib.hid (HX.out.grown hg4 (fun e => by have := (HOWN.out.lt _ e.symm).1; omega))
          · show World.ownsRow _ _ _ _ _ _ _
            rw [HM.out]; exact hown4
          · exact Lib.hid (below_push BEL.out HOWN.out hg4 (by omega) (by omega))
          · have := hg4.size; omega
        case measure => simp [intOf]; omega
    · obtain rfl : k = l.length := by omega
      have e1 : l.take l.length = l := List.take_length
      rw [e1] at HOWN HLE
      clear e1
      obtain ⟨A2, c2, rfl, hln, hi2⟩ := owns_ints' HOWN.out
      have HI2 := Lib.hid hi2
      have HLN := Lib.hid hln
      clear hln hi2
      have HF2 := Lib.hid (few_scale HF.out (k := by_) (by omega) HLE.out)
      have hix := idx_scale l by_ (by omega)
      have HE2 : Hid (idxErr (scale l by_) = 0) := Lib.hid (by
        unfold idxErr
        rw [if_neg (by rw [HF2.out]; simp), if_neg]
        rw [tot_scale]
        intro h
        rcases Int.mul_eq_zero.1 h with h | h
        · exact HTT.out h
        · omega)
      have VT2 : Hid (idxT (scale l by_) = vt) := Lib.hid (by rw [hix.1, VT.out])
      have VB2 : Hid (idxB (scale l by_) = vb) := Lib.hid (by rw [hix.2, VB.out])
      have VG2 : Hid (gapL (scale l by_) = gg * by_) := Lib.hid (by rw [gap_scale l by_ (by omega) (by intro h; rw [h] at h0; simp at h0), VG.out])
      have gb : 0 ≤ gg ∧ gg ≤ 1000 := by
        have hne : l ≠ [] := by intro h; rw [h] at h0; simp at h0
        have m1 := HB.out _ (lmax_spec l hne).1
        have m2 := HB.out _ (lmin_spec l hne).1
        have m3 := (lmax_spec l hne).2 _ (lmin_spec l hne).1
        rw [← VG.out]; unfold gapL; omega
      obtain ⟨gb0, gb1⟩ := gb
      have gp0 : 0 ≤ gg * by_ := Int.mul_nonneg gb0 (by omega)
      have gp1 : gg * by_ ≤ 1000 * 1000 := Int.mul_le_mul gb1 k1 (by omega) (by omega)
      clear hix
      go_wp2_with fail
      refine (index_ok' _ _ _ (scale l by_) _ HI2.out HE2.out vt vb VT2.out VB2.out HLN.out).mono ?_; rintro e w2 ⟨rfl, hb2⟩
      have HI2 := Lib.hid (HI2.out.below hb2 (Nat.le_refl _))
      have z_w2 : wr.heap.size ≤ w2.heap.size := Nat.le_trans (by first | with_reducible exact Nat.le_refl _ | (simp; done) | (simp; omega) | (simp [World.setCell]; done)) hb2.size
      replace HX := Lib.hid (show Blk w2 (w1.heap.size) 85 _ from by (with_reducible apply Blk.below (hb := hb2); (repeat (first | with_reducible exact HX.out | (with_reducible apply Blk.new'; first | with_reducible rfl | (focus (simp; done)) | (focus (simp; omega))) | with_reducible apply Blk.s3_0 | with_reducible apply Blk.s3_1 | with_reducible apply Blk.s3_2 | with_reducible apply Blk.s2_0 | with_reducible apply Blk.s2_1 | with_reducible apply Blk.s4_0 | with_reducible apply Blk.s4_1 | with_reducible apply Blk.s4_2 | with_reducible apply Blk.s4_3 | with_reducible apply Blk.s1_0 | with_reducible apply Blk.set_ | with_reducible apply Blk.far | with_reducible apply Blk.alloc | with_reducible apply Blk.drew | with_reducible apply Blk.drewN | (first | omega | (focus (simp; done)) | (focus (simp; omega)) | (focus (simp [World.setCell]; omega)))))))
      replace BEL : Hid (Below w.heap.size w w2) := Lib.hid (Below.trans (by repeat (first | with_reducible exact BEL.out | with_reducible apply Below.alloc | with_reducible apply Below.setCell | with_reducible apply Below.drew | with_reducible apply below_drewN | (first | omega | (focus (simp; done)) | (focus (simp; omega)) | (focus (simp [World.setCell]; omega))))) (hb2.mono (by (first | omega | (focus (simp; done)) | (focus (simp; omega)) | (focus (simp [World.setCell]; omega))))))
      have y_w2 : w.heap.size ≤ w2.heap.size := BEL.out.size
      clear hb2
      clear pX0 pX1 fX0 fX1 zX zX_1 zX_2 zX_3
      obtain ⟨pX0, pX1, fX0, fX1, zX⟩ := HX.out.two
      have zX_1 : w1.heap.size < w2.heap.size + 1 := by omega
      have zX_2 : w1.heap.size < w2.heap.size + 1 + 1 := by omega
      have zX_3 : w1.heap.size < w2.heap.size + 1 + 1 + 1 := by omega
      go_wp2_with fail
      refine (egap_is A c _ l w.heap.size _ (HI.out.below (by repeat (first | with_reducible exact BEL.out | with_reducible apply Below.alloc | with_reducible apply Below.setCell | with_reducible apply Below.drew | with_reducible apply below_drewN | (first | omega | (focus (simp; done)) | (focus (simp; omega)) | (focus (simp [World.setCell]; omega))))) (Nat.le_refl _)) HF.out gg VG.out rfl).mono ?_; rintro e w' ⟨rfl, rfl⟩
      go_wp2_with fail
      refine (egap_is _ _ _ (scale l by_) wr.heap.size _ (HI2.out.below ((Below.refl _ _).alloc (by omega) _) (Nat.le_refl _)) HF2.out (gg * by_) VG2.out HLN.out).mono ?_; rintro e w' ⟨rfl, rfl⟩
      go_wp2
      go_ret
      exact ⟨rfl, (by repeat (first | with_reducible exact BEL.out | with_reducible apply Below.alloc | with_reducible apply Below.setCell | with_reducible apply Below.drew | with_reducible apply below_drewN | (first | omega | (focus (simp; done)) | (focus (simp; omega)) | (focus (simp [World.setCell]; omega)))))⟩
theorem evenTimes_walk {w : World} (A : Option Addr) (c : Nat) (l : List Int) (hi : Ints w w.heap.size A c l) (_ : ∀ x ∈ l, (Lit.int .i64 x).wf = true) (k : Int) (_ : (Lit.int .i64 k).wf = true) (hg : Laid w) :
    Calls Tryd.prog 10 #[.slice A l.length c, .int .i64 k] w fun e w' => e = .returned (.bool true) ∧ Below w.heap.size w w' := by
  by_cases he : idxErr l = 0
  · by_cases k0 : k < 1
    · exact eventimes_lo A c l k w hi hg he k0
    · by_cases k1 : 1000 < k
      · exact eventimes_hi A c l k w hi hg he (by omega) k1
      · exact eventimes_in A c l k w hi hg he (by omega) (by omega)
  · exact eventimes_bad A c l k w hi hg _ rfl he
end Go.Proofs.YtkheobdkmmbjnaaDoor
