/- The walk of EvenTells: it returns true for every input. -/
import Derived.Test.YtkheobdkmmbjnaaDoorEvenGive
import Derived.Test.YtkheobdkmmbjnaaDoorWEvenTimes
import Derived.Test.YtkheobdkmmbjnaaDoorTotal
import Derived.Deep.DeepCutAuto
import Derived.Deep.CutBlock
namespace Go.Proofs.YtkheobdkmmbjnaaDoor
open Go.RowKit
attribute [local go_sem ↓] run_min_mn run_max_mx
/-- even.Index, whatever it is asked -/
theorem index_tot (A : Option Addr) (c : Nat) (l : List Int) (w : World) (h : Ints w w.heap.size A c l) (fe wt wb : Int) (hf : idxErr l = fe) (hd : (fe ≠ 0 ∧ wt = 0 ∧ wb = 0) ∨ (fe = 0 ∧ idxT l = wt ∧ idxB l = wb)) :
    Calls Tryd.prog 50 #[.slice A l.length c] w fun e w' => e = .returned (.tuple #[.agg #[.int .i64 wt, .int .i64 wb], errVal fe]) ∧ Below w.heap.size w w' := by
  rcases hd with ⟨h0, rfl, rfl⟩ | ⟨rfl, h1, h2⟩
  · rw [errVal_pos h0]; exact index_bad A c l w h fe hf h0
  · rw [errVal_zero]; exact index_ok A c l w h hf wt wb h1 h2
theorem rgap_is (A : Option Addr) (c : Nat) (l : List Int) (B : Nat) (w : World) (h : Ints w B A c l) (he : fewErr l 1000 = 0) (y : Int) (hy : gapL l = y) :
    Calls Tryd.prog 60 #[.slice A l.length c] w fun e w' => e = .returned (.int .i64 y) ∧ w = w' := by
  obtain ⟨h0, _, hbad⟩ := few_ok he
  refine (rgap_any A c l B w h (fun a ha => by have := badTo_in hbad a ha; omega) h0).mono ?_
  rintro e w' ⟨lo, hi, rfl, h1, h2, h3, rfl⟩
  exact ⟨by rw [gapL_of h1 h2 h3, hy], rfl⟩
theorem give_facts {w1 : World} {base g cap f t : Nat} {l : List Int} {m x : Int} (hb : ∀ a ∈ l, 0 ≤ a ∧ a ≤ 1000) (hf : f < l.length) (ht : t < l.length) (hx : l.getD f 0 = x) (m0 : 0 ≤ m) (hm : m ≤ x)
    (hown0 : w1.ownsRow base 3 1 (.slice (some ⟨g, 0, none⟩) l.length cap) l.length (l.map (Value.int .i64))) :
    ∃ y, 0 ≤ y ∧ y ≤ 1000 ∧ (giveTo l f t m).getD t 0 = y + m ∧ w1.cell? ⟨g, f, none⟩ = some (.int .i64 x) ∧ w1.frozen? ⟨g, f, none⟩ = false ∧
      (w1.setCell ⟨g, f, none⟩ (.int .i64 (x - m))).cell? ⟨g, t, none⟩ = some (.int .i64 y) ∧ (w1.setCell ⟨g, f, none⟩ (.int .i64 (x - m))).frozen? ⟨g, t, none⟩ = false ∧
      ((w1.setCell ⟨g, f, none⟩ (.int .i64 (x - m))).setCell ⟨g, t, none⟩ (.int .i64 (y + m))).cell? ⟨g, t, none⟩ = some (.int .i64 (y + m)) ∧
      ((w1.setCell ⟨g, f, none⟩ (.int .i64 (x - m))).setCell ⟨g, t, none⟩ (.int .i64 (y + m))).ownsRow base 3 1 (.slice (some ⟨g, 0, none⟩) l.length cap) l.length ((giveTo l f t m).map (Value.int .i64)) := by
  have e1 : l[f]? = some x := by rw [getD_some l f hf, hx]
  obtain ⟨x0, x1⟩ := hb x (by rw [← hx]; exact getD_mem l f hf)
  have hs1 := (hown0.stored f (.int .i64 (x - m))).1
  have hcf1 := hown0.cellAt f (by omega)
  rw [List.getElem?_map, e1] at hcf1
  have hff1 := hown0.frozenAt f
  have es : (l.map (Value.int .i64)).set f (.int .i64 (x - m)) = (l.set f (x - m)).map (Value.int .i64) := by rw [List.map_set]
  rw [es] at hs1
  obtain ⟨l1, hl1⟩ : ∃ l1, l1 = l.set f (x - m) := ⟨_, rfl⟩
  rw [← hl1] at hs1
  have hlen1 : l1.length = l.length := by rw [hl1]; simp
  have et : l1[t]? = some (l1.getD t 0) := getD_some l1 t (by omega)
  have hyb : 0 ≤ l1.getD t 0 ∧ l1.getD t 0 ≤ 1000 := by
    have hmem : l1.getD t 0 ∈ l1 := getD_mem l1 t (by omega)
    rw [hl1] at hmem
    rcases List.mem_or_eq_of_mem_set hmem with h | h
    · rw [← hl1] at h; exact hb _ h
    · rw [← hl1] at h; omega
  have hct := hs1.cellAt t (by omega)
  rw [List.getElem?_map, et] at hct
  have hft := hs1.frozenAt t
  have hs2 := (hs1.stored t (.int .i64 (l1.getD t 0 + m))).1
  have es2 : (l1.map (Value.int .i64)).set t (.int .i64 (l1.getD t 0 + m)) = (l1.set t (l1.getD t 0 + m)).map (Value.int .i64) := by rw [List.map_set]
  rw [es2] at hs2
  have hgv : l1.set t (l1.getD t 0 + m) = giveTo l f t m := by unfold giveTo; rw [hx, ← hl1]
  have hgt : (giveTo l f t m).getD t 0 = l1.getD t 0 + m := by
    rw [← hgv]
    have : t < l1.length := by omega
    simp [this]
  rw [hgv] at hs2
  have hc3 := hs2.cellAt t (by omega)
  have hgt1 : (giveTo l f t m)[t]? = some (l1.getD t 0 + m) := by
    have hl2 : t < (giveTo l f t m).length := by unfold giveTo; simp; exact ht
    rw [getD_some _ _ hl2, hgt]
  rw [List.getElem?_map, hgt1] at hc3
  exact ⟨_, hyb.1, hyb.2, hgt, hcf1, hff1, hct, hft, hc3, hs2⟩
theorem egive_low (A : Option Addr) (c : Nat) (l : List Int) (f t : Nat) (m : Int) (w : World) (h : Ints w w.heap.size A c l) (he : fewErr l 1000 = 0) (hf : f < l.length) (ht : t < l.length) (m0 : 0 ≤ m) (m1 : m ≤ 1000) (hlow : l.getD f 0 < m) :
    Calls Tryd.prog 61 #[.slice A l.length c, .int .i64 f, .int .i64 t, .int .i64 m] w fun e w' => e = .returned (.tuple #[.slice none 0 0, .iface 124 (.int .i64 8)]) ∧ Below w.heap.size w w' := by
  refine (egive_in A c l f t m w h he hf ht m0 m1).mono ?_
  rintro e w' ⟨hb, ⟨_, rfl⟩ | ⟨h1, _⟩ | ⟨h1, _⟩⟩
  · exact ⟨rfl, hb⟩
  · omega
  · omega
theorem egive_full (A : Option Addr) (c : Nat) (l : List Int) (f t : Nat) (m : Int) (w : World) (h : Ints w w.heap.size A c l) (he : fewErr l 1000 = 0) (hf : f < l.length) (ht : t < l.length) (m0 : 0 ≤ m) (m1 : m ≤ 1000) (hlow : m ≤ l.getD f 0) (hfull : 1000 < (giveTo l f t m).getD t 0) :
    Calls Tryd.prog 61 #[.slice A l.length c, .int .i64 f, .int .i64 t, .int .i64 m] w fun e w' => e = .returned (.tuple #[.slice none 0 0, .iface 124 (.int .i64 4)]) ∧ Below w.heap.size w w' := by
  refine (egive_in A c l f t m w h he hf ht m0 m1).mono ?_
  rintro e w' ⟨hb, ⟨h1, _⟩ | ⟨_, _, rfl⟩ | ⟨_, h1, _⟩⟩
  · omega
  · exact ⟨rfl, hb⟩
  · omega
theorem egive_ok (A : Option Addr) (c : Nat) (l : List Int) (f t : Nat) (m : Int) (w : World) (h : Ints w w.heap.size A c l) (he : fewErr l 1000 = 0) (hf : f < l.length) (ht : t < l.length) (m0 : 0 ≤ m) (m1 : m ≤ 1000) (hlow : m ≤ l.getD f 0) (hfull : (giveTo l f t m).getD t 0 ≤ 1000) :
    Calls Tryd.prog 61 #[.slice A l.length c, .int .i64 f, .int .i64 t, .int .i64 m] w fun e w' => ∃ v, e = .returned (.tuple #[v, .nilIface]) ∧ w'.ownsRow (w.heap.size + 1) 3 1 v l.length ((giveTo l f t m).map (Value.int .i64)) ∧ Below w.heap.size w w' := by
  refine (egive_in A c l f t m w h he hf ht m0 m1).mono ?_
  rintro e w' ⟨hb, ⟨h1, _⟩ | ⟨_, h1, _⟩ | ⟨_, _, v, rfl, ho⟩⟩
  · omega
  · omega
  · exact ⟨v, rfl, ho, hb⟩
set_option maxHeartbeats 8000000 in
set_option maxRecDepth 100000 in
theorem evenTells_few (A : Option Addr) (c : Nat) (l : List Int) (f t : Int) (m : Int) (w : World) (hi : Ints w w.heap.size A c l) (hg : Laid w) (er : Int) (he : fewErr l 1000 = er) (hp : er ≠ 0) :
    Calls Tryd.prog 12 #[.slice A l.length c, .int .i64 f, .int .i64 t, .int .i64 m] w fun e w' => e = .returned (.bool true) ∧ Below w.heap.size w w' := by
  have LAID := Lib.hid hg; clear hg
  have HI := Lib.hid hi; clear hi
  have HE := Lib.hid he
  have HP := Lib.hid hp
  have e1 : (er == 0) = false := beq_eq_false_iff_ne.2 hp
  have HIX : Hid (idxErr l = er) := Lib.hid (by unfold idxErr; rw [he, if_pos hp])
  clear he hp
  have BEL : Hid (Below w.heap.size w w) := Lib.hid (Below.refl _ _)
  have yB : w.heap.size ≤ w.heap.size := Nat.le_refl _
  go_enter Tryd.func12, Tryd.ntmps12
  go_wp2_with fail
  refine (refFew_is A c l 1000 w.heap.size _ (HI.out.below (by repeat (first | with_reducible exact BEL.out | with_reducible apply Below.alloc | with_reducible apply Below.setCell | with_reducible apply Below.drew | with_reducible apply below_drewN | (first | omega | (focus (simp; done)) | (focus (simp; omega)) | (focus (simp [World.setCell]; omega))))) (Nat.le_refl _)) er HE.out).mono ?_; rintro e w' ⟨rfl, rfl⟩
  go_wp2_with fail
  refine (index_bad A c l _ ((HI.out.below (by repeat (first | with_reducible exact BEL.out | with_reducible apply Below.alloc | with_reducible apply Below.setCell | with_reducible apply Below.drew | with_reducible apply below_drewN | (first | omega | (focus (simp; done)) | (focus (simp; omega)) | (focus (simp [World.setCell]; omega))))) (Nat.le_refl _)).more (by (first | omega | (focus (simp; done)) | (focus (simp; omega)) | (focus (simp [World.setCell]; omega))))) er HIX.out HP.out).mono ?_; rintro e w1 ⟨rfl, hb1⟩
  have z_w1 : w.heap.size ≤ w1.heap.size := Nat.le_trans (by first | with_reducible exact Nat.le_refl _ | (simp; done) | (simp; omega) | (simp [World.setCell]; done)) hb1.size
  have HW := Lib.hid (show Blk w1 (w.heap.size) 85 _ from by (with_reducible apply Blk.below (hb := hb1); (repeat (first | (with_reducible apply Blk.new'; first | with_reducible rfl | (focus (simp; done)) | (focus (simp; omega))) | with_reducible apply Blk.s3_0 | with_reducible apply Blk.s3_1 | with_reducible apply Blk.s3_2 | with_reducible apply Blk.s2_0 | with_reducible apply Blk.s2_1 | with_reducible apply Blk.s4_0 | with_reducible apply Blk.s4_1 | with_reducible apply Blk.s4_2 | with_reducible apply Blk.s4_3 | with_reducible apply Blk.s1_0 | with_reducible apply Blk.set_ | with_reducible apply Blk.far | with_reducible apply Blk.alloc | with_reducible apply Blk.drew | with_reducible apply Blk.drewN | (first | omega | (focus (simp; done)) | (focus (simp; omega)) | (focus (simp [World.setCell]; omega)))))))
  have q_W_w1 : w.heap.size < w1.heap.size := HW.out.lt
  replace BEL : Hid (Below w.heap.size w w1) := Lib.hid (Below.trans (by repeat (first | with_reducible exact BEL.out | with_reducible apply Below.alloc | with_reducible apply Below.setCell | with_reducible apply Below.drew | with_reducible apply below_drewN | (first | omega | (focus (simp; done)) | (focus (simp; omega)) | (focus (simp [World.setCell]; omega))))) (hb1.mono (by (first | omega | (focus (simp; done)) | (focus (simp; omega)) | (focus (simp [World.setCell]; omega))))))
  have y_w1 : w.heap.size ≤ w1.heap.size := BEL.out.size
  clear hb1
  obtain ⟨pW0, pW1, fW0, fW1, zW⟩ := HW.out.two
  have zW_1 : w.heap.size < w1.heap.size + 1 := by omega
  have zW_2 : w.heap.size < w1.heap.size + 1 + 1 := by omega
  have zW_3 : w.heap.size < w1.heap.size + 1 + 1 + 1 := by omega
  go_wp2_with fail
  refine (same_hit er _ (LAID.out.below (by repeat (first | with_reducible exact BEL.out | with_reducible apply Below.alloc | with_reducible apply Below.setCell | with_reducible apply Below.drew | with_reducible apply below_drewN | (first | omega | (focus (simp; done)) | (focus (simp; omega)) | (focus (simp [World.setCell]; omega))))))).mono ?_; rintro e w2 ⟨rfl, hb2⟩
  have z_w2 : w1.heap.size ≤ w2.heap.size := Nat.le_trans (by first | with_reducible exact Nat.le_refl _ | (simp; done) | (simp; omega) | (simp [World.setCell]; done)) hb2.size
  have HX := Lib.hid (show Blk w2 (w1.heap.size) 85 _ from by (with_reducible apply Blk.below (hb := hb2); (repeat (first | (with_reducible apply Blk.new'; first | with_reducible rfl | (focus (simp; done)) | (focus (simp; omega))) | with_reducible apply Blk.s3_0 | with_reducible apply Blk.s3_1 | with_reducible apply Blk.s3_2 | with_reducible apply Blk.s2_0 | with_reducible apply Blk.s2_1 | with_reducible apply Blk.s4_0 | with_reducible apply Blk.s4_1 | with_reducible apply Blk.s4_2 | with_reducible apply Blk.s4_3 | with_reducible apply Blk.s1_0 | with_reducible apply Blk.set_ | with_reducible apply Blk.far | with_reducible apply Blk.alloc | with_reducible apply Blk.drew | with_reducible apply Blk.drewN | (first | omega | (focus (simp; done)) | (focus (simp; omega)) | (focus (simp [World.setCell]; omega)))))))
  replace HW := Lib.hid (show Blk w2 (w.heap.size) 85 _ from by (with_reducible apply Blk.below (hb := hb2); (repeat (first | with_reducible exact HW.out | (with_reducible apply Blk.new'; first | with_reducible rfl | (focus (simp; done)) | (focus (simp; omega))) | with_reducible apply Blk.s3_0 | with_reducible apply Blk.s3_1 | with_reducible apply Blk.s3_2 | with_reducible apply Blk.s2_0 | with_reducible apply Blk.s2_1 | with_reducible apply Blk.s4_0 | with_reducible apply Blk.s4_1 | with_reducible apply Blk.s4_2 | with_reducible apply Blk.s4_3 | with_reducible apply Blk.s1_0 | with_reducible apply Blk.set_ | with_reducible apply Blk.far | with_reducible apply Blk.alloc | with_reducible apply Blk.drew | with_reducible apply Blk.drewN | (first | omega | (focus (simp; done)) | (focus (simp; omega)) | (focus (simp [World.setCell]; omega)))))))
  have q_X_w2 : w1.heap.size < w2.heap.size := HX.out.lt
  replace BEL : Hid (Below w.heap.size w w2) := Lib.hid (Below.trans (by repeat (first | with_reducible exact BEL.out | with_reducible apply Below.alloc | with_reducible apply Below.setCell | with_reducible apply Below.drew | with_reducible apply below_drewN | (first | omega | (focus (simp; done)) | (focus (simp; omega)) | (focus (simp [World.setCell]; omega))))) (hb2.mono (by (first | omega | (focus (simp; done)) | (focus (simp; omega)) | (focus (simp [World.setCell]; omega))))))
  have y_w2 : w.heap.size ≤ w2.heap.size := BEL.out.size
  clear hb2
  clear pW0 pW1 fW0 fW1 zW zW_1 zW_2 zW_3
  obtain ⟨pW0, pW1, fW0, fW1, zW⟩ := HW.out.two
  have zW_1 : w.heap.size < w2.heap.size + 1 := by omega
  have zW_2 : w.heap.size < w2.heap.size + 1 + 1 := by omega
  have zW_3 : w.heap.size < w2.heap.size + 1 + 1 + 1 := by omega
  obtain ⟨pX0, pX1, fX0, fX1, zX⟩ := HX.out.two
  have zX_1 : w1.heap.size < w2.heap.size + 1 := by omega
  have zX_2 : w1.heap.size < w2.heap.size + 1 + 1 := by omega
  have zX_3 : w1.heap.size < w2.heap.size + 1 + 1 + 1 := by omega
  go_wp2_with fail
  refine (egap_err A c l w.heap.size _ (HI.out.below (by repeat (first | with_reducible exact BEL.out | with_reducible apply Below.alloc | with_reducible apply Below.setCell | with_reducible apply Below.drew | with_reducible apply below_drewN | (first | omega | (focus (simp; done)) | (focus (simp; omega)) | (focus (simp [World.setCell]; omega))))) (Nat.le_refl _)) er HE.out HP.out).mono ?_; rintro e w' ⟨rfl, rfl⟩
  go_wp2_with fail
  refine (same_hit er _ (LAID.out.below (by repeat (first | with_reducible exact BEL.out | with_reducible apply Below.alloc | with_reducible apply Below.setCell | with_reducible apply Below.drew | with_reducible apply below_drewN | (first | omega | (focus (simp; done)) | (focus (simp; omega)) | (focus (simp [World.setCell]; omega))))))).mono ?_; rintro e w3 ⟨rfl, hb3⟩
  have z_w3 : w2.heap.size ≤ w3.heap.size := Nat.le_trans (by first | with_reducible exact Nat.le_refl _ | (simp; done) | (simp; omega) | (simp [World.setCell]; done)) hb3.size
  replace HW := Lib.hid (show Blk w3 (w.heap.size) 85 _ from by (with_reducible apply Blk.below (hb := hb3); (repeat (first | with_reducible exact HW.out | (with_reducible apply Blk.new'; first | with_reducible rfl | (focus (simp; done)) | (focus (simp; omega))) | with_reducible apply Blk.s3_0 | with_reducible apply Blk.s3_1 | with_reducible apply Blk.s3_2 | with_reducible apply Blk.s2_0 | with_reducible apply Blk.s2_1 | with_reducible apply Blk.s4_0 | with_reducible apply Blk.s4_1 | with_reducible apply Blk.s4_2 | with_reducible apply Blk.s4_3 | with_reducible apply Blk.s1_0 | with_reducible apply Blk.set_ | with_reducible apply Blk.far | with_reducible apply Blk.alloc | with_reducible apply Blk.drew | with_reducible apply Blk.drewN | (first | omega | (focus (simp; done)) | (focus (simp; omega)) | (focus (simp [World.setCell]; omega)))))))
  replace HX := Lib.hid (show Blk w3 (w1.heap.size) 85 _ from by (with_reducible apply Blk.below (hb := hb3); (repeat (first | with_reducible exact HX.out | (with_reducible apply Blk.new'; first | with_reducible rfl | (focus (simp; done)) | (focus (simp; omega))) | with_reducible apply Blk.s3_0 | with_reducible apply Blk.s3_1 | with_reducible apply Blk.s3_2 | with_reducible apply Blk.s2_0 | with_reducible apply Blk.s2_1 | with_reducible apply Blk.s4_0 | with_reducible apply Blk.s4_1 | with_reducible apply Blk.s4_2 | with_reducible apply Blk.s4_3 | with_reducible apply Blk.s1_0 | with_reducible apply Blk.set_ | with_reducible apply Blk.far | with_reducible apply Blk.alloc | with_reducible apply Blk.drew | with_reducible apply Blk.drewN | (first | omega | (focus (simp; done)) | (focus (simp; omega)) | (focus (simp [World.setCell]; omega)))))))
  replace BEL : Hid (Below w.heap.size w w3) := Lib.hid (Below.trans (by repeat (first | with_reducible exact BEL.out | with_reducible apply Below.alloc | with_reducible apply Below.setCell | with_reducible apply Below.drew | with_reducible apply below_drewN | (first | omega | (focus (simp; done)) | (focus (simp; omega)) | (focus (simp [World.setCell]; omega))))) (hb3.mono (by (first | omega | (focus (simp; done)) | (focus (simp; omega)) | (focus (simp [World.setCell]; omega))))))
  have y_w3 : w.heap.size ≤ w3.heap.size := BEL.out.size
  clear hb3
  clear pW0 pW1 fW0 fW1 zW zW_1 zW_2 zW_3 pX0 pX1 fX0 fX1 zX zX_1 zX_2 zX_3
  obtain ⟨pW0, pW1, fW0, fW1, zW⟩ := HW.out.two
  have zW_1 : w.heap.size < w3.heap.size + 1 := by omega
  have zW_2 : w.heap.size < w3.heap.size + 1 + 1 := by omega
  have zW_3 : w.heap.size < w3.heap.size + 1 + 1 + 1 := by omega
  obtain ⟨pX0, pX1, fX0, fX1, zX⟩ := HX.out.two
  have zX_1 : w1.heap.size < w3.heap.size + 1 := by omega
  have zX_2 : w1.heap.size < w3.heap.size + 1 + 1 := by omega
  have zX_3 : w1.heap.size < w3.heap.size + 1 + 1 + 1 := by omega
  go_wp2_with fail
  refine (egive_few A c l f t m _ ((HI.out.below (by repeat (first | with_reducible exact BEL.out | with_reducible apply Below.alloc | with_reducible apply Below.setCell | with_reducible apply Below.drew | with_reducible apply below_drewN | (first | omega | (focus (simp; done)) | (focus (simp; omega)) | (focus (simp [World.setCell]; omega))))) (Nat.le_refl _)).more (by (first | omega | (focus (simp; done)) | (focus (simp; omega)) | (focus (simp [World.setCell]; omega))))) er HE.out HP.out).mono ?_; rintro e w4 ⟨rfl, hb4⟩
  have z_w4 : w3.heap.size ≤ w4.heap.size := Nat.le_trans (by first | with_reducible exact Nat.le_refl _ | (simp; done) | (simp; omega) | (simp [World.setCell]; done)) hb4.size
  replace HW := Lib.hid (show Blk w4 (w.heap.size) 85 _ from by (with_reducible apply Blk.below (hb := hb4); (repeat (first | with_reducible exact HW.out | (with_reducible apply Blk.new'; first | with_reducible rfl | (focus (simp; done)) | (focus (simp; omega))) | with_reducible apply Blk.s3_0 | with_reducible apply Blk.s3_1 | with_reducible apply Blk.s3_2 | with_reducible apply Blk.s2_0 | with_reducible apply Blk.s2_1 | with_reducible apply Blk.s4_0 | with_reducible apply Blk.s4_1 | with_reducible apply Blk.s4_2 | with_reducible apply Blk.s4_3 | with_reducible apply Blk.s1_0 | with_reducible apply Blk.set_ | with_reducible apply Blk.far | with_reducible apply Blk.alloc | with_reducible apply Blk.drew | with_reducible apply Blk.drewN | (first | omega | (focus (simp; done)) | (focus (simp; omega)) | (focus (simp [World.setCell]; omega)))))))
  replace HX := Lib.hid (show Blk w4 (w1.heap.size) 85 _ from by (with_reducible apply Blk.below (hb := hb4); (repeat (first | with_reducible exact HX.out | (with_reducible apply Blk.new'; first | with_reducible rfl | (focus (simp; done)) | (focus (simp; omega))) | with_reducible apply Blk.s3_0 | with_reducible apply Blk.s3_1 | with_reducible apply Blk.s3_2 | with_reducible apply Blk.s2_0 | with_reducible apply Blk.s2_1 | with_reducible apply Blk.s4_0 | with_reducible apply Blk.s4_1 | with_reducible apply Blk.s4_2 | with_reducible apply Blk.s4_3 | with_reducible apply Blk.s1_0 | with_reducible apply Blk.set_ | with_reducible apply Blk.far | with_reducible apply Blk.alloc | with_reducible apply Blk.drew | with_reducible apply Blk.drewN | (first | omega | (focus (simp; done)) | (focus (simp; omega)) | (focus (simp [World.setCell]; omega)))))))
  replace BEL : Hid (Below w.heap.size w w4) := Lib.hid (Below.trans (by repeat (first | with_reducible exact BEL.out | with_reducible apply Below.alloc | with_reducible apply Below.setCell | with_reducible apply Below.drew | with_reducible apply below_drewN | (first | omega | (focus (simp; done)) | (focus (simp; omega)) | (focus (simp [World.setCell]; omega))))) (hb4.mono (by (first | omega | (focus (simp; done)) | (focus (simp; omega)) | (focus (simp [World.setCell]; omega))))))
  have y_w4 : w.heap.size ≤ w4.heap.size := BEL.out.size
  clear hb4
  clear pW0 pW1 fW0 fW1 zW zW_1 zW_2 zW_3 pX0 pX1 fX0 fX1 zX zX_1 zX_2 zX_3
  obtain ⟨pW0, pW1, fW0, fW1, zW⟩ := HW.out.two
  have zW_1 : w.heap.size < w4.heap.size + 1 := by omega
  have zW_2 : w.heap.size < w4.heap.size + 1 + 1 := by omega
  have zW_3 : w.heap.size < w4.heap.size + 1 + 1 + 1 := by omega
  obtain ⟨pX0, pX1, fX0, fX1, zX⟩ := HX.out.two
  have zX_1 : w1.heap.size < w4.heap.size + 1 := by omega
  have zX_2 : w1.heap.size < w4.heap.size + 1 + 1 := by omega
  have zX_3 : w1.heap.size < w4.heap.size + 1 + 1 + 1 := by omega
  go_wp2_with fail
  refine (same_hit er _ (LAID.out.below (by repeat (first | with_reducible exact BEL.out | with_reducible apply Below.alloc | with_reducible apply Below.setCell | with_reducible apply Below.drew | with_reducible apply below_drewN | (first | omega | (focus (simp; done)) | (focus (simp; omega)) | (focus (simp [World.setCell]; omega))))))).mono ?_; rintro e w5 ⟨rfl, hb5⟩
  have z_w5 : w4.heap.size ≤ w5.heap.size := Nat.le_trans (by first | with_reducible exact Nat.le_refl _ | (simp; done) | (simp; omega) | (simp [World.setCell]; done)) hb5.size
  replace HW := Lib.hid (show Blk w5 (w.heap.size) 85 _ from by (with_reducible apply Blk.below (hb := hb5); (repeat (first | with_reducible exact HW.out | (with_reducible apply Blk.new'; first | with_reducible rfl | (focus (simp; done)) | (focus (simp; omega))) | with_reducible apply Blk.s3_0 | with_reducible apply Blk.s3_1 | with_reducible apply Blk.s3_2 | with_reducible apply Blk.s2_0 | with_reducible apply Blk.s2_1 | with_reducible apply Blk.s4_0 | with_reducible apply Blk.s4_1 | with_reducible apply Blk.s4_2 | with_reducible apply Blk.s4_3 | with_reducible apply Blk.s1_0 | with_reducible apply Blk.set_ | with_reducible apply Blk.far | with_reducible apply Blk.alloc | with_reducible apply Blk.drew | with_reducible apply Blk.drewN | (first | omega | (focus (simp; done)) | (focus (simp; omega)) | (focus (simp [World.setCell]; omega)))))))
  replace HX := Lib.hid (show Blk w5 (w1.heap.size) 85 _ from by (with_reducible apply Blk.below (hb := hb5); (repeat (first | with_reducible exact HX.out | (with_reducible apply Blk.new'; first | with_reducible rfl | (focus (simp; done)) | (focus (simp; omega))) | with_reducible apply Blk.s3_0 | with_reducible apply Blk.s3_1 | with_reducible apply Blk.s3_2 | with_reducible apply Blk.s2_0 | with_reducible apply Blk.s2_1 | with_reducible apply Blk.s4_0 | with_reducible apply Blk.s4_1 | with_reducible apply Blk.s4_2 | with_reducible apply Blk.s4_3 | with_reducible apply Blk.s1_0 | with_reducible apply Blk.set_ | with_reducible apply Blk.far | with_reducible apply Blk.alloc | with_reducible apply Blk.drew | with_reducible apply Blk.drewN | (first | omega | (focus (simp; done)) | (focus (simp; omega)) | (focus (simp [World.setCell]; omega)))))))
  replace BEL : Hid (Below w.heap.size w w5) := Lib.hid (Below.trans (by repeat (first | with_reducible exact BEL.out | with_reducible apply Below.alloc | with_reducible apply Below.setCell | with_reducible apply Below.drew | with_reducible apply below_drewN | (first | omega | (focus (simp; done)) | (focus (simp; omega)) | (focus (simp [World.setCell]; omega))))) (hb5.mono (by (first | omega | (focus (simp; done)) | (focus (simp; omega)) | (focus (simp [World.setCell]; omega))))))
  have y_w5 : w.heap.size ≤ w5.heap.size := BEL.out.size
  clear hb5
  clear pW0 pW1 fW0 fW1 zW zW_1 zW_2 zW_3 pX0 pX1 fX0 fX1 zX zX_1 zX_2 zX_3
  obtain ⟨pW0, pW1, fW0, fW1, zW⟩ := HW.out.two
  have zW_1 : w.heap.size < w5.heap.size + 1 := by omega
  have zW_2 : w.heap.size < w5.heap.size + 1 + 1 := by omega
  have zW_3 : w.heap.size < w5.heap.size + 1 + 1 + 1 := by omega
  obtain ⟨pX0, pX1, fX0, fX1, zX⟩ := HX.out.two
  have zX_1 : w1.heap.size < w5.heap.size + 1 := by omega
  have zX_2 : w1.heap.size < w5.heap.size + 1 + 1 := by omega
  have zX_3 : w1.heap.size < w5.heap.size + 1 + 1 + 1 := by omega
  go_wp2_with fail
  refine (sameInts_nil _).mono ?_; rintro e w6 ⟨rfl, hb6⟩
  have z_w6 : w5.heap.size ≤ w6.heap.size := Nat.le_trans (by first | with_reducible exact Nat.le_refl _ | (simp; done) | (simp; omega) | (simp [World.setCell]; done)) hb6.size
  replace HW := Lib.hid (show Blk w6 (w.heap.size) 85 _ from by (with_reducible apply Blk.below (hb := hb6); (repeat (first | with_reducible exact HW.out | (with_reducible apply Blk.new'; first | with_reducible rfl | (focus (simp; done)) | (focus (simp; omega))) | with_reducible apply Blk.s3_0 | with_reducible apply Blk.s3_1 | with_reducible apply Blk.s3_2 | with_reducible apply Blk.s2_0 | with_reducible apply Blk.s2_1 | with_reducible apply Blk.s4_0 | with_reducible apply Blk.s4_1 | with_reducible apply Blk.s4_2 | with_reducible apply Blk.s4_3 | with_reducible apply Blk.s1_0 | with_reducible apply Blk.set_ | with_reducible apply Blk.far | with_reducible apply Blk.alloc | with_reducible apply Blk.drew | with_reducible apply Blk.drewN | (first | omega | (focus (simp; done)) | (focus (simp; omega)) | (focus (simp [World.setCell]; omega)))))))
  replace HX := Lib.hid (show Blk w6 (w1.heap.size) 85 _ from by (with_reducible apply Blk.below (hb := hb6); (repeat (first | with_reducible exact HX.out | (with_reducible apply Blk.new'; first | with_reducible rfl | (focus (simp; done)) | (focus (simp; omega))) | with_reducible apply Blk.s3_0 | with_reducible apply Blk.s3_1 | with_reducible apply Blk.s3_2 | with_reducible apply Blk.s2_0 | with_reducible apply Blk.s2_1 | with_reducible apply Blk.s4_0 | with_reducible apply Blk.s4_1 | with_reducible apply Blk.s4_2 | with_reducible apply Blk.s4_3 | with_reducible apply Blk.s1_0 | with_reducible apply Blk.set_ | with_reducible apply Blk.far | with_reducible apply Blk.alloc | with_reducible apply Blk.drew | with_reducible apply Blk.drewN | (first | omega | (focus (simp; done)) | (focus (simp; omega)) | (focus (simp [World.setCell]; omega)))))))
  replace BEL : Hid (Below w.heap.size w w6) := Lib.hid (Below.trans (by repeat (first | with_reducible exact BEL.out | with_reducible apply Below.alloc | with_reducible apply Below.setCell | with_reducible apply Below.drew | with_reducible apply below_drewN | (first | omega | (focus (simp; done)) | (focus (simp; omega)) | (focus (simp [World.setCell]; omega))))) (hb6.mono (by (first | omega | (focus (simp; done)) | (focus (simp; omega)) | (focus (simp [World.setCell]; omega))))))
  have y_w6 : w.heap.size ≤ w6.heap.size := BEL.out.size
  clear hb6
  clear pW0 pW1 fW0 fW1 zW zW_1 zW_2 zW_3 pX0 pX1 fX0 fX1 zX zX_1 zX_2 zX_3
  obtain ⟨pW0, pW1, fW0, fW1, zW⟩ := HW.out.two
  have zW_1 : w.heap.size < w6.heap.size + 1 := by omega
  have zW_2 : w.heap.size < w6.heap.size + 1 + 1 := by omega
  have zW_3 : w.heap.size < w6.heap.size + 1 + 1 + 1 := by omega
  obtain ⟨pX0, pX1, fX0, fX1, zX⟩ := HX.out.two
  have zX_1 : w1.heap.size < w6.heap.size + 1 := by omega
  have zX_2 : w1.heap.size < w6.heap.size + 1 + 1 := by omega
  have zX_3 : w1.heap.size < w6.heap.size + 1 + 1 + 1 := by omega
  go_wp2
  go_ret
  exact ⟨rfl, (by repeat (first | with_reducible exact BEL.out | with_reducible apply Below.alloc | with_reducible apply Below.setCell | with_reducible apply Below.drew | with_reducible apply below_drewN | (first | omega | (focus (simp; done)) | (focus (simp; omega)) | (focus (simp [World.setCell]; omega)))))⟩
set_option maxHeartbeats 8000000 in
set_option maxRecDepth 100000 in
theorem evenTells_range (A : Option Addr) (c : Nat) (l : List Int) (f t : Int) (m : Int) (w : World) (hi : Ints w w.heap.size A c l) (hg : Laid w) (he : fewErr l 1000 = 0) (no : ¬ GiveRange l.length f t m) :
    Calls Tryd.prog 12 #[.slice A l.length c, .int .i64 f, .int .i64 t, .int .i64 m] w fun e w' => e = .returned (.bool true) ∧ Below w.heap.size w w' := by
  have LAID := Lib.hid hg; clear hg
  have HI := Lib.hid hi; clear hi
  have HNO := Lib.hid no; clear no
  have hm9 := Nat.le_trans HI.out.le HI.out.cap
  have HF := Lib.hid he
  obtain ⟨h0, h6, hbad⟩ := few_ok he
  have HB := Lib.hid (badTo_in hbad)
  obtain ⟨fe, hfe⟩ : ∃ v, idxErr l = v := ⟨_, rfl⟩
  obtain ⟨wt, hwt⟩ : ∃ v, v = if tot l = 0 then 0 else idxT l := ⟨_, rfl⟩
  obtain ⟨wb, hwb⟩ : ∃ v, v = if tot l = 0 then 0 else idxB l := ⟨_, rfl⟩
  obtain ⟨gg, hgg⟩ : ∃ v, gapL l = v := ⟨_, rfl⟩
  have hd : (fe ≠ 0 ∧ wt = 0 ∧ wb = 0) ∨ (fe = 0 ∧ idxT l = wt ∧ idxB l = wb) := by
    rw [← hfe, hwt, hwb]
    unfold idxErr
    rw [if_neg (by rw [he]; simp)]
    by_cases h : tot l = 0
    · rw [if_pos h, if_pos h, if_pos h]; exact .inl ⟨by omega, rfl, rfl⟩
    · rw [if_neg h, if_neg h, if_neg h]; exact .inr ⟨rfl, rfl, rfl⟩
  have hz : (tot l = 0 → fe = 5 ∧ wt = 0 ∧ wb = 0) ∧ (tot l ≠ 0 → fe = 0 ∧ idxT l = wt ∧ idxB l = wb) := by
    rw [← hfe, hwt, hwb]
    unfold idxErr
    rw [if_neg (by rw [he]; simp)]
    constructor
    · intro h; rw [if_pos h, if_pos h, if_pos h]; exact ⟨rfl, rfl, rfl⟩
    · intro h; rw [if_neg h, if_neg h, if_neg h]; exact ⟨rfl, rfl, rfl⟩
  have HFE := Lib.hid hfe
  have HD := Lib.hid hd
  have HZ := Lib.hid hz
  have VG := Lib.hid hgg
  have s1 := tot_bound l 1000 HB.out
  have s2 := sqs_bd l HB.out
  have HS := Lib.hid (⟨s1, s2⟩ : (0 ≤ tot l ∧ tot l ≤ l.length * 1000) ∧ (0 ≤ sqs l ∧ sqs l ≤ l.length * 1000000))
  have HTS := Lib.hid (tot_sq l fun a ha => (HB.out a ha).1)
  clear he hbad hfe hwt hwb hd hz hgg s1 s2
  have BEL : Hid (Below w.heap.size w w) := Lib.hid (Below.refl _ _)
  have yB : w.heap.size ≤ w.heap.size := Nat.le_refl _
  go_enter Tryd.func12, Tryd.ntmps12
  go_wp2_with fail
  refine (refFew_is A c l 1000 w.heap.size _ (HI.out.below (by repeat (first | with_reducible exact BEL.out | with_reducible apply Below.alloc | with_reducible apply Below.setCell | with_reducible apply Below.drew | with_reducible apply below_drewN | (first | omega | (focus (simp; done)) | (focus (simp; omega)) | (focus (simp [World.setCell]; omega))))) (Nat.le_refl _)) 0 HF.out).mono ?_; rintro e w' ⟨rfl, rfl⟩
  go_wp2_with fail
  refine (total_any A c l w.heap.size _ (HI.out.below (by repeat (first | with_reducible exact BEL.out | with_reducible apply Below.alloc | with_reducible apply Below.setCell | with_reducible apply Below.drew | with_reducible apply below_drewN | (first | omega | (focus (simp; done)) | (focus (simp; omega)) | (focus (simp [World.setCell]; omega))))) (Nat.le_refl _)) (fun a ha => by have := HB.out a ha; omega) (by omega)).mono ?_; rintro e w' ⟨rfl, rfl⟩
  go_upto_if 32 with (fail)
  go_cut [10] (fun s10 wx => s10 = .int .i64 fe ∧ Hid (Blk wx w.heap.size 85 #[.int .i64 wt, .int .i64 wb]) ∧ Hid (Below w.heap.size w wx))
  case first =>
    by_cases h00 : tot l = 0
    · obtain ⟨rfl, rfl, rfl⟩ := HZ.out.1 h00
      have hb0 : (tot l == 0) = true := by simp [h00]
      clear h00
      go_wp2
      go_meet
      exact ⟨rfl, Lib.hid (by (repeat (first | (with_reducible apply Blk.new'; first | with_reducible rfl | (focus (simp; done)) | (focus (simp; omega))) | with_reducible apply Blk.s3_0 | with_reducible apply Blk.s3_1 | with_reducible apply Blk.s3_2 | with_reducible apply Blk.s2_0 | with_reducible apply Blk.s2_1 | with_reducible apply Blk.s4_0 | with_reducible apply Blk.s4_1 | with_reducible apply Blk.s4_2 | with_reducible apply Blk.s4_3 | with_reducible apply Blk.s1_0 | with_reducible apply Blk.set_ | with_reducible apply Blk.far | with_reducible apply Blk.alloc | with_reducible apply Blk.drew | with_reducible apply Blk.drewN | (first | omega | (focus (simp; done)) | (focus (simp; omega)) | (focus (simp [World.setCell]; omega)))))), Lib.hid (by repeat (first | with_reducible exact BEL.out | with_reducible apply Below.alloc | with_reducible apply Below.setCell | with_reducible apply Below.drew | with_reducible apply below_drewN | (first | omega | (focus (simp; done)) | (focus (simp; omega)) | (focus (simp [World.setCell]; omega)))))⟩
    · obtain ⟨rfl, h1, h2⟩ := HZ.out.2 h00
      have hb0 : (tot l == 0) = false := beq_eq_false_iff_ne.2 h00
      have H00 := Lib.hid h00
      have H12 := Lib.hid (And.intro h1 h2)
      clear h00 h1 h2
      have HW := Lib.hid (HI.out.below (by repeat (first | with_reducible exact BEL.out | with_reducible apply Below.alloc | with_reducible apply Below.setCell | with_reducible apply Below.drew | with_reducible apply below_drewN | (first | omega | (focus (simp; done)) | (focus (simp; omega)) | (focus (simp [World.setCell]; omega))))) (Nat.le_refl _) : Ints (w.alloc (.cells #[.int .i64 0, .int .i64 0] 85)) w.heap.size A c l)
      go_wp2_with fail
      go_loopw [12, 13] (fun q i wr => ∃ (k : Nat) (d : Nat), k ≤ l.length ∧ i = .int .i64 k ∧ q = .int .i64 (sqs (l.take k)) ∧ wr = (w.alloc (.cells #[.int .i64 0, .int .i64 0] 85)).drewN d) (fun _ i _ => l.length - (intOf i).toNat)
      case atStart => exact ⟨0, 0, Nat.zero_le _, rfl, rfl, rfl⟩
      case round =>
        obtain ⟨k, d, hk, rfl, rfl, rfl⟩ := hrel
        by_cases hlt : k < l.length
        · obtain ⟨b, off, x, rfl, hbb, hc, hx, HT, HX⟩ := HI.out.elem hlt
          have hbb1 := Nat.lt_add_one_of_lt hbb
          have h2 := HB.out x hx
          have h3 : (l.take k).length ≤ k := List.length_take_le _ _
          have h4 := sq_bd h2.1 h2.2
          have h5 := sqs_bd (l.take k) fun a ha => HB.out a (List.mem_of_mem_take ha)
          have HQ : Hid (sqs (l.take (k + 1)) = sqs (l.take k) + x * x) := Lib.hid (by rw [HT.out, sqs_snoc])
          clear HT HX hx
          generalize sqs (l.take k) = Q at *
          have hj1 : (0 : Int) ≤ (k : Int) := by omega
          have hj2 : (k : Int) < l.length := by omega
          go_wp2
          go_quiet (fail)
          go_wp2
          go_roundw
          case rel => exact ⟨k + 1, _, by omega, by go_num, by rw [HQ.out], rfl⟩
          case measure => simp [intOf]; omega
        · obtain rfl : k = l.length := by omega
          have e1 : l.take l.length = l := List.take_length
          rw [e1]; clear e1
          obtain ⟨⟨s1, s2⟩, ⟨s3, s4⟩⟩ := HS.out
          have HN0 : Hid (sqs l ≠ 0) := Lib.hid fun h => H00.out (HTS.out.1 h)
          have m1 : 0 ≤ tot l * tot l := Int.mul_nonneg s1 s1
          have m2 : tot l * tot l ≤ 6000 * 6000 := Int.mul_le_mul (by omega) (by omega) s1 (by omega)
          have m3 : 0 < (l.length : Int) * sqs l := Int.mul_pos (by omega) (by have := HN0.out; omega)
          have m4 : (l.length : Int) * sqs l ≤ 6 * 6000000 := Int.mul_le_mul (by omega) (by omega) s3 (by omega)
          go_wp2_with fail
          refine (total_any A c l w.heap.size _ (HW.out.drewN d) (fun a ha => by have := HB.out a ha; omega) (by omega)).mono ?_; rintro e w' ⟨rfl, rfl⟩
          go_wp2_with fail
          refine (total_any A c l w.heap.size _ (HW.out.drewN d) (fun a ha => by have := HB.out a ha; omega) (by omega)).mono ?_; rintro e w' ⟨rfl, rfl⟩
          go_wp2_with fail
          refine (refLow_any _ _ _ (by omega) (by omega) m3 (by omega)).mono ?_; rintro e w2 ⟨rfl, hb2⟩
          have hid : lowT (tot l * tot l) (l.length * sqs l) = wt ∧ lowB (tot l * tot l) (l.length * sqs l) = wb := H12.out
          rw [hid.1, hid.2]
          have HP := Lib.hid (((Blk.new w 85 #[.int .i64 0, .int .i64 0]).drewN d).below hb2 (by simp))
          have HBL := Lib.hid ((below_drewN ((Below.refl w.heap.size w).alloc (Nat.le_refl _) (.cells #[.int .i64 0, .int .i64 0] 85)) d).trans (hb2.mono (by simp)))
          clear hid hb2 m1 m2 m3 m4
          obtain ⟨p0, p1, f0, f1, z0⟩ := HP.out.two
          go_wp2
          go_meet
          exact ⟨rfl, Lib.hid ((HP.out.s2_0 _).s2_1 _), Lib.hid ((HBL.out.setCell (p := ⟨w.heap.size, 0, none⟩) (Nat.le_refl _) _).setCell (p := ⟨w.heap.size, 1, none⟩) (Nat.le_refl _) _)⟩
  case rest =>
    obtain ⟨rfl, HW, BEL⟩ := hcut
    have y_wc : w.heap.size ≤ wc.heap.size := BEL.out.size
    have q_W_wc : w.heap.size < wc.heap.size := HW.out.lt
    obtain ⟨pW0, pW1, fW0, fW1, zW⟩ := HW.out.two
    have zW_1 : w.heap.size < wc.heap.size + 1 := by omega
    have zW_2 : w.heap.size < wc.heap.size + 1 + 1 := by omega
    have zW_3 : w.heap.size < wc.heap.size + 1 + 1 + 1 := by omega
    go_wp2_with fail
    refine (index_tot A c l _ ((HI.out.below (by repeat (first | with_reducible exact BEL.out | with_reducible apply Below.alloc | with_reducible apply Below.setCell | with_reducible apply Below.drew | with_reducible apply below_drewN | (first | omega | (focus (simp; done)) | (focus (simp; omega)) | (focus (simp [World.setCell]; omega))))) (Nat.le_refl _)).more (by (first | omega | (focus (simp; done)) | (focus (simp; omega)) | (focus (simp [World.setCell]; omega))))) fe wt wb HFE.out HD.out).mono ?_; rintro e w1 ⟨rfl, hb1⟩
    have z_w1 : wc.heap.size ≤ w1.heap.size := Nat.le_trans (by first | with_reducible exact Nat.le_refl _ | (simp; done) | (simp; omega) | (simp [World.setCell]; done)) hb1.size
    replace HW := Lib.hid (show Blk w1 (w.heap.size) 85 _ from by (with_reducible apply Blk.below (hb := hb1); (repeat (first | with_reducible exact HW.out | (with_reducible apply Blk.new'; first | with_reducible rfl | (focus (simp; done)) | (focus (simp; omega))) | with_reducible apply Blk.s3_0 | with_reducible apply Blk.s3_1 | with_reducible apply Blk.s3_2 | with_reducible apply Blk.s2_0 | with_reducible apply Blk.s2_1 | with_reducible apply Blk.s4_0 | with_reducible apply Blk.s4_1 | with_reducible apply Blk.s4_2 | with_reducible apply Blk.s4_3 | with_reducible apply Blk.s1_0 | with_reducible apply Blk.set_ | with_reducible apply Blk.far | with_reducible apply Blk.alloc | with_reducible apply Blk.drew | with_reducible apply Blk.drewN | (first | omega | (focus (simp; done)) | (focus (simp; omega)) | (focus (simp [World.setCell]; omega)))))))
    replace BEL : Hid (Below w.heap.size w w1) := Lib.hid (Below.trans (by repeat (first | with_reducible exact BEL.out | with_reducible apply Below.alloc | with_reducible apply Below.setCell | with_reducible apply Below.drew | with_reducible apply below_drewN | (first | omega | (focus (simp; done)) | (focus (simp; omega)) | (focus (simp [World.setCell]; omega))))) (hb1.mono (by (first | omega | (focus (simp; done)) | (focus (simp; omega)) | (focus (simp [World.setCell]; omega))))))
    have y_w1 : w.heap.size ≤ w1.heap.size := BEL.out.size
    clear hb1
    clear pW0 pW1 fW0 fW1 zW zW_1 zW_2 zW_3
    obtain ⟨pW0, pW1, fW0, fW1, zW⟩ := HW.out.two
    have zW_1 : w.heap.size < w1.heap.size + 1 := by omega
    have zW_2 : w.heap.size < w1.heap.size + 1 + 1 := by omega
    have zW_3 : w.heap.size < w1.heap.size + 1 + 1 + 1 := by omega
    go_wp2_with fail
    refine (same_yes fe _ (LAID.out.below (by repeat (first | with_reducible exact BEL.out | with_reducible apply Below.alloc | with_reducible apply Below.setCell | with_reducible apply Below.drew | with_reducible apply below_drewN | (first | omega | (focus (simp; done)) | (focus (simp; omega)) | (focus (simp [World.setCell]; omega))))))).mono ?_; rintro e w2 ⟨rfl, hb2⟩
    have z_w2 : w1.heap.size ≤ w2.heap.size := Nat.le_trans (by first | with_reducible exact Nat.le_refl _ | (simp; done) | (simp; omega) | (simp [World.setCell]; done)) hb2.size
    have HX := Lib.hid (show Blk w2 (w1.heap.size) 85 _ from by (with_reducible apply Blk.below (hb := hb2); (repeat (first | (with_reducible apply Blk.new'; first | with_reducible rfl | (focus (simp; done)) | (focus (simp; omega))) | with_reducible apply Blk.s3_0 | with_reducible apply Blk.s3_1 | with_reducible apply Blk.s3_2 | with_reducible apply Blk.s2_0 | with_reducible apply Blk.s2_1 | with_reducible apply Blk.s4_0 | with_reducible apply Blk.s4_1 | with_reducible apply Blk.s4_2 | with_reducible apply Blk.s4_3 | with_reducible apply Blk.s1_0 | with_reducible apply Blk.set_ | with_reducible apply Blk.far | with_reducible apply Blk.alloc | with_reducible apply Blk.drew | with_reducible apply Blk.drewN | (first | omega | (focus (simp; done)) | (focus (simp; omega)) | (focus (simp [World.setCell]; omega)))))))
    replace HW := Lib.hid (show Blk w2 (w.heap.size) 85 _ from by (with_reducible apply Blk.below (hb := hb2); (repeat (first | with_reducible exact HW.out | (with_reducible apply Blk.new'; first | with_reducible rfl | (focus (simp; done)) | (focus (simp; omega))) | with_reducible apply Blk.s3_0 | with_reducible apply Blk.s3_1 | with_reducible apply Blk.s3_2 | with_reducible apply Blk.s2_0 | with_reducible apply Blk.s2_1 | with_reducible apply Blk.s4_0 | with_reducible apply Blk.s4_1 | with_reducible apply Blk.s4_2 | with_reducible apply Blk.s4_3 | with_reducible apply Blk.s1_0 | with_reducible apply Blk.set_ | with_reducible apply Blk.far | with_reducible apply Blk.alloc | with_reducible apply Blk.drew | with_reducible apply Blk.drewN | (first | omega | (focus (simp; done)) | (focus (simp; omega)) | (focus (simp [World.setCell]; omega)))))))
    have q_X_w2 : w1.heap.size < w2.heap.size := HX.out.lt
    replace BEL : Hid (Below w.heap.size w w2) := Lib.hid (Below.trans (by repeat (first | with_reducible exact BEL.out | with_reducible apply Below.alloc | with_reducible apply Below.setCell | with_reducible apply Below.drew | with_reducible apply below_drewN | (first | omega | (focus (simp; done)) | (focus (simp; omega)) | (focus (simp [World.setCell]; omega))))) (hb2.mono (by (first | omega | (focus (simp; done)) | (focus (simp; omega)) | (focus (simp [World.setCell]; omega))))))
    have y_w2 : w.heap.size ≤ w2.heap.size := BEL.out.size
    clear hb2
    clear pW0 pW1 fW0 fW1 zW zW_1 zW_2 zW_3
    obtain ⟨pW0, pW1, fW0, fW1, zW⟩ := HW.out.two
    have zW_1 : w.heap.size < w2.heap.size + 1 := by omega
    have zW_2 : w.heap.size < w2.heap.size + 1 + 1 := by omega
    have zW_3 : w.heap.size < w2.heap.size + 1 + 1 + 1 := by omega
    obtain ⟨pX0, pX1, fX0, fX1, zX⟩ := HX.out.two
    have zX_1 : w1.heap.size < w2.heap.size + 1 := by omega
    have zX_2 : w1.heap.size < w2.heap.size + 1 + 1 := by omega
    have zX_3 : w1.heap.size < w2.heap.size + 1 + 1 + 1 := by omega
    go_wp2_with fail
    refine (rgap_is A c l w.heap.size _ (HI.out.below (by repeat (first | with_reducible exact BEL.out | with_reducible apply Below.alloc | with_reducible apply Below.setCell | with_reducible apply Below.drew | with_reducible apply below_drewN | (first | omega | (focus (simp; done)) | (focus (simp; omega)) | (focus (simp [World.setCell]; omega))))) (Nat.le_refl _)) HF.out gg VG.out).mono ?_; rintro e w' ⟨rfl, rfl⟩
    go_wp2_with fail
    refine (egap_is A c _ l w.heap.size _ (HI.out.below (by repeat (first | with_reducible exact BEL.out | with_reducible apply Below.alloc | with_reducible apply Below.setCell | with_reducible apply Below.drew | with_reducible apply below_drewN | (first | omega | (focus (simp; done)) | (focus (simp; omega)) | (focus (simp [World.setCell]; omega))))) (Nat.le_refl _)) HF.out gg VG.out rfl).mono ?_; rintro e w' ⟨rfl, rfl⟩
    go_wp2_with fail
    refine (same_ok _).mono ?_; rintro e w3 ⟨rfl, hb3⟩
    clear HW
    clear HX
    have z_w3 : w2.heap.size ≤ w3.heap.size := Nat.le_trans (by first | with_reducible exact Nat.le_refl _ | (simp; done) | (simp; omega) | (simp [World.setCell]; done)) hb3.size
    replace BEL : Hid (Below w.heap.size w w3) := Lib.hid (Below.trans (by repeat (first | with_reducible exact BEL.out | with_reducible apply Below.alloc | with_reducible apply Below.setCell | with_reducible apply Below.drew | with_reducible apply below_drewN | (first | omega | (focus (simp; done)) | (focus (simp; omega)) | (focus (simp [World.setCell]; omega))))) (hb3.mono (by (first | omega | (focus (simp; done)) | (focus (simp; omega)) | (focus (simp [World.setCell]; omega))))))
    have y_w3 : w.heap.size ≤ w3.heap.size := BEL.out.size
    clear hb3
    clear pW0 pW1 fW0 fW1 zW zW_1 zW_2 zW_3 pX0 pX1 fX0 fX1 zX zX_1 zX_2 zX_3
    go_upto_region 21 with fail
    go_cut [121] (fun s wx => s = .bool true ∧ wx = w3)
    case first =>
      have no := HNO.out
      unfold GiveRange at no
      by_cases c1 : f < 0
      · clear no
        go_wp2
        go_meet
        exact ⟨rfl, rfl⟩
      · by_cases c2 : (l.length : Int) ≤ f
        · clear no
          go_wp2
          go_meet
          exact ⟨rfl, rfl⟩
        · by_cases c3 : t < 0
          · clear no
            go_wp2
            go_meet
            exact ⟨rfl, rfl⟩
          · by_cases c4 : (l.length : Int) ≤ t
            · clear no
              go_wp2
              go_meet
              exact ⟨rfl, rfl⟩
            · by_cases c5 : m < 0
              · clear no
                go_wp2
                go_meet
                exact ⟨rfl, rfl⟩
              · have c6 : 1000 < m := by omega
                clear no
                go_wp2
                go_meet
                exact ⟨rfl, rfl⟩
    case rest =>
      obtain ⟨rfl, hw⟩ := hcut; obtain rfl := hw.symm; clear hw
      go_wp2_with fail
      refine (egive_range A c l f t m _ ((HI.out.below (by repeat (first | with_reducible exact BEL.out | with_reducible apply Below.alloc | with_reducible apply Below.setCell | with_reducible apply Below.drew | with_reducible apply below_drewN | (first | omega | (focus (simp; done)) | (focus (simp; omega)) | (focus (simp [World.setCell]; omega))))) (Nat.le_refl _)).more (by (first | omega | (focus (simp; done)) | (focus (simp; omega)) | (focus (simp [World.setCell]; omega))))) HF.out HNO.out).mono ?_; rintro e w4 ⟨rfl, hb4⟩
      have z_w4 : w3.heap.size ≤ w4.heap.size := Nat.le_trans (by first | with_reducible exact Nat.le_refl _ | (simp; done) | (simp; omega) | (simp [World.setCell]; done)) hb4.size
      replace BEL : Hid (Below w.heap.size w w4) := Lib.hid (Below.trans (by repeat (first | with_reducible exact BEL.out | with_reducible apply Below.alloc | with_reducible apply Below.setCell | with_reducible apply Below.drew | with_reducible apply below_drewN | (first | omega | (focus (simp; done)) | (focus (simp; omega)) | (focus (simp [World.setCell]; omega))))) (hb4.mono (by (first | omega | (focus (simp; done)) | (focus (simp; omega)) | (focus (simp [World.setCell]; omega))))))
      have y_w4 : w.heap.size ≤ w4.heap.size := BEL.out.size
      clear hb4
      go_wp2_with fail
      refine (same_hit 1 _ (LAID.out.below (by repeat (first | with_reducible exact BEL.out | with_reducible apply Below.alloc | with_reducible apply Below.setCell | with_reducible apply Below.drew | with_reducible apply below_drewN | (first | omega | (focus (simp; done)) | (focus (simp; omega)) | (focus (simp [World.setCell]; omega))))))).mono ?_; rintro e w5 ⟨rfl, hb5⟩
      have z_w5 : w4.heap.size ≤ w5.heap.size := Nat.le_trans (by first | with_reducible exact Nat.le_refl _ | (simp; done) | (simp; omega) | (simp [World.setCell]; done)) hb5.size
      replace BEL : Hid (Below w.heap.size w w5) := Lib.hid (Below.trans (by repeat (first | with_reducible exact BEL.out | with_reducible apply Below.alloc | with_reducible apply Below.setCell | with_reducible apply Below.drew | with_reducible apply below_drewN | (first | omega | (focus (simp; done)) | (focus (simp; omega)) | (focus (simp [World.setCell]; omega))))) (hb5.mono (by (first | omega | (focus (simp; done)) | (focus (simp; omega)) | (focus (simp [World.setCell]; omega))))))
      have y_w5 : w.heap.size ≤ w5.heap.size := BEL.out.size
      clear hb5
      go_wp2_with fail
      refine (sameInts_nil _).mono ?_; rintro e w6 ⟨rfl, hb6⟩
      have z_w6 : w5.heap.size ≤ w6.heap.size := Nat.le_trans (by first | with_reducible exact Nat.le_refl _ | (simp; done) | (simp; omega) | (simp [World.setCell]; done)) hb6.size
      replace BEL : Hid (Below w.heap.size w w6) := Lib.hid (Below.trans (by repeat (first | with_reducible exact BEL.out | with_reducible apply Below.alloc | with_reducible apply Below.setCell | with_reducible apply Below.drew | with_reducible apply below_drewN | (first | omega | (focus (simp; done)) | (focus (simp; omega)) | (focus (simp [World.setCell]; omega))))) (hb6.mono (by (first | omega | (focus (simp; done)) | (focus (simp; omega)) | (focus (simp [World.setCell]; omega))))))
      have y_w6 : w.heap.size ≤ w6.heap.size := BEL.out.size
      clear hb6
      go_wp2
      go_ret
      exact ⟨rfl, (by repeat (first | with_reducible exact BEL.out | with_reducible apply Below.alloc | with_reducible apply Below.setCell | with_reducible apply Below.drew | with_reducible apply below_drewN | (first | omega | (focus (simp; done)) | (focus (simp; omega)) | (focus (simp [World.setCell]; omega)))))⟩
set_option maxHeartbeats 8000000 in
set_option maxRecDepth 100000 in
theorem evenTells_in_low (A : Option Addr) (c : Nat) (l : List Int) (f t : Nat) (m : Int) (w : World) (hi : Ints w w.heap.size A c l) (hg : Laid w) (he : fewErr l 1000 = 0) (hf : f < l.length) (ht : t < l.length) (m0 : 0 ≤ m) (m1 : m ≤ 1000) (hlow : l.getD f 0 < m) :
    Calls Tryd.prog 12 #[.slice A l.length c, .int .i64 f, .int .i64 t, .int .i64 m] w fun e w' => e = .returned (.bool true) ∧ Below w.heap.size w w' := by
  have LAID := Lib.hid hg; clear hg
  have HI := Lib.hid hi; clear hi
  have HLOW := Lib.hid hlow
  obtain ⟨bb, off, hA, hbb, hcells⟩ := HI.out.at_ hf
  have hcf0 := hcells f hf
  obtain ⟨x, hx⟩ : ∃ x, l.getD f 0 = x := ⟨_, rfl⟩
  rw [hx] at hlow hcf0
  have HX := Lib.hid hx
  clear hx hcells
  subst hA
  have hf0 : (0 : Int) ≤ (f : Int) := by omega
  have hf1 : (f : Int) < l.length := by omega
  have ht0 : (0 : Int) ≤ (t : Int) := by omega
  have ht1 : (t : Int) < l.length := by omega
  obtain ⟨i0, hi0, hz0, hz1, hz2⟩ := info_parts Tryd.info_int
  have HINF := Lib.hid (And.intro hi0 (And.intro hz0 (And.intro hz1 hz2)))
  clear hi0 hz0 hz1 hz2
  have HCELL : Hid (∀ W : World, Below w.heap.size w W → ∀ j u, (l.map (Value.int .i64))[j]? = some u → W.cell? ((⟨bb, off, none⟩ : Addr).add j) = some u) := Lib.hid fun W hW j u hu => by
    have hr := (HI.out.rd).below' hW (Nat.le_refl _)
    have hj : j < l.length := by
      have := (List.getElem?_eq_some_iff.1 hu).1
      simpa using this
    obtain ⟨b, off', e, _, hc⟩ := hr.2 (by omega)
    injection e with e
    injection e with e1 e2
    subst e1 e2
    have hadd : (⟨bb, off, none⟩ : Addr).add j = ⟨bb, off + j, none⟩ := by unfold Addr.add; split <;> simp_all
    rw [hadd]; exact hc j u hu
  have HONES : Hid (∀ u ∈ l.map (Value.int .i64), u.oneCell' = true) := Lib.hid fun u hu => by
    obtain ⟨x, _, rfl⟩ := List.mem_map.1 hu
    rfl
  have HF := Lib.hid he
  obtain ⟨h0, h6, hbad⟩ := few_ok he
  have HB := Lib.hid (badTo_in hbad)
  obtain ⟨fe, hfe⟩ : ∃ v, idxErr l = v := ⟨_, rfl⟩
  obtain ⟨wt, hwt⟩ : ∃ v, v = if tot l = 0 then 0 else idxT l := ⟨_, rfl⟩
  obtain ⟨wb, hwb⟩ : ∃ v, v = if tot l = 0 then 0 else idxB l := ⟨_, rfl⟩
  obtain ⟨gg, hgg⟩ : ∃ v, gapL l = v := ⟨_, rfl⟩
  have hd : (fe ≠ 0 ∧ wt = 0 ∧ wb = 0) ∨ (fe = 0 ∧ idxT l = wt ∧ idxB l = wb) := by
    rw [← hfe, hwt, hwb]
    unfold idxErr
    rw [if_neg (by rw [he]; simp)]
    by_cases h : tot l = 0
    · rw [if_pos h, if_pos h, if_pos h]; exact .inl ⟨by omega, rfl, rfl⟩
    · rw [if_neg h, if_neg h, if_neg h]; exact .inr ⟨rfl, rfl, rfl⟩
  have hz : (tot l = 0 → fe = 5 ∧ wt = 0 ∧ wb = 0) ∧ (tot l ≠ 0 → fe = 0 ∧ idxT l = wt ∧ idxB l = wb) := by
    rw [← hfe, hwt, hwb]
    unfold idxErr
    rw [if_neg (by rw [he]; simp)]
    constructor
    · intro h; rw [if_pos h, if_pos h, if_pos h]; exact ⟨rfl, rfl, rfl⟩
    · intro h; rw [if_neg h, if_neg h, if_neg h]; exact ⟨rfl, rfl, rfl⟩
  have HFE := Lib.hid hfe
  have HD := Lib.hid hd
  have HZ := Lib.hid hz
  have VG := Lib.hid hgg
  have s1 := tot_bound l 1000 HB.out
  have s2 := sqs_bd l HB.out
  have HS := Lib.hid (⟨s1, s2⟩ : (0 ≤ tot l ∧ tot l ≤ l.length * 1000) ∧ (0 ≤ sqs l ∧ sqs l ≤ l.length * 1000000))
  have HTS := Lib.hid (tot_sq l fun a ha => (HB.out a ha).1)
  clear he hbad hfe hwt hwb hd hz hgg s1 s2
  have BEL : Hid (Below w.heap.size w w) := Lib.hid (Below.refl _ _)
  have yB : w.heap.size ≤ w.heap.size := Nat.le_refl _
  go_enter Tryd.func12, Tryd.ntmps12
  go_wp2_with fail
  refine (refFew_is (some ⟨bb, off, none⟩) c l 1000 w.heap.size _ (HI.out.below (by repeat (first | with_reducible exact BEL.out | with_reducible apply Below.alloc | with_reducible apply Below.setCell | with_reducible apply Below.drew | with_reducible apply below_drewN | (first | omega | (focus (simp; done)) | (focus (simp; omega)) | (focus (simp [World.setCell]; omega))))) (Nat.le_refl _)) 0 HF.out).mono ?_; rintro e w' ⟨rfl, rfl⟩
  go_wp2_with fail
  refine (total_any (some ⟨bb, off, none⟩) c l w.heap.size _ (HI.out.below (by repeat (first | with_reducible exact BEL.out | with_reducible apply Below.alloc | with_reducible apply Below.setCell | with_reducible apply Below.drew | with_reducible apply below_drewN | (first | omega | (focus (simp; done)) | (focus (simp; omega)) | (focus (simp [World.setCell]; omega))))) (Nat.le_refl _)) (fun a ha => by have := HB.out a ha; omega) (by omega)).mono ?_; rintro e w' ⟨rfl, rfl⟩
  go_upto_if 32 with (fail)
  go_cut [10] (fun s10 wx => s10 = .int .i64 fe ∧ Hid (Blk wx w.heap.size 85 #[.int .i64 wt, .int .i64 wb]) ∧ Hid (Below w.heap.size w wx))
  case first =>
    by_cases h00 : tot l = 0
    · obtain ⟨rfl, rfl, rfl⟩ := HZ.out.1 h00
      have hb0 : (tot l == 0) = true := by simp [h00]
      clear h00
      go_wp2
      go_meet
      exact ⟨rfl, Lib.hid (by (repeat (first | (with_reducible apply Blk.new'; first | with_reducible rfl | (focus (simp; done)) | (focus (simp; omega))) | with_reducible apply Blk.s3_0 | with_reducible apply Blk.s3_1 | with_reducible apply Blk.s3_2 | with_reducible apply Blk.s2_0 | with_reducible apply Blk.s2_1 | with_reducible apply Blk.s4_0 | with_reducible apply Blk.s4_1 | with_reducible apply Blk.s4_2 | with_reducible apply Blk.s4_3 | with_reducible apply Blk.s1_0 | with_reducible apply Blk.set_ | with_reducible apply Blk.far | with_reducible apply Blk.alloc | with_reducible apply Blk.drew | with_reducible apply Blk.drewN | (first | omega | (focus (simp; done)) | (focus (simp; omega)) | (focus (simp [World.setCell]; omega)))))), Lib.hid (by repeat (first | with_reducible exact BEL.out | with_reducible apply Below.alloc | with_reducible apply Below.setCell | with_reducible apply Below.drew | with_reducible apply below_drewN | (first | omega | (focus (simp; done)) | (focus (simp; omega)) | (focus (simp [World.setCell]; omega)))))⟩
    · obtain ⟨rfl, h1, h2⟩ := HZ.out.2 h00
      have hb0 : (tot l == 0) = false := beq_eq_false_iff_ne.2 h00
      have H00 := Lib.hid h00
      have H12 := Lib.hid (And.intro h1 h2)
      clear h00 h1 h2
      have HW := Lib.hid (HI.out.below (by repeat (first | with_reducible exact BEL.out | with_reducible apply Below.alloc | with_reducible apply Below.setCell | with_reducible apply Below.drew | with_reducible apply below_drewN | (first | omega | (focus (simp; done)) | (focus (simp; omega)) | (focus (simp [World.setCell]; omega))))) (Nat.le_refl _) : Ints (w.alloc (.cells #[.int .i64 0, .int .i64 0] 85)) w.heap.size (some ⟨bb, off, none⟩) c l)
      go_wp2_with fail
      go_loopw [12, 13] (fun q i wr => ∃ (k : Nat) (d : Nat), k ≤ l.length ∧ i = .int .i64 k ∧ q = .int .i64 (sqs (l.take k)) ∧ wr = (w.alloc (.cells #[.int .i64 0, .int .i64 0] 85)).drewN d) (fun _ i _ => l.length - (intOf i).toNat)
      case atStart => exact ⟨0, 0, Nat.zero_le _, rfl, rfl, rfl⟩
      case round =>
        obtain ⟨k, d, hk, rfl, rfl, rfl⟩ := hrel
        by_cases hlt : k < l.length
        · obtain ⟨b, off9, x, eA, hbb, hc, hx, HT, HX⟩ := HI.out.elem hlt; injection eA with eA; injection eA with eA1 eA2; subst eA1 eA2
          have hbb1 := Nat.lt_add_one_of_lt hbb
          have h2 := HB.out x hx
          have h3 : (l.take k).length ≤ k := List.length_take_le _ _
          have h4 := sq_bd h2.1 h2.2
          have h5 := sqs_bd (l.take k) fun a ha => HB.out a (List.mem_of_mem_take ha)
          have HQ : Hid (sqs (l.take (k + 1)) = sqs (l.take k) + x * x) := Lib.hid (by rw [HT.out, sqs_snoc])
          clear HT HX hx
          generalize sqs (l.take k) = Q at *
          have hj1 : (0 : Int) ≤ (k : Int) := by omega
          have hj2 : (k : Int) < l.length := by omega
          go_wp2
          go_quiet (fail)
          go_wp2
          go_roundw
          case rel => exact ⟨k + 1, _, by omega, by go_num, by rw [HQ.out], rfl⟩
          case measure => simp [intOf]; omega
        · obtain rfl : k = l.length := by omega
          have e1 : l.take l.length = l := List.take_length
          rw [e1]; clear e1
          obtain ⟨⟨s1, s2⟩, ⟨s3, s4⟩⟩ := HS.out
          have HN0 : Hid (sqs l ≠ 0) := Lib.hid fun h => H00.out (HTS.out.1 h)
          have m1 : 0 ≤ tot l * tot l := Int.mul_nonneg s1 s1
          have m2 : tot l * tot l ≤ 6000 * 6000 := Int.mul_le_mul (by omega) (by omega) s1 (by omega)
          have m3 : 0 < (l.length : Int) * sqs l := Int.mul_pos (by omega) (by have := HN0.out; omega)
          have m4 : (l.length : Int) * sqs l ≤ 6 * 6000000 := Int.mul_le_mul (by omega) (by omega) s3 (by omega)
          go_wp2_with fail
          refine (total_any (some ⟨bb, off, none⟩) c l w.heap.size _ (HW.out.drewN d) (fun a ha => by have := HB.out a ha; omega) (by omega)).mono ?_; rintro e w' ⟨rfl, rfl⟩
          go_wp2_with fail
          refine (total_any (some ⟨bb, off, none⟩) c l w.heap.size _ (HW.out.drewN d) (fun a ha => by have := HB.out a ha; omega) (by omega)).mono ?_; rintro e w' ⟨rfl, rfl⟩
          go_wp2_with fail
          refine (refLow_any _ _ _ (by omega) (by omega) m3 (by omega)).mono ?_; rintro e w2 ⟨rfl, hb2⟩
          have hid : lowT (tot l * tot l) (l.length * sqs l) = wt ∧ lowB (tot l * tot l) (l.length * sqs l) = wb := H12.out
          rw [hid.1, hid.2]
          have HP := Lib.hid (((Blk.new w 85 #[.int .i64 0, .int .i64 0]).drewN d).below hb2 (by simp))
          have HBL := Lib.hid ((below_drewN ((Below.refl w.heap.size w).alloc (Nat.le_refl _) (.cells #[.int .i64 0, .int .i64 0] 85)) d).trans (hb2.mono (by simp)))
          clear hid hb2 m1 m2 m3 m4
          obtain ⟨p0, p1, f0, f1, z0⟩ := HP.out.two
          go_wp2
          go_meet
          exact ⟨rfl, Lib.hid ((HP.out.s2_0 _).s2_1 _), Lib.hid ((HBL.out.setCell (p := ⟨w.heap.size, 0, none⟩) (Nat.le_refl _) _).setCell (p := ⟨w.heap.size, 1, none⟩) (Nat.le_refl _) _)⟩
  case rest =>
    obtain ⟨rfl, HW, BEL⟩ := hcut
    have y_wc : w.heap.size ≤ wc.heap.size := BEL.out.size
    have q_W_wc : w.heap.size < wc.heap.size := HW.out.lt
    obtain ⟨pW0, pW1, fW0, fW1, zW⟩ := HW.out.two
    have zW_1 : w.heap.size < wc.heap.size + 1 := by omega
    have zW_2 : w.heap.size < wc.heap.size + 1 + 1 := by omega
    have zW_3 : w.heap.size < wc.heap.size + 1 + 1 + 1 := by omega
    go_wp2_with fail
    refine (index_tot (some ⟨bb, off, none⟩) c l _ ((HI.out.below (by repeat (first | with_reducible exact BEL.out | with_reducible apply Below.alloc | with_reducible apply Below.setCell | with_reducible apply Below.drew | with_reducible apply below_drewN | (first | omega | (focus (simp; done)) | (focus (simp; omega)) | (focus (simp [World.setCell]; omega))))) (Nat.le_refl _)).more (by (first | omega | (focus (simp; done)) | (focus (simp; omega)) | (focus (simp [World.setCell]; omega))))) fe wt wb HFE.out HD.out).mono ?_; rintro e w1 ⟨rfl, hb1⟩
    have z_w1 : wc.heap.size ≤ w1.heap.size := Nat.le_trans (by first | with_reducible exact Nat.le_refl _ | (simp; done) | (simp; omega) | (simp [World.setCell]; done)) hb1.size
    replace HW := Lib.hid (show Blk w1 (w.heap.size) 85 _ from by (with_reducible apply Blk.below (hb := hb1); (repeat (first | with_reducible exact HW.out | (with_reducible apply Blk.new'; first | with_reducible rfl | (focus (simp; done)) | (focus (simp; omega))) | with_reducible apply Blk.s3_0 | with_reducible apply Blk.s3_1 | with_reducible apply Blk.s3_2 | with_reducible apply Blk.s2_0 | with_reducible apply Blk.s2_1 | with_reducible apply Blk.s4_0 | with_reducible apply Blk.s4_1 | with_reducible apply Blk.s4_2 | with_reducible apply Blk.s4_3 | with_reducible apply Blk.s1_0 | with_reducible apply Blk.set_ | with_reducible apply Blk.far | with_reducible apply Blk.alloc | with_reducible apply Blk.drew | with_reducible apply Blk.drewN | (first | omega | (focus (simp; done)) | (focus (simp; omega)) | (focus (simp [World.setCell]; omega)))))))
    replace BEL : Hid (Below w.heap.size w w1) := Lib.hid (Below.trans (by repeat (first | with_reducible exact BEL.out | with_reducible apply Below.alloc | with_reducible apply Below.setCell | with_reducible apply Below.drew | with_reducible apply below_drewN | (first | omega | (focus (simp; done)) | (focus (simp; omega)) | (focus (simp [World.setCell]; omega))))) (hb1.mono (by (first | omega | (focus (simp; done)) | (focus (simp; omega)) | (focus (simp [World.setCell]; omega))))))
    have y_w1 : w.heap.size ≤ w1.heap.size := BEL.out.size
    clear hb1
    clear pW0 pW1 fW0 fW1 zW zW_1 zW_2 zW_3
    obtain ⟨pW0, pW1, fW0, fW1, zW⟩ := HW.out.two
    have zW_1 : w.heap.size < w1.heap.size + 1 := by omega
    have zW_2 : w.heap.size < w1.heap.size + 1 + 1 := by omega
    have zW_3 : w.heap.size < w1.heap.size + 1 + 1 + 1 := by omega
    go_wp2_with fail
    refine (same_yes fe _ (LAID.out.below (by repeat (first | with_reducible exact BEL.out | with_reducible apply Below.alloc | with_reducible apply Below.setCell | with_reducible apply Below.drew | with_reducible apply below_drewN | (first | omega | (focus (simp; done)) | (focus (simp; omega)) | (focus (simp [World.setCell]; omega))))))).mono ?_; rintro e w2 ⟨rfl, hb2⟩
    have z_w2 : w1.heap.size ≤ w2.heap.size := Nat.le_trans (by first | with_reducible exact Nat.le_refl _ | (simp; done) | (simp; omega) | (simp [World.setCell]; done)) hb2.size
    have HX := Lib.hid (show Blk w2 (w1.heap.size) 85 _ from by (with_reducible apply Blk.below (hb := hb2); (repeat (first | (with_reducible apply Blk.new'; first | with_reducible rfl | (focus (simp; done)) | (focus (simp; omega))) | with_reducible apply Blk.s3_0 | with_reducible apply Blk.s3_1 | with_reducible apply Blk.s3_2 | with_reducible apply Blk.s2_0 | with_reducible apply Blk.s2_1 | with_reducible apply Blk.s4_0 | with_reducible apply Blk.s4_1 | with_reducible apply Blk.s4_2 | with_reducible apply Blk.s4_3 | with_reducible apply Blk.s1_0 | with_reducible apply Blk.set_ | with_reducible apply Blk.far | with_reducible apply Blk.alloc | with_reducible apply Blk.drew | with_reducible apply Blk.drewN | (first | omega | (focus (simp; done)) | (focus (simp; omega)) | (focus (simp [World.setCell]; omega)))))))
    replace HW := Lib.hid (show Blk w2 (w.heap.size) 85 _ from by (with_reducible apply Blk.below (hb := hb2); (repeat (first | with_reducible exact HW.out | (with_reducible apply Blk.new'; first | with_reducible rfl | (focus (simp; done)) | (focus (simp; omega))) | with_reducible apply Blk.s3_0 | with_reducible apply Blk.s3_1 | with_reducible apply Blk.s3_2 | with_reducible apply Blk.s2_0 | with_reducible apply Blk.s2_1 | with_reducible apply Blk.s4_0 | with_reducible apply Blk.s4_1 | with_reducible apply Blk.s4_2 | with_reducible apply Blk.s4_3 | with_reducible apply Blk.s1_0 | with_reducible apply Blk.set_ | with_reducible apply Blk.far | with_reducible apply Blk.alloc | with_reducible apply Blk.drew | with_reducible apply Blk.drewN | (first | omega | (focus (simp; done)) | (focus (simp; omega)) | (focus (simp [World.setCell]; omega)))))))
    have q_X_w2 : w1.heap.size < w2.heap.size := HX.out.lt
    replace BEL : Hid (Below w.heap.size w w2) := Lib.hid (Below.trans (by repeat (first | with_reducible exact BEL.out | with_reducible apply Below.alloc | with_reducible apply Below.setCell | with_reducible apply Below.drew | with_reducible apply below_drewN | (first | omega | (focus (simp; done)) | (focus (simp; omega)) | (focus (simp [World.setCell]; omega))))) (hb2.mono (by (first | omega | (focus (simp; done)) | (focus (simp; omega)) | (focus (simp [World.setCell]; omega))))))
    have y_w2 : w.heap.size ≤ w2.heap.size := BEL.out.size
    clear hb2
    clear pW0 pW1 fW0 fW1 zW zW_1 zW_2 zW_3
    obtain ⟨pW0, pW1, fW0, fW1, zW⟩ := HW.out.two
    have zW_1 : w.heap.size < w2.heap.size + 1 := by omega
    have zW_2 : w.heap.size < w2.heap.size + 1 + 1 := by omega
    have zW_3 : w.heap.size < w2.heap.size + 1 + 1 + 1 := by omega
    obtain ⟨pX0, pX1, fX0, fX1, zX⟩ := HX.out.two
    have zX_1 : w1.heap.size < w2.heap.size + 1 := by omega
    have zX_2 : w1.heap.size < w2.heap.size + 1 + 1 := by omega
    have zX_3 : w1.heap.size < w2.heap.size + 1 + 1 + 1 := by omega
    go_wp2_with fail
    refine (rgap_is (some ⟨bb, off, none⟩) c l w.heap.size _ (HI.out.below (by repeat (first | with_reducible exact BEL.out | with_reducible apply Below.alloc | with_reducible apply Below.setCell | with_reducible apply Below.drew | with_reducible apply below_drewN | (first | omega | (focus (simp; done)) | (focus (simp; omega)) | (focus (simp [World.setCell]; omega))))) (Nat.le_refl _)) HF.out gg VG.out).mono ?_; rintro e w' ⟨rfl, rfl⟩
    go_wp2_with fail
    refine (egap_is (some ⟨bb, off, none⟩) c _ l w.heap.size _ (HI.out.below (by repeat (first | with_reducible exact BEL.out | with_reducible apply Below.alloc | with_reducible apply Below.setCell | with_reducible apply Below.drew | with_reducible apply below_drewN | (first | omega | (focus (simp; done)) | (focus (simp; omega)) | (focus (simp [World.setCell]; omega))))) (Nat.le_refl _)) HF.out gg VG.out rfl).mono ?_; rintro e w' ⟨rfl, rfl⟩
    go_wp2_with fail
    refine (same_ok _).mono ?_; rintro e w3 ⟨rfl, hb3⟩
    clear HW
    clear HX
    have z_w3 : w2.heap.size ≤ w3.heap.size := Nat.le_trans (by first | with_reducible exact Nat.le_refl _ | (simp; done) | (simp; omega) | (simp [World.setCell]; done)) hb3.size
    replace BEL : Hid (Below w.heap.size w w3) := Lib.hid (Below.trans (by repeat (first | with_reducible exact BEL.out | with_reducible apply Below.alloc | with_reducible apply Below.setCell | with_reducible apply Below.drew | with_reducible apply below_drewN | (first | omega | (focus (simp; done)) | (focus (simp; omega)) | (focus (simp [World.setCell]; omega))))) (hb3.mono (by (first | omega | (focus (simp; done)) | (focus (simp; omega)) | (focus (simp [World.setCell]; omega))))))
    have y_w3 : w.heap.size ≤ w3.heap.size := BEL.out.size
    clear hb3
    clear pW0 pW1 fW0 fW1 zW zW_1 zW_2 zW_3 pX0 pX1 fX0 fX1 zX zX_1 zX_2 zX_3
    obtain ⟨x0, x1⟩ := HB.out x (by rw [← HX.out]; exact getD_mem l f hf)
    have hcf1 : w3.cell? ⟨bb, off + f, none⟩ = some (.int .i64 x) := (BEL.out.cell (p := ⟨bb, off + f, none⟩) hbb).trans hcf0
    go_wp2_with fail
    refine (egive_low (some ⟨bb, off, none⟩) c l f t m _ ((HI.out.below (by repeat (first | with_reducible exact BEL.out | with_reducible apply Below.alloc | with_reducible apply Below.setCell | with_reducible apply Below.drew | with_reducible apply below_drewN | (first | omega | (focus (simp; done)) | (focus (simp; omega)) | (focus (simp [World.setCell]; omega))))) (Nat.le_refl _)).more (by (first | omega | (focus (simp; done)) | (focus (simp; omega)) | (focus (simp [World.setCell]; omega))))) HF.out hf ht m0 m1 HLOW.out).mono ?_; rintro e w4 ⟨rfl, hb4⟩
    have z_w4 : w3.heap.size ≤ w4.heap.size := Nat.le_trans (by first | with_reducible exact Nat.le_refl _ | (simp; done) | (simp; omega) | (simp [World.setCell]; done)) hb4.size
    replace BEL : Hid (Below w.heap.size w w4) := Lib.hid (Below.trans (by repeat (first | with_reducible exact BEL.out | with_reducible apply Below.alloc | with_reducible apply Below.setCell | with_reducible apply Below.drew | with_reducible apply below_drewN | (first | omega | (focus (simp; done)) | (focus (simp; omega)) | (focus (simp [World.setCell]; omega))))) (hb4.mono (by (first | omega | (focus (simp; done)) | (focus (simp; omega)) | (focus (simp [World.setCell]; omega))))))
    have y_w4 : w.heap.size ≤ w4.heap.size := BEL.out.size
    clear hb4
    go_wp2_with fail
    refine (same_hit 8 _ (LAID.out.below (by repeat (first | with_reducible exact BEL.out | with_reducible apply Below.alloc | with_reducible apply Below.setCell | with_reducible apply Below.drew | with_reducible apply below_drewN | (first | omega | (focus (simp; done)) | (focus (simp; omega)) | (focus (simp [World.setCell]; omega))))))).mono ?_; rintro e w5 ⟨rfl, hb5⟩
    have z_w5 : w4.heap.size ≤ w5.heap.size := Nat.le_trans (by first | with_reducible exact Nat.le_refl _ | (simp; done) | (simp; omega) | (simp [World.setCell]; done)) hb5.size
    replace BEL : Hid (Below w.heap.size w w5) := Lib.hid (Below.trans (by repeat (first | with_reducible exact BEL.out | with_reducible apply Below.alloc | with_reducible apply Below.setCell | with_reducible apply Below.drew | with_reducible apply below_drewN | (first | omega | (focus (simp; done)) | (focus (simp; omega)) | (focus (simp [World.setCell]; omega))))) (hb5.mono (by (first | omega | (focus (simp; done)) | (focus (simp; omega)) | (focus (simp [World.setCell]; omega))))))
    have y_w5 : w.heap.size ≤ w5.heap.size := BEL.out.size
    clear hb5
    go_wp2_with fail
    refine (sameInts_nil _).mono ?_; rintro e w6 ⟨rfl, hb6⟩
    have z_w6 : w5.heap.size ≤ w6.heap.size := Nat.le_trans (by first | with_reducible exact Nat.le_refl _ | (simp; done) | (simp; omega) | (simp [World.setCell]; done)) hb6.size
    replace BEL : Hid (Below w.heap.size w w6) := Lib.hid (Below.trans (by repeat (first | with_reducible exact BEL.out | with_reducible apply Below.alloc | with_reducible apply Below.setCell | with_reducible apply Below.drew | with_reducible apply below_drewN | (first | omega | (focus (simp; done)) | (focus (simp; omega)) | (focus (simp [World.setCell]; omega))))) (hb6.mono (by (first | omega | (focus (simp; done)) | (focus (simp; omega)) | (focus (simp [World.setCell]; omega))))))
    have y_w6 : w.heap.size ≤ w6.heap.size := BEL.out.size
    clear hb6
    go_wp2
    go_ret
    exact ⟨rfl, (by repeat (first | with_reducible exact BEL.out | with_reducible apply Below.alloc | with_reducible apply Below.setCell | with_reducible apply Below.drew | with_reducible apply below_drewN | (first | omega | (focus (simp; done)) | (focus (simp; omega)) | (focus (simp [World.setCell]; omega)))))⟩
set_option maxHeartbeats 8000000 in
set_option maxRecDepth 100000 in
theorem evenTells_in_full (A : Option Addr) (c : Nat) (l : List Int) (f t : Nat) (m : Int) (w : World) (hi : Ints w w.heap.size A c l) (hg : Laid w) (he : fewErr l 1000 = 0) (hf : f < l.length) (ht : t < l.length) (m0 : 0 ≤ m) (m1 : m ≤ 1000) (hlow : m ≤ l.getD f 0) (hfull : 1000 < (giveTo l f t m).getD t 0) :
    Calls Tryd.prog 12 #[.slice A l.length c, .int .i64 f, .int .i64 t, .int .i64 m] w fun e w' => e = .returned (.bool true) ∧ Below w.heap.size w w' := by
  have LAID := Lib.hid hg; clear hg
  have HI := Lib.hid hi; clear hi
  have HLOW := Lib.hid hlow
  obtain ⟨bb, off, hA, hbb, hcells⟩ := HI.out.at_ hf
  have hcf0 := hcells f hf
  obtain ⟨x, hx⟩ : ∃ x, l.getD f 0 = x := ⟨_, rfl⟩
  rw [hx] at hlow hcf0
  have HX := Lib.hid hx
  clear hx hcells
  subst hA
  have hf0 : (0 : Int) ≤ (f : Int) := by omega
  have hf1 : (f : Int) < l.length := by omega
  have ht0 : (0 : Int) ≤ (t : Int) := by omega
  have ht1 : (t : Int) < l.length := by omega
  obtain ⟨i0, hi0, hz0, hz1, hz2⟩ := info_parts Tryd.info_int
  have HINF := Lib.hid (And.intro hi0 (And.intro hz0 (And.intro hz1 hz2)))
  clear hi0 hz0 hz1 hz2
  have HCELL : Hid (∀ W : World, Below w.heap.size w W → ∀ j u, (l.map (Value.int .i64))[j]? = some u → W.cell? ((⟨bb, off, none⟩ : Addr).add j) = some u) := Lib.hid fun W hW j u hu => by
    have hr := (HI.out.rd).below' hW (Nat.le_refl _)
    have hj : j < l.length := by
      have := (List.getElem?_eq_some_iff.1 hu).1
      simpa using this
    obtain ⟨b, off', e, _, hc⟩ := hr.2 (by omega)
    injection e with e
    injection e with e1 e2
    subst e1 e2
    have hadd : (⟨bb, off, none⟩ : Addr).add j = ⟨bb, off + j, none⟩ := by unfold Addr.add; split <;> simp_all
    rw [hadd]; exact hc j u hu
  have HONES : Hid (∀ u ∈ l.map (Value.int .i64), u.oneCell' = true) := Lib.hid fun u hu => by
    obtain ⟨x, _, rfl⟩ := List.mem_map.1 hu
    rfl
  have HFULL := Lib.hid hfull
  clear hfull
  have HF := Lib.hid he
  obtain ⟨h0, h6, hbad⟩ := few_ok he
  have HB := Lib.hid (badTo_in hbad)
  obtain ⟨fe, hfe⟩ : ∃ v, idxErr l = v := ⟨_, rfl⟩
  obtain ⟨wt, hwt⟩ : ∃ v, v = if tot l = 0 then 0 else idxT l := ⟨_, rfl⟩
  obtain ⟨wb, hwb⟩ : ∃ v, v = if tot l = 0 then 0 else idxB l := ⟨_, rfl⟩
  obtain ⟨gg, hgg⟩ : ∃ v, gapL l = v := ⟨_, rfl⟩
  have hd : (fe ≠ 0 ∧ wt = 0 ∧ wb = 0) ∨ (fe = 0 ∧ idxT l = wt ∧ idxB l = wb) := by
    rw [← hfe, hwt, hwb]
    unfold idxErr
    rw [if_neg (by rw [he]; simp)]
    by_cases h : tot l = 0
    · rw [if_pos h, if_pos h, if_pos h]; exact .inl ⟨by omega, rfl, rfl⟩
    · rw [if_neg h, if_neg h, if_neg h]; exact .inr ⟨rfl, rfl, rfl⟩
  have hz : (tot l = 0 → fe = 5 ∧ wt = 0 ∧ wb = 0) ∧ (tot l ≠ 0 → fe = 0 ∧ idxT l = wt ∧ idxB l = wb) := by
    rw [← hfe, hwt, hwb]
    unfold idxErr
    rw [if_neg (by rw [he]; simp)]
    constructor
    · intro h; rw [if_pos h, if_pos h, if_pos h]; exact ⟨rfl, rfl, rfl⟩
    · intro h; rw [if_neg h, if_neg h, if_neg h]; exact ⟨rfl, rfl, rfl⟩
  have HFE := Lib.hid hfe
  have HD := Lib.hid hd
  have HZ := Lib.hid hz
  have VG := Lib.hid hgg
  have s1 := tot_bound l 1000 HB.out
  have s2 := sqs_bd l HB.out
  have HS := Lib.hid (⟨s1, s2⟩ : (0 ≤ tot l ∧ tot l ≤ l.length * 1000) ∧ (0 ≤ sqs l ∧ sqs l ≤ l.length * 1000000))
  have HTS := Lib.hid (tot_sq l fun a ha => (HB.out a ha).1)
  clear he hbad hfe hwt hwb hd hz hgg s1 s2
  have BEL : Hid (Below w.heap.size w w) := Lib.hid (Below.refl _ _)
  have yB : w.heap.size ≤ w.heap.size := Nat.le_refl _
  go_enter Tryd.func12, Tryd.ntmps12
  go_wp2_with fail
  refine (refFew_is (some ⟨bb, off, none⟩) c l 1000 w.heap.size _ (HI.out.below (by repeat (first | with_reducible exact BEL.out | with_reducible apply Below.alloc | with_reducible apply Below.setCell | with_reducible apply Below.drew | with_reducible apply below_drewN | (first | omega | (focus (simp; done)) | (focus (simp; omega)) | (focus (simp [World.setCell]; omega))))) (Nat.le_refl _)) 0 HF.out).mono ?_; rintro e w' ⟨rfl, rfl⟩
  go_wp2_with fail
  refine (total_any (some ⟨bb, off, none⟩) c l w.heap.size _ (HI.out.below (by repeat (first | with_reducible exact BEL.out | with_reducible apply Below.alloc | with_reducible apply Below.setCell | with_reducible apply Below.drew | with_reducible apply below_drewN | (first | omega | (focus (simp; done)) | (focus (simp; omega)) | (focus (simp [World.setCell]; omega))))) (Nat.le_refl _)) (fun a ha => by have := HB.out a ha; omega) (by omega)).mono ?_; rintro e w' ⟨rfl, rfl⟩
  go_upto_if 32 with (fail)
  go_cut [10] (fun s10 wx => s10 = .int .i64 fe ∧ Hid (Blk wx w.heap.size 85 #[.int .i64 wt, .int .i64 wb]) ∧ Hid (Below w.heap.size w wx))
  case first =>
    by_cases h00 : tot l = 0
    · obtain ⟨rfl, rfl, rfl⟩ := HZ.out.1 h00
      have hb0 : (tot l == 0) = true := by simp [h00]
      clear h00
      go_wp2
      go_meet
      exact ⟨rfl, Lib.hid (by (repeat (first | (with_reducible apply Blk.new'; first | with_reducible rfl | (focus (simp; done)) | (focus (simp; omega))) | with_reducible apply Blk.s3_0 | with_reducible apply Blk.s3_1 | with_reducible apply Blk.s3_2 | with_reducible apply Blk.s2_0 | with_reducible apply Blk.s2_1 | with_reducible apply Blk.s4_0 | with_reducible apply Blk.s4_1 | with_reducible apply Blk.s4_2 | with_reducible apply Blk.s4_3 | with_reducible apply Blk.s1_0 | with_reducible apply Blk.set_ | with_reducible apply Blk.far | with_reducible apply Blk.alloc | with_reducible apply Blk.drew | with_reducible apply Blk.drewN | (first | omega | (focus (simp; done)) | (focus (simp; omega)) | (focus (simp [World.setCell]; omega)))))), Lib.hid (by repeat (first | with_reducible exact BEL.out | with_reducible apply Below.alloc | with_reducible apply Below.setCell | with_reducible apply Below.drew | with_reducible apply below_drewN | (first | omega | (focus (simp; done)) | (focus (simp; omega)) | (focus (simp [World.setCell]; omega)))))⟩
    · obtain ⟨rfl, h1, h2⟩ := HZ.out.2 h00
      have hb0 : (tot l == 0) = false := beq_eq_false_iff_ne.2 h00
      have H00 := Lib.hid h00
      have H12 := Lib.hid (And.intro h1 h2)
      clear h00 h1 h2
      have HW := Lib.hid (HI.out.below (by repeat (first | with_reducible exact BEL.out | with_reducible apply Below.alloc | with_reducible apply Below.setCell | with_reducible apply Below.drew | with_reducible apply below_drewN | (first | omega | (focus (simp; done)) | (focus (simp; omega)) | (focus (simp [World.setCell]; omega))))) (Nat.le_refl _) : Ints (w.alloc (.cells #[.int .i64 0, .int .i64 0] 85)) w.heap.size (some ⟨bb, off, none⟩) c l)
      go_wp2_with fail
      go_loopw [12, 13] (fun q i wr => ∃ (k : Nat) (d : Nat), k ≤ l.length ∧ i = .int .i64 k ∧ q = .int .i64 (sqs (l.take k)) ∧ wr = (w.alloc (.cells #[.int .i64 0, .int .i64 0] 85)).drewN d) (fun _ i _ => l.length - (intOf i).toNat)
      case atStart => exact ⟨0, 0, Nat.zero_le _, rfl, rfl, rfl⟩
      case round =>
        obtain ⟨k, d, hk, rfl, rfl, rfl⟩ := hrel
        by_cases hlt : k < l.length
        · obtain ⟨b, off9, x, eA, hbb, hc, hx, HT, HX⟩ := HI.out.elem hlt; injection eA with eA; injection eA with eA1 eA2; subst eA1 eA2
          have hbb1 := Nat.lt_add_one_of_lt hbb
          have h2 := HB.out x hx
          have h3 : (l.take k).length ≤ k := List.length_take_le _ _
          have h4 := sq_bd h2.1 h2.2
          have h5 := sqs_bd (l.take k) fun a ha => HB.out a (List.mem_of_mem_take ha)
          have HQ : Hid (sqs (l.take (k + 1)) = sqs (l.take k) + x * x) := Lib.hid (by rw [HT.out, sqs_snoc])
          clear HT HX hx
          generalize sqs (l.take k) = Q at *
          have hj1 : (0 : Int) ≤ (k : Int) := by omega
          have hj2 : (k : Int) < l.length := by omega
          go_wp2
          go_quiet (fail)
          go_wp2
          go_roundw
          case rel => exact ⟨k + 1, _, by omega, by go_num, by rw [HQ.out], rfl⟩
          case measure => simp [intOf]; omega
        · obtain rfl : k = l.length := by omega
          have e1 : l.take l.length = l := List.take_length
          rw [e1]; clear e1
          obtain ⟨⟨s1, s2⟩, ⟨s3, s4⟩⟩ := HS.out
          have HN0 : Hid (sqs l ≠ 0) := Lib.hid fun h => H00.out (HTS.out.1 h)
          have m1 : 0 ≤ tot l * tot l := Int.mul_nonneg s1 s1
          have m2 : tot l * tot l ≤ 6000 * 6000 := Int.mul_le_mul (by omega) (by omega) s1 (by omega)
          have m3 : 0 < (l.length : Int) * sqs l := Int.mul_pos (by omega) (by have := HN0.out; omega)
          have m4 : (l.length : Int) * sqs l ≤ 6 * 6000000 := Int.mul_le_mul (by omega) (by omega) s3 (by omega)
          go_wp2_with fail
          refine (total_any (some ⟨bb, off, none⟩) c l w.heap.size _ (HW.out.drewN d) (fun a ha => by have := HB.out a ha; omega) (by omega)).mono ?_; rintro e w' ⟨rfl, rfl⟩
          go_wp2_with fail
          refine (total_any (some ⟨bb, off, none⟩) c l w.heap.size _ (HW.out.drewN d) (fun a ha => by have := HB.out a ha; omega) (by omega)).mono ?_; rintro e w' ⟨rfl, rfl⟩
          go_wp2_with fail
          refine (refLow_any _ _ _ (by omega) (by omega) m3 (by omega)).mono ?_; rintro e w2 ⟨rfl, hb2⟩
          have hid : lowT (tot l * tot l) (l.length * sqs l) = wt ∧ lowB (tot l * tot l) (l.length * sqs l) = wb := H12.out
          rw [hid.1, hid.2]
          have HP := Lib.hid (((Blk.new w 85 #[.int .i64 0, .int .i64 0]).drewN d).below hb2 (by simp))
          have HBL := Lib.hid ((below_drewN ((Below.refl w.heap.size w).alloc (Nat.le_refl _) (.cells #[.int .i64 0, .int .i64 0] 85)) d).trans (hb2.mono (by simp)))
          clear hid hb2 m1 m2 m3 m4
          obtain ⟨p0, p1, f0, f1, z0⟩ := HP.out.two
          go_wp2
          go_meet
          exact ⟨rfl, Lib.hid ((HP.out.s2_0 _).s2_1 _), Lib.hid ((HBL.out.setCell (p := ⟨w.heap.size, 0, none⟩) (Nat.le_refl _) _).setCell (p := ⟨w.heap.size, 1, none⟩) (Nat.le_refl _) _)⟩
  case rest =>
    obtain ⟨rfl, HW, BEL⟩ := hcut
    have y_wc : w.heap.size ≤ wc.heap.size := BEL.out.size
    have q_W_wc : w.heap.size < wc.heap.size := HW.out.lt
    obtain ⟨pW0, pW1, fW0, fW1, zW⟩ := HW.out.two
    have zW_1 : w.heap.size < wc.heap.size + 1 := by omega
    have zW_2 : w.heap.size < wc.heap.size + 1 + 1 := by omega
    have zW_3 : w.heap.size < wc.heap.size + 1 + 1 + 1 := by omega
    go_wp2_with fail
    refine (index_tot (some ⟨bb, off, none⟩) c l _ ((HI.out.below (by repeat (first | with_reducible exact BEL.out | with_reducible apply Below.alloc | with_reducible apply Below.setCell | with_reducible apply Below.drew | with_reducible apply below_drewN | (first | omega | (focus (simp; done)) | (focus (simp; omega)) | (focus (simp [World.setCell]; omega))))) (Nat.le_refl _)).more (by (first | omega | (focus (simp; done)) | (focus (simp; omega)) | (focus (simp [World.setCell]; omega))))) fe wt wb HFE.out HD.out).mono ?_; rintro e w1 ⟨rfl, hb1⟩
    have z_w1 : wc.heap.size ≤ w1.heap.size := Nat.le_trans (by first | with_reducible exact Nat.le_refl _ | (simp; done) | (simp; omega) | (simp [World.setCell]; done)) hb1.size
    replace HW := Lib.hid (show Blk w1 (w.heap.size) 85 _ from by (with_reducible apply Blk.below (hb := hb1); (repeat (first | with_reducible exact HW.out | (with_reducible apply Blk.new'; first | with_reducible rfl | (focus (simp; done)) | (focus (simp; omega))) | with_reducible apply Blk.s3_0 | with_reducible apply Blk.s3_1 | with_reducible apply Blk.s3_2 | with_reducible apply Blk.s2_0 | with_reducible apply Blk.s2_1 | with_reducible apply Blk.s4_0 | with_reducible apply Blk.s4_1 | with_reducible apply Blk.s4_2 | with_reducible apply Blk.s4_3 | with_reducible apply Blk.s1_0 | with_reducible apply Blk.set_ | with_reducible apply Blk.far | with_reducible apply Blk.alloc | with_reducible apply Blk.drew | with_reducible apply Blk.drewN | (first | omega | (focus (simp; done)) | (focus (simp; omega)) | (focus (simp [World.setCell]; omega)))))))
    replace BEL : Hid (Below w.heap.size w w1) := Lib.hid (Below.trans (by repeat (first | with_reducible exact BEL.out | with_reducible apply Below.alloc | with_reducible apply Below.setCell | with_reducible apply Below.drew | with_reducible apply below_drewN | (first | omega | (focus (simp; done)) | (focus (simp; omega)) | (focus (simp [World.setCell]; omega))))) (hb1.mono (by (first | omega | (focus (simp; done)) | (focus (simp; omega)) | (focus (simp [World.setCell]; omega))))))
    have y_w1 : w.heap.size ≤ w1.heap.size := BEL.out.size
    clear hb1
    clear pW0 pW1 fW0 fW1 zW zW_1 zW_2 zW_3
    obtain ⟨pW0, pW1, fW0, fW1, zW⟩ := HW.out.two
    have zW_1 : w.heap.size < w1.heap.size + 1 := by omega
    have zW_2 : w.heap.size < w1.heap.size + 1 + 1 := by omega
    have zW_3 : w.heap.size < w1.heap.size + 1 + 1 + 1 := by omega
    go_wp2_with fail
    refine (same_yes fe _ (LAID.out.below (by repeat (first | with_reducible exact BEL.out | with_reducible apply Below.alloc | with_reducible apply Below.setCell | with_reducible apply Below.drew | with_reducible apply below_drewN | (first | omega | (focus (simp; done)) | (focus (simp; omega)) | (focus (simp [World.setCell]; omega))))))).mono ?_; rintro e w2 ⟨rfl, hb2⟩
    have z_w2 : w1.heap.size ≤ w2.heap.size := Nat.le_trans (by first | with_reducible exact Nat.le_refl _ | (simp; done) | (simp; omega) | (simp [World.setCell]; done)) hb2.size
    have HX := Lib.hid (show Blk w2 (w1.heap.size) 85 _ from by (with_reducible apply Blk.below (hb := hb2); (repeat (first | (with_reducible apply Blk.new'; first | with_reducible rfl | (focus (simp; done)) | (focus (simp; omega))) | with_reducible apply Blk.s3_0 | with_reducible apply Blk.s3_1 | with_reducible apply Blk.s3_2 | with_reducible apply Blk.s2_0 | with_reducible apply Blk.s2_1 | with_reducible apply Blk.s4_0 | with_reducible apply Blk.s4_1 | with_reducible apply Blk.s4_2 | with_reducible apply Blk.s4_3 | with_reducible apply Blk.s1_0 | with_reducible apply Blk.set_ | with_reducible apply Blk.far | with_reducible apply Blk.alloc | with_reducible apply Blk.drew | with_reducible apply Blk.drewN | (first | omega | (focus (simp; done)) | (focus (simp; omega)) | (focus (simp [World.setCell]; omega)))))))
    replace HW := Lib.hid (show Blk w2 (w.heap.size) 85 _ from by (with_reducible apply Blk.below (hb := hb2); (repeat (first | with_reducible exact HW.out | (with_reducible apply Blk.new'; first | with_reducible rfl | (focus (simp; done)) | (focus (simp; omega))) | with_reducible apply Blk.s3_0 | with_reducible apply Blk.s3_1 | with_reducible apply Blk.s3_2 | with_reducible apply Blk.s2_0 | with_reducible apply Blk.s2_1 | with_reducible apply Blk.s4_0 | with_reducible apply Blk.s4_1 | with_reducible apply Blk.s4_2 | with_reducible apply Blk.s4_3 | with_reducible apply Blk.s1_0 | with_reducible apply Blk.set_ | with_reducible apply Blk.far | with_reducible apply Blk.alloc | with_reducible apply Blk.drew | with_reducible apply Blk.drewN | (first | omega | (focus (simp; done)) | (focus (simp; omega)) | (focus (simp [World.setCell]; omega)))))))
    have q_X_w2 : w1.heap.size < w2.heap.size := HX.out.lt
    replace BEL : Hid (Below w.heap.size w w2) := Lib.hid (Below.trans (by repeat (first | with_reducible exact BEL.out | with_reducible apply Below.alloc | with_reducible apply Below.setCell | with_reducible apply Below.drew | with_reducible apply below_drewN | (first | omega | (focus (simp; done)) | (focus (simp; omega)) | (focus (simp [World.setCell]; omega))))) (hb2.mono (by (first | omega | (focus (simp; done)) | (focus (simp; omega)) | (focus (simp [World.setCell]; omega))))))
    have y_w2 : w.heap.size ≤ w2.heap.size := BEL.out.size
    clear hb2
    clear pW0 pW1 fW0 fW1 zW zW_1 zW_2 zW_3
    obtain ⟨pW0, pW1, fW0, fW1, zW⟩ := HW.out.two
    have zW_1 : w.heap.size < w2.heap.size + 1 := by omega
    have zW_2 : w.heap.size < w2.heap.size + 1 + 1 := by omega
    have zW_3 : w.heap.size < w2.heap.size + 1 + 1 + 1 := by omega
    obtain ⟨pX0, pX1, fX0, fX1, zX⟩ := HX.out.two
    have zX_1 : w1.heap.size < w2.heap.size + 1 := by omega
    have zX_2 : w1.heap.size < w2.heap.size + 1 + 1 := by omega
    have zX_3 : w1.heap.size < w2.heap.size + 1 + 1 + 1 := by omega
    go_wp2_with fail
    refine (rgap_is (some ⟨bb, off, none⟩) c l w.heap.size _ (HI.out.below (by repeat (first | with_reducible exact BEL.out | with_reducible apply Below.alloc | with_reducible apply Below.setCell | with_reducible apply Below.drew | with_reducible apply below_drewN | (first | omega | (focus (simp; done)) | (focus (simp; omega)) | (focus (simp [World.setCell]; omega))))) (Nat.le_refl _)) HF.out gg VG.out).mono ?_; rintro e w' ⟨rfl, rfl⟩
    go_wp2_with fail
    refine (egap_is (some ⟨bb, off, none⟩) c _ l w.heap.size _ (HI.out.below (by repeat (first | with_reducible exact BEL.out | with_reducible apply Below.alloc | with_reducible apply Below.setCell | with_reducible apply Below.drew | with_reducible apply below_drewN | (first | omega | (focus (simp; done)) | (focus (simp; omega)) | (focus (simp [World.setCell]; omega))))) (Nat.le_refl _)) HF.out gg VG.out rfl).mono ?_; rintro e w' ⟨rfl, rfl⟩
    go_wp2_with fail
    refine (same_ok _).mono ?_; rintro e w3 ⟨rfl, hb3⟩
    clear HW
    clear HX
    have z_w3 : w2.heap.size ≤ w3.heap.size := Nat.le_trans (by first | with_reducible exact Nat.le_refl _ | (simp; done) | (simp; omega) | (simp [World.setCell]; done)) hb3.size
    replace BEL : Hid (Below w.heap.size w w3) := Lib.hid (Below.trans (by repeat (first | with_reducible exact BEL.out | with_reducible apply Below.alloc | with_reducible apply Below.setCell | with_reducible apply Below.drew | with_reducible apply below_drewN | (first | omega | (focus (simp; done)) | (focus (simp; omega)) | (focus (simp [World.setCell]; omega))))) (hb3.mono (by (first | omega | (focus (simp; done)) | (focus (simp; omega)) | (focus (simp [World.setCell]; omega))))))
    have y_w3 : w.heap.size ≤ w3.heap.size := BEL.out.size
    clear hb3
    clear pW0 pW1 fW0 fW1 zW zW_1 zW_2 zW_3 pX0 pX1 fX0 fX1 zX zX_1 zX_2 zX_3
    obtain ⟨x0, x1⟩ := HB.out x (by rw [← HX.out]; exact getD_mem l f hf)
    have hcf1 : w3.cell? ⟨bb, off + f, none⟩ = some (.int .i64 x) := (BEL.out.cell (p := ⟨bb, off + f, none⟩) hbb).trans hcf0
    go_wp2_with (at_builtin; refine wpList_append_own _ rfl (.tmp 134) (.tmp 135) 42 rfl w.heap.size 3 i0 (.int .i64 0) 1 8 Tryd.underlying42 HINF.out.1 HINF.out.2.1 HINF.out.2.2.1 HINF.out.2.2.2 rfl (by omega) _ 0 [] rfl (World.ownsRow_nil _ _ _ _) ⟨bb, off, none⟩ l.length c (l.map (Value.int .i64)) rfl (by simp) (HCELL.out _ BEL.out) HONES.out (by simp only [maxLen]; omega) (by omega) y_w3 ?_)
    intro v' w7 hown7 hgrow7 _
    have hown7 : w7.ownsRow w.heap.size 3 1 v' l.length (l.map (Value.int .i64)) := by simpa using hown7
    replace BEL : Hid (Below w.heap.size w w7) := Lib.hid (BEL.out.grown hgrow7 y_w3 (fun k hk => by simp [Value.ownBlock] at hk))
    have y_w7 : w.heap.size ≤ w7.heap.size := BEL.out.size
    obtain ⟨g, cap, rfl, hg0, hg1, hcap, hcm⟩ := own_form hown7 h0
    obtain ⟨y, y0, y1, hgy, k1, k2, k3, k4, k5, ho⟩ := give_facts (t := t) HB.out hf ht HX.out m0 hlow hown7
    have HGY := Lib.hid hgy
    have HO := Lib.hid ho
    have hfull := HFULL.out
    rw [hgy] at hfull
    clear hgy ho hown7 hgrow7 hcf1
    go_wp2_with fail
    refine (egive_full (some ⟨bb, off, none⟩) c l f t m _ ((HI.out.below (by repeat (first | with_reducible exact BEL.out | with_reducible apply Below.alloc | with_reducible apply Below.setCell | with_reducible apply Below.drew | with_reducible apply below_drewN | (first | omega | (focus (simp; done)) | (focus (simp; omega)) | (focus (simp [World.setCell]; omega))))) (Nat.le_refl _)).more (by (first | omega | (focus (simp; done)) | (focus (simp; omega)) | (focus (simp [World.setCell]; omega))))) HF.out hf ht m0 m1 HLOW.out HFULL.out).mono ?_; rintro e w4 ⟨rfl, hb4⟩
    have z_w4 : w7.heap.size ≤ w4.heap.size := Nat.le_trans (by first | with_reducible exact Nat.le_refl _ | (simp; done) | (simp; omega) | (simp [World.setCell]; done)) hb4.size
    replace BEL : Hid (Below w.heap.size w w4) := Lib.hid (Below.trans (by repeat (first | with_reducible exact BEL.out | with_reducible apply Below.alloc | with_reducible apply Below.setCell | with_reducible apply Below.drew | with_reducible apply below_drewN | (first | omega | (focus (simp; done)) | (focus (simp; omega)) | (focus (simp [World.setCell]; omega))))) (hb4.mono (by (first | omega | (focus (simp; done)) | (focus (simp; omega)) | (focus (simp [World.setCell]; omega))))))
    have y_w4 : w.heap.size ≤ w4.heap.size := BEL.out.size
    clear hb4
    go_wp2_with fail
    refine (same_hit 4 _ (LAID.out.below (by repeat (first | with_reducible exact BEL.out | with_reducible apply Below.alloc | with_reducible apply Below.setCell | with_reducible apply Below.drew | with_reducible apply below_drewN | (first | omega | (focus (simp; done)) | (focus (simp; omega)) | (focus (simp [World.setCell]; omega))))))).mono ?_; rintro e w5 ⟨rfl, hb5⟩
    have z_w5 : w4.heap.size ≤ w5.heap.size := Nat.le_trans (by first | with_reducible exact Nat.le_refl _ | (simp; done) | (simp; omega) | (simp [World.setCell]; done)) hb5.size
    replace BEL : Hid (Below w.heap.size w w5) := Lib.hid (Below.trans (by repeat (first | with_reducible exact BEL.out | with_reducible apply Below.alloc | with_reducible apply Below.setCell | with_reducible apply Below.drew | with_reducible apply below_drewN | (first | omega | (focus (simp; done)) | (focus (simp; omega)) | (focus (simp [World.setCell]; omega))))) (hb5.mono (by (first | omega | (focus (simp; done)) | (focus (simp; omega)) | (focus (simp [World.setCell]; omega))))))
    have y_w5 : w.heap.size ≤ w5.heap.size := BEL.out.size
    clear hb5
    go_wp2_with fail
    refine (sameInts_nil _).mono ?_; rintro e w6 ⟨rfl, hb6⟩
    have z_w6 : w5.heap.size ≤ w6.heap.size := Nat.le_trans (by first | with_reducible exact Nat.le_refl _ | (simp; done) | (simp; omega) | (simp [World.setCell]; done)) hb6.size
    replace BEL : Hid (Below w.heap.size w w6) := Lib.hid (Below.trans (by repeat (first | with_reducible exact BEL.out | with_reducible apply Below.alloc | with_reducible apply Below.setCell | with_reducible apply Below.drew | with_reducible apply below_drewN | (first | omega | (focus (simp; done)) | (focus (simp; omega)) | (focus (simp [World.setCell]; omega))))) (hb6.mono (by (first | omega | (focus (simp; done)) | (focus (simp; omega)) | (focus (simp [World.setCell]; omega))))))
    have y_w6 : w.heap.size ≤ w6.heap.size := BEL.out.size
    clear hb6
    go_wp2
    go_ret
    exact ⟨rfl, (by repeat (first | with_reducible exact BEL.out | with_reducible apply Below.alloc | with_reducible apply Below.setCell | with_reducible apply Below.drew | with_reducible apply below_drewN | (first | omega | (focus (simp; done)) | (focus (simp; omega)) | (focus (simp [World.setCell]; omega)))))⟩
set_option maxHeartbeats 8000000 in
set_option maxRecDepth 100000 in
theorem evenTells_in_ok (A : Option Addr) (c : Nat) (l : List Int) (f t : Nat) (m : Int) (w : World) (hi : Ints w w.heap.size A c l) (hg : Laid w) (he : fewErr l 1000 = 0) (hf : f < l.length) (ht : t < l.length) (m0 : 0 ≤ m) (m1 : m ≤ 1000) (hlow : m ≤ l.getD f 0) (hfull : (giveTo l f t m).getD t 0 ≤ 1000) :
    Calls Tryd.prog 12 #[.slice A l.length c, .int .i64 f, .int .i64 t, .int .i64 m] w fun e w' => e = .returned (.bool true) ∧ Below w.heap.size w w' := by
  have LAID := Lib.hid hg; clear hg
  have HI := Lib.hid hi; clear hi
  have HLOW := Lib.hid hlow
  obtain ⟨bb, off, hA, hbb, hcells⟩ := HI.out.at_ hf
  have hcf0 := hcells f hf
  obtain ⟨x, hx⟩ : ∃ x, l.getD f 0 = x := ⟨_, rfl⟩
  rw [hx] at hlow hcf0
  have HX := Lib.hid hx
  clear hx hcells
  subst hA
  have hf0 : (0 : Int) ≤ (f : Int) := by omega
  have hf1 : (f : Int) < l.length := by omega
  have ht0 : (0 : Int) ≤ (t : Int) := by omega
  have ht1 : (t : Int) < l.length := by omega
  obtain ⟨i0, hi0, hz0, hz1, hz2⟩ := info_parts Tryd.info_int
  have HINF := Lib.hid (And.intro hi0 (And.intro hz0 (And.intro hz1 hz2)))
  clear hi0 hz0 hz1 hz2
  have HCELL : Hid (∀ W : World, Below w.heap.size w W → ∀ j u, (l.map (Value.int .i64))[j]? = some u → W.cell? ((⟨bb, off, none⟩ : Addr).add j) = some u) := Lib.hid fun W hW j u hu => by
    have hr := (HI.out.rd).below' hW (Nat.le_refl _)
    have hj : j < l.length := by
      have := (List.getElem?_eq_some_iff.1 hu).1
      simpa using this
    obtain ⟨b, off', e, _, hc⟩ := hr.2 (by omega)
    injection e with e
    injection e with e1 e2
    subst e1 e2
    have hadd : (⟨bb, off, none⟩ : Addr).add j = ⟨bb, off + j, none⟩ := by unfold Addr.add; split <;> simp_all
    rw [hadd]; exact hc j u hu
  have HONES : Hid (∀ u ∈ l.map (Value.int .i64), u.oneCell' = true) := Lib.hid fun u hu => by
    obtain ⟨x, _, rfl⟩ := List.mem_map.1 hu
    rfl
  have HFULL := Lib.hid hfull
  clear hfull
  have HF := Lib.hid he
  obtain ⟨h0, h6, hbad⟩ := few_ok he
  have HB := Lib.hid (badTo_in hbad)
  obtain ⟨fe, hfe⟩ : ∃ v, idxErr l = v := ⟨_, rfl⟩
  obtain ⟨wt, hwt⟩ : ∃ v, v = if tot l = 0 then 0 else idxT l := ⟨_, rfl⟩
  obtain ⟨wb, hwb⟩ : ∃ v, v = if tot l = 0 then 0 else idxB l := ⟨_, rfl⟩
  obtain ⟨gg, hgg⟩ : ∃ v, gapL l = v := ⟨_, rfl⟩
  have hd : (fe ≠ 0 ∧ wt = 0 ∧ wb = 0) ∨ (fe = 0 ∧ idxT l = wt ∧ idxB l = wb) := by
    rw [← hfe, hwt, hwb]
    unfold idxErr
    rw [if_neg (by rw [he]; simp)]
    by_cases h : tot l = 0
    · rw [if_pos h, if_pos h, if_pos h]; exact .inl ⟨by omega, rfl, rfl⟩
    · rw [if_neg h, if_neg h, if_neg h]; exact .inr ⟨rfl, rfl, rfl⟩
  have hz : (tot l = 0 → fe = 5 ∧ wt = 0 ∧ wb = 0) ∧ (tot l ≠ 0 → fe = 0 ∧ idxT l = wt ∧ idxB l = wb) := by
    rw [← hfe, hwt, hwb]
    unfold idxErr
    rw [if_neg (by rw [he]; simp)]
    constructor
    · intro h; rw [if_pos h, if_pos h, if_pos h]; exact ⟨rfl, rfl, rfl⟩
    · intro h; rw [if_neg h, if_neg h, if_neg h]; exact ⟨rfl, rfl, rfl⟩
  have HFE := Lib.hid hfe
  have HD := Lib.hid hd
  have HZ := Lib.hid hz
  have VG := Lib.hid hgg
  have s1 := tot_bound l 1000 HB.out
  have s2 := sqs_bd l HB.out
  have HS := Lib.hid (⟨s1, s2⟩ : (0 ≤ tot l ∧ tot l ≤ l.length * 1000) ∧ (0 ≤ sqs l ∧ sqs l ≤ l.length * 1000000))
  have HTS := Lib.hid (tot_sq l fun a ha => (HB.out a ha).1)
  clear he hbad hfe hwt hwb hd hz hgg s1 s2
  have BEL : Hid (Below w.heap.size w w) := Lib.hid (Below.refl _ _)
  have yB : w.heap.size ≤ w.heap.size := Nat.le_refl _
  go_enter Tryd.func12, Tryd.ntmps12
  go_wp2_with fail
  refine (refFew_is (some ⟨bb, off, none⟩) c l 1000 w.heap.size _ (HI.out.below (by repeat (first | with_reducible exact BEL.out | with_reducible apply Below.alloc | with_reducible apply Below.setCell | with_reducible apply Below.drew | with_reducible apply below_drewN | (first | omega | (focus (simp; done)) | (focus (simp; omega)) | (focus (simp [World.setCell]; omega))))) (Nat.le_refl _)) 0 HF.out).mono ?_; rintro e w' ⟨rfl, rfl⟩
  go_wp2_with fail
  refine (total_any (some ⟨bb, off, none⟩) c l w.heap.size _ (HI.out.below (by repeat (first | with_reducible exact BEL.out | with_reducible apply Below.alloc | with_reducible apply Below.setCell | with_reducible apply Below.drew | with_reducible apply below_drewN | (first | omega | (focus (simp; done)) | (focus (simp; omega)) | (focus (simp [World.setCell]; omega))))) (Nat.le_refl _)) (fun a ha => by have := HB.out a ha; omega) (by omega)).mono ?_; rintro e w' ⟨rfl, rfl⟩
  go_upto_if 32 with (fail)
  go_cut [10] (fun s10 wx => s10 = .int .i64 fe ∧ Hid (Blk wx w.heap.size 85 #[.int .i64 wt, .int .i64 wb]) ∧ Hid (Below w.heap.size w wx))
  case first =>
    by_cases h00 : tot l = 0
    · obtain ⟨rfl, rfl, rfl⟩ := HZ.out.1 h00
      have hb0 : (tot l == 0) = true := by simp [h00]
      clear h00
      go_wp2
      go_meet
      exact ⟨rfl, Lib.hid (by (repeat (first | (with_reducible apply Blk.new'; first | with_reducible rfl | (focus (simp; done)) | (focus (simp; omega))) | with_reducible apply Blk.s3_0 | with_reducible apply Blk.s3_1 | with_reducible apply Blk.s3_2 | with_reducible apply Blk.s2_0 | with_reducible apply Blk.s2_1 | with_reducible apply Blk.s4_0 | with_reducible apply Blk.s4_1 | with_reducible apply Blk.s4_2 | with_reducible apply Blk.s4_3 | with_reducible apply Blk.s1_0 | with_reducible apply Blk.set_ | with_reducible apply Blk.far | with_reducible apply Blk.alloc | with_reducible apply Blk.drew | with_reducible apply Blk.drewN | (first | omega | (focus (simp; done)) | (focus (simp; omega)) | (focus (simp [World.setCell]; omega)))))), Lib.hid (by repeat (first | with_reducible exact BEL.out | with_reducible apply Below.alloc | with_reducible apply Below.setCell | with_reducible apply Below.drew | with_reducible apply below_drewN | (first | omega | (focus (simp; done)) | (focus (simp; omega)) | (focus (simp [World.setCell]; omega)))))⟩
    · obtain ⟨rfl, h1, h2⟩ := HZ.out.2 h00
      have hb0 : (tot l == 0) = false := beq_eq_false_iff_ne.2 h00
      have H00 := Lib.hid h00
      have H12 := Lib.hid (And.intro h1 h2)
      clear h00 h1 h2
      have HW := Lib.hid (HI.out.below (by repeat (first | with_reducible exact BEL.out | with_reducible apply Below.alloc | with_reducible apply Below.setCell | with_reducible apply Below.drew | with_reducible apply below_drewN | (first | omega | (focus (simp; done)) | (focus (simp; omega)) | (focus (simp [World.setCell]; omega))))) (Nat.le_refl _) : Ints (w.alloc (.cells #[.int .i64 0, .int .i64 0] 85)) w.heap.size (some ⟨bb, off, none⟩) c l)
      go_wp2_with fail
      go_loopw [12, 13] (fun q i wr => ∃ (k : Nat) (d : Nat), k ≤ l.length ∧ i = .int .i64 k ∧ q = .int .i64 (sqs (l.take k)) ∧ wr = (w.alloc (.cells #[.int .i64 0, .int .i64 0] 85)).drewN d) (fun _ i _ => l.length - (intOf i).toNat)
      case atStart => exact ⟨0, 0, Nat.zero_le _, rfl, rfl, rfl⟩
      case round =>
        obtain ⟨k, d, hk, rfl, rfl, rfl⟩ := hrel
        by_cases hlt : k < l.length
        · obtain ⟨b, off9, x, eA, hbb, hc, hx, HT, HX⟩ := HI.out.elem hlt; injection eA with eA; injection eA with eA1 eA2; subst eA1 eA2
          have hbb1 := Nat.lt_add_one_of_lt hbb
          have h2 := HB.out x hx
          have h3 : (l.take k).length ≤ k := List.length_take_le _ _
          have h4 := sq_bd h2.1 h2.2
          have h5 := sqs_bd (l.take k) fun a ha => HB.out a (List.mem_of_mem_take ha)
          have HQ : Hid (sqs (l.take (k + 1)) = sqs (l.take k) + x * x) := Lib.hid (by rw [HT.out, sqs_snoc])
          clear HT HX hx
          generalize sqs (l.take k) = Q at *
          have hj1 : (0 : Int) ≤ (k : Int) := by omega
          have hj2 : (k : Int) < l.length := by omega
          go_wp2
          go_quiet (fail)
          go_wp2
          go_roundw
          case rel => exact ⟨k + 1, _, by omega, by go_num, by rw [HQ.out], rfl⟩
          case measure => simp [intOf]; omega
        · obtain rfl : k = l.length := by omega
          have e1 : l.take l.length = l := List.take_length
          rw [e1]; clear e1
          obtain ⟨⟨s1, s2⟩, ⟨s3, s4⟩⟩ := HS.out
          have HN0 : Hid (sqs l ≠ 0) := Lib.hid fun h => H00.out (HTS.out.1 h)
          have m1 : 0 ≤ tot l * tot l := Int.mul_nonneg s1 s1
          have m2 : tot l * tot l ≤ 6000 * 6000 := Int.mul_le_mul (by omega) (by omega) s1 (by omega)
          have m3 : 0 < (l.length : Int) * sqs l := Int.mul_pos (by omega) (by have := HN0.out; omega)
          have m4 : (l.length : Int) * sqs l ≤ 6 * 6000000 := Int.mul_le_mul (by omega) (by omega) s3 (by omega)
          go_wp2_with fail
          refine (total_any (some ⟨bb, off, none⟩) c l w.heap.size _ (HW.out.drewN d) (fun a ha => by have := HB.out a ha; omega) (by omega)).mono ?_; rintro e w' ⟨rfl, rfl⟩
          go_wp2_with fail
          refine (total_any (some ⟨bb, off, none⟩) c l w.heap.size _ (HW.out.drewN d) (fun a ha => by have := HB.out a ha; omega) (by omega)).mono ?_; rintro e w' ⟨rfl, rfl⟩
          go_wp2_with fail
          refine (refLow_any _ _ _ (by omega) (by omega) m3 (by omega)).mono ?_; rintro e w2 ⟨rfl, hb2⟩
          have hid : lowT (tot l * tot l) (l.length * sqs l) = wt ∧ lowB (tot l * tot l) (l.length * sqs l) = wb := H12.out
          rw [hid.1, hid.2]
          have HP := Lib.hid (((Blk.new w 85 #[.int .i64 0, .int .i64 0]).drewN d).below hb2 (by simp))
          have HBL := Lib.hid ((below_drewN ((Below.refl w.heap.size w).alloc (Nat.le_refl _) (.cells #[.int .i64 0, .int .i64 0] 85)) d).trans (hb2.mono (by simp)))
          clear hid hb2 m1 m2 m3 m4
          obtain ⟨p0, p1, f0, f1, z0⟩ := HP.out.two
          go_wp2
          go_meet
          exact ⟨rfl, Lib.hid ((HP.out.s2_0 _).s2_1 _), Lib.hid ((HBL.out.setCell (p := ⟨w.heap.size, 0, none⟩) (Nat.le_refl _) _).setCell (p := ⟨w.heap.size, 1, none⟩) (Nat.le_refl _) _)⟩
  case rest =>
    obtain ⟨rfl, HW, BEL⟩ := hcut
    have y_wc : w.heap.size ≤ wc.heap.size := BEL.out.size
    have q_W_wc : w.heap.size < wc.heap.size := HW.out.lt
    obtain ⟨pW0, pW1, fW0, fW1, zW⟩ := HW.out.two
    have zW_1 : w.heap.size < wc.heap.size + 1 := by omega
    have zW_2 : w.heap.size < wc.heap.size + 1 + 1 := by omega
    have zW_3 : w.heap.size < wc.heap.size + 1 + 1 + 1 := by omega
    go_wp2_with fail
    refine (index_tot (some ⟨bb, off, none⟩) c l _ ((HI.out.below (by repeat (first | with_reducible exact BEL.out | with_reducible apply Below.alloc | with_reducible apply Below.setCell | with_reducible apply Below.drew | with_reducible apply below_drewN | (first | omega | (focus (simp; done)) | (focus (simp; omega)) | (focus (simp [World.setCell]; omega))))) (Nat.le_refl _)).more (by (first | omega | (focus (simp; done)) | (focus (simp; omega)) | (focus (simp [World.setCell]; omega))))) fe wt wb HFE.out HD.out).mono ?_; rintro e w1 ⟨rfl, hb1⟩
    have z_w1 : wc.heap.size ≤ w1.heap.size := Nat.le_trans (by first | with_reducible exact Nat.le_refl _ | (simp; done) | (simp; omega) | (simp [World.setCell]; done)) hb1.size
    replace HW := Lib.hid (show Blk w1 (w.heap.size) 85 _ from by (with_reducible apply Blk.below (hb := hb1); (repeat (first | with_reducible exact HW.out | (with_reducible apply Blk.new'; first | with_reducible rfl | (focus (simp; done)) | (focus (simp; omega))) | with_reducible apply Blk.s3_0 | with_reducible apply Blk.s3_1 | with_reducible apply Blk.s3_2 | with_reducible apply Blk.s2_0 | with_reducible apply Blk.s2_1 | with_reducible apply Blk.s4_0 | with_reducible apply Blk.s4_1 | with_reducible apply Blk.s4_2 | with_reducible apply Blk.s4_3 | with_reducible apply Blk.s1_0 | with_reducible apply Blk.set_ | with_reducible apply Blk.far | with_reducible apply Blk.alloc | with_reducible apply Blk.drew | with_reducible apply Blk.drewN | (first | omega | (focus (simp; done)) | (focus (simp; omega)) | (focus (simp [World.setCell]; omega)))))))
    replace BEL : Hid (Below w.heap.size w w1) := Lib.hid (Below.trans (by repeat (first | with_reducible exact BEL.out | with_reducible apply Below.alloc | with_reducible apply Below.setCell | with_reducible apply Below.drew | with_reducible apply below_drewN | (first | omega | (focus (simp; done)) | (focus (simp; omega)) | (focus (simp [World.setCell]; omega))))) (hb1.mono (by (first | omega | (focus (simp; done)) | (focus (simp; omega)) | (focus (simp [World.setCell]; omega))))))
    have y_w1 : w.heap.size ≤ w1.heap.size := BEL.out.size
    clear hb1
    clear pW0 pW1 fW0 fW1 zW zW_1 zW_2 zW_3
    obtain ⟨pW0, pW1, fW0, fW1, zW⟩ := HW.out.two
    have zW_1 : w.heap.size < w1.heap.size + 1 := by omega
    have zW_2 : w.heap.size < w1.heap.size + 1 + 1 := by omega
    have zW_3 : w.heap.size < w1.heap.size + 1 + 1 + 1 := by omega
    go_wp2_with fail
    refine (same_yes fe _ (LAID.out.below (by repeat (first | with_reducible exact BEL.out | with_reducible apply Below.alloc | with_reducible apply Below.setCell | with_reducible apply Below.drew | with_reducible apply below_drewN | (first | omega | (focus (simp; done)) | (focus (simp; omega)) | (focus (simp [World.setCell]; omega))))))).mono ?_; rintro e w2 ⟨rfl, hb2⟩
    have z_w2 : w1.heap.size ≤ w2.heap.size := Nat.le_trans (by first | with_reducible exact Nat.le_refl _ | (simp; done) | (simp; omega) | (simp [World.setCell]; done)) hb2.size
    have HX := Lib.hid (show Blk w2 (w1.heap.size) 85 _ from by (with_reducible apply Blk.below (hb := hb2); (repeat (first | (with_reducible apply Blk.new'; first | with_reducible rfl | (focus (simp; done)) | (focus (simp; omega))) | with_reducible apply Blk.s3_0 | with_reducible apply Blk.s3_1 | with_reducible apply Blk.s3_2 | with_reducible apply Blk.s2_0 | with_reducible apply Blk.s2_1 | with_reducible apply Blk.s4_0 | with_reducible apply Blk.s4_1 | with_reducible apply Blk.s4_2 | with_reducible apply Blk.s4_3 | with_reducible apply Blk.s1_0 | with_reducible apply Blk.set_ | with_reducible apply Blk.far | with_reducible apply Blk.alloc | with_reducible apply Blk.drew | with_reducible apply Blk.drewN | (first | omega | (focus (simp; done)) | (focus (simp; omega)) | (focus (simp [World.setCell]; omega)))))))
    replace HW := Lib.hid (show Blk w2 (w.heap.size) 85 _ from by (with_reducible apply Blk.below (hb := hb2); (repeat (first | with_reducible exact HW.out | (with_reducible apply Blk.new'; first | with_reducible rfl | (focus (simp; done)) | (focus (simp; omega))) | with_reducible apply Blk.s3_0 | with_reducible apply Blk.s3_1 | with_reducible apply Blk.s3_2 | with_reducible apply Blk.s2_0 | with_reducible apply Blk.s2_1 | with_reducible apply Blk.s4_0 | with_reducible apply Blk.s4_1 | with_reducible apply Blk.s4_2 | with_reducible apply Blk.s4_3 | with_reducible apply Blk.s1_0 | with_reducible apply Blk.set_ | with_reducible apply Blk.far | with_reducible apply Blk.alloc | with_reducible apply Blk.drew | with_reducible apply Blk.drewN | (first | omega | (focus (simp; done)) | (focus (simp; omega)) | (focus (simp [World.setCell]; omega)))))))
    have q_X_w2 : w1.heap.size < w2.heap.size := HX.out.lt
    replace BEL : Hid (Below w.heap.size w w2) := Lib.hid (Below.trans (by repeat (first | with_reducible exact BEL.out | with_reducible apply Below.alloc | with_reducible apply Below.setCell | with_reducible apply Below.drew | with_reducible apply below_drewN | (first | omega | (focus (simp; done)) | (focus (simp; omega)) | (focus (simp [World.setCell]; omega))))) (hb2.mono (by (first | omega | (focus (simp; done)) | (focus (simp; omega)) | (focus (simp [World.setCell]; omega))))))
    have y_w2 : w.heap.size ≤ w2.heap.size := BEL.out.size
    clear hb2
    clear pW0 pW1 fW0 fW1 zW zW_1 zW_2 zW_3
    obtain ⟨pW0, pW1, fW0, fW1, zW⟩ := HW.out.two
    have zW_1 : w.heap.size < w2.heap.size + 1 := by omega
    have zW_2 : w.heap.size < w2.heap.size + 1 + 1 := by omega
    have zW_3 : w.heap.size < w2.heap.size + 1 + 1 + 1 := by omega
    obtain ⟨pX0, pX1, fX0, fX1, zX⟩ := HX.out.two
    have zX_1 : w1.heap.size < w2.heap.size + 1 := by omega
    have zX_2 : w1.heap.size < w2.heap.size + 1 + 1 := by omega
    have zX_3 : w1.heap.size < w2.heap.size + 1 + 1 + 1 := by omega
    go_wp2_with fail
    refine (rgap_is (some ⟨bb, off, none⟩) c l w.heap.size _ (HI.out.below (by repeat (first | with_reducible exact BEL.out | with_reducible apply Below.alloc | with_reducible apply Below.setCell | with_reducible apply Below.drew | with_reducible apply below_drewN | (first | omega | (focus (simp; done)) | (focus (simp; omega)) | (focus (simp [World.setCell]; omega))))) (Nat.le_refl _)) HF.out gg VG.out).mono ?_; rintro e w' ⟨rfl, rfl⟩
    go_wp2_with fail
    refine (egap_is (some ⟨bb, off, none⟩) c _ l w.heap.size _ (HI.out.below (by repeat (first | with_reducible exact BEL.out | with_reducible apply Below.alloc | with_reducible apply Below.setCell | with_reducible apply Below.drew | with_reducible apply below_drewN | (first | omega | (focus (simp; done)) | (focus (simp; omega)) | (focus (simp [World.setCell]; omega))))) (Nat.le_refl _)) HF.out gg VG.out rfl).mono ?_; rintro e w' ⟨rfl, rfl⟩
    go_wp2_with fail
    refine (same_ok _).mono ?_; rintro e w3 ⟨rfl, hb3⟩
    clear HW
    clear HX
    have z_w3 : w2.heap.size ≤ w3.heap.size := Nat.le_trans (by first | with_reducible exact Nat.le_refl _ | (simp; done) | (simp; omega) | (simp [World.setCell]; done)) hb3.size
    replace BEL : Hid (Below w.heap.size w w3) := Lib.hid (Below.trans (by repeat (first | with_reducible exact BEL.out | with_reducible apply Below.alloc | with_reducible apply Below.setCell | with_reducible apply Below.drew | with_reducible apply below_drewN | (first | omega | (focus (simp; done)) | (focus (simp; omega)) | (focus (simp [World.setCell]; omega))))) (hb3.mono (by (first | omega | (focus (simp; done)) | (focus (simp; omega)) | (focus (simp [World.setCell]; omega))))))
    have y_w3 : w.heap.size ≤ w3.heap.size := BEL.out.size
    clear hb3
    clear pW0 pW1 fW0 fW1 zW zW_1 zW_2 zW_3 pX0 pX1 fX0 fX1 zX zX_1 zX_2 zX_3
    obtain ⟨x0, x1⟩ := HB.out x (by rw [← HX.out]; exact getD_mem l f hf)
    have hcf1 : w3.cell? ⟨bb, off + f, none⟩ = some (.int .i64 x) := (BEL.out.cell (p := ⟨bb, off + f, none⟩) hbb).trans hcf0
    go_wp2_with (at_builtin; refine wpList_append_own _ rfl (.tmp 134) (.tmp 135) 42 rfl w.heap.size 3 i0 (.int .i64 0) 1 8 Tryd.underlying42 HINF.out.1 HINF.out.2.1 HINF.out.2.2.1 HINF.out.2.2.2 rfl (by omega) _ 0 [] rfl (World.ownsRow_nil _ _ _ _) ⟨bb, off, none⟩ l.length c (l.map (Value.int .i64)) rfl (by simp) (HCELL.out _ BEL.out) HONES.out (by simp only [maxLen]; omega) (by omega) y_w3 ?_)
    intro v' w7 hown7 hgrow7 _
    have hown7 : w7.ownsRow w.heap.size 3 1 v' l.length (l.map (Value.int .i64)) := by simpa using hown7
    replace BEL : Hid (Below w.heap.size w w7) := Lib.hid (BEL.out.grown hgrow7 y_w3 (fun k hk => by simp [Value.ownBlock] at hk))
    have y_w7 : w.heap.size ≤ w7.heap.size := BEL.out.size
    obtain ⟨g, cap, rfl, hg0, hg1, hcap, hcm⟩ := own_form hown7 h0
    obtain ⟨y, y0, y1, hgy, k1, k2, k3, k4, k5, ho⟩ := give_facts (t := t) HB.out hf ht HX.out m0 hlow hown7
    have HGY := Lib.hid hgy
    have HO := Lib.hid ho
    have hfull := HFULL.out
    rw [hgy] at hfull
    clear hgy ho hown7 hgrow7 hcf1
    have HI1 : Hid (Ints _ _ (some ⟨g, 0, none⟩) cap (giveTo l f t m)) := Lib.hid (by
      obtain ⟨A', c', e, _, hi⟩ := owns_ints' HO.out
      injection e with e1 e2 e3
      subst e1 e3
      exact hi)
    go_wp2_with fail
    refine (egive_ok (some ⟨bb, off, none⟩) c l f t m _ ((HI.out.below (by repeat (first | with_reducible exact BEL.out | with_reducible apply Below.alloc | with_reducible apply Below.setCell | with_reducible apply Below.drew | with_reducible apply below_drewN | (first | omega | (focus (simp; done)) | (focus (simp; omega)) | (focus (simp [World.setCell]; omega))))) (Nat.le_refl _)).more (by (first | omega | (focus (simp; done)) | (focus (simp; omega)) | (focus (simp [World.setCell]; omega))))) HF.out hf ht m0 m1 HLOW.out HFULL.out).mono ?_; rintro e w24 ⟨u2, rfl, ho2, hb4⟩
    have HI1 := Lib.hid (HI1.out.below hb4 (Nat.le_refl _))
    have HO2 := Lib.hid ho2; clear ho2
    have z_w24 : w7.heap.size ≤ w24.heap.size := Nat.le_trans (by first | with_reducible exact Nat.le_refl _ | (simp; done) | (simp; omega) | (simp [World.setCell]; done)) hb4.size
    replace BEL : Hid (Below w.heap.size w w24) := Lib.hid (Below.trans (by repeat (first | with_reducible exact BEL.out | with_reducible apply Below.alloc | with_reducible apply Below.setCell | with_reducible apply Below.drew | with_reducible apply below_drewN | (first | omega | (focus (simp; done)) | (focus (simp; omega)) | (focus (simp [World.setCell]; omega))))) (hb4.mono (by (first | omega | (focus (simp; done)) | (focus (simp; omega)) | (focus (simp [World.setCell]; omega))))))
    have y_w24 : w.heap.size ≤ w24.heap.size := BEL.out.size
    clear hb4
    obtain ⟨A2, c2, rfl, hln2, hi2⟩ := owns_ints' HO2.out
    have HI2 := Lib.hid hi2
    have HLN2 := Lib.hid hln2
    clear hln2 hi2
    go_wp2_with fail
    refine (same_ok _).mono ?_; rintro e w25 ⟨rfl, hb5⟩
    have HI1 := Lib.hid (HI1.out.below (hb5.mono (by (first | omega | (focus (simp; done)) | (focus (simp; omega)) | (focus (simp [World.setCell]; omega))))) (Nat.le_refl _))
    have HI2 := Lib.hid (HI2.out.below hb5 (Nat.le_refl _))
    have z_w25 : w24.heap.size ≤ w25.heap.size := Nat.le_trans (by first | with_reducible exact Nat.le_refl _ | (simp; done) | (simp; omega) | (simp [World.setCell]; done)) hb5.size
    replace BEL : Hid (Below w.heap.size w w25) := Lib.hid (Below.trans (by repeat (first | with_reducible exact BEL.out | with_reducible apply Below.alloc | with_reducible apply Below.setCell | with_reducible apply Below.drew | with_reducible apply below_drewN | (first | omega | (focus (simp; done)) | (focus (simp; omega)) | (focus (simp [World.setCell]; omega))))) (hb5.mono (by (first | omega | (focus (simp; done)) | (focus (simp; omega)) | (focus (simp [World.setCell]; omega))))))
    have y_w25 : w.heap.size ≤ w25.heap.size := BEL.out.size
    clear hb5
    go_wp2_with fail
    refine (sameInts_b _ _ _ _ _ _ (giveTo l f t m) _ _ _ HI2.out HI1.out HLN2.out HLN2.out).mono ?_; rintro e w6 ⟨rfl, hb6⟩
    have z_w6 : w25.heap.size ≤ w6.heap.size := Nat.le_trans (by first | with_reducible exact Nat.le_refl _ | (simp; done) | (simp; omega) | (simp [World.setCell]; done)) hb6.size
    replace BEL : Hid (Below w.heap.size w w6) := Lib.hid (Below.trans (by repeat (first | with_reducible exact BEL.out | with_reducible apply Below.alloc | with_reducible apply Below.setCell | with_reducible apply Below.drew | with_reducible apply below_drewN | (first | omega | (focus (simp; done)) | (focus (simp; omega)) | (focus (simp [World.setCell]; omega))))) (hb6.mono (by (first | omega | (focus (simp; done)) | (focus (simp; omega)) | (focus (simp [World.setCell]; omega))))))
    have y_w6 : w.heap.size ≤ w6.heap.size := BEL.out.size
    clear hb6
    go_wp2
    go_ret
    exact ⟨rfl, (by repeat (first | with_reducible exact BEL.out | with_reducible apply Below.alloc | with_reducible apply Below.setCell | with_reducible apply Below.drew | with_reducible apply below_drewN | (first | omega | (focus (simp; done)) | (focus (simp; omega)) | (focus (simp [World.setCell]; omega)))))⟩
theorem evenTells_walk {w : World} (A : Option Addr) (c : Nat) (l : List Int) (hi : Ints w w.heap.size A c l) (_ : ∀ x ∈ l, (Lit.int .i64 x).wf = true) (f : Int) (_ : (Lit.int .i64 f).wf = true) (t : Int) (_ : (Lit.int .i64 t).wf = true) (m : Int) (_ : (Lit.int .i64 m).wf = true) (hg : Laid w) :
    Calls Tryd.prog 12 #[.slice A l.length c, .int .i64 f, .int .i64 t, .int .i64 m] w fun e w' => e = .returned (.bool true) ∧ Below w.heap.size w w' := by
  by_cases he : fewErr l 1000 = 0
  · by_cases hr : GiveRange l.length f t m
    · obtain ⟨f0, f1, t0, t1, m0, m1⟩ := hr
      obtain ⟨f', rfl⟩ := Int.eq_ofNat_of_zero_le f0
      obtain ⟨t', rfl⟩ := Int.eq_ofNat_of_zero_le t0
      have hf : f' < l.length := by omega
      have ht : t' < l.length := by omega
      by_cases hlow : l.getD f' 0 < m
      · exact evenTells_in_low A c l f' t' m w hi hg he hf ht m0 m1 hlow
      · by_cases hfull : 1000 < (giveTo l f' t' m).getD t' 0
        · exact evenTells_in_full A c l f' t' m w hi hg he hf ht m0 m1 (by omega) hfull
        · exact evenTells_in_ok A c l f' t' m w hi hg he hf ht m0 m1 (by omega) (by omega)
    · exact evenTells_range A c l f t m w hi hg he hr
  · exact evenTells_few A c l f t m w hi hg _ rfl he
end Go.Proofs.YtkheobdkmmbjnaaDoor
