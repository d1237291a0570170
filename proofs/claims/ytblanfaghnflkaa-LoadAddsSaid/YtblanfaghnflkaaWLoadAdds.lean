/- The walk of LoadAdds: it returns true for every input. -/
import Derived.Test.YtblanfaghnflkaaLibK
import Derived.Test.YtblanfaghnflkaaFrSame
import Derived.Test.YtblanfaghnflkaaTopOne
namespace Go.Proofs.Ytblanfaghnflkaa
open Go.RowKit
attribute [local go_sem ↓] run_min_mn run_max_mx
def halfs : List Rat := [1 / 2, 1 / 2]
theorem halfs_in : ∀ q ∈ halfs, QIn q := fun q hq => of_decide_eq_true (List.all_eq_true.1 (show (halfs.all fun q => decide (QIn q)) = true by decide +kernel) q hq)
theorem caps_inL {caps : List Int} {paths : List (List Int)} (h : netErr caps paths = 0) {k : Nat} (hk : k < caps.length) : 1 ≤ caps.getD k 0 ∧ caps.getD k 0 ≤ 1000 := by
  have := (netErr_ok h).2.2.2.2.1 caps[k] (List.getElem_mem hk)
  rw [List.getD_eq_getElem?_getD, List.getElem?_eq_getElem hk]; exact this
theorem loadAdds_fact (g1 g2 g3 g4 gf : Nat) (w : World) (h1 : Blk w g1 3 #[.int .i64 5]) (h2 : Blk w g2 3 #[.int .i64 0]) (h3 : Blk w g3 3 #[.int .i64 0]) (h4 : Blk w g4 22 #[.slice (some ⟨g2, 0, none⟩) 1 1, .slice (some ⟨g3, 0, none⟩) 1 1]) (h5 : Blk w gf 28 #[.int .i64 1, .int .i64 2, .int .i64 1, .int .i64 2]) :
    Calls Try.prog 11 #[.agg #[.slice (some ⟨g1, 0, none⟩) 1 1, .slice (some ⟨g4, 0, none⟩) 2 2], .slice (some ⟨gf, 0, none⟩) 2 2] w fun e w' => ∃ b o c, e = .returned (.tuple #[.slice (some ⟨b, o, none⟩) 1 c, .nilIface]) ∧ w'.cell? ⟨b, o, none⟩ = some (.int .i64 1) ∧ w'.cell? ⟨b, o + 1, none⟩ = some (.int .i64 1) ∧ 0 < c ∧ Below w.heap.size w w' := by
  have hq : halfs.map frQ = [⟨1, 2⟩, ⟨1, 2⟩] := by decide +kernel
  refine (lof_yes (some ⟨g1, 0, none⟩) 1 [5] (some ⟨g4, 0, none⟩) 2 2 [[0], [0]] (some ⟨gf, 0, none⟩) 2 2 halfs [1] w.heap.size w (Nat.le_refl _) (Ints.blk (l := [5]) h1 h1.lt (by decide)) (Rows2.blk2 (l1 := [0]) (l2 := [0]) h4 (Ints.blk (l := [0]) h2 h2.lt (by decide)) (Ints.blk (l := [0]) h3 h3.lt (by decide)) h4.lt) (by rw [hq]; exact Frs.blk2 h5 h5.lt) rfl rfl (by decide) rfl (halfs_in) (by decide +kernel)).mono ?_
  rintro e w' ⟨A, c, rfl, hf, _, hb⟩
  obtain ⟨b, o, rfl, _, c0, c1⟩ := frs_k hf 0 rfl
  have hc := hf.le
  exact ⟨b, o, c, rfl, c0, c1, by simp at hc; omega, hb⟩
theorem snoc_at (Q : List Rat) {u : Nat} (h : u < Q.length) : (Q ++ [0]).getD u 0 = Q.getD u 0 := by rw [List.getD_eq_getElem?_getD, List.getD_eq_getElem?_getD, List.getElem?_append_left h]
theorem addUp_more (Q : List Rat) : ∀ us : List Nat, (∀ u ∈ us, u < Q.length) → addUp (Q ++ [0]) us = addUp Q us := by
  have key : ∀ (us : List Nat) (o : Option Rat), (∀ u ∈ us, u < Q.length) → us.foldl (addQ (Q ++ [0])) o = us.foldl (addQ Q) o := by
    intro us
    induction us with
    | nil => intro o _; rfl
    | cons u us ih =>
      intro o h
      show us.foldl (addQ (Q ++ [0])) (addQ (Q ++ [0]) o u) = us.foldl (addQ Q) (addQ Q o u)
      have e : addQ (Q ++ [0]) o u = addQ Q o u := by
        unfold addQ
        cases o with
        | none => rfl
        | some s => simp only; rw [snoc_at Q (h u List.mem_cons_self)]
      rw [e]; exact ih _ fun v hv => h v (List.mem_cons_of_mem _ hv)
  intro us h
  exact key us (some 0) h
theorem addUp_zero {Q : List Rat} {us : List Nat} {s : Rat} (h : addUp (Q ++ [0]) us = some s) : addUp (Q ++ [0]) (us ++ [Q.length]) = some s := by
  rw [addUp_snoc, h]
  have e : (Q ++ [0]).getD Q.length 0 = 0 := by simp [List.getD_eq_getElem?_getD]
  unfold addQ
  simp only
  rw [e, Rat.add_zero, if_pos (addUp_in h)]
theorem loads_more {paths : List (List Int)} {p : List Int} {Q : List Rat} (hl : Q.length = paths.length) : ∀ {n : Nat} {L : List Rat}, loadsTo paths Q n = some L → loadsTo (paths ++ [p]) (Q ++ [0]) n = some L := by
  intro n
  induction n with
  | zero => intro L h; exact h
  | succ n ih =>
    intro L h
    unfold loadsTo at h
    split at h
    · rename_i L' s h1 h2
      rw [← h]
      have hu : ∀ u ∈ users paths (n : Int), u < Q.length := fun u hu => by rw [hl]; exact (users_mem.1 hu).1
      have h3 : addUp (Q ++ [0]) (users paths (n : Int)) = some s := by rw [addUp_more Q _ hu]; exact h2
      cases hin : inL p (n : Int)
      · exact loadsTo_yes (ih h1) (by rw [users_snoc_no hin]; exact h3)
      · exact loadsTo_yes (ih h1) (by rw [users_snoc_yes hin, ← hl]; exact addUp_zero h3)
    · cases h
theorem fits_more (caps : List Int) (Q L : List Rat) : fitsB caps (Q ++ [0]) L = fitsB caps Q L := by
  unfold fitsB negB; rw [List.any_append]; simp
theorem left_nn {caps : List Int} {Q L : List Rat} (h : fitsB caps Q L = true) {k : Nat} (hk : k < caps.length) : ¬ (leftQ caps L k).num < 0 := by
  unfold fitsB at h
  rw [Bool.and_eq_true, Bool.not_eq_true', Bool.not_eq_true', List.any_eq_false] at h
  have := h.2 k (List.mem_range.2 hk)
  unfold overB at this
  rw [decide_eq_true_eq] at this
  have h2 : 0 ≤ leftQ caps L k := by unfold leftQ; grind
  have := Rat.num_nonneg.2 h2
  omega
theorem more_ok {paths : List (List Int)} {p : List Int} {Q : List Rat} (hq : ∀ q ∈ Q, QIn q) (hl : Q.length = paths.length) : (∀ q ∈ Q ++ [0], QIn q) ∧ (Q ++ [0]).length = (paths ++ [p]).length := by
  refine ⟨fun q h => ?_, by simp [hl]⟩
  rcases List.mem_append.1 h with h | h
  · exact hq q h
  · rw [List.mem_singleton.1 h]; exact zero_in
set_option maxHeartbeats 16000000 in
set_option maxRecDepth 100000 in
theorem loadAdds_err (C : Option Addr) (cc : Nat) (caps : List Int) (P : Option Addr) (cp : Nat) (paths : List (List Int)) (A : Option Addr) (c : Nat) (S : List Fr) (A' : Option Addr) (c' : Nat) (l : List Int) (w : World) (hc : Ints w w.heap.size C cc caps) (hp : Rows2 w w.heap.size P cp paths) (hr : Frs w w.heap.size A c S) (hi : Ints w w.heap.size A' c' l) (er : Int) (hx : (chkErr caps paths S = er ∧ er ≠ 0) ∨ (∃ Q : List Rat, S = Q.map frQ ∧ netErr caps paths = 0 ∧ Q.length = paths.length ∧ (∀ q ∈ Q, QIn q) ∧ loadsTo paths Q caps.length = none ∧ er = 4)) (h0 : er ≠ 0) :
    Calls Try.prog 5 #[.agg #[.slice C caps.length cc, .slice P paths.length cp], .slice A S.length c, .slice A' l.length c'] w fun e w' => e = .returned (.bool true) ∧ Below w.heap.size w w' := by
  have HC := Lib.hid hc
  have HP := Lib.hid hp
  have HR := Lib.hid hr
  have HI := Lib.hid hi
  have hcm := hc.cap; have hcl := hc.le; have hrm := hr.cap; have hrl := hr.le
  unfold maxLen at hcm hrm
  clear hc hp hr hi
  have HX := Lib.hid hx; have H0 := Lib.hid h0; clear hx h0
  have BEL : Hid (Below w.heap.size w w) := Lib.hid (Below.refl _ _)
  have yB : w.heap.size ≤ w.heap.size := Nat.le_refl _
  go_enter Try.func5, Try.ntmps5
  have hH := Lib.hid ((Blk.new' (w.alloc (.cells #[.slice C caps.length cc, .slice P paths.length cp] 25)) 28 #[.int .i64 1, .int .i64 2] (g := w.heap.size + 1) (by simp)))
  go_wp2_with fail
  refine (loadAdds_fact (w.heap.size + 1 + 1) (w.heap.size + 1 + 1 + 1) (w.heap.size + 1 + 1 + 1 + 1) (w.heap.size + 1 + 1 + 1 + 1 + 1) (w.heap.size + 1 + 1 + 1 + 1 + 1 + 1) _ (by repeat (first | (with_reducible apply Blk.new'; first | with_reducible rfl | (focus (simp; done))) | with_reducible apply Blk.alloc)) (by repeat (first | (with_reducible apply Blk.new'; first | with_reducible rfl | (focus (simp; done))) | with_reducible apply Blk.alloc)) (by repeat (first | (with_reducible apply Blk.new'; first | with_reducible rfl | (focus (simp; done))) | with_reducible apply Blk.alloc)) (by repeat (first | (with_reducible apply Blk.new'; first | with_reducible rfl | (focus (simp; done))) | with_reducible apply Blk.alloc)) (by repeat (first | (with_reducible apply Blk.new'; first | with_reducible rfl | (focus (simp; done))) | with_reducible apply Blk.alloc))).mono ?_; rintro e w1 ⟨b0, o0, c0, rfl, hk0, hk1, hcp0, hb1⟩
  have hk : Below w.heap.size w w1 := Below.trans (by repeat (first | with_reducible exact Below.refl _ _ | with_reducible apply Below.drew | with_reducible apply below_drewN | with_reducible apply Below.alloc | omega | (focus (simp; done)) | (simp; omega))) (hb1.mono (by first | omega | (simp; done) | (simp; omega)))
  have HN := Lib.hid (show Blk w1 (w.heap.size) 25 _ from Blk.go (by repeat (first | (with_reducible apply Blk.new'; first | with_reducible rfl | (focus (simp; done))) | with_reducible apply Blk.alloc | with_reducible apply Blk.drew | with_reducible apply Blk.drewN)) hb1)
  replace BEL : Hid (Below w.heap.size w w1) := Lib.hid (BEL.out.trans (hk.mono BEL.out.size))
  have z_w1 := hk.size; have y_w1 := BEL.out.size; clear hk hb1
  clear hH
  have hcpI : (0 : Int) < (c0 : Int) := by omega
  obtain ⟨pN0, pN1, fN0, fN1, zN, zN_1, zN_2, zN_3⟩ := HN.out.two'
  go_wp2_with fail
  refine (lof_er C cc caps P cp _ paths A c _ S w.heap.size _ er (by first | omega | (focus (simp; done)) | (simp; omega)) (HC.out.below (by repeat (first | with_reducible exact BEL.out | with_reducible apply Below.alloc | with_reducible apply Below.setCell | with_reducible apply Below.drew | with_reducible apply below_drewN | (first | omega | (focus (simp; done)) | (focus (simp; omega)) | (focus (simp [World.setCell]; omega))))) (Nat.le_refl _)) (HP.out.below (by repeat (first | with_reducible exact BEL.out | with_reducible apply Below.alloc | with_reducible apply Below.setCell | with_reducible apply Below.drew | with_reducible apply below_drewN | (first | omega | (focus (simp; done)) | (focus (simp; omega)) | (focus (simp [World.setCell]; omega))))) (Nat.le_refl _)) (HR.out.below (by repeat (first | with_reducible exact BEL.out | with_reducible apply Below.alloc | with_reducible apply Below.setCell | with_reducible apply Below.drew | with_reducible apply below_drewN | (first | omega | (focus (simp; done)) | (focus (simp; omega)) | (focus (simp [World.setCell]; omega))))) (Nat.le_refl _)) rfl rfl HX.out).mono ?_; rintro e w2 ⟨rfl, hb2⟩
  have hk : Below w1.heap.size w1 w2 := Below.trans (by repeat (first | with_reducible exact Below.refl _ _ | with_reducible apply Below.drew | with_reducible apply below_drewN | with_reducible apply Below.alloc | omega | (focus (simp; done)) | (simp; omega))) (hb2.mono (by first | omega | (simp; done) | (simp; omega)))
  replace HN := Lib.hid (HN.out.go hk)
  replace BEL : Hid (Below w.heap.size w w2) := Lib.hid (BEL.out.trans (hk.mono BEL.out.size))
  have z_w2 := hk.size; have y_w2 := BEL.out.size; clear hk hb2
  clear pN0 pN1 fN0 fN1 zN zN_1 zN_2 zN_3
  obtain ⟨pN0, pN1, fN0, fN1, zN, zN_1, zN_2, zN_3⟩ := HN.out.two'
  have hne := H0.out
  go_wp2
  go_ret
  exact ⟨rfl, (by repeat (first | with_reducible exact BEL.out | with_reducible apply Below.alloc | with_reducible apply Below.setCell | with_reducible apply Below.drew | with_reducible apply below_drewN | (first | omega | (focus (simp; done)) | (focus (simp; omega)) | (focus (simp [World.setCell]; omega)))))⟩
set_option maxHeartbeats 16000000 in
set_option maxRecDepth 100000 in
theorem loadAdds_TFullAdd (C : Option Addr) (cc : Nat) (caps : List Int) (P : Option Addr) (cp : Nat) (paths : List (List Int)) (A : Option Addr) (c : Nat) (S : List Fr) (A' : Option Addr) (c' : Nat) (l : List Int) (w : World) (hc : Ints w w.heap.size C cc caps) (hp : Rows2 w w.heap.size P cp paths) (hr : Frs w w.heap.size A c S) (hi : Ints w w.heap.size A' c' l) (Q L : List Rat) (hS : S = Q.map frQ) (he : netErr caps paths = 0) (hl : Q.length = paths.length) (hq : ∀ q ∈ Q, QIn q) (hL : loadsTo paths Q caps.length = some L) (hb : fitsB caps Q L = true) (hfl : ∃ i, i < caps.length ∧ ¬ QIn (leftQ caps L i)) (ha : addErr caps paths l = 0) :
    Calls Try.prog 5 #[.agg #[.slice C caps.length cc, .slice P paths.length cp], .slice A S.length c, .slice A' l.length c'] w fun e w' => e = .returned (.bool true) ∧ Below w.heap.size w w' := by
  have HC := Lib.hid hc
  have HP := Lib.hid hp
  have HR := Lib.hid hr
  have HI := Lib.hid hi
  have hcm := hc.cap; have hcl := hc.le; have hrm := hr.cap; have hrl := hr.le
  unfold maxLen at hcm hrm
  clear hc hp hr hi
  subst hS
  obtain ⟨_, hc6, hp0, hp6, _, _⟩ := netErr_ok he
  have hLL := loadsTo_len hL
  have hAL : (leftAll caps L caps.length).length = caps.length := by simp [leftAll]
  rw [List.length_map] at hrl
  rw [List.length_map]
  have hnn : ∀ k, k < caps.length → ¬ (leftQ caps L k).num < 0 := fun k hk => left_nn hb hk
  have HE := Lib.hid he; have HQL := Lib.hid hl; have HQ := Lib.hid hq; have HL := Lib.hid hL; have HFB := Lib.hid hb; have HA := Lib.hid ha; have HLL := Lib.hid hLL; have HAL := Lib.hid hAL; have HNN := Lib.hid hnn
  have hq6 : Q.length ≤ 6 := by omega
  have hq0 : 0 < Q.length := by omega
  clear he hl hq hL hb ha hLL hAL hnn
  have HFL := Lib.hid hfl; clear hfl
  have BEL : Hid (Below w.heap.size w w) := Lib.hid (Below.refl _ _)
  have yB : w.heap.size ≤ w.heap.size := Nat.le_refl _
  go_enter Try.func5, Try.ntmps5
  have hH := Lib.hid ((Blk.new' (w.alloc (.cells #[.slice C caps.length cc, .slice P paths.length cp] 25)) 28 #[.int .i64 1, .int .i64 2] (g := w.heap.size + 1) (by simp)))
  go_wp2_with fail
  refine (loadAdds_fact (w.heap.size + 1 + 1) (w.heap.size + 1 + 1 + 1) (w.heap.size + 1 + 1 + 1 + 1) (w.heap.size + 1 + 1 + 1 + 1 + 1) (w.heap.size + 1 + 1 + 1 + 1 + 1 + 1) _ (by repeat (first | (with_reducible apply Blk.new'; first | with_reducible rfl | (focus (simp; done))) | with_reducible apply Blk.alloc)) (by repeat (first | (with_reducible apply Blk.new'; first | with_reducible rfl | (focus (simp; done))) | with_reducible apply Blk.alloc)) (by repeat (first | (with_reducible apply Blk.new'; first | with_reducible rfl | (focus (simp; done))) | with_reducible apply Blk.alloc)) (by repeat (first | (with_reducible apply Blk.new'; first | with_reducible rfl | (focus (simp; done))) | with_reducible apply Blk.alloc)) (by repeat (first | (with_reducible apply Blk.new'; first | with_reducible rfl | (focus (simp; done))) | with_reducible apply Blk.alloc))).mono ?_; rintro e w1 ⟨b0, o0, c0, rfl, hk0, hk1, hcp0, hb1⟩
  have hk : Below w.heap.size w w1 := Below.trans (by repeat (first | with_reducible exact Below.refl _ _ | with_reducible apply Below.drew | with_reducible apply below_drewN | with_reducible apply Below.alloc | omega | (focus (simp; done)) | (simp; omega))) (hb1.mono (by first | omega | (simp; done) | (simp; omega)))
  have HN := Lib.hid (show Blk w1 (w.heap.size) 25 _ from Blk.go (by repeat (first | (with_reducible apply Blk.new'; first | with_reducible rfl | (focus (simp; done))) | with_reducible apply Blk.alloc | with_reducible apply Blk.drew | with_reducible apply Blk.drewN)) hb1)
  replace BEL : Hid (Below w.heap.size w w1) := Lib.hid (BEL.out.trans (hk.mono BEL.out.size))
  have z_w1 := hk.size; have y_w1 := BEL.out.size; clear hk hb1
  clear hH
  have hcpI : (0 : Int) < (c0 : Int) := by omega
  obtain ⟨pN0, pN1, fN0, fN1, zN, zN_1, zN_2, zN_3⟩ := HN.out.two'
  go_wp2_with fail
  refine (lof_yes C cc caps P cp _ paths A c _ Q L w.heap.size _ (by first | omega | (focus (simp; done)) | (simp; omega)) (HC.out.below (by repeat (first | with_reducible exact BEL.out | with_reducible apply Below.alloc | with_reducible apply Below.setCell | with_reducible apply Below.drew | with_reducible apply below_drewN | (first | omega | (focus (simp; done)) | (focus (simp; omega)) | (focus (simp [World.setCell]; omega))))) (Nat.le_refl _)) (HP.out.below (by repeat (first | with_reducible exact BEL.out | with_reducible apply Below.alloc | with_reducible apply Below.setCell | with_reducible apply Below.drew | with_reducible apply below_drewN | (first | omega | (focus (simp; done)) | (focus (simp; omega)) | (focus (simp [World.setCell]; omega))))) (Nat.le_refl _)) (HR.out.below (by repeat (first | with_reducible exact BEL.out | with_reducible apply Below.alloc | with_reducible apply Below.setCell | with_reducible apply Below.drew | with_reducible apply below_drewN | (first | omega | (focus (simp; done)) | (focus (simp; omega)) | (focus (simp [World.setCell]; omega))))) (Nat.le_refl _)) rfl rfl HE.out HQL.out HQ.out HL.out).mono ?_; rintro e w2 ⟨A1, c1, rfl, hf1, _, hb2⟩
  have hk : Below w1.heap.size w1 w2 := Below.trans (by repeat (first | with_reducible exact Below.refl _ _ | with_reducible apply Below.drew | with_reducible apply below_drewN | with_reducible apply Below.alloc | omega | (focus (simp; done)) | (simp; omega))) (hb2.mono (by first | omega | (simp; done) | (simp; omega)))
  replace HN := Lib.hid (HN.out.go hk)
  replace BEL : Hid (Below w.heap.size w w2) := Lib.hid (BEL.out.trans (hk.mono BEL.out.size))
  have z_w2 := hk.size; have y_w2 := BEL.out.size; clear hk hb2
  clear pN0 pN1 fN0 fN1 zN zN_1 zN_2 zN_3
  obtain ⟨pN0, pN1, fN0, fN1, zN, zN_1, zN_2, zN_3⟩ := HN.out.two'
  have HX := Lib.hid hf1; clear hf1 hk0 hk1 hcp0 hcpI
  go_wp2_with fail
  refine (left_any C cc caps P cp _ paths A c _ Q L w.heap.size _ (by first | omega | (focus (simp; done)) | (simp; omega)) (HC.out.below (by repeat (first | with_reducible exact BEL.out | with_reducible apply Below.alloc | with_reducible apply Below.setCell | with_reducible apply Below.drew | with_reducible apply below_drewN | (first | omega | (focus (simp; done)) | (focus (simp; omega)) | (focus (simp [World.setCell]; omega))))) (Nat.le_refl _)) (HP.out.below (by repeat (first | with_reducible exact BEL.out | with_reducible apply Below.alloc | with_reducible apply Below.setCell | with_reducible apply Below.drew | with_reducible apply below_drewN | (first | omega | (focus (simp; done)) | (focus (simp; omega)) | (focus (simp [World.setCell]; omega))))) (Nat.le_refl _)) (HR.out.below (by repeat (first | with_reducible exact BEL.out | with_reducible apply Below.alloc | with_reducible apply Below.setCell | with_reducible apply Below.drew | with_reducible apply below_drewN | (first | omega | (focus (simp; done)) | (focus (simp; omega)) | (focus (simp [World.setCell]; omega))))) (Nat.le_refl _)) rfl rfl HE.out HQL.out HQ.out HL.out).mono ?_; rintro e w3 ⟨hor, hb3⟩
  have hee : e = .returned (.tuple #[.slice none 0 0, .iface 71 (.int .i64 4)]) := by
    rcases hor with ⟨_, h⟩ | ⟨h, _⟩
    · exact h
    · exfalso; obtain ⟨i, h1, h2⟩ := HFL.out; exact h2 (h i h1)
  clear hor
  subst hee
  have hk : Below w2.heap.size w2 w3 := Below.trans (by repeat (first | with_reducible exact Below.refl _ _ | with_reducible apply Below.drew | with_reducible apply below_drewN | with_reducible apply Below.alloc | omega | (focus (simp; done)) | (simp; omega))) (hb3.mono (by first | omega | (simp; done) | (simp; omega)))
  replace HN := Lib.hid (HN.out.go hk)
  replace HX := Lib.hid (HX.out.at' hk)
  replace BEL : Hid (Below w.heap.size w w3) := Lib.hid (BEL.out.trans (hk.mono BEL.out.size))
  have z_w3 := hk.size; have y_w3 := BEL.out.size; clear hk hb3
  clear pN0 pN1 fN0 fN1 zN zN_1 zN_2 zN_3
  obtain ⟨pN0, pN1, fN0, fN1, zN, zN_1, zN_2, zN_3⟩ := HN.out.two'
  go_wp2_with fail
  refine (fits_yes' C cc caps P cp _ paths A c _ Q L true w.heap.size _ (by first | omega | (focus (simp; done)) | (simp; omega)) (HC.out.below (by repeat (first | with_reducible exact BEL.out | with_reducible apply Below.alloc | with_reducible apply Below.setCell | with_reducible apply Below.drew | with_reducible apply below_drewN | (first | omega | (focus (simp; done)) | (focus (simp; omega)) | (focus (simp [World.setCell]; omega))))) (Nat.le_refl _)) (HP.out.below (by repeat (first | with_reducible exact BEL.out | with_reducible apply Below.alloc | with_reducible apply Below.setCell | with_reducible apply Below.drew | with_reducible apply below_drewN | (first | omega | (focus (simp; done)) | (focus (simp; omega)) | (focus (simp [World.setCell]; omega))))) (Nat.le_refl _)) (HR.out.below (by repeat (first | with_reducible exact BEL.out | with_reducible apply Below.alloc | with_reducible apply Below.setCell | with_reducible apply Below.drew | with_reducible apply below_drewN | (first | omega | (focus (simp; done)) | (focus (simp; omega)) | (focus (simp [World.setCell]; omega))))) (Nat.le_refl _)) rfl rfl HE.out HQL.out HQ.out HL.out HFB.out).mono ?_; rintro e w4 ⟨rfl, hb4⟩
  have hk : Below w3.heap.size w3 w4 := Below.trans (by repeat (first | with_reducible exact Below.refl _ _ | with_reducible apply Below.drew | with_reducible apply below_drewN | with_reducible apply Below.alloc | omega | (focus (simp; done)) | (simp; omega))) (hb4.mono (by first | omega | (simp; done) | (simp; omega)))
  replace HN := Lib.hid (HN.out.go hk)
  replace HX := Lib.hid (HX.out.at' hk)
  replace BEL : Hid (Below w.heap.size w w4) := Lib.hid (BEL.out.trans (hk.mono BEL.out.size))
  have z_w4 := hk.size; have y_w4 := BEL.out.size; clear hk hb4
  clear pN0 pN1 fN0 fN1 zN zN_1 zN_2 zN_3
  obtain ⟨pN0, pN1, fN0, fN1, zN, zN_1, zN_2, zN_3⟩ := HN.out.two'
  have hcm1 := HX.out.cap; have hcl1 := HX.out.le
  rw [List.length_map, HLL.out] at hcl1
  unfold maxLen at hcm1
  go_wp2_with fail
  refine wp_loop_rounds 1 ?_
  rw [rounds_succ]
  go_wp2_with fail
  refine (add_yes' C cc caps P cp paths A' c' l w.heap.size _ (by first | omega | (focus (simp; done)) | (simp; omega)) (HC.out.below (by repeat (first | with_reducible exact BEL.out | with_reducible apply Below.alloc | with_reducible apply Below.setCell | with_reducible apply Below.drew | with_reducible apply below_drewN | (first | omega | (focus (simp; done)) | (focus (simp; omega)) | (focus (simp [World.setCell]; omega))))) (Nat.le_refl _)) (HP.out.below (by repeat (first | with_reducible exact BEL.out | with_reducible apply Below.alloc | with_reducible apply Below.setCell | with_reducible apply Below.drew | with_reducible apply below_drewN | (first | omega | (focus (simp; done)) | (focus (simp; omega)) | (focus (simp [World.setCell]; omega))))) (Nat.le_refl _)) (HI.out.below (by repeat (first | with_reducible exact BEL.out | with_reducible apply Below.alloc | with_reducible apply Below.setCell | with_reducible apply Below.drew | with_reducible apply below_drewN | (first | omega | (focus (simp; done)) | (focus (simp; omega)) | (focus (simp [World.setCell]; omega))))) (Nat.le_refl _)) HA.out).mono ?_; rintro e w5 ⟨C1, cc1, P1, cp1, rfl, hc1, hp1, hb5⟩
  have hk : Below w4.heap.size w4 w5 := Below.trans (by repeat (first | with_reducible exact Below.refl _ _ | with_reducible apply Below.drew | with_reducible apply below_drewN | with_reducible apply Below.alloc | omega | (focus (simp; done)) | (simp; omega))) (hb5.mono (by first | omega | (simp; done) | (simp; omega)))
  replace HN := Lib.hid (HN.out.go hk)
  replace HX := Lib.hid (HX.out.at' hk)
  replace BEL : Hid (Below w.heap.size w w5) := Lib.hid (BEL.out.trans (hk.mono BEL.out.size))
  have z_w5 := hk.size; have y_w5 := BEL.out.size; clear hk hb5
  clear pN0 pN1 fN0 fN1 zN zN_1 zN_2 zN_3
  obtain ⟨pN0, pN1, fN0, fN1, zN, zN_1, zN_2, zN_3⟩ := HN.out.two'
  have HC1 := Lib.hid hc1; have HP1 := Lib.hid hp1; clear hc1 hp1
  have HR5 := Lib.hid (HR.out.below (show Below w.heap.size w (w5.alloc (.cells #[.slice C1 caps.length cc1, .slice P1 (paths.length + 1) cp1] 25)) from BEL.out.alloc BEL.out.size _) (Nat.le_refl _))
  obtain ⟨b5, o5, hA5, hb5, _, _⟩ := frs_q HR5.out hq0
  subst hA5
  obtain ⟨i0, hi0, hz0, hz1, hz2⟩ := info_parts Try.info_fr
  have HCELL : Hid (∀ j u, (frCells (Q.map frQ))[j]? = some u → (w5.alloc (.cells #[.slice C1 caps.length cc1, .slice P1 (paths.length + 1) cp1] 25)).cell? ((⟨b5, o5, none⟩ : Addr).add j) = some u) := Lib.hid fun j u hu => by
    obtain ⟨b6, o6, e6, _, hc6⟩ := HR5.out.rd.2 (by rw [List.length_map]; exact hq0)
    injection e6 with e6
    injection e6 with e1 e2
    subst e1 e2
    have hadd : (⟨b5, o5, none⟩ : Addr).add j = ⟨b5, o5 + j, none⟩ := by unfold Addr.add; split <;> simp_all
    rw [hadd]; exact hc6 j u hu
  have HONE : Hid (∀ u ∈ frCells (Q.map frQ), u.oneCell' = true) := Lib.hid (frCells_one _)
  have HLEN : Hid ((frCells (Q.map frQ)).length = Q.length * 2) := Lib.hid (by rw [frCells_len, List.length_map])
  clear HR5
  go_wp2_with (at_builtin; (refine wpList_append_own _ rfl (.tmp 144) (.tmp 145) 26 rfl (w5.alloc (.cells #[.slice C1 caps.length cc1, .slice P1 (paths.length + 1) cp1] 25)).heap.size 28 i0 (.agg #[.int .i64 0, .int .i64 0]) 2 16 Try.underlying26 hi0 hz0 hz1 hz2 rfl (by omega) (.slice none 0 0) 0 [] rfl (World.ownsRow_nil _ _ _ _) ⟨b5, o5, none⟩ Q.length c (frCells (Q.map frQ)) rfl HLEN.out HCELL.out HONE.out (by simp only [maxLen]; omega) (by omega) (Nat.le_refl _) ?_; intro v6 wm hown6 hgrow6 _; rw [Nat.zero_add, List.nil_append] at hown6; obtain ⟨A6, c6, rfl, hl6, hm6, _⟩ := owns_reads hown6; have HO6 := Lib.hid hown6; have HBM : Hid (Below (w5.alloc (.cells #[.slice C1 caps.length cc1, .slice P1 (paths.length + 1) cp1] 25)).heap.size (w5.alloc (.cells #[.slice C1 caps.length cc1, .slice P1 (paths.length + 1) cp1] 25)) wm) := Lib.hid ((Below.refl _ _).grown hgrow6 (Nat.le_refl _) (fun k hk => by cases hk)); clear hown6 hgrow6; unfold maxLen at hm6; have hbmz := HBM.out.size; go_wp2_with (at_builtin; (refine wpList_push wm _ rfl (.tmp 147) (.tmp 149) 26 rfl (w5.alloc (.cells #[.slice C1 caps.length cc1, .slice P1 (paths.length + 1) cp1] 25)).heap.size 28 (.agg #[.int .i64 0, .int .i64 0]) 2 16 Try.underlying26 Try.info_fr rfl (by omega) _ _ _ rfl HO6.out rfl rfl (by simp [Value.oneCell']) (by omega) (by omega) hbmz ?_; intro v7 wn hown7 hg7; have hbm := below_push HBM.out HO6.out hg7 (Nat.le_refl _) hbmz; have hq7 : wn.ownsRow (w5.alloc (.cells #[.slice C1 caps.length cc1, .slice P1 (paths.length + 1) cp1] 25)).heap.size 28 2 v7 (Q.length + 1) (qcells (Q ++ [0])) := (by rw [qcells_snoc]; exact hown7); obtain ⟨A7, c7, rfl, hf7⟩ := rates_frs hq7; have HF7 := Lib.hid hf7; have hbm0 := Lib.hid hbm; clear hown7 hg7 hq7 hf7 hbm; obtain ⟨n0', n1', _, _, nz'⟩ := ((HN.out.alloc (.cells #[.slice C1 caps.length cc1, .slice P1 (paths.length + 1) cp1] 25)).go hbm0.out).two; obtain ⟨m0', m1', _, _, mz'⟩ := ((Blk.new w5 25 #[.slice C1 caps.length cc1, .slice P1 (paths.length + 1) cp1]).go hbm0.out).two))))
  have hbm := hbm0.out
  clear hi0 hz0 hz1 hz2 HCELL HONE HLEN n0' n1' nz' m0' m1' mz'
  have hk : Below w5.heap.size w5 wn := Below.trans (by repeat (first | with_reducible exact Below.refl _ _ | with_reducible apply Below.drew | with_reducible apply below_drewN | with_reducible apply Below.alloc | omega | (focus (simp; done)) | (simp; omega))) (hbm.mono (by first | omega | (simp; done) | (simp; omega)))
  replace HN := Lib.hid (HN.out.go hk)
  replace HX := Lib.hid (HX.out.at' hk)
  replace HC1 := Lib.hid (HC1.out.at' hk)
  replace HP1 := Lib.hid (HP1.out.at' hk)
  have HM := Lib.hid (show Blk wn (w5.heap.size) 25 _ from Blk.go (by repeat (first | (with_reducible apply Blk.new'; first | with_reducible rfl | (focus (simp; done))) | with_reducible apply Blk.alloc | with_reducible apply Blk.drew | with_reducible apply Blk.drewN)) hbm)
  replace BEL : Hid (Below w.heap.size w wn) := Lib.hid (BEL.out.trans (hk.mono BEL.out.size))
  have z_wn := hk.size; have y_wn := BEL.out.size; clear hk hbm
  clear pN0 pN1 fN0 fN1 zN zN_1 zN_2 zN_3
  obtain ⟨pN0, pN1, fN0, fN1, zN, zN_1, zN_2, zN_3⟩ := HN.out.two'
  obtain ⟨pM0, pM1, fM0, fM1, zM, zM_1, zM_2, zM_3⟩ := HM.out.two'
  have HMO := Lib.hid (more_ok (p := l) HQ.out HQL.out)
  have HE4 := Lib.hid (addErr_ok HA.out).2.2.2
  have HL4 := Lib.hid (loads_more (p := l) HQL.out HL.out)
  have HF4 : Hid (fitsB caps (Q ++ [0]) L = true) := Lib.hid (by rw [fits_more]; exact HFB.out)
  go_wp2_with fail
  refine (lof_yes C1 cc1 caps P1 cp1 _ (paths ++ [l]) A7 c7 _ (Q ++ [0]) L _ _ (Nat.le_refl _) (HC1.out.at' (by repeat (first | with_reducible exact Below.refl _ _ | with_reducible apply Below.drew | with_reducible apply below_drewN | with_reducible apply Below.alloc | omega | (focus (simp; done)) | (simp; omega)))) (HP1.out.at' (by repeat (first | with_reducible exact Below.refl _ _ | with_reducible apply Below.drew | with_reducible apply below_drewN | with_reducible apply Below.alloc | omega | (focus (simp; done)) | (simp; omega)))) (HF7.out.at' (by repeat (first | with_reducible exact Below.refl _ _ | with_reducible apply Below.drew | with_reducible apply below_drewN | with_reducible apply Below.alloc | omega | (focus (simp; done)) | (simp; omega)))) (by simp) (by simp) HE4.out HMO.out.2 HMO.out.1 HL4.out).mono ?_; rintro e w6 ⟨A8, c8, rfl, hf8, _, hb6⟩
  have hk : Below wn.heap.size wn w6 := Below.trans (by repeat (first | with_reducible exact Below.refl _ _ | with_reducible apply Below.drew | with_reducible apply below_drewN | with_reducible apply Below.alloc | omega | (focus (simp; done)) | (simp; omega))) (hb6.mono (by first | omega | (simp; done) | (simp; omega)))
  replace HN := Lib.hid (HN.out.go hk)
  replace HM := Lib.hid (HM.out.go hk)
  replace HX := Lib.hid (HX.out.at' hk)
  replace HC1 := Lib.hid (HC1.out.at' hk)
  replace HP1 := Lib.hid (HP1.out.at' hk)
  replace HF7 := Lib.hid (HF7.out.at' hk)
  replace BEL : Hid (Below w.heap.size w w6) := Lib.hid (BEL.out.trans (hk.mono BEL.out.size))
  have z_w6 := hk.size; have y_w6 := BEL.out.size; clear hk hb6
  clear pN0 pN1 fN0 fN1 zN zN_1 zN_2 zN_3 pM0 pM1 fM0 fM1 zM zM_1 zM_2 zM_3
  obtain ⟨pN0, pN1, fN0, fN1, zN, zN_1, zN_2, zN_3⟩ := HN.out.two'
  obtain ⟨pM0, pM1, fM0, fM1, zM, zM_1, zM_2, zM_3⟩ := HM.out.two'
  have HZ := Lib.hid hf8; clear hf8
  go_wp2_with fail
  refine (fits_yes' C1 cc1 caps P1 cp1 _ (paths ++ [l]) A7 c7 _ (Q ++ [0]) L true _ _ (Nat.le_refl _) (HC1.out.at' (by repeat (first | with_reducible exact Below.refl _ _ | with_reducible apply Below.drew | with_reducible apply below_drewN | with_reducible apply Below.alloc | omega | (focus (simp; done)) | (simp; omega)))) (HP1.out.at' (by repeat (first | with_reducible exact Below.refl _ _ | with_reducible apply Below.drew | with_reducible apply below_drewN | with_reducible apply Below.alloc | omega | (focus (simp; done)) | (simp; omega)))) (HF7.out.at' (by repeat (first | with_reducible exact Below.refl _ _ | with_reducible apply Below.drew | with_reducible apply below_drewN | with_reducible apply Below.alloc | omega | (focus (simp; done)) | (simp; omega)))) (by simp) (by simp) HE4.out HMO.out.2 HMO.out.1 HL4.out HF4.out).mono ?_; rintro e w7 ⟨rfl, hb7⟩
  have hk : Below w6.heap.size w6 w7 := Below.trans (by repeat (first | with_reducible exact Below.refl _ _ | with_reducible apply Below.drew | with_reducible apply below_drewN | with_reducible apply Below.alloc | omega | (focus (simp; done)) | (simp; omega))) (hb7.mono (by first | omega | (simp; done) | (simp; omega)))
  replace HN := Lib.hid (HN.out.go hk)
  replace HM := Lib.hid (HM.out.go hk)
  replace HX := Lib.hid (HX.out.at' hk)
  replace HC1 := Lib.hid (HC1.out.at' hk)
  replace HP1 := Lib.hid (HP1.out.at' hk)
  replace HF7 := Lib.hid (HF7.out.at' hk)
  replace HZ := Lib.hid (HZ.out.at' hk)
  replace BEL : Hid (Below w.heap.size w w7) := Lib.hid (BEL.out.trans (hk.mono BEL.out.size))
  have z_w7 := hk.size; have y_w7 := BEL.out.size; clear hk hb7
  clear pN0 pN1 fN0 fN1 zN zN_1 zN_2 zN_3 pM0 pM1 fM0 fM1 zM zM_1 zM_2 zM_3
  obtain ⟨pN0, pN1, fN0, fN1, zN, zN_1, zN_2, zN_3⟩ := HN.out.two'
  obtain ⟨pM0, pM1, fM0, fM1, zM, zM_1, zM_2, zM_3⟩ := HM.out.two'
  go_wp2_with fail
  refine (sameFr_any A8 A1 c8 c1 _ _ (L.map frQ) (L.map frQ) _ _ _ (HZ.out.at' (by repeat (first | with_reducible exact Below.refl _ _ | with_reducible apply Below.drew | with_reducible apply below_drewN | with_reducible apply Below.alloc | omega | (focus (simp; done)) | (simp; omega)))) (HX.out.at' (by repeat (first | with_reducible exact Below.refl _ _ | with_reducible apply Below.drew | with_reducible apply below_drewN | with_reducible apply Below.alloc | omega | (focus (simp; done)) | (simp; omega)))) (by simp [HLL.out]) (by simp [HLL.out]) (Nat.le_refl _) (Nat.le_refl _) true (decide_eq_true rfl)).mono ?_; rintro e w8 ⟨rfl, hb8⟩
  have hk : Below w7.heap.size w7 w8 := Below.trans (by repeat (first | with_reducible exact Below.refl _ _ | with_reducible apply Below.drew | with_reducible apply below_drewN | with_reducible apply Below.alloc | omega | (focus (simp; done)) | (simp; omega))) (hb8.mono (by first | omega | (simp; done) | (simp; omega)))
  replace HN := Lib.hid (HN.out.go hk)
  replace HM := Lib.hid (HM.out.go hk)
  replace HX := Lib.hid (HX.out.at' hk)
  replace HC1 := Lib.hid (HC1.out.at' hk)
  replace HP1 := Lib.hid (HP1.out.at' hk)
  replace HF7 := Lib.hid (HF7.out.at' hk)
  replace HZ := Lib.hid (HZ.out.at' hk)
  replace BEL : Hid (Below w.heap.size w w8) := Lib.hid (BEL.out.trans (hk.mono BEL.out.size))
  have z_w8 := hk.size; have y_w8 := BEL.out.size; clear hk hb8
  clear pN0 pN1 fN0 fN1 zN zN_1 zN_2 zN_3 pM0 pM1 fM0 fM1 zM zM_1 zM_2 zM_3
  obtain ⟨pN0, pN1, fN0, fN1, zN, zN_1, zN_2, zN_3⟩ := HN.out.two'
  obtain ⟨pM0, pM1, fM0, fM1, zM, zM_1, zM_2, zM_3⟩ := HM.out.two'
  go_wp2
  go_ret
  exact ⟨rfl, (by repeat (first | with_reducible exact BEL.out | with_reducible apply Below.alloc | with_reducible apply Below.setCell | with_reducible apply Below.drew | with_reducible apply below_drewN | (first | omega | (focus (simp; done)) | (focus (simp; omega)) | (focus (simp [World.setCell]; omega)))))⟩
set_option maxHeartbeats 16000000 in
set_option maxRecDepth 100000 in
theorem loadAdds_TFullNo (C : Option Addr) (cc : Nat) (caps : List Int) (P : Option Addr) (cp : Nat) (paths : List (List Int)) (A : Option Addr) (c : Nat) (S : List Fr) (A' : Option Addr) (c' : Nat) (l : List Int) (w : World) (hc : Ints w w.heap.size C cc caps) (hp : Rows2 w w.heap.size P cp paths) (hr : Frs w w.heap.size A c S) (hi : Ints w w.heap.size A' c' l) (Q L : List Rat) (hS : S = Q.map frQ) (he : netErr caps paths = 0) (hl : Q.length = paths.length) (hq : ∀ q ∈ Q, QIn q) (hL : loadsTo paths Q caps.length = some L) (hb : fitsB caps Q L = true) (hfl : ∃ i, i < caps.length ∧ ¬ QIn (leftQ caps L i)) (er : Int) (ha : addErr caps paths l = er) (h0 : er ≠ 0) :
    Calls Try.prog 5 #[.agg #[.slice C caps.length cc, .slice P paths.length cp], .slice A S.length c, .slice A' l.length c'] w fun e w' => e = .returned (.bool true) ∧ Below w.heap.size w w' := by
  have HC := Lib.hid hc
  have HP := Lib.hid hp
  have HR := Lib.hid hr
  have HI := Lib.hid hi
  have hcm := hc.cap; have hcl := hc.le; have hrm := hr.cap; have hrl := hr.le
  unfold maxLen at hcm hrm
  clear hc hp hr hi
  subst hS
  obtain ⟨_, hc6, hp0, hp6, _, _⟩ := netErr_ok he
  have hLL := loadsTo_len hL
  have hAL : (leftAll caps L caps.length).length = caps.length := by simp [leftAll]
  rw [List.length_map] at hrl
  rw [List.length_map]
  have hnn : ∀ k, k < caps.length → ¬ (leftQ caps L k).num < 0 := fun k hk => left_nn hb hk
  have HE := Lib.hid he; have HQL := Lib.hid hl; have HQ := Lib.hid hq; have HL := Lib.hid hL; have HFB := Lib.hid hb; have HA := Lib.hid ha; have HLL := Lib.hid hLL; have HAL := Lib.hid hAL; have HNN := Lib.hid hnn
  have hq6 : Q.length ≤ 6 := by omega
  have hq0 : 0 < Q.length := by omega
  clear he hl hq hL hb ha hLL hAL hnn
  have HFL := Lib.hid hfl; clear hfl
  have H0 := Lib.hid h0; clear h0
  have BEL : Hid (Below w.heap.size w w) := Lib.hid (Below.refl _ _)
  have yB : w.heap.size ≤ w.heap.size := Nat.le_refl _
  go_enter Try.func5, Try.ntmps5
  have hH := Lib.hid ((Blk.new' (w.alloc (.cells #[.slice C caps.length cc, .slice P paths.length cp] 25)) 28 #[.int .i64 1, .int .i64 2] (g := w.heap.size + 1) (by simp)))
  go_wp2_with fail
  refine (loadAdds_fact (w.heap.size + 1 + 1) (w.heap.size + 1 + 1 + 1) (w.heap.size + 1 + 1 + 1 + 1) (w.heap.size + 1 + 1 + 1 + 1 + 1) (w.heap.size + 1 + 1 + 1 + 1 + 1 + 1) _ (by repeat (first | (with_reducible apply Blk.new'; first | with_reducible rfl | (focus (simp; done))) | with_reducible apply Blk.alloc)) (by repeat (first | (with_reducible apply Blk.new'; first | with_reducible rfl | (focus (simp; done))) | with_reducible apply Blk.alloc)) (by repeat (first | (with_reducible apply Blk.new'; first | with_reducible rfl | (focus (simp; done))) | with_reducible apply Blk.alloc)) (by repeat (first | (with_reducible apply Blk.new'; first | with_reducible rfl | (focus (simp; done))) | with_reducible apply Blk.alloc)) (by repeat (first | (with_reducible apply Blk.new'; first | with_reducible rfl | (focus (simp; done))) | with_reducible apply Blk.alloc))).mono ?_; rintro e w1 ⟨b0, o0, c0, rfl, hk0, hk1, hcp0, hb1⟩
  have hk : Below w.heap.size w w1 := Below.trans (by repeat (first | with_reducible exact Below.refl _ _ | with_reducible apply Below.drew | with_reducible apply below_drewN | with_reducible apply Below.alloc | omega | (focus (simp; done)) | (simp; omega))) (hb1.mono (by first | omega | (simp; done) | (simp; omega)))
  have HN := Lib.hid (show Blk w1 (w.heap.size) 25 _ from Blk.go (by repeat (first | (with_reducible apply Blk.new'; first | with_reducible rfl | (focus (simp; done))) | with_reducible apply Blk.alloc | with_reducible apply Blk.drew | with_reducible apply Blk.drewN)) hb1)
  replace BEL : Hid (Below w.heap.size w w1) := Lib.hid (BEL.out.trans (hk.mono BEL.out.size))
  have z_w1 := hk.size; have y_w1 := BEL.out.size; clear hk hb1
  clear hH
  have hcpI : (0 : Int) < (c0 : Int) := by omega
  obtain ⟨pN0, pN1, fN0, fN1, zN, zN_1, zN_2, zN_3⟩ := HN.out.two'
  go_wp2_with fail
  refine (lof_yes C cc caps P cp _ paths A c _ Q L w.heap.size _ (by first | omega | (focus (simp; done)) | (simp; omega)) (HC.out.below (by repeat (first | with_reducible exact BEL.out | with_reducible apply Below.alloc | with_reducible apply Below.setCell | with_reducible apply Below.drew | with_reducible apply below_drewN | (first | omega | (focus (simp; done)) | (focus (simp; omega)) | (focus (simp [World.setCell]; omega))))) (Nat.le_refl _)) (HP.out.below (by repeat (first | with_reducible exact BEL.out | with_reducible apply Below.alloc | with_reducible apply Below.setCell | with_reducible apply Below.drew | with_reducible apply below_drewN | (first | omega | (focus (simp; done)) | (focus (simp; omega)) | (focus (simp [World.setCell]; omega))))) (Nat.le_refl _)) (HR.out.below (by repeat (first | with_reducible exact BEL.out | with_reducible apply Below.alloc | with_reducible apply Below.setCell | with_reducible apply Below.drew | with_reducible apply below_drewN | (first | omega | (focus (simp; done)) | (focus (simp; omega)) | (focus (simp [World.setCell]; omega))))) (Nat.le_refl _)) rfl rfl HE.out HQL.out HQ.out HL.out).mono ?_; rintro e w2 ⟨A1, c1, rfl, hf1, _, hb2⟩
  have hk : Below w1.heap.size w1 w2 := Below.trans (by repeat (first | with_reducible exact Below.refl _ _ | with_reducible apply Below.drew | with_reducible apply below_drewN | with_reducible apply Below.alloc | omega | (focus (simp; done)) | (simp; omega))) (hb2.mono (by first | omega | (simp; done) | (simp; omega)))
  replace HN := Lib.hid (HN.out.go hk)
  replace BEL : Hid (Below w.heap.size w w2) := Lib.hid (BEL.out.trans (hk.mono BEL.out.size))
  have z_w2 := hk.size; have y_w2 := BEL.out.size; clear hk hb2
  clear pN0 pN1 fN0 fN1 zN zN_1 zN_2 zN_3
  obtain ⟨pN0, pN1, fN0, fN1, zN, zN_1, zN_2, zN_3⟩ := HN.out.two'
  have HX := Lib.hid hf1; clear hf1 hk0 hk1 hcp0 hcpI
  go_wp2_with fail
  refine (left_any C cc caps P cp _ paths A c _ Q L w.heap.size _ (by first | omega | (focus (simp; done)) | (simp; omega)) (HC.out.below (by repeat (first | with_reducible exact BEL.out | with_reducible apply Below.alloc | with_reducible apply Below.setCell | with_reducible apply Below.drew | with_reducible apply below_drewN | (first | omega | (focus (simp; done)) | (focus (simp; omega)) | (focus (simp [World.setCell]; omega))))) (Nat.le_refl _)) (HP.out.below (by repeat (first | with_reducible exact BEL.out | with_reducible apply Below.alloc | with_reducible apply Below.setCell | with_reducible apply Below.drew | with_reducible apply below_drewN | (first | omega | (focus (simp; done)) | (focus (simp; omega)) | (focus (simp [World.setCell]; omega))))) (Nat.le_refl _)) (HR.out.below (by repeat (first | with_reducible exact BEL.out | with_reducible apply Below.alloc | with_reducible apply Below.setCell | with_reducible apply Below.drew | with_reducible apply below_drewN | (first | omega | (focus (simp; done)) | (focus (simp; omega)) | (focus (simp [World.setCell]; omega))))) (Nat.le_refl _)) rfl rfl HE.out HQL.out HQ.out HL.out).mono ?_; rintro e w3 ⟨hor, hb3⟩
  have hee : e = .returned (.tuple #[.slice none 0 0, .iface 71 (.int .i64 4)]) := by
    rcases hor with ⟨_, h⟩ | ⟨h, _⟩
    · exact h
    · exfalso; obtain ⟨i, h1, h2⟩ := HFL.out; exact h2 (h i h1)
  clear hor
  subst hee
  have hk : Below w2.heap.size w2 w3 := Below.trans (by repeat (first | with_reducible exact Below.refl _ _ | with_reducible apply Below.drew | with_reducible apply below_drewN | with_reducible apply Below.alloc | omega | (focus (simp; done)) | (simp; omega))) (hb3.mono (by first | omega | (simp; done) | (simp; omega)))
  replace HN := Lib.hid (HN.out.go hk)
  replace HX := Lib.hid (HX.out.at' hk)
  replace BEL : Hid (Below w.heap.size w w3) := Lib.hid (BEL.out.trans (hk.mono BEL.out.size))
  have z_w3 := hk.size; have y_w3 := BEL.out.size; clear hk hb3
  clear pN0 pN1 fN0 fN1 zN zN_1 zN_2 zN_3
  obtain ⟨pN0, pN1, fN0, fN1, zN, zN_1, zN_2, zN_3⟩ := HN.out.two'
  go_wp2_with fail
  refine (fits_yes' C cc caps P cp _ paths A c _ Q L true w.heap.size _ (by first | omega | (focus (simp; done)) | (simp; omega)) (HC.out.below (by repeat (first | with_reducible exact BEL.out | with_reducible apply Below.alloc | with_reducible apply Below.setCell | with_reducible apply Below.drew | with_reducible apply below_drewN | (first | omega | (focus (simp; done)) | (focus (simp; omega)) | (focus (simp [World.setCell]; omega))))) (Nat.le_refl _)) (HP.out.below (by repeat (first | with_reducible exact BEL.out | with_reducible apply Below.alloc | with_reducible apply Below.setCell | with_reducible apply Below.drew | with_reducible apply below_drewN | (first | omega | (focus (simp; done)) | (focus (simp; omega)) | (focus (simp [World.setCell]; omega))))) (Nat.le_refl _)) (HR.out.below (by repeat (first | with_reducible exact BEL.out | with_reducible apply Below.alloc | with_reducible apply Below.setCell | with_reducible apply Below.drew | with_reducible apply below_drewN | (first | omega | (focus (simp; done)) | (focus (simp; omega)) | (focus (simp [World.setCell]; omega))))) (Nat.le_refl _)) rfl rfl HE.out HQL.out HQ.out HL.out HFB.out).mono ?_; rintro e w4 ⟨rfl, hb4⟩
  have hk : Below w3.heap.size w3 w4 := Below.trans (by repeat (first | with_reducible exact Below.refl _ _ | with_reducible apply Below.drew | with_reducible apply below_drewN | with_reducible apply Below.alloc | omega | (focus (simp; done)) | (simp; omega))) (hb4.mono (by first | omega | (simp; done) | (simp; omega)))
  replace HN := Lib.hid (HN.out.go hk)
  replace HX := Lib.hid (HX.out.at' hk)
  replace BEL : Hid (Below w.heap.size w w4) := Lib.hid (BEL.out.trans (hk.mono BEL.out.size))
  have z_w4 := hk.size; have y_w4 := BEL.out.size; clear hk hb4
  clear pN0 pN1 fN0 fN1 zN zN_1 zN_2 zN_3
  obtain ⟨pN0, pN1, fN0, fN1, zN, zN_1, zN_2, zN_3⟩ := HN.out.two'
  have hcm1 := HX.out.cap; have hcl1 := HX.out.le
  rw [List.length_map, HLL.out] at hcl1
  unfold maxLen at hcm1
  go_wp2_with fail
  refine wp_loop_rounds 1 ?_
  rw [rounds_succ]
  go_wp2_with fail
  refine (add_no C cc caps P cp paths A' c' l w.heap.size _ er (by first | omega | (focus (simp; done)) | (simp; omega)) (HC.out.below (by repeat (first | with_reducible exact BEL.out | with_reducible apply Below.alloc | with_reducible apply Below.setCell | with_reducible apply Below.drew | with_reducible apply below_drewN | (first | omega | (focus (simp; done)) | (focus (simp; omega)) | (focus (simp [World.setCell]; omega))))) (Nat.le_refl _)) (HP.out.below (by repeat (first | with_reducible exact BEL.out | with_reducible apply Below.alloc | with_reducible apply Below.setCell | with_reducible apply Below.drew | with_reducible apply below_drewN | (first | omega | (focus (simp; done)) | (focus (simp; omega)) | (focus (simp [World.setCell]; omega))))) (Nat.le_refl _)) (HI.out.below (by repeat (first | with_reducible exact BEL.out | with_reducible apply Below.alloc | with_reducible apply Below.setCell | with_reducible apply Below.drew | with_reducible apply below_drewN | (first | omega | (focus (simp; done)) | (focus (simp; omega)) | (focus (simp [World.setCell]; omega))))) (Nat.le_refl _)) HA.out H0.out).mono ?_; rintro e w5 ⟨rfl, hb5⟩
  have hk : Below w4.heap.size w4 w5 := Below.trans (by repeat (first | with_reducible exact Below.refl _ _ | with_reducible apply Below.drew | with_reducible apply below_drewN | with_reducible apply Below.alloc | omega | (focus (simp; done)) | (simp; omega))) (hb5.mono (by first | omega | (simp; done) | (simp; omega)))
  replace HN := Lib.hid (HN.out.go hk)
  replace HX := Lib.hid (HX.out.at' hk)
  replace BEL : Hid (Below w.heap.size w w5) := Lib.hid (BEL.out.trans (hk.mono BEL.out.size))
  have z_w5 := hk.size; have y_w5 := BEL.out.size; clear hk hb5
  clear pN0 pN1 fN0 fN1 zN zN_1 zN_2 zN_3
  obtain ⟨pN0, pN1, fN0, fN1, zN, zN_1, zN_2, zN_3⟩ := HN.out.two'
  go_wp2
  go_ret
  exact ⟨rfl, (by repeat (first | with_reducible exact BEL.out | with_reducible apply Below.alloc | with_reducible apply Below.setCell | with_reducible apply Below.drew | with_reducible apply below_drewN | (first | omega | (focus (simp; done)) | (focus (simp; omega)) | (focus (simp [World.setCell]; omega)))))⟩
set_option maxHeartbeats 16000000 in
set_option maxRecDepth 100000 in
theorem loadAdds_TLeftAdd (C : Option Addr) (cc : Nat) (caps : List Int) (P : Option Addr) (cp : Nat) (paths : List (List Int)) (A : Option Addr) (c : Nat) (S : List Fr) (A' : Option Addr) (c' : Nat) (l : List Int) (w : World) (hc : Ints w w.heap.size C cc caps) (hp : Rows2 w w.heap.size P cp paths) (hr : Frs w w.heap.size A c S) (hi : Ints w w.heap.size A' c' l) (Q L : List Rat) (hS : S = Q.map frQ) (he : netErr caps paths = 0) (hl : Q.length = paths.length) (hq : ∀ q ∈ Q, QIn q) (hL : loadsTo paths Q caps.length = some L) (hb : fitsB caps Q L = true) (hqy : ∀ i, i < caps.length → QIn (leftQ caps L i)) (ha : addErr caps paths l = 0) :
    Calls Try.prog 5 #[.agg #[.slice C caps.length cc, .slice P paths.length cp], .slice A S.length c, .slice A' l.length c'] w fun e w' => e = .returned (.bool true) ∧ Below w.heap.size w w' := by
  have HC := Lib.hid hc
  have HP := Lib.hid hp
  have HR := Lib.hid hr
  have HI := Lib.hid hi
  have hcm := hc.cap; have hcl := hc.le; have hrm := hr.cap; have hrl := hr.le
  unfold maxLen at hcm hrm
  clear hc hp hr hi
  subst hS
  obtain ⟨_, hc6, hp0, hp6, _, _⟩ := netErr_ok he
  have hLL := loadsTo_len hL
  have hAL : (leftAll caps L caps.length).length = caps.length := by simp [leftAll]
  rw [List.length_map] at hrl
  rw [List.length_map]
  have hnn : ∀ k, k < caps.length → ¬ (leftQ caps L k).num < 0 := fun k hk => left_nn hb hk
  have HE := Lib.hid he; have HQL := Lib.hid hl; have HQ := Lib.hid hq; have HL := Lib.hid hL; have HFB := Lib.hid hb; have HA := Lib.hid ha; have HLL := Lib.hid hLL; have HAL := Lib.hid hAL; have HNN := Lib.hid hnn
  have hq6 : Q.length ≤ 6 := by omega
  have hq0 : 0 < Q.length := by omega
  clear he hl hq hL hb ha hLL hAL hnn
  have HQY := Lib.hid hqy; clear hqy
  have BEL : Hid (Below w.heap.size w w) := Lib.hid (Below.refl _ _)
  have yB : w.heap.size ≤ w.heap.size := Nat.le_refl _
  go_enter Try.func5, Try.ntmps5
  have hH := Lib.hid ((Blk.new' (w.alloc (.cells #[.slice C caps.length cc, .slice P paths.length cp] 25)) 28 #[.int .i64 1, .int .i64 2] (g := w.heap.size + 1) (by simp)))
  go_wp2_with fail
  refine (loadAdds_fact (w.heap.size + 1 + 1) (w.heap.size + 1 + 1 + 1) (w.heap.size + 1 + 1 + 1 + 1) (w.heap.size + 1 + 1 + 1 + 1 + 1) (w.heap.size + 1 + 1 + 1 + 1 + 1 + 1) _ (by repeat (first | (with_reducible apply Blk.new'; first | with_reducible rfl | (focus (simp; done))) | with_reducible apply Blk.alloc)) (by repeat (first | (with_reducible apply Blk.new'; first | with_reducible rfl | (focus (simp; done))) | with_reducible apply Blk.alloc)) (by repeat (first | (with_reducible apply Blk.new'; first | with_reducible rfl | (focus (simp; done))) | with_reducible apply Blk.alloc)) (by repeat (first | (with_reducible apply Blk.new'; first | with_reducible rfl | (focus (simp; done))) | with_reducible apply Blk.alloc)) (by repeat (first | (with_reducible apply Blk.new'; first | with_reducible rfl | (focus (simp; done))) | with_reducible apply Blk.alloc))).mono ?_; rintro e w1 ⟨b0, o0, c0, rfl, hk0, hk1, hcp0, hb1⟩
  have hk : Below w.heap.size w w1 := Below.trans (by repeat (first | with_reducible exact Below.refl _ _ | with_reducible apply Below.drew | with_reducible apply below_drewN | with_reducible apply Below.alloc | omega | (focus (simp; done)) | (simp; omega))) (hb1.mono (by first | omega | (simp; done) | (simp; omega)))
  have HN := Lib.hid (show Blk w1 (w.heap.size) 25 _ from Blk.go (by repeat (first | (with_reducible apply Blk.new'; first | with_reducible rfl | (focus (simp; done))) | with_reducible apply Blk.alloc | with_reducible apply Blk.drew | with_reducible apply Blk.drewN)) hb1)
  replace BEL : Hid (Below w.heap.size w w1) := Lib.hid (BEL.out.trans (hk.mono BEL.out.size))
  have z_w1 := hk.size; have y_w1 := BEL.out.size; clear hk hb1
  clear hH
  have hcpI : (0 : Int) < (c0 : Int) := by omega
  obtain ⟨pN0, pN1, fN0, fN1, zN, zN_1, zN_2, zN_3⟩ := HN.out.two'
  go_wp2_with fail
  refine (lof_yes C cc caps P cp _ paths A c _ Q L w.heap.size _ (by first | omega | (focus (simp; done)) | (simp; omega)) (HC.out.below (by repeat (first | with_reducible exact BEL.out | with_reducible apply Below.alloc | with_reducible apply Below.setCell | with_reducible apply Below.drew | with_reducible apply below_drewN | (first | omega | (focus (simp; done)) | (focus (simp; omega)) | (focus (simp [World.setCell]; omega))))) (Nat.le_refl _)) (HP.out.below (by repeat (first | with_reducible exact BEL.out | with_reducible apply Below.alloc | with_reducible apply Below.setCell | with_reducible apply Below.drew | with_reducible apply below_drewN | (first | omega | (focus (simp; done)) | (focus (simp; omega)) | (focus (simp [World.setCell]; omega))))) (Nat.le_refl _)) (HR.out.below (by repeat (first | with_reducible exact BEL.out | with_reducible apply Below.alloc | with_reducible apply Below.setCell | with_reducible apply Below.drew | with_reducible apply below_drewN | (first | omega | (focus (simp; done)) | (focus (simp; omega)) | (focus (simp [World.setCell]; omega))))) (Nat.le_refl _)) rfl rfl HE.out HQL.out HQ.out HL.out).mono ?_; rintro e w2 ⟨A1, c1, rfl, hf1, _, hb2⟩
  have hk : Below w1.heap.size w1 w2 := Below.trans (by repeat (first | with_reducible exact Below.refl _ _ | with_reducible apply Below.drew | with_reducible apply below_drewN | with_reducible apply Below.alloc | omega | (focus (simp; done)) | (simp; omega))) (hb2.mono (by first | omega | (simp; done) | (simp; omega)))
  replace HN := Lib.hid (HN.out.go hk)
  replace BEL : Hid (Below w.heap.size w w2) := Lib.hid (BEL.out.trans (hk.mono BEL.out.size))
  have z_w2 := hk.size; have y_w2 := BEL.out.size; clear hk hb2
  clear pN0 pN1 fN0 fN1 zN zN_1 zN_2 zN_3
  obtain ⟨pN0, pN1, fN0, fN1, zN, zN_1, zN_2, zN_3⟩ := HN.out.two'
  have HX := Lib.hid hf1; clear hf1 hk0 hk1 hcp0 hcpI
  go_wp2_with fail
  refine (left_any C cc caps P cp _ paths A c _ Q L w.heap.size _ (by first | omega | (focus (simp; done)) | (simp; omega)) (HC.out.below (by repeat (first | with_reducible exact BEL.out | with_reducible apply Below.alloc | with_reducible apply Below.setCell | with_reducible apply Below.drew | with_reducible apply below_drewN | (first | omega | (focus (simp; done)) | (focus (simp; omega)) | (focus (simp [World.setCell]; omega))))) (Nat.le_refl _)) (HP.out.below (by repeat (first | with_reducible exact BEL.out | with_reducible apply Below.alloc | with_reducible apply Below.setCell | with_reducible apply Below.drew | with_reducible apply below_drewN | (first | omega | (focus (simp; done)) | (focus (simp; omega)) | (focus (simp [World.setCell]; omega))))) (Nat.le_refl _)) (HR.out.below (by repeat (first | with_reducible exact BEL.out | with_reducible apply Below.alloc | with_reducible apply Below.setCell | with_reducible apply Below.drew | with_reducible apply below_drewN | (first | omega | (focus (simp; done)) | (focus (simp; omega)) | (focus (simp [World.setCell]; omega))))) (Nat.le_refl _)) rfl rfl HE.out HQL.out HQ.out HL.out).mono ?_; rintro e w3 ⟨hor, hb3⟩
  have hee : ∃ A2 c2, e = .returned (.tuple #[.slice A2 caps.length c2, .nilIface]) ∧ Frs w3 w3.heap.size A2 c2 ((leftAll caps L caps.length).map frQ) := by
    rcases hor with ⟨⟨i, h1, h2⟩, _⟩ | ⟨_, h⟩
    · exact absurd (HQY.out i h1) h2
    · exact h
  clear hor
  obtain ⟨A2, c2, rfl, hf2⟩ := hee
  have HY := Lib.hid hf2; clear hf2
  have hk : Below w2.heap.size w2 w3 := Below.trans (by repeat (first | with_reducible exact Below.refl _ _ | with_reducible apply Below.drew | with_reducible apply below_drewN | with_reducible apply Below.alloc | omega | (focus (simp; done)) | (simp; omega))) (hb3.mono (by first | omega | (simp; done) | (simp; omega)))
  replace HN := Lib.hid (HN.out.go hk)
  replace HX := Lib.hid (HX.out.at' hk)
  replace BEL : Hid (Below w.heap.size w w3) := Lib.hid (BEL.out.trans (hk.mono BEL.out.size))
  have z_w3 := hk.size; have y_w3 := BEL.out.size; clear hk hb3
  clear pN0 pN1 fN0 fN1 zN zN_1 zN_2 zN_3
  obtain ⟨pN0, pN1, fN0, fN1, zN, zN_1, zN_2, zN_3⟩ := HN.out.two'
  go_wp2_with fail
  refine (fits_yes' C cc caps P cp _ paths A c _ Q L true w.heap.size _ (by first | omega | (focus (simp; done)) | (simp; omega)) (HC.out.below (by repeat (first | with_reducible exact BEL.out | with_reducible apply Below.alloc | with_reducible apply Below.setCell | with_reducible apply Below.drew | with_reducible apply below_drewN | (first | omega | (focus (simp; done)) | (focus (simp; omega)) | (focus (simp [World.setCell]; omega))))) (Nat.le_refl _)) (HP.out.below (by repeat (first | with_reducible exact BEL.out | with_reducible apply Below.alloc | with_reducible apply Below.setCell | with_reducible apply Below.drew | with_reducible apply below_drewN | (first | omega | (focus (simp; done)) | (focus (simp; omega)) | (focus (simp [World.setCell]; omega))))) (Nat.le_refl _)) (HR.out.below (by repeat (first | with_reducible exact BEL.out | with_reducible apply Below.alloc | with_reducible apply Below.setCell | with_reducible apply Below.drew | with_reducible apply below_drewN | (first | omega | (focus (simp; done)) | (focus (simp; omega)) | (focus (simp [World.setCell]; omega))))) (Nat.le_refl _)) rfl rfl HE.out HQL.out HQ.out HL.out HFB.out).mono ?_; rintro e w4 ⟨rfl, hb4⟩
  have hk : Below w3.heap.size w3 w4 := Below.trans (by repeat (first | with_reducible exact Below.refl _ _ | with_reducible apply Below.drew | with_reducible apply below_drewN | with_reducible apply Below.alloc | omega | (focus (simp; done)) | (simp; omega))) (hb4.mono (by first | omega | (simp; done) | (simp; omega)))
  replace HN := Lib.hid (HN.out.go hk)
  replace HX := Lib.hid (HX.out.at' hk)
  replace HY := Lib.hid (HY.out.at' hk)
  replace BEL : Hid (Below w.heap.size w w4) := Lib.hid (BEL.out.trans (hk.mono BEL.out.size))
  have z_w4 := hk.size; have y_w4 := BEL.out.size; clear hk hb4
  clear pN0 pN1 fN0 fN1 zN zN_1 zN_2 zN_3
  obtain ⟨pN0, pN1, fN0, fN1, zN, zN_1, zN_2, zN_3⟩ := HN.out.two'
  clear pN0 pN1 fN0 fN1 zN zN_1 zN_2 zN_3
  obtain ⟨wo, hwo⟩ : ∃ x, x = w4 := ⟨_, rfl⟩
  rw [← hwo] at HX HY HN BEL ⊢
  clear hwo
  obtain ⟨n0, n1, _, _, nz⟩ := HN.out.two
  have hbo := BEL.out.size
  have hmx := HX.out.cap; have hlx := HX.out.le; have hmy := HY.out.cap; have hly := HY.out.le
  rw [List.length_map, HLL.out] at hlx
  rw [List.length_map, HAL.out] at hly
  unfold maxLen at hmx hmy
  go_wp2_with fail
  go_loopw [15] (fun i wr => ∃ k : Nat, k ≤ caps.length ∧ i = .int .i64 k ∧ Hid (Below wo.heap.size wo wr)) (fun i _ => caps.length - (intOf i).toNat)
  case atStart => exact ⟨0, Nat.zero_le _, rfl, Lib.hid (Below.refl _ _)⟩
  case round =>
    clear n0 n1 nz
    obtain ⟨k, hk, rfl, HB⟩ := hrel
    have hB1 := HB.out.size
    have HND := Lib.hid (HN.out.go HB.out)
    by_cases hlt : k < caps.length
    · have k0 : (0 : Int) ≤ (k : Int) := by omega
      have k1 : (k : Int) < (caps.length : Int) := by omega
      obtain ⟨b1, o1, rfl, hb1, x0, x1⟩ := frs_q (HX.out.below HB.out (Nat.le_refl _)) (show k < L.length by rw [HLL.out]; exact hlt)
      obtain ⟨b2, o2, rfl, hb2, y0, y1⟩ := frs_q (HY.out.below HB.out (Nat.le_refl _)) (show k < (leftAll caps L caps.length).length by rw [HAL.out]; exact hlt)
      obtain ⟨b3, o3, rfl, hb3, hcell⟩ := caps_get ((HC.out.below BEL.out (Nat.le_refl _)).below HB.out (by omega)) hlt
      have hyg : (leftAll caps L caps.length).getD k 0 = leftQ caps L k := by unfold leftAll; simp [List.getD_eq_getElem?_getD, hlt]
      rw [hyg] at y0 y1
      have hci := caps_inL HE.out hlt
      have hlq : leftQ caps L k = ((caps.getD k 0 : Int) : Rat) + -(L.getD k 0) := rfl
      have hqx : QIn (L.getD k 0) := loadsTo_in HL.out _ (by rw [List.getD_eq_getElem?_getD, List.getElem?_eq_getElem (show k < L.length by rw [HLL.out]; exact hlt)]; exact List.getElem_mem _)
      have hqy := HQY.out k hlt
      have hnn := decide_eq_false (show ¬ (leftQ caps L k).num < 0 by have hn0 := HNN.out k hlt; omega)
      obtain ⟨cv, hcv⟩ : ∃ x, caps.getD k 0 = x := ⟨_, rfl⟩
      obtain ⟨x, hx⟩ : ∃ x, L.getD k 0 = x := ⟨_, rfl⟩
      obtain ⟨y, hy⟩ : ∃ y, leftQ caps L k = y := ⟨_, rfl⟩
      rw [hcv] at hcell hci hlq
      rw [hx] at x0 x1 hqx hlq
      rw [hy] at y0 y1 hqy hlq
      try rw [hy] at hnn
      have hcq : QIn (cv : Rat) := by unfold QIn FracIn; simp; omega
      have HADD := Lib.hid fun W => (show Calls Try.prog 19 #[.agg #[.int .i64 x.num, .int .i64 x.den], .agg #[.int .i64 y.num, .int .i64 y.den]] W fun e w' => e = .returned (.tuple #[.agg #[.int .i64 cv, .int .i64 1], .nilIface]) ∧ Below W.heap.size W w' from by
        have := fadd_q x y (cv : Rat) W hqx hqy (by rw [hlq]; grind) hcq
        simpa using this)
      have z1 : b1 < wr.heap.size := by omega
      have z2 : b2 < wr.heap.size := by omega
      have z3 : b3 < wr.heap.size := by omega
      clear hyg hci hlq hqx hqy hcv hx hy hcq
      go_upto_region 17 with (fail)
      go_cut [16, 17] (fun s16 s17 wx => ∃ g16, s16 = .pointer (some ⟨g16, 0, none⟩) ∧ s17 = .nilIface ∧ Hid (Blk wx g16 28 #[.int .i64 cv, .int .i64 1]) ∧ Hid (Below wr.heap.size wr wx))
      case first =>
        go_region_held3 (fun w' => w'.cell? ⟨b1, o1 + k * 2, none⟩ = some (.int .i64 x.num) ∧ w'.cell? ⟨b1, o1 + k * 2 + 1, none⟩ = some (.int .i64 x.den) ∧ w'.cell? ⟨b2, o2 + k * 2, none⟩ = some (.int .i64 y.num) ∧ w'.cell? ⟨b2, o2 + k * 2 + 1, none⟩ = some (.int .i64 y.den)) (go_keep)
          (first
            | (go_simp; go_at_call 19; (with_reducible refine (HADD.out (wr.alloc (.cells #[.int .i64 0, .int .i64 0] 28)).drew).mono ?_); rintro e w5 ⟨rfl, hb5⟩; have HB5 : Hid (Below wr.heap.size wr w5) := Lib.hid (((Below.refl _ _).alloc (Nat.le_refl _) _).drew.trans (hb5.mono (by simp))); have HX5 := Lib.hid ((Blk.new wr 28 #[.int .i64 0, .int .i64 0]).drew.go hb5); have u0 := (HB5.out.cell (p := ⟨b1, o1 + k * 2, none⟩) z1).trans x0; have u1 := (HB5.out.cell (p := ⟨b1, o1 + k * 2 + 1, none⟩) z1).trans x1; have u2 := (HB5.out.cell (p := ⟨b2, o2 + k * 2, none⟩) z2).trans y0; have u3 := (HB5.out.cell (p := ⟨b2, o2 + k * 2 + 1, none⟩) z2).trans y1; have hz5 := HB5.out.size; have n1' : ¬ b1 = w5.heap.size := (by omega); have n2' : ¬ b2 = w5.heap.size := (by omega); have n3' : ¬ b1 = wr.heap.size := (by omega); have n4' : ¬ b2 = wr.heap.size := (by omega); have n5' : ¬ w5.heap.size = b1 := (by omega); have n6' : ¬ w5.heap.size = b2 := (by omega); have n7' : ¬ wr.heap.size = b1 := (by omega); have n8' : ¬ wr.heap.size = b2 := (by omega); clear hb5; obtain ⟨v0, v1, vf0, vf1, vz⟩ := HX5.out.two; dsimp only)
            | (go_simp; go_at_call 19; refine (HADD.out _).mono ?_; rintro e w5 ⟨rfl, hb5⟩; have HB5 : Hid (Below wr.heap.size wr w5) := Lib.hid (by first | exact hb5 | exact (Below.refl _ _).drew.trans hb5); have u0 := (HB5.out.cell (p := ⟨b1, o1 + k * 2, none⟩) z1).trans x0; have u1 := (HB5.out.cell (p := ⟨b1, o1 + k * 2 + 1, none⟩) z1).trans x1; have u2 := (HB5.out.cell (p := ⟨b2, o2 + k * 2, none⟩) z2).trans y0; have u3 := (HB5.out.cell (p := ⟨b2, o2 + k * 2 + 1, none⟩) z2).trans y1; have hz5 := HB5.out.size; have n1' : ¬ b1 = w5.heap.size := (by omega); have n2' : ¬ b2 = w5.heap.size := (by omega); have n3' : ¬ b1 = wr.heap.size := (by omega); have n4' : ¬ b2 = wr.heap.size := (by omega); have n5' : ¬ w5.heap.size = b1 := (by omega); have n6' : ¬ w5.heap.size = b2 := (by omega); have n7' : ¬ wr.heap.size = b1 := (by omega); have n8' : ¬ wr.heap.size = b2 := (by omega); clear hb5; dsimp only))
        all_goals
          go_wp2
          go_meet
          first
            | exact ⟨_, rfl, rfl, Lib.hid (Blk.new _ _ _), Lib.hid (HB5.out.alloc HB5.out.size _)⟩
            | exact ⟨_, rfl, rfl, Lib.hid ((HX5.out.s2_0 _).s2_1 _), Lib.hid ((HB5.out.setCell (p := ⟨_, 0, none⟩) (Nat.le_refl _) _).setCell (p := ⟨_, 1, none⟩) (Nat.le_refl _) _)⟩
      case rest =>
        obtain ⟨g16, rfl, rfl, HG, HBX⟩ := hcut
        have HB6 := Lib.hid (HB.out.trans (HBX.out.mono hB1))
        have HN6 := Lib.hid (HND.out.go HBX.out)
        have c6 := (HBX.out.cell (p := ⟨b3, o3 + k, none⟩) z3).trans hcell
        have yy6 := (HBX.out.cell (p := ⟨b2, o2 + k * 2, none⟩) z2).trans y0
        have hz6 := HBX.out.size
        obtain ⟨n0, n1, _, _, nz⟩ := HN6.out.two
        obtain ⟨g0, g1, _, _, gz⟩ := HG.out.two
        clear hcell x0 x1 y0 y1 HADD HBX HND
        go_wp2_with fail
        go_quiet (fail)
        go_wp2
        go_roundw
        case rel => exact ⟨k + 1, by omega, by go_num, Lib.hid (below_drewN HB6.out _)⟩
        case measure => simp [intOf]; omega
    · obtain rfl : k = caps.length := by omega
      replace BEL := Lib.hid (BEL.out.trans (HB.out.mono hbo))
      replace HX := Lib.hid (HX.out.at' HB.out)
      replace HN := HND
      clear HY HND hmx hlx hmy hly
      obtain ⟨wz, hwz⟩ : ∃ x, x = wr := ⟨_, rfl⟩
      rw [← hwz] at HX HN BEL ⊢
      clear hwz HB hB1
      obtain ⟨n0, n1, _, _, nz⟩ := HN.out.two
      have y_wz := BEL.out.size
      go_wp2_with fail
      refine (add_yes' C cc caps P cp paths A' c' l w.heap.size _ (by first | omega | (focus (simp; done)) | (simp; omega)) (HC.out.below (by repeat (first | with_reducible exact BEL.out | with_reducible apply Below.alloc | with_reducible apply Below.setCell | with_reducible apply Below.drew | with_reducible apply below_drewN | (first | omega | (focus (simp; done)) | (focus (simp; omega)) | (focus (simp [World.setCell]; omega))))) (Nat.le_refl _)) (HP.out.below (by repeat (first | with_reducible exact BEL.out | with_reducible apply Below.alloc | with_reducible apply Below.setCell | with_reducible apply Below.drew | with_reducible apply below_drewN | (first | omega | (focus (simp; done)) | (focus (simp; omega)) | (focus (simp [World.setCell]; omega))))) (Nat.le_refl _)) (HI.out.below (by repeat (first | with_reducible exact BEL.out | with_reducible apply Below.alloc | with_reducible apply Below.setCell | with_reducible apply Below.drew | with_reducible apply below_drewN | (first | omega | (focus (simp; done)) | (focus (simp; omega)) | (focus (simp [World.setCell]; omega))))) (Nat.le_refl _)) HA.out).mono ?_; rintro e w5 ⟨C1, cc1, P1, cp1, rfl, hc1, hp1, hb5⟩
      have hk : Below wz.heap.size wz w5 := Below.trans (by repeat (first | with_reducible exact Below.refl _ _ | with_reducible apply Below.drew | with_reducible apply below_drewN | with_reducible apply Below.alloc | omega | (focus (simp; done)) | (simp; omega))) (hb5.mono (by first | omega | (simp; done) | (simp; omega)))
      replace HN := Lib.hid (HN.out.go hk)
      replace HX := Lib.hid (HX.out.at' hk)
      replace BEL : Hid (Below w.heap.size w w5) := Lib.hid (BEL.out.trans (hk.mono BEL.out.size))
      have z_w5 := hk.size; have y_w5 := BEL.out.size; clear hk hb5
      clear n0 n1 nz
      obtain ⟨pN0, pN1, fN0, fN1, zN, zN_1, zN_2, zN_3⟩ := HN.out.two'
      have HC1 := Lib.hid hc1; have HP1 := Lib.hid hp1; clear hc1 hp1
      have HR5 := Lib.hid (HR.out.below (show Below w.heap.size w (w5.alloc (.cells #[.slice C1 caps.length cc1, .slice P1 (paths.length + 1) cp1] 25)) from BEL.out.alloc BEL.out.size _) (Nat.le_refl _))
      obtain ⟨b5, o5, hA5, hb5, _, _⟩ := frs_q HR5.out hq0
      subst hA5
      obtain ⟨i0, hi0, hz0, hz1, hz2⟩ := info_parts Try.info_fr
      have HCELL : Hid (∀ j u, (frCells (Q.map frQ))[j]? = some u → (w5.alloc (.cells #[.slice C1 caps.length cc1, .slice P1 (paths.length + 1) cp1] 25)).cell? ((⟨b5, o5, none⟩ : Addr).add j) = some u) := Lib.hid fun j u hu => by
        obtain ⟨b6, o6, e6, _, hc6⟩ := HR5.out.rd.2 (by rw [List.length_map]; exact hq0)
        injection e6 with e6
        injection e6 with e1 e2
        subst e1 e2
        have hadd : (⟨b5, o5, none⟩ : Addr).add j = ⟨b5, o5 + j, none⟩ := by unfold Addr.add; split <;> simp_all
        rw [hadd]; exact hc6 j u hu
      have HONE : Hid (∀ u ∈ frCells (Q.map frQ), u.oneCell' = true) := Lib.hid (frCells_one _)
      have HLEN : Hid ((frCells (Q.map frQ)).length = Q.length * 2) := Lib.hid (by rw [frCells_len, List.length_map])
      clear HR5
      go_wp2_with (at_builtin; (refine wpList_append_own _ rfl (.tmp 144) (.tmp 145) 26 rfl (w5.alloc (.cells #[.slice C1 caps.length cc1, .slice P1 (paths.length + 1) cp1] 25)).heap.size 28 i0 (.agg #[.int .i64 0, .int .i64 0]) 2 16 Try.underlying26 hi0 hz0 hz1 hz2 rfl (by omega) (.slice none 0 0) 0 [] rfl (World.ownsRow_nil _ _ _ _) ⟨b5, o5, none⟩ Q.length c (frCells (Q.map frQ)) rfl HLEN.out HCELL.out HONE.out (by simp only [maxLen]; omega) (by omega) (Nat.le_refl _) ?_; intro v6 wm hown6 hgrow6 _; rw [Nat.zero_add, List.nil_append] at hown6; obtain ⟨A6, c6, rfl, hl6, hm6, _⟩ := owns_reads hown6; have HO6 := Lib.hid hown6; have HBM : Hid (Below (w5.alloc (.cells #[.slice C1 caps.length cc1, .slice P1 (paths.length + 1) cp1] 25)).heap.size (w5.alloc (.cells #[.slice C1 caps.length cc1, .slice P1 (paths.length + 1) cp1] 25)) wm) := Lib.hid ((Below.refl _ _).grown hgrow6 (Nat.le_refl _) (fun k hk => by cases hk)); clear hown6 hgrow6; unfold maxLen at hm6; have hbmz := HBM.out.size; go_wp2_with (at_builtin; (refine wpList_push wm _ rfl (.tmp 147) (.tmp 149) 26 rfl (w5.alloc (.cells #[.slice C1 caps.length cc1, .slice P1 (paths.length + 1) cp1] 25)).heap.size 28 (.agg #[.int .i64 0, .int .i64 0]) 2 16 Try.underlying26 Try.info_fr rfl (by omega) _ _ _ rfl HO6.out rfl rfl (by simp [Value.oneCell']) (by omega) (by omega) hbmz ?_; intro v7 wn hown7 hg7; have hbm := below_push HBM.out HO6.out hg7 (Nat.le_refl _) hbmz; have hq7 : wn.ownsRow (w5.alloc (.cells #[.slice C1 caps.length cc1, .slice P1 (paths.length + 1) cp1] 25)).heap.size 28 2 v7 (Q.length + 1) (qcells (Q ++ [0])) := (by rw [qcells_snoc]; exact hown7); obtain ⟨A7, c7, rfl, hf7⟩ := rates_frs hq7; have HF7 := Lib.hid hf7; have hbm0 := Lib.hid hbm; clear hown7 hg7 hq7 hf7 hbm; obtain ⟨n0', n1', _, _, nz'⟩ := ((HN.out.alloc (.cells #[.slice C1 caps.length cc1, .slice P1 (paths.length + 1) cp1] 25)).go hbm0.out).two; obtain ⟨m0', m1', _, _, mz'⟩ := ((Blk.new w5 25 #[.slice C1 caps.length cc1, .slice P1 (paths.length + 1) cp1]).go hbm0.out).two))))
      have hbm := hbm0.out
      clear hi0 hz0 hz1 hz2 HCELL HONE HLEN n0' n1' nz' m0' m1' mz'
      have hk : Below w5.heap.size w5 wn := Below.trans (by repeat (first | with_reducible exact Below.refl _ _ | with_reducible apply Below.drew | with_reducible apply below_drewN | with_reducible apply Below.alloc | omega | (focus (simp; done)) | (simp; omega))) (hbm.mono (by first | omega | (simp; done) | (simp; omega)))
      replace HN := Lib.hid (HN.out.go hk)
      replace HX := Lib.hid (HX.out.at' hk)
      replace HC1 := Lib.hid (HC1.out.at' hk)
      replace HP1 := Lib.hid (HP1.out.at' hk)
      have HM := Lib.hid (show Blk wn (w5.heap.size) 25 _ from Blk.go (by repeat (first | (with_reducible apply Blk.new'; first | with_reducible rfl | (focus (simp; done))) | with_reducible apply Blk.alloc | with_reducible apply Blk.drew | with_reducible apply Blk.drewN)) hbm)
      replace BEL : Hid (Below w.heap.size w wn) := Lib.hid (BEL.out.trans (hk.mono BEL.out.size))
      have z_wn := hk.size; have y_wn := BEL.out.size; clear hk hbm
      clear pN0 pN1 fN0 fN1 zN zN_1 zN_2 zN_3
      obtain ⟨pN0, pN1, fN0, fN1, zN, zN_1, zN_2, zN_3⟩ := HN.out.two'
      obtain ⟨pM0, pM1, fM0, fM1, zM, zM_1, zM_2, zM_3⟩ := HM.out.two'
      have HMO := Lib.hid (more_ok (p := l) HQ.out HQL.out)
      have HE4 := Lib.hid (addErr_ok HA.out).2.2.2
      have HL4 := Lib.hid (loads_more (p := l) HQL.out HL.out)
      have HF4 : Hid (fitsB caps (Q ++ [0]) L = true) := Lib.hid (by rw [fits_more]; exact HFB.out)
      go_wp2_with fail
      refine (lof_yes C1 cc1 caps P1 cp1 _ (paths ++ [l]) A7 c7 _ (Q ++ [0]) L _ _ (Nat.le_refl _) (HC1.out.at' (by repeat (first | with_reducible exact Below.refl _ _ | with_reducible apply Below.drew | with_reducible apply below_drewN | with_reducible apply Below.alloc | omega | (focus (simp; done)) | (simp; omega)))) (HP1.out.at' (by repeat (first | with_reducible exact Below.refl _ _ | with_reducible apply Below.drew | with_reducible apply below_drewN | with_reducible apply Below.alloc | omega | (focus (simp; done)) | (simp; omega)))) (HF7.out.at' (by repeat (first | with_reducible exact Below.refl _ _ | with_reducible apply Below.drew | with_reducible apply below_drewN | with_reducible apply Below.alloc | omega | (focus (simp; done)) | (simp; omega)))) (by simp) (by simp) HE4.out HMO.out.2 HMO.out.1 HL4.out).mono ?_; rintro e w6 ⟨A8, c8, rfl, hf8, _, hb6⟩
      have hk : Below wn.heap.size wn w6 := Below.trans (by repeat (first | with_reducible exact Below.refl _ _ | with_reducible apply Below.drew | with_reducible apply below_drewN | with_reducible apply Below.alloc | omega | (focus (simp; done)) | (simp; omega))) (hb6.mono (by first | omega | (simp; done) | (simp; omega)))
      replace HN := Lib.hid (HN.out.go hk)
      replace HM := Lib.hid (HM.out.go hk)
      replace HX := Lib.hid (HX.out.at' hk)
      replace HC1 := Lib.hid (HC1.out.at' hk)
      replace HP1 := Lib.hid (HP1.out.at' hk)
      replace HF7 := Lib.hid (HF7.out.at' hk)
      replace BEL : Hid (Below w.heap.size w w6) := Lib.hid (BEL.out.trans (hk.mono BEL.out.size))
      have z_w6 := hk.size; have y_w6 := BEL.out.size; clear hk hb6
      clear pN0 pN1 fN0 fN1 zN zN_1 zN_2 zN_3 pM0 pM1 fM0 fM1 zM zM_1 zM_2 zM_3
      obtain ⟨pN0, pN1, fN0, fN1, zN, zN_1, zN_2, zN_3⟩ := HN.out.two'
      obtain ⟨pM0, pM1, fM0, fM1, zM, zM_1, zM_2, zM_3⟩ := HM.out.two'
      have HZ := Lib.hid hf8; clear hf8
      go_wp2_with fail
      refine (fits_yes' C1 cc1 caps P1 cp1 _ (paths ++ [l]) A7 c7 _ (Q ++ [0]) L true _ _ (Nat.le_refl _) (HC1.out.at' (by repeat (first | with_reducible exact Below.refl _ _ | with_reducible apply Below.drew | with_reducible apply below_drewN | with_reducible apply Below.alloc | omega | (focus (simp; done)) | (simp; omega)))) (HP1.out.at' (by repeat (first | with_reducible exact Below.refl _ _ | with_reducible apply Below.drew | with_reducible apply below_drewN | with_reducible apply Below.alloc | omega | (focus (simp; done)) | (simp; omega)))) (HF7.out.at' (by repeat (first | with_reducible exact Below.refl _ _ | with_reducible apply Below.drew | with_reducible apply below_drewN | with_reducible apply Below.alloc | omega | (focus (simp; done)) | (simp; omega)))) (by simp) (by simp) HE4.out HMO.out.2 HMO.out.1 HL4.out HF4.out).mono ?_; rintro e w7 ⟨rfl, hb7⟩
      have hk : Below w6.heap.size w6 w7 := Below.trans (by repeat (first | with_reducible exact Below.refl _ _ | with_reducible apply Below.drew | with_reducible apply below_drewN | with_reducible apply Below.alloc | omega | (focus (simp; done)) | (simp; omega))) (hb7.mono (by first | omega | (simp; done) | (simp; omega)))
      replace HN := Lib.hid (HN.out.go hk)
      replace HM := Lib.hid (HM.out.go hk)
      replace HX := Lib.hid (HX.out.at' hk)
      replace HC1 := Lib.hid (HC1.out.at' hk)
      replace HP1 := Lib.hid (HP1.out.at' hk)
      replace HF7 := Lib.hid (HF7.out.at' hk)
      replace HZ := Lib.hid (HZ.out.at' hk)
      replace BEL : Hid (Below w.heap.size w w7) := Lib.hid (BEL.out.trans (hk.mono BEL.out.size))
      have z_w7 := hk.size; have y_w7 := BEL.out.size; clear hk hb7
      clear pN0 pN1 fN0 fN1 zN zN_1 zN_2 zN_3 pM0 pM1 fM0 fM1 zM zM_1 zM_2 zM_3
      obtain ⟨pN0, pN1, fN0, fN1, zN, zN_1, zN_2, zN_3⟩ := HN.out.two'
      obtain ⟨pM0, pM1, fM0, fM1, zM, zM_1, zM_2, zM_3⟩ := HM.out.two'
      go_wp2_with fail
      refine (sameFr_any A8 A1 c8 c1 _ _ (L.map frQ) (L.map frQ) _ _ _ (HZ.out.at' (by repeat (first | with_reducible exact Below.refl _ _ | with_reducible apply Below.drew | with_reducible apply below_drewN | with_reducible apply Below.alloc | omega | (focus (simp; done)) | (simp; omega)))) (HX.out.at' (by repeat (first | with_reducible exact Below.refl _ _ | with_reducible apply Below.drew | with_reducible apply below_drewN | with_reducible apply Below.alloc | omega | (focus (simp; done)) | (simp; omega)))) (by simp [HLL.out]) (by simp [HLL.out]) (Nat.le_refl _) (Nat.le_refl _) true (decide_eq_true rfl)).mono ?_; rintro e w8 ⟨rfl, hb8⟩
      have hk : Below w7.heap.size w7 w8 := Below.trans (by repeat (first | with_reducible exact Below.refl _ _ | with_reducible apply Below.drew | with_reducible apply below_drewN | with_reducible apply Below.alloc | omega | (focus (simp; done)) | (simp; omega))) (hb8.mono (by first | omega | (simp; done) | (simp; omega)))
      replace HN := Lib.hid (HN.out.go hk)
      replace HM := Lib.hid (HM.out.go hk)
      replace HX := Lib.hid (HX.out.at' hk)
      replace HC1 := Lib.hid (HC1.out.at' hk)
      replace HP1 := Lib.hid (HP1.out.at' hk)
      replace HF7 := Lib.hid (HF7.out.at' hk)
      replace HZ := Lib.hid (HZ.out.at' hk)
      replace BEL : Hid (Below w.heap.size w w8) := Lib.hid (BEL.out.trans (hk.mono BEL.out.size))
      have z_w8 := hk.size; have y_w8 := BEL.out.size; clear hk hb8
      clear pN0 pN1 fN0 fN1 zN zN_1 zN_2 zN_3 pM0 pM1 fM0 fM1 zM zM_1 zM_2 zM_3
      obtain ⟨pN0, pN1, fN0, fN1, zN, zN_1, zN_2, zN_3⟩ := HN.out.two'
      obtain ⟨pM0, pM1, fM0, fM1, zM, zM_1, zM_2, zM_3⟩ := HM.out.two'
      go_wp2
      go_ret
      exact ⟨rfl, (by repeat (first | with_reducible exact BEL.out | with_reducible apply Below.alloc | with_reducible apply Below.setCell | with_reducible apply Below.drew | with_reducible apply below_drewN | (first | omega | (focus (simp; done)) | (focus (simp; omega)) | (focus (simp [World.setCell]; omega)))))⟩
set_option maxHeartbeats 16000000 in
set_option maxRecDepth 100000 in
theorem loadAdds_TLeftNo (C : Option Addr) (cc : Nat) (caps : List Int) (P : Option Addr) (cp : Nat) (paths : List (List Int)) (A : Option Addr) (c : Nat) (S : List Fr) (A' : Option Addr) (c' : Nat) (l : List Int) (w : World) (hc : Ints w w.heap.size C cc caps) (hp : Rows2 w w.heap.size P cp paths) (hr : Frs w w.heap.size A c S) (hi : Ints w w.heap.size A' c' l) (Q L : List Rat) (hS : S = Q.map frQ) (he : netErr caps paths = 0) (hl : Q.length = paths.length) (hq : ∀ q ∈ Q, QIn q) (hL : loadsTo paths Q caps.length = some L) (hb : fitsB caps Q L = true) (hqy : ∀ i, i < caps.length → QIn (leftQ caps L i)) (er : Int) (ha : addErr caps paths l = er) (h0 : er ≠ 0) :
    Calls Try.prog 5 #[.agg #[.slice C caps.length cc, .slice P paths.length cp], .slice A S.length c, .slice A' l.length c'] w fun e w' => e = .returned (.bool true) ∧ Below w.heap.size w w' := by
  have HC := Lib.hid hc
  have HP := Lib.hid hp
  have HR := Lib.hid hr
  have HI := Lib.hid hi
  have hcm := hc.cap; have hcl := hc.le; have hrm := hr.cap; have hrl := hr.le
  unfold maxLen at hcm hrm
  clear hc hp hr hi
  subst hS
  obtain ⟨_, hc6, hp0, hp6, _, _⟩ := netErr_ok he
  have hLL := loadsTo_len hL
  have hAL : (leftAll caps L caps.length).length = caps.length := by simp [leftAll]
  rw [List.length_map] at hrl
  rw [List.length_map]
  have hnn : ∀ k, k < caps.length → ¬ (leftQ caps L k).num < 0 := fun k hk => left_nn hb hk
  have HE := Lib.hid he; have HQL := Lib.hid hl; have HQ := Lib.hid hq; have HL := Lib.hid hL; have HFB := Lib.hid hb; have HA := Lib.hid ha; have HLL := Lib.hid hLL; have HAL := Lib.hid hAL; have HNN := Lib.hid hnn
  have hq6 : Q.length ≤ 6 := by omega
  have hq0 : 0 < Q.length := by omega
  clear he hl hq hL hb ha hLL hAL hnn
  have HQY := Lib.hid hqy; clear hqy
  have H0 := Lib.hid h0; clear h0
  have BEL : Hid (Below w.heap.size w w) := Lib.hid (Below.refl _ _)
  have yB : w.heap.size ≤ w.heap.size := Nat.le_refl _
  go_enter Try.func5, Try.ntmps5
  have hH := Lib.hid ((Blk.new' (w.alloc (.cells #[.slice C caps.length cc, .slice P paths.length cp] 25)) 28 #[.int .i64 1, .int .i64 2] (g := w.heap.size + 1) (by simp)))
  go_wp2_with fail
  refine (loadAdds_fact (w.heap.size + 1 + 1) (w.heap.size + 1 + 1 + 1) (w.heap.size + 1 + 1 + 1 + 1) (w.heap.size + 1 + 1 + 1 + 1 + 1) (w.heap.size + 1 + 1 + 1 + 1 + 1 + 1) _ (by repeat (first | (with_reducible apply Blk.new'; first | with_reducible rfl | (focus (simp; done))) | with_reducible apply Blk.alloc)) (by repeat (first | (with_reducible apply Blk.new'; first | with_reducible rfl | (focus (simp; done))) | with_reducible apply Blk.alloc)) (by repeat (first | (with_reducible apply Blk.new'; first | with_reducible rfl | (focus (simp; done))) | with_reducible apply Blk.alloc)) (by repeat (first | (with_reducible apply Blk.new'; first | with_reducible rfl | (focus (simp; done))) | with_reducible apply Blk.alloc)) (by repeat (first | (with_reducible apply Blk.new'; first | with_reducible rfl | (focus (simp; done))) | with_reducible apply Blk.alloc))).mono ?_; rintro e w1 ⟨b0, o0, c0, rfl, hk0, hk1, hcp0, hb1⟩
  have hk : Below w.heap.size w w1 := Below.trans (by repeat (first | with_reducible exact Below.refl _ _ | with_reducible apply Below.drew | with_reducible apply below_drewN | with_reducible apply Below.alloc | omega | (focus (simp; done)) | (simp; omega))) (hb1.mono (by first | omega | (simp; done) | (simp; omega)))
  have HN := Lib.hid (show Blk w1 (w.heap.size) 25 _ from Blk.go (by repeat (first | (with_reducible apply Blk.new'; first | with_reducible rfl | (focus (simp; done))) | with_reducible apply Blk.alloc | with_reducible apply Blk.drew | with_reducible apply Blk.drewN)) hb1)
  replace BEL : Hid (Below w.heap.size w w1) := Lib.hid (BEL.out.trans (hk.mono BEL.out.size))
  have z_w1 := hk.size; have y_w1 := BEL.out.size; clear hk hb1
  clear hH
  have hcpI : (0 : Int) < (c0 : Int) := by omega
  obtain ⟨pN0, pN1, fN0, fN1, zN, zN_1, zN_2, zN_3⟩ := HN.out.two'
  go_wp2_with fail
  refine (lof_yes C cc caps P cp _ paths A c _ Q L w.heap.size _ (by first | omega | (focus (simp; done)) | (simp; omega)) (HC.out.below (by repeat (first | with_reducible exact BEL.out | with_reducible apply Below.alloc | with_reducible apply Below.setCell | with_reducible apply Below.drew | with_reducible apply below_drewN | (first | omega | (focus (simp; done)) | (focus (simp; omega)) | (focus (simp [World.setCell]; omega))))) (Nat.le_refl _)) (HP.out.below (by repeat (first | with_reducible exact BEL.out | with_reducible apply Below.alloc | with_reducible apply Below.setCell | with_reducible apply Below.drew | with_reducible apply below_drewN | (first | omega | (focus (simp; done)) | (focus (simp; omega)) | (focus (simp [World.setCell]; omega))))) (Nat.le_refl _)) (HR.out.below (by repeat (first | with_reducible exact BEL.out | with_reducible apply Below.alloc | with_reducible apply Below.setCell | with_reducible apply Below.drew | with_reducible apply below_drewN | (first | omega | (focus (simp; done)) | (focus (simp; omega)) | (focus (simp [World.setCell]; omega))))) (Nat.le_refl _)) rfl rfl HE.out HQL.out HQ.out HL.out).mono ?_; rintro e w2 ⟨A1, c1, rfl, hf1, _, hb2⟩
  have hk : Below w1.heap.size w1 w2 := Below.trans (by repeat (first | with_reducible exact Below.refl _ _ | with_reducible apply Below.drew | with_reducible apply below_drewN | with_reducible apply Below.alloc | omega | (focus (simp; done)) | (simp; omega))) (hb2.mono (by first | omega | (simp; done) | (simp; omega)))
  replace HN := Lib.hid (HN.out.go hk)
  replace BEL : Hid (Below w.heap.size w w2) := Lib.hid (BEL.out.trans (hk.mono BEL.out.size))
  have z_w2 := hk.size; have y_w2 := BEL.out.size; clear hk hb2
  clear pN0 pN1 fN0 fN1 zN zN_1 zN_2 zN_3
  obtain ⟨pN0, pN1, fN0, fN1, zN, zN_1, zN_2, zN_3⟩ := HN.out.two'
  have HX := Lib.hid hf1; clear hf1 hk0 hk1 hcp0 hcpI
  go_wp2_with fail
  refine (left_any C cc caps P cp _ paths A c _ Q L w.heap.size _ (by first | omega | (focus (simp; done)) | (simp; omega)) (HC.out.below (by repeat (first | with_reducible exact BEL.out | with_reducible apply Below.alloc | with_reducible apply Below.setCell | with_reducible apply Below.drew | with_reducible apply below_drewN | (first | omega | (focus (simp; done)) | (focus (simp; omega)) | (focus (simp [World.setCell]; omega))))) (Nat.le_refl _)) (HP.out.below (by repeat (first | with_reducible exact BEL.out | with_reducible apply Below.alloc | with_reducible apply Below.setCell | with_reducible apply Below.drew | with_reducible apply below_drewN | (first | omega | (focus (simp; done)) | (focus (simp; omega)) | (focus (simp [World.setCell]; omega))))) (Nat.le_refl _)) (HR.out.below (by repeat (first | with_reducible exact BEL.out | with_reducible apply Below.alloc | with_reducible apply Below.setCell | with_reducible apply Below.drew | with_reducible apply below_drewN | (first | omega | (focus (simp; done)) | (focus (simp; omega)) | (focus (simp [World.setCell]; omega))))) (Nat.le_refl _)) rfl rfl HE.out HQL.out HQ.out HL.out).mono ?_; rintro e w3 ⟨hor, hb3⟩
  have hee : ∃ A2 c2, e = .returned (.tuple #[.slice A2 caps.length c2, .nilIface]) ∧ Frs w3 w3.heap.size A2 c2 ((leftAll caps L caps.length).map frQ) := by
    rcases hor with ⟨⟨i, h1, h2⟩, _⟩ | ⟨_, h⟩
    · exact absurd (HQY.out i h1) h2
    · exact h
  clear hor
  obtain ⟨A2, c2, rfl, hf2⟩ := hee
  have HY := Lib.hid hf2; clear hf2
  have hk : Below w2.heap.size w2 w3 := Below.trans (by repeat (first | with_reducible exact Below.refl _ _ | with_reducible apply Below.drew | with_reducible apply below_drewN | with_reducible apply Below.alloc | omega | (focus (simp; done)) | (simp; omega))) (hb3.mono (by first | omega | (simp; done) | (simp; omega)))
  replace HN := Lib.hid (HN.out.go hk)
  replace HX := Lib.hid (HX.out.at' hk)
  replace BEL : Hid (Below w.heap.size w w3) := Lib.hid (BEL.out.trans (hk.mono BEL.out.size))
  have z_w3 := hk.size; have y_w3 := BEL.out.size; clear hk hb3
  clear pN0 pN1 fN0 fN1 zN zN_1 zN_2 zN_3
  obtain ⟨pN0, pN1, fN0, fN1, zN, zN_1, zN_2, zN_3⟩ := HN.out.two'
  go_wp2_with fail
  refine (fits_yes' C cc caps P cp _ paths A c _ Q L true w.heap.size _ (by first | omega | (focus (simp; done)) | (simp; omega)) (HC.out.below (by repeat (first | with_reducible exact BEL.out | with_reducible apply Below.alloc | with_reducible apply Below.setCell | with_reducible apply Below.drew | with_reducible apply below_drewN | (first | omega | (focus (simp; done)) | (focus (simp; omega)) | (focus (simp [World.setCell]; omega))))) (Nat.le_refl _)) (HP.out.below (by repeat (first | with_reducible exact BEL.out | with_reducible apply Below.alloc | with_reducible apply Below.setCell | with_reducible apply Below.drew | with_reducible apply below_drewN | (first | omega | (focus (simp; done)) | (focus (simp; omega)) | (focus (simp [World.setCell]; omega))))) (Nat.le_refl _)) (HR.out.below (by repeat (first | with_reducible exact BEL.out | with_reducible apply Below.alloc | with_reducible apply Below.setCell | with_reducible apply Below.drew | with_reducible apply below_drewN | (first | omega | (focus (simp; done)) | (focus (simp; omega)) | (focus (simp [World.setCell]; omega))))) (Nat.le_refl _)) rfl rfl HE.out HQL.out HQ.out HL.out HFB.out).mono ?_; rintro e w4 ⟨rfl, hb4⟩
  have hk : Below w3.heap.size w3 w4 := Below.trans (by repeat (first | with_reducible exact Below.refl _ _ | with_reducible apply Below.drew | with_reducible apply below_drewN | with_reducible apply Below.alloc | omega | (focus (simp; done)) | (simp; omega))) (hb4.mono (by first | omega | (simp; done) | (simp; omega)))
  replace HN := Lib.hid (HN.out.go hk)
  replace HX := Lib.hid (HX.out.at' hk)
  replace HY := Lib.hid (HY.out.at' hk)
  replace BEL : Hid (Below w.heap.size w w4) := Lib.hid (BEL.out.trans (hk.mono BEL.out.size))
  have z_w4 := hk.size; have y_w4 := BEL.out.size; clear hk hb4
  clear pN0 pN1 fN0 fN1 zN zN_1 zN_2 zN_3
  obtain ⟨pN0, pN1, fN0, fN1, zN, zN_1, zN_2, zN_3⟩ := HN.out.two'
  clear pN0 pN1 fN0 fN1 zN zN_1 zN_2 zN_3
  obtain ⟨wo, hwo⟩ : ∃ x, x = w4 := ⟨_, rfl⟩
  rw [← hwo] at HX HY HN BEL ⊢
  clear hwo
  obtain ⟨n0, n1, _, _, nz⟩ := HN.out.two
  have hbo := BEL.out.size
  have hmx := HX.out.cap; have hlx := HX.out.le; have hmy := HY.out.cap; have hly := HY.out.le
  rw [List.length_map, HLL.out] at hlx
  rw [List.length_map, HAL.out] at hly
  unfold maxLen at hmx hmy
  go_wp2_with fail
  go_loopw [15] (fun i wr => ∃ k : Nat, k ≤ caps.length ∧ i = .int .i64 k ∧ Hid (Below wo.heap.size wo wr)) (fun i _ => caps.length - (intOf i).toNat)
  case atStart => exact ⟨0, Nat.zero_le _, rfl, Lib.hid (Below.refl _ _)⟩
  case round =>
    clear n0 n1 nz
    obtain ⟨k, hk, rfl, HB⟩ := hrel
    have hB1 := HB.out.size
    have HND := Lib.hid (HN.out.go HB.out)
    by_cases hlt : k < caps.length
    · have k0 : (0 : Int) ≤ (k : Int) := by omega
      have k1 : (k : Int) < (caps.length : Int) := by omega
      obtain ⟨b1, o1, rfl, hb1, x0, x1⟩ := frs_q (HX.out.below HB.out (Nat.le_refl _)) (show k < L.length by rw [HLL.out]; exact hlt)
      obtain ⟨b2, o2, rfl, hb2, y0, y1⟩ := frs_q (HY.out.below HB.out (Nat.le_refl _)) (show k < (leftAll caps L caps.length).length by rw [HAL.out]; exact hlt)
      obtain ⟨b3, o3, rfl, hb3, hcell⟩ := caps_get ((HC.out.below BEL.out (Nat.le_refl _)).below HB.out (by omega)) hlt
      have hyg : (leftAll caps L caps.length).getD k 0 = leftQ caps L k := by unfold leftAll; simp [List.getD_eq_getElem?_getD, hlt]
      rw [hyg] at y0 y1
      have hci := caps_inL HE.out hlt
      have hlq : leftQ caps L k = ((caps.getD k 0 : Int) : Rat) + -(L.getD k 0) := rfl
      have hqx : QIn (L.getD k 0) := loadsTo_in HL.out _ (by rw [List.getD_eq_getElem?_getD, List.getElem?_eq_getElem (show k < L.length by rw [HLL.out]; exact hlt)]; exact List.getElem_mem _)
      have hqy := HQY.out k hlt
      have hnn := decide_eq_false (show ¬ (leftQ caps L k).num < 0 by have hn0 := HNN.out k hlt; omega)
      obtain ⟨cv, hcv⟩ : ∃ x, caps.getD k 0 = x := ⟨_, rfl⟩
      obtain ⟨x, hx⟩ : ∃ x, L.getD k 0 = x := ⟨_, rfl⟩
      obtain ⟨y, hy⟩ : ∃ y, leftQ caps L k = y := ⟨_, rfl⟩
      rw [hcv] at hcell hci hlq
      rw [hx] at x0 x1 hqx hlq
      rw [hy] at y0 y1 hqy hlq
      try rw [hy] at hnn
      have hcq : QIn (cv : Rat) := by unfold QIn FracIn; simp; omega
      have HADD := Lib.hid fun W => (show Calls Try.prog 19 #[.agg #[.int .i64 x.num, .int .i64 x.den], .agg #[.int .i64 y.num, .int .i64 y.den]] W fun e w' => e = .returned (.tuple #[.agg #[.int .i64 cv, .int .i64 1], .nilIface]) ∧ Below W.heap.size W w' from by
        have := fadd_q x y (cv : Rat) W hqx hqy (by rw [hlq]; grind) hcq
        simpa using this)
      have z1 : b1 < wr.heap.size := by omega
      have z2 : b2 < wr.heap.size := by omega
      have z3 : b3 < wr.heap.size := by omega
      clear hyg hci hlq hqx hqy hcv hx hy hcq
      go_upto_region 17 with (fail)
      go_cut [16, 17] (fun s16 s17 wx => ∃ g16, s16 = .pointer (some ⟨g16, 0, none⟩) ∧ s17 = .nilIface ∧ Hid (Blk wx g16 28 #[.int .i64 cv, .int .i64 1]) ∧ Hid (Below wr.heap.size wr wx))
      case first =>
        go_region_held3 (fun w' => w'.cell? ⟨b1, o1 + k * 2, none⟩ = some (.int .i64 x.num) ∧ w'.cell? ⟨b1, o1 + k * 2 + 1, none⟩ = some (.int .i64 x.den) ∧ w'.cell? ⟨b2, o2 + k * 2, none⟩ = some (.int .i64 y.num) ∧ w'.cell? ⟨b2, o2 + k * 2 + 1, none⟩ = some (.int .i64 y.den)) (go_keep)
          (first
            | (go_simp; go_at_call 19; (with_reducible refine (HADD.out (wr.alloc (.cells #[.int .i64 0, .int .i64 0] 28)).drew).mono ?_); rintro e w5 ⟨rfl, hb5⟩; have HB5 : Hid (Below wr.heap.size wr w5) := Lib.hid (((Below.refl _ _).alloc (Nat.le_refl _) _).drew.trans (hb5.mono (by simp))); have HX5 := Lib.hid ((Blk.new wr 28 #[.int .i64 0, .int .i64 0]).drew.go hb5); have u0 := (HB5.out.cell (p := ⟨b1, o1 + k * 2, none⟩) z1).trans x0; have u1 := (HB5.out.cell (p := ⟨b1, o1 + k * 2 + 1, none⟩) z1).trans x1; have u2 := (HB5.out.cell (p := ⟨b2, o2 + k * 2, none⟩) z2).trans y0; have u3 := (HB5.out.cell (p := ⟨b2, o2 + k * 2 + 1, none⟩) z2).trans y1; have hz5 := HB5.out.size; have n1' : ¬ b1 = w5.heap.size := (by omega); have n2' : ¬ b2 = w5.heap.size := (by omega); have n3' : ¬ b1 = wr.heap.size := (by omega); have n4' : ¬ b2 = wr.heap.size := (by omega); have n5' : ¬ w5.heap.size = b1 := (by omega); have n6' : ¬ w5.heap.size = b2 := (by omega); have n7' : ¬ wr.heap.size = b1 := (by omega); have n8' : ¬ wr.heap.size = b2 := (by omega); clear hb5; obtain ⟨v0, v1, vf0, vf1, vz⟩ := HX5.out.two; dsimp only)
            | (go_simp; go_at_call 19; refine (HADD.out _).mono ?_; rintro e w5 ⟨rfl, hb5⟩; have HB5 : Hid (Below wr.heap.size wr w5) := Lib.hid (by first | exact hb5 | exact (Below.refl _ _).drew.trans hb5); have u0 := (HB5.out.cell (p := ⟨b1, o1 + k * 2, none⟩) z1).trans x0; have u1 := (HB5.out.cell (p := ⟨b1, o1 + k * 2 + 1, none⟩) z1).trans x1; have u2 := (HB5.out.cell (p := ⟨b2, o2 + k * 2, none⟩) z2).trans y0; have u3 := (HB5.out.cell (p := ⟨b2, o2 + k * 2 + 1, none⟩) z2).trans y1; have hz5 := HB5.out.size; have n1' : ¬ b1 = w5.heap.size := (by omega); have n2' : ¬ b2 = w5.heap.size := (by omega); have n3' : ¬ b1 = wr.heap.size := (by omega); have n4' : ¬ b2 = wr.heap.size := (by omega); have n5' : ¬ w5.heap.size = b1 := (by omega); have n6' : ¬ w5.heap.size = b2 := (by omega); have n7' : ¬ wr.heap.size = b1 := (by omega); have n8' : ¬ wr.heap.size = b2 := (by omega); clear hb5; dsimp only))
        all_goals
          go_wp2
          go_meet
          first
            | exact ⟨_, rfl, rfl, Lib.hid (Blk.new _ _ _), Lib.hid (HB5.out.alloc HB5.out.size _)⟩
            | exact ⟨_, rfl, rfl, Lib.hid ((HX5.out.s2_0 _).s2_1 _), Lib.hid ((HB5.out.setCell (p := ⟨_, 0, none⟩) (Nat.le_refl _) _).setCell (p := ⟨_, 1, none⟩) (Nat.le_refl _) _)⟩
      case rest =>
        obtain ⟨g16, rfl, rfl, HG, HBX⟩ := hcut
        have HB6 := Lib.hid (HB.out.trans (HBX.out.mono hB1))
        have HN6 := Lib.hid (HND.out.go HBX.out)
        have c6 := (HBX.out.cell (p := ⟨b3, o3 + k, none⟩) z3).trans hcell
        have yy6 := (HBX.out.cell (p := ⟨b2, o2 + k * 2, none⟩) z2).trans y0
        have hz6 := HBX.out.size
        obtain ⟨n0, n1, _, _, nz⟩ := HN6.out.two
        obtain ⟨g0, g1, _, _, gz⟩ := HG.out.two
        clear hcell x0 x1 y0 y1 HADD HBX HND
        go_wp2_with fail
        go_quiet (fail)
        go_wp2
        go_roundw
        case rel => exact ⟨k + 1, by omega, by go_num, Lib.hid (below_drewN HB6.out _)⟩
        case measure => simp [intOf]; omega
    · obtain rfl : k = caps.length := by omega
      replace BEL := Lib.hid (BEL.out.trans (HB.out.mono hbo))
      replace HX := Lib.hid (HX.out.at' HB.out)
      replace HN := HND
      clear HY HND hmx hlx hmy hly
      obtain ⟨wz, hwz⟩ : ∃ x, x = wr := ⟨_, rfl⟩
      rw [← hwz] at HX HN BEL ⊢
      clear hwz HB hB1
      obtain ⟨n0, n1, _, _, nz⟩ := HN.out.two
      have y_wz := BEL.out.size
      go_wp2_with fail
      refine (add_no C cc caps P cp paths A' c' l w.heap.size _ er (by first | omega | (focus (simp; done)) | (simp; omega)) (HC.out.below (by repeat (first | with_reducible exact BEL.out | with_reducible apply Below.alloc | with_reducible apply Below.setCell | with_reducible apply Below.drew | with_reducible apply below_drewN | (first | omega | (focus (simp; done)) | (focus (simp; omega)) | (focus (simp [World.setCell]; omega))))) (Nat.le_refl _)) (HP.out.below (by repeat (first | with_reducible exact BEL.out | with_reducible apply Below.alloc | with_reducible apply Below.setCell | with_reducible apply Below.drew | with_reducible apply below_drewN | (first | omega | (focus (simp; done)) | (focus (simp; omega)) | (focus (simp [World.setCell]; omega))))) (Nat.le_refl _)) (HI.out.below (by repeat (first | with_reducible exact BEL.out | with_reducible apply Below.alloc | with_reducible apply Below.setCell | with_reducible apply Below.drew | with_reducible apply below_drewN | (first | omega | (focus (simp; done)) | (focus (simp; omega)) | (focus (simp [World.setCell]; omega))))) (Nat.le_refl _)) HA.out H0.out).mono ?_; rintro e w5 ⟨rfl, hb5⟩
      have hk : Below wz.heap.size wz w5 := Below.trans (by repeat (first | with_reducible exact Below.refl _ _ | with_reducible apply Below.drew | with_reducible apply below_drewN | with_reducible apply Below.alloc | omega | (focus (simp; done)) | (simp; omega))) (hb5.mono (by first | omega | (simp; done) | (simp; omega)))
      replace HN := Lib.hid (HN.out.go hk)
      replace HX := Lib.hid (HX.out.at' hk)
      replace BEL : Hid (Below w.heap.size w w5) := Lib.hid (BEL.out.trans (hk.mono BEL.out.size))
      have z_w5 := hk.size; have y_w5 := BEL.out.size; clear hk hb5
      clear n0 n1 nz
      obtain ⟨pN0, pN1, fN0, fN1, zN, zN_1, zN_2, zN_3⟩ := HN.out.two'
      go_wp2
      go_ret
      exact ⟨rfl, (by repeat (first | with_reducible exact BEL.out | with_reducible apply Below.alloc | with_reducible apply Below.setCell | with_reducible apply Below.drew | with_reducible apply below_drewN | (first | omega | (focus (simp; done)) | (focus (simp; omega)) | (focus (simp [World.setCell]; omega)))))⟩
set_option maxHeartbeats 16000000 in
set_option maxRecDepth 100000 in
theorem loadAdds_FFullAdd (C : Option Addr) (cc : Nat) (caps : List Int) (P : Option Addr) (cp : Nat) (paths : List (List Int)) (A : Option Addr) (c : Nat) (S : List Fr) (A' : Option Addr) (c' : Nat) (l : List Int) (w : World) (hc : Ints w w.heap.size C cc caps) (hp : Rows2 w w.heap.size P cp paths) (hr : Frs w w.heap.size A c S) (hi : Ints w w.heap.size A' c' l) (Q L : List Rat) (hS : S = Q.map frQ) (he : netErr caps paths = 0) (hl : Q.length = paths.length) (hq : ∀ q ∈ Q, QIn q) (hL : loadsTo paths Q caps.length = some L) (hb : fitsB caps Q L = false) (hfl : ∃ i, i < caps.length ∧ ¬ QIn (leftQ caps L i)) (ha : addErr caps paths l = 0) :
    Calls Try.prog 5 #[.agg #[.slice C caps.length cc, .slice P paths.length cp], .slice A S.length c, .slice A' l.length c'] w fun e w' => e = .returned (.bool true) ∧ Below w.heap.size w w' := by
  have HC := Lib.hid hc
  have HP := Lib.hid hp
  have HR := Lib.hid hr
  have HI := Lib.hid hi
  have hcm := hc.cap; have hcl := hc.le; have hrm := hr.cap; have hrl := hr.le
  unfold maxLen at hcm hrm
  clear hc hp hr hi
  subst hS
  obtain ⟨_, hc6, hp0, hp6, _, _⟩ := netErr_ok he
  have hLL := loadsTo_len hL
  have hAL : (leftAll caps L caps.length).length = caps.length := by simp [leftAll]
  rw [List.length_map] at hrl
  rw [List.length_map]
  have hnn : True := trivial
  have HE := Lib.hid he; have HQL := Lib.hid hl; have HQ := Lib.hid hq; have HL := Lib.hid hL; have HFB := Lib.hid hb; have HA := Lib.hid ha; have HLL := Lib.hid hLL; have HAL := Lib.hid hAL; have HNN := Lib.hid hnn
  have hq6 : Q.length ≤ 6 := by omega
  have hq0 : 0 < Q.length := by omega
  clear he hl hq hL hb ha hLL hAL hnn
  have HFL := Lib.hid hfl; clear hfl
  have BEL : Hid (Below w.heap.size w w) := Lib.hid (Below.refl _ _)
  have yB : w.heap.size ≤ w.heap.size := Nat.le_refl _
  go_enter Try.func5, Try.ntmps5
  have hH := Lib.hid ((Blk.new' (w.alloc (.cells #[.slice C caps.length cc, .slice P paths.length cp] 25)) 28 #[.int .i64 1, .int .i64 2] (g := w.heap.size + 1) (by simp)))
  go_wp2_with fail
  refine (loadAdds_fact (w.heap.size + 1 + 1) (w.heap.size + 1 + 1 + 1) (w.heap.size + 1 + 1 + 1 + 1) (w.heap.size + 1 + 1 + 1 + 1 + 1) (w.heap.size + 1 + 1 + 1 + 1 + 1 + 1) _ (by repeat (first | (with_reducible apply Blk.new'; first | with_reducible rfl | (focus (simp; done))) | with_reducible apply Blk.alloc)) (by repeat (first | (with_reducible apply Blk.new'; first | with_reducible rfl | (focus (simp; done))) | with_reducible apply Blk.alloc)) (by repeat (first | (with_reducible apply Blk.new'; first | with_reducible rfl | (focus (simp; done))) | with_reducible apply Blk.alloc)) (by repeat (first | (with_reducible apply Blk.new'; first | with_reducible rfl | (focus (simp; done))) | with_reducible apply Blk.alloc)) (by repeat (first | (with_reducible apply Blk.new'; first | with_reducible rfl | (focus (simp; done))) | with_reducible apply Blk.alloc))).mono ?_; rintro e w1 ⟨b0, o0, c0, rfl, hk0, hk1, hcp0, hb1⟩
  have hk : Below w.heap.size w w1 := Below.trans (by repeat (first | with_reducible exact Below.refl _ _ | with_reducible apply Below.drew | with_reducible apply below_drewN | with_reducible apply Below.alloc | omega | (focus (simp; done)) | (simp; omega))) (hb1.mono (by first | omega | (simp; done) | (simp; omega)))
  have HN := Lib.hid (show Blk w1 (w.heap.size) 25 _ from Blk.go (by repeat (first | (with_reducible apply Blk.new'; first | with_reducible rfl | (focus (simp; done))) | with_reducible apply Blk.alloc | with_reducible apply Blk.drew | with_reducible apply Blk.drewN)) hb1)
  replace BEL : Hid (Below w.heap.size w w1) := Lib.hid (BEL.out.trans (hk.mono BEL.out.size))
  have z_w1 := hk.size; have y_w1 := BEL.out.size; clear hk hb1
  clear hH
  have hcpI : (0 : Int) < (c0 : Int) := by omega
  obtain ⟨pN0, pN1, fN0, fN1, zN, zN_1, zN_2, zN_3⟩ := HN.out.two'
  go_wp2_with fail
  refine (lof_yes C cc caps P cp _ paths A c _ Q L w.heap.size _ (by first | omega | (focus (simp; done)) | (simp; omega)) (HC.out.below (by repeat (first | with_reducible exact BEL.out | with_reducible apply Below.alloc | with_reducible apply Below.setCell | with_reducible apply Below.drew | with_reducible apply below_drewN | (first | omega | (focus (simp; done)) | (focus (simp; omega)) | (focus (simp [World.setCell]; omega))))) (Nat.le_refl _)) (HP.out.below (by repeat (first | with_reducible exact BEL.out | with_reducible apply Below.alloc | with_reducible apply Below.setCell | with_reducible apply Below.drew | with_reducible apply below_drewN | (first | omega | (focus (simp; done)) | (focus (simp; omega)) | (focus (simp [World.setCell]; omega))))) (Nat.le_refl _)) (HR.out.below (by repeat (first | with_reducible exact BEL.out | with_reducible apply Below.alloc | with_reducible apply Below.setCell | with_reducible apply Below.drew | with_reducible apply below_drewN | (first | omega | (focus (simp; done)) | (focus (simp; omega)) | (focus (simp [World.setCell]; omega))))) (Nat.le_refl _)) rfl rfl HE.out HQL.out HQ.out HL.out).mono ?_; rintro e w2 ⟨A1, c1, rfl, hf1, _, hb2⟩
  have hk : Below w1.heap.size w1 w2 := Below.trans (by repeat (first | with_reducible exact Below.refl _ _ | with_reducible apply Below.drew | with_reducible apply below_drewN | with_reducible apply Below.alloc | omega | (focus (simp; done)) | (simp; omega))) (hb2.mono (by first | omega | (simp; done) | (simp; omega)))
  replace HN := Lib.hid (HN.out.go hk)
  replace BEL : Hid (Below w.heap.size w w2) := Lib.hid (BEL.out.trans (hk.mono BEL.out.size))
  have z_w2 := hk.size; have y_w2 := BEL.out.size; clear hk hb2
  clear pN0 pN1 fN0 fN1 zN zN_1 zN_2 zN_3
  obtain ⟨pN0, pN1, fN0, fN1, zN, zN_1, zN_2, zN_3⟩ := HN.out.two'
  have HX := Lib.hid hf1; clear hf1 hk0 hk1 hcp0 hcpI
  go_wp2_with fail
  refine (left_any C cc caps P cp _ paths A c _ Q L w.heap.size _ (by first | omega | (focus (simp; done)) | (simp; omega)) (HC.out.below (by repeat (first | with_reducible exact BEL.out | with_reducible apply Below.alloc | with_reducible apply Below.setCell | with_reducible apply Below.drew | with_reducible apply below_drewN | (first | omega | (focus (simp; done)) | (focus (simp; omega)) | (focus (simp [World.setCell]; omega))))) (Nat.le_refl _)) (HP.out.below (by repeat (first | with_reducible exact BEL.out | with_reducible apply Below.alloc | with_reducible apply Below.setCell | with_reducible apply Below.drew | with_reducible apply below_drewN | (first | omega | (focus (simp; done)) | (focus (simp; omega)) | (focus (simp [World.setCell]; omega))))) (Nat.le_refl _)) (HR.out.below (by repeat (first | with_reducible exact BEL.out | with_reducible apply Below.alloc | with_reducible apply Below.setCell | with_reducible apply Below.drew | with_reducible apply below_drewN | (first | omega | (focus (simp; done)) | (focus (simp; omega)) | (focus (simp [World.setCell]; omega))))) (Nat.le_refl _)) rfl rfl HE.out HQL.out HQ.out HL.out).mono ?_; rintro e w3 ⟨hor, hb3⟩
  have hee : e = .returned (.tuple #[.slice none 0 0, .iface 71 (.int .i64 4)]) := by
    rcases hor with ⟨_, h⟩ | ⟨h, _⟩
    · exact h
    · exfalso; obtain ⟨i, h1, h2⟩ := HFL.out; exact h2 (h i h1)
  clear hor
  subst hee
  have hk : Below w2.heap.size w2 w3 := Below.trans (by repeat (first | with_reducible exact Below.refl _ _ | with_reducible apply Below.drew | with_reducible apply below_drewN | with_reducible apply Below.alloc | omega | (focus (simp; done)) | (simp; omega))) (hb3.mono (by first | omega | (simp; done) | (simp; omega)))
  replace HN := Lib.hid (HN.out.go hk)
  replace HX := Lib.hid (HX.out.at' hk)
  replace BEL : Hid (Below w.heap.size w w3) := Lib.hid (BEL.out.trans (hk.mono BEL.out.size))
  have z_w3 := hk.size; have y_w3 := BEL.out.size; clear hk hb3
  clear pN0 pN1 fN0 fN1 zN zN_1 zN_2 zN_3
  obtain ⟨pN0, pN1, fN0, fN1, zN, zN_1, zN_2, zN_3⟩ := HN.out.two'
  go_wp2_with fail
  refine (fits_yes' C cc caps P cp _ paths A c _ Q L false w.heap.size _ (by first | omega | (focus (simp; done)) | (simp; omega)) (HC.out.below (by repeat (first | with_reducible exact BEL.out | with_reducible apply Below.alloc | with_reducible apply Below.setCell | with_reducible apply Below.drew | with_reducible apply below_drewN | (first | omega | (focus (simp; done)) | (focus (simp; omega)) | (focus (simp [World.setCell]; omega))))) (Nat.le_refl _)) (HP.out.below (by repeat (first | with_reducible exact BEL.out | with_reducible apply Below.alloc | with_reducible apply Below.setCell | with_reducible apply Below.drew | with_reducible apply below_drewN | (first | omega | (focus (simp; done)) | (focus (simp; omega)) | (focus (simp [World.setCell]; omega))))) (Nat.le_refl _)) (HR.out.below (by repeat (first | with_reducible exact BEL.out | with_reducible apply Below.alloc | with_reducible apply Below.setCell | with_reducible apply Below.drew | with_reducible apply below_drewN | (first | omega | (focus (simp; done)) | (focus (simp; omega)) | (focus (simp [World.setCell]; omega))))) (Nat.le_refl _)) rfl rfl HE.out HQL.out HQ.out HL.out HFB.out).mono ?_; rintro e w4 ⟨rfl, hb4⟩
  have hk : Below w3.heap.size w3 w4 := Below.trans (by repeat (first | with_reducible exact Below.refl _ _ | with_reducible apply Below.drew | with_reducible apply below_drewN | with_reducible apply Below.alloc | omega | (focus (simp; done)) | (simp; omega))) (hb4.mono (by first | omega | (simp; done) | (simp; omega)))
  replace HN := Lib.hid (HN.out.go hk)
  replace HX := Lib.hid (HX.out.at' hk)
  replace BEL : Hid (Below w.heap.size w w4) := Lib.hid (BEL.out.trans (hk.mono BEL.out.size))
  have z_w4 := hk.size; have y_w4 := BEL.out.size; clear hk hb4
  clear pN0 pN1 fN0 fN1 zN zN_1 zN_2 zN_3
  obtain ⟨pN0, pN1, fN0, fN1, zN, zN_1, zN_2, zN_3⟩ := HN.out.two'
  have hcm1 := HX.out.cap; have hcl1 := HX.out.le
  rw [List.length_map, HLL.out] at hcl1
  unfold maxLen at hcm1
  go_wp2_with fail
  refine wp_loop_rounds 1 ?_
  rw [rounds_succ]
  go_wp2_with fail
  refine (add_yes' C cc caps P cp paths A' c' l w.heap.size _ (by first | omega | (focus (simp; done)) | (simp; omega)) (HC.out.below (by repeat (first | with_reducible exact BEL.out | with_reducible apply Below.alloc | with_reducible apply Below.setCell | with_reducible apply Below.drew | with_reducible apply below_drewN | (first | omega | (focus (simp; done)) | (focus (simp; omega)) | (focus (simp [World.setCell]; omega))))) (Nat.le_refl _)) (HP.out.below (by repeat (first | with_reducible exact BEL.out | with_reducible apply Below.alloc | with_reducible apply Below.setCell | with_reducible apply Below.drew | with_reducible apply below_drewN | (first | omega | (focus (simp; done)) | (focus (simp; omega)) | (focus (simp [World.setCell]; omega))))) (Nat.le_refl _)) (HI.out.below (by repeat (first | with_reducible exact BEL.out | with_reducible apply Below.alloc | with_reducible apply Below.setCell | with_reducible apply Below.drew | with_reducible apply below_drewN | (first | omega | (focus (simp; done)) | (focus (simp; omega)) | (focus (simp [World.setCell]; omega))))) (Nat.le_refl _)) HA.out).mono ?_; rintro e w5 ⟨C1, cc1, P1, cp1, rfl, hc1, hp1, hb5⟩
  have hk : Below w4.heap.size w4 w5 := Below.trans (by repeat (first | with_reducible exact Below.refl _ _ | with_reducible apply Below.drew | with_reducible apply below_drewN | with_reducible apply Below.alloc | omega | (focus (simp; done)) | (simp; omega))) (hb5.mono (by first | omega | (simp; done) | (simp; omega)))
  replace HN := Lib.hid (HN.out.go hk)
  replace HX := Lib.hid (HX.out.at' hk)
  replace BEL : Hid (Below w.heap.size w w5) := Lib.hid (BEL.out.trans (hk.mono BEL.out.size))
  have z_w5 := hk.size; have y_w5 := BEL.out.size; clear hk hb5
  clear pN0 pN1 fN0 fN1 zN zN_1 zN_2 zN_3
  obtain ⟨pN0, pN1, fN0, fN1, zN, zN_1, zN_2, zN_3⟩ := HN.out.two'
  have HC1 := Lib.hid hc1; have HP1 := Lib.hid hp1; clear hc1 hp1
  have HR5 := Lib.hid (HR.out.below (show Below w.heap.size w (w5.alloc (.cells #[.slice C1 caps.length cc1, .slice P1 (paths.length + 1) cp1] 25)) from BEL.out.alloc BEL.out.size _) (Nat.le_refl _))
  obtain ⟨b5, o5, hA5, hb5, _, _⟩ := frs_q HR5.out hq0
  subst hA5
  obtain ⟨i0, hi0, hz0, hz1, hz2⟩ := info_parts Try.info_fr
  have HCELL : Hid (∀ j u, (frCells (Q.map frQ))[j]? = some u → (w5.alloc (.cells #[.slice C1 caps.length cc1, .slice P1 (paths.length + 1) cp1] 25)).cell? ((⟨b5, o5, none⟩ : Addr).add j) = some u) := Lib.hid fun j u hu => by
    obtain ⟨b6, o6, e6, _, hc6⟩ := HR5.out.rd.2 (by rw [List.length_map]; exact hq0)
    injection e6 with e6
    injection e6 with e1 e2
    subst e1 e2
    have hadd : (⟨b5, o5, none⟩ : Addr).add j = ⟨b5, o5 + j, none⟩ := by unfold Addr.add; split <;> simp_all
    rw [hadd]; exact hc6 j u hu
  have HONE : Hid (∀ u ∈ frCells (Q.map frQ), u.oneCell' = true) := Lib.hid (frCells_one _)
  have HLEN : Hid ((frCells (Q.map frQ)).length = Q.length * 2) := Lib.hid (by rw [frCells_len, List.length_map])
  clear HR5
  go_wp2_with (at_builtin; (refine wpList_append_own _ rfl (.tmp 144) (.tmp 145) 26 rfl (w5.alloc (.cells #[.slice C1 caps.length cc1, .slice P1 (paths.length + 1) cp1] 25)).heap.size 28 i0 (.agg #[.int .i64 0, .int .i64 0]) 2 16 Try.underlying26 hi0 hz0 hz1 hz2 rfl (by omega) (.slice none 0 0) 0 [] rfl (World.ownsRow_nil _ _ _ _) ⟨b5, o5, none⟩ Q.length c (frCells (Q.map frQ)) rfl HLEN.out HCELL.out HONE.out (by simp only [maxLen]; omega) (by omega) (Nat.le_refl _) ?_; intro v6 wm hown6 hgrow6 _; rw [Nat.zero_add, List.nil_append] at hown6; obtain ⟨A6, c6, rfl, hl6, hm6, _⟩ := owns_reads hown6; have HO6 := Lib.hid hown6; have HBM : Hid (Below (w5.alloc (.cells #[.slice C1 caps.length cc1, .slice P1 (paths.length + 1) cp1] 25)).heap.size (w5.alloc (.cells #[.slice C1 caps.length cc1, .slice P1 (paths.length + 1) cp1] 25)) wm) := Lib.hid ((Below.refl _ _).grown hgrow6 (Nat.le_refl _) (fun k hk => by cases hk)); clear hown6 hgrow6; unfold maxLen at hm6; have hbmz := HBM.out.size; go_wp2_with (at_builtin; (refine wpList_push wm _ rfl (.tmp 147) (.tmp 149) 26 rfl (w5.alloc (.cells #[.slice C1 caps.length cc1, .slice P1 (paths.length + 1) cp1] 25)).heap.size 28 (.agg #[.int .i64 0, .int .i64 0]) 2 16 Try.underlying26 Try.info_fr rfl (by omega) _ _ _ rfl HO6.out rfl rfl (by simp [Value.oneCell']) (by omega) (by omega) hbmz ?_; intro v7 wn hown7 hg7; have hbm := below_push HBM.out HO6.out hg7 (Nat.le_refl _) hbmz; have hq7 : wn.ownsRow (w5.alloc (.cells #[.slice C1 caps.length cc1, .slice P1 (paths.length + 1) cp1] 25)).heap.size 28 2 v7 (Q.length + 1) (qcells (Q ++ [0])) := (by rw [qcells_snoc]; exact hown7); obtain ⟨A7, c7, rfl, hf7⟩ := rates_frs hq7; have HF7 := Lib.hid hf7; have hbm0 := Lib.hid hbm; clear hown7 hg7 hq7 hf7 hbm; obtain ⟨n0', n1', _, _, nz'⟩ := ((HN.out.alloc (.cells #[.slice C1 caps.length cc1, .slice P1 (paths.length + 1) cp1] 25)).go hbm0.out).two; obtain ⟨m0', m1', _, _, mz'⟩ := ((Blk.new w5 25 #[.slice C1 caps.length cc1, .slice P1 (paths.length + 1) cp1]).go hbm0.out).two))))
  have hbm := hbm0.out
  clear hi0 hz0 hz1 hz2 HCELL HONE HLEN n0' n1' nz' m0' m1' mz'
  have hk : Below w5.heap.size w5 wn := Below.trans (by repeat (first | with_reducible exact Below.refl _ _ | with_reducible apply Below.drew | with_reducible apply below_drewN | with_reducible apply Below.alloc | omega | (focus (simp; done)) | (simp; omega))) (hbm.mono (by first | omega | (simp; done) | (simp; omega)))
  replace HN := Lib.hid (HN.out.go hk)
  replace HX := Lib.hid (HX.out.at' hk)
  replace HC1 := Lib.hid (HC1.out.at' hk)
  replace HP1 := Lib.hid (HP1.out.at' hk)
  have HM := Lib.hid (show Blk wn (w5.heap.size) 25 _ from Blk.go (by repeat (first | (with_reducible apply Blk.new'; first | with_reducible rfl | (focus (simp; done))) | with_reducible apply Blk.alloc | with_reducible apply Blk.drew | with_reducible apply Blk.drewN)) hbm)
  replace BEL : Hid (Below w.heap.size w wn) := Lib.hid (BEL.out.trans (hk.mono BEL.out.size))
  have z_wn := hk.size; have y_wn := BEL.out.size; clear hk hbm
  clear pN0 pN1 fN0 fN1 zN zN_1 zN_2 zN_3
  obtain ⟨pN0, pN1, fN0, fN1, zN, zN_1, zN_2, zN_3⟩ := HN.out.two'
  obtain ⟨pM0, pM1, fM0, fM1, zM, zM_1, zM_2, zM_3⟩ := HM.out.two'
  have HMO := Lib.hid (more_ok (p := l) HQ.out HQL.out)
  have HE4 := Lib.hid (addErr_ok HA.out).2.2.2
  have HL4 := Lib.hid (loads_more (p := l) HQL.out HL.out)
  have HF4 : Hid (fitsB caps (Q ++ [0]) L = false) := Lib.hid (by rw [fits_more]; exact HFB.out)
  go_wp2_with fail
  refine (lof_yes C1 cc1 caps P1 cp1 _ (paths ++ [l]) A7 c7 _ (Q ++ [0]) L _ _ (Nat.le_refl _) (HC1.out.at' (by repeat (first | with_reducible exact Below.refl _ _ | with_reducible apply Below.drew | with_reducible apply below_drewN | with_reducible apply Below.alloc | omega | (focus (simp; done)) | (simp; omega)))) (HP1.out.at' (by repeat (first | with_reducible exact Below.refl _ _ | with_reducible apply Below.drew | with_reducible apply below_drewN | with_reducible apply Below.alloc | omega | (focus (simp; done)) | (simp; omega)))) (HF7.out.at' (by repeat (first | with_reducible exact Below.refl _ _ | with_reducible apply Below.drew | with_reducible apply below_drewN | with_reducible apply Below.alloc | omega | (focus (simp; done)) | (simp; omega)))) (by simp) (by simp) HE4.out HMO.out.2 HMO.out.1 HL4.out).mono ?_; rintro e w6 ⟨A8, c8, rfl, hf8, _, hb6⟩
  have hk : Below wn.heap.size wn w6 := Below.trans (by repeat (first | with_reducible exact Below.refl _ _ | with_reducible apply Below.drew | with_reducible apply below_drewN | with_reducible apply Below.alloc | omega | (focus (simp; done)) | (simp; omega))) (hb6.mono (by first | omega | (simp; done) | (simp; omega)))
  replace HN := Lib.hid (HN.out.go hk)
  replace HM := Lib.hid (HM.out.go hk)
  replace HX := Lib.hid (HX.out.at' hk)
  replace HC1 := Lib.hid (HC1.out.at' hk)
  replace HP1 := Lib.hid (HP1.out.at' hk)
  replace HF7 := Lib.hid (HF7.out.at' hk)
  replace BEL : Hid (Below w.heap.size w w6) := Lib.hid (BEL.out.trans (hk.mono BEL.out.size))
  have z_w6 := hk.size; have y_w6 := BEL.out.size; clear hk hb6
  clear pN0 pN1 fN0 fN1 zN zN_1 zN_2 zN_3 pM0 pM1 fM0 fM1 zM zM_1 zM_2 zM_3
  obtain ⟨pN0, pN1, fN0, fN1, zN, zN_1, zN_2, zN_3⟩ := HN.out.two'
  obtain ⟨pM0, pM1, fM0, fM1, zM, zM_1, zM_2, zM_3⟩ := HM.out.two'
  have HZ := Lib.hid hf8; clear hf8
  go_wp2_with fail
  refine (fits_yes' C1 cc1 caps P1 cp1 _ (paths ++ [l]) A7 c7 _ (Q ++ [0]) L false _ _ (Nat.le_refl _) (HC1.out.at' (by repeat (first | with_reducible exact Below.refl _ _ | with_reducible apply Below.drew | with_reducible apply below_drewN | with_reducible apply Below.alloc | omega | (focus (simp; done)) | (simp; omega)))) (HP1.out.at' (by repeat (first | with_reducible exact Below.refl _ _ | with_reducible apply Below.drew | with_reducible apply below_drewN | with_reducible apply Below.alloc | omega | (focus (simp; done)) | (simp; omega)))) (HF7.out.at' (by repeat (first | with_reducible exact Below.refl _ _ | with_reducible apply Below.drew | with_reducible apply below_drewN | with_reducible apply Below.alloc | omega | (focus (simp; done)) | (simp; omega)))) (by simp) (by simp) HE4.out HMO.out.2 HMO.out.1 HL4.out HF4.out).mono ?_; rintro e w7 ⟨rfl, hb7⟩
  have hk : Below w6.heap.size w6 w7 := Below.trans (by repeat (first | with_reducible exact Below.refl _ _ | with_reducible apply Below.drew | with_reducible apply below_drewN | with_reducible apply Below.alloc | omega | (focus (simp; done)) | (simp; omega))) (hb7.mono (by first | omega | (simp; done) | (simp; omega)))
  replace HN := Lib.hid (HN.out.go hk)
  replace HM := Lib.hid (HM.out.go hk)
  replace HX := Lib.hid (HX.out.at' hk)
  replace HC1 := Lib.hid (HC1.out.at' hk)
  replace HP1 := Lib.hid (HP1.out.at' hk)
  replace HF7 := Lib.hid (HF7.out.at' hk)
  replace HZ := Lib.hid (HZ.out.at' hk)
  replace BEL : Hid (Below w.heap.size w w7) := Lib.hid (BEL.out.trans (hk.mono BEL.out.size))
  have z_w7 := hk.size; have y_w7 := BEL.out.size; clear hk hb7
  clear pN0 pN1 fN0 fN1 zN zN_1 zN_2 zN_3 pM0 pM1 fM0 fM1 zM zM_1 zM_2 zM_3
  obtain ⟨pN0, pN1, fN0, fN1, zN, zN_1, zN_2, zN_3⟩ := HN.out.two'
  obtain ⟨pM0, pM1, fM0, fM1, zM, zM_1, zM_2, zM_3⟩ := HM.out.two'
  go_wp2_with fail
  refine (sameFr_any A8 A1 c8 c1 _ _ (L.map frQ) (L.map frQ) _ _ _ (HZ.out.at' (by repeat (first | with_reducible exact Below.refl _ _ | with_reducible apply Below.drew | with_reducible apply below_drewN | with_reducible apply Below.alloc | omega | (focus (simp; done)) | (simp; omega)))) (HX.out.at' (by repeat (first | with_reducible exact Below.refl _ _ | with_reducible apply Below.drew | with_reducible apply below_drewN | with_reducible apply Below.alloc | omega | (focus (simp; done)) | (simp; omega)))) (by simp [HLL.out]) (by simp [HLL.out]) (Nat.le_refl _) (Nat.le_refl _) true (decide_eq_true rfl)).mono ?_; rintro e w8 ⟨rfl, hb8⟩
  have hk : Below w7.heap.size w7 w8 := Below.trans (by repeat (first | with_reducible exact Below.refl _ _ | with_reducible apply Below.drew | with_reducible apply below_drewN | with_reducible apply Below.alloc | omega | (focus (simp; done)) | (simp; omega))) (hb8.mono (by first | omega | (simp; done) | (simp; omega)))
  replace HN := Lib.hid (HN.out.go hk)
  replace HM := Lib.hid (HM.out.go hk)
  replace HX := Lib.hid (HX.out.at' hk)
  replace HC1 := Lib.hid (HC1.out.at' hk)
  replace HP1 := Lib.hid (HP1.out.at' hk)
  replace HF7 := Lib.hid (HF7.out.at' hk)
  replace HZ := Lib.hid (HZ.out.at' hk)
  replace BEL : Hid (Below w.heap.size w w8) := Lib.hid (BEL.out.trans (hk.mono BEL.out.size))
  have z_w8 := hk.size; have y_w8 := BEL.out.size; clear hk hb8
  clear pN0 pN1 fN0 fN1 zN zN_1 zN_2 zN_3 pM0 pM1 fM0 fM1 zM zM_1 zM_2 zM_3
  obtain ⟨pN0, pN1, fN0, fN1, zN, zN_1, zN_2, zN_3⟩ := HN.out.two'
  obtain ⟨pM0, pM1, fM0, fM1, zM, zM_1, zM_2, zM_3⟩ := HM.out.two'
  go_wp2
  go_ret
  exact ⟨rfl, (by repeat (first | with_reducible exact BEL.out | with_reducible apply Below.alloc | with_reducible apply Below.setCell | with_reducible apply Below.drew | with_reducible apply below_drewN | (first | omega | (focus (simp; done)) | (focus (simp; omega)) | (focus (simp [World.setCell]; omega)))))⟩
set_option maxHeartbeats 16000000 in
set_option maxRecDepth 100000 in
theorem loadAdds_FFullNo (C : Option Addr) (cc : Nat) (caps : List Int) (P : Option Addr) (cp : Nat) (paths : List (List Int)) (A : Option Addr) (c : Nat) (S : List Fr) (A' : Option Addr) (c' : Nat) (l : List Int) (w : World) (hc : Ints w w.heap.size C cc caps) (hp : Rows2 w w.heap.size P cp paths) (hr : Frs w w.heap.size A c S) (hi : Ints w w.heap.size A' c' l) (Q L : List Rat) (hS : S = Q.map frQ) (he : netErr caps paths = 0) (hl : Q.length = paths.length) (hq : ∀ q ∈ Q, QIn q) (hL : loadsTo paths Q caps.length = some L) (hb : fitsB caps Q L = false) (hfl : ∃ i, i < caps.length ∧ ¬ QIn (leftQ caps L i)) (er : Int) (ha : addErr caps paths l = er) (h0 : er ≠ 0) :
    Calls Try.prog 5 #[.agg #[.slice C caps.length cc, .slice P paths.length cp], .slice A S.length c, .slice A' l.length c'] w fun e w' => e = .returned (.bool true) ∧ Below w.heap.size w w' := by
  have HC := Lib.hid hc
  have HP := Lib.hid hp
  have HR := Lib.hid hr
  have HI := Lib.hid hi
  have hcm := hc.cap; have hcl := hc.le; have hrm := hr.cap; have hrl := hr.le
  unfold maxLen at hcm hrm
  clear hc hp hr hi
  subst hS
  obtain ⟨_, hc6, hp0, hp6, _, _⟩ := netErr_ok he
  have hLL := loadsTo_len hL
  have hAL : (leftAll caps L caps.length).length = caps.length := by simp [leftAll]
  rw [List.length_map] at hrl
  rw [List.length_map]
  have hnn : True := trivial
  have HE := Lib.hid he; have HQL := Lib.hid hl; have HQ := Lib.hid hq; have HL := Lib.hid hL; have HFB := Lib.hid hb; have HA := Lib.hid ha; have HLL := Lib.hid hLL; have HAL := Lib.hid hAL; have HNN := Lib.hid hnn
  have hq6 : Q.length ≤ 6 := by omega
  have hq0 : 0 < Q.length := by omega
  clear he hl hq hL hb ha hLL hAL hnn
  have HFL := Lib.hid hfl; clear hfl
  have H0 := Lib.hid h0; clear h0
  have BEL : Hid (Below w.heap.size w w) := Lib.hid (Below.refl _ _)
  have yB : w.heap.size ≤ w.heap.size := Nat.le_refl _
  go_enter Try.func5, Try.ntmps5
  have hH := Lib.hid ((Blk.new' (w.alloc (.cells #[.slice C caps.length cc, .slice P paths.length cp] 25)) 28 #[.int .i64 1, .int .i64 2] (g := w.heap.size + 1) (by simp)))
  go_wp2_with fail
  refine (loadAdds_fact (w.heap.size + 1 + 1) (w.heap.size + 1 + 1 + 1) (w.heap.size + 1 + 1 + 1 + 1) (w.heap.size + 1 + 1 + 1 + 1 + 1) (w.heap.size + 1 + 1 + 1 + 1 + 1 + 1) _ (by repeat (first | (with_reducible apply Blk.new'; first | with_reducible rfl | (focus (simp; done))) | with_reducible apply Blk.alloc)) (by repeat (first | (with_reducible apply Blk.new'; first | with_reducible rfl | (focus (simp; done))) | with_reducible apply Blk.alloc)) (by repeat (first | (with_reducible apply Blk.new'; first | with_reducible rfl | (focus (simp; done))) | with_reducible apply Blk.alloc)) (by repeat (first | (with_reducible apply Blk.new'; first | with_reducible rfl | (focus (simp; done))) | with_reducible apply Blk.alloc)) (by repeat (first | (with_reducible apply Blk.new'; first | with_reducible rfl | (focus (simp; done))) | with_reducible apply Blk.alloc))).mono ?_; rintro e w1 ⟨b0, o0, c0, rfl, hk0, hk1, hcp0, hb1⟩
  have hk : Below w.heap.size w w1 := Below.trans (by repeat (first | with_reducible exact Below.refl _ _ | with_reducible apply Below.drew | with_reducible apply below_drewN | with_reducible apply Below.alloc | omega | (focus (simp; done)) | (simp; omega))) (hb1.mono (by first | omega | (simp; done) | (simp; omega)))
  have HN := Lib.hid (show Blk w1 (w.heap.size) 25 _ from Blk.go (by repeat (first | (with_reducible apply Blk.new'; first | with_reducible rfl | (focus (simp; done))) | with_reducible apply Blk.alloc | with_reducible apply Blk.drew | with_reducible apply Blk.drewN)) hb1)
  replace BEL : Hid (Below w.heap.size w w1) := Lib.hid (BEL.out.trans (hk.mono BEL.out.size))
  have z_w1 := hk.size; have y_w1 := BEL.out.size; clear hk hb1
  clear hH
  have hcpI : (0 : Int) < (c0 : Int) := by omega
  obtain ⟨pN0, pN1, fN0, fN1, zN, zN_1, zN_2, zN_3⟩ := HN.out.two'
  go_wp2_with fail
  refine (lof_yes C cc caps P cp _ paths A c _ Q L w.heap.size _ (by first | omega | (focus (simp; done)) | (simp; omega)) (HC.out.below (by repeat (first | with_reducible exact BEL.out | with_reducible apply Below.alloc | with_reducible apply Below.setCell | with_reducible apply Below.drew | with_reducible apply below_drewN | (first | omega | (focus (simp; done)) | (focus (simp; omega)) | (focus (simp [World.setCell]; omega))))) (Nat.le_refl _)) (HP.out.below (by repeat (first | with_reducible exact BEL.out | with_reducible apply Below.alloc | with_reducible apply Below.setCell | with_reducible apply Below.drew | with_reducible apply below_drewN | (first | omega | (focus (simp; done)) | (focus (simp; omega)) | (focus (simp [World.setCell]; omega))))) (Nat.le_refl _)) (HR.out.below (by repeat (first | with_reducible exact BEL.out | with_reducible apply Below.alloc | with_reducible apply Below.setCell | with_reducible apply Below.drew | with_reducible apply below_drewN | (first | omega | (focus (simp; done)) | (focus (simp; omega)) | (focus (simp [World.setCell]; omega))))) (Nat.le_refl _)) rfl rfl HE.out HQL.out HQ.out HL.out).mono ?_; rintro e w2 ⟨A1, c1, rfl, hf1, _, hb2⟩
  have hk : Below w1.heap.size w1 w2 := Below.trans (by repeat (first | with_reducible exact Below.refl _ _ | with_reducible apply Below.drew | with_reducible apply below_drewN | with_reducible apply Below.alloc | omega | (focus (simp; done)) | (simp; omega))) (hb2.mono (by first | omega | (simp; done) | (simp; omega)))
  replace HN := Lib.hid (HN.out.go hk)
  replace BEL : Hid (Below w.heap.size w w2) := Lib.hid (BEL.out.trans (hk.mono BEL.out.size))
  have z_w2 := hk.size; have y_w2 := BEL.out.size; clear hk hb2
  clear pN0 pN1 fN0 fN1 zN zN_1 zN_2 zN_3
  obtain ⟨pN0, pN1, fN0, fN1, zN, zN_1, zN_2, zN_3⟩ := HN.out.two'
  have HX := Lib.hid hf1; clear hf1 hk0 hk1 hcp0 hcpI
  go_wp2_with fail
  refine (left_any C cc caps P cp _ paths A c _ Q L w.heap.size _ (by first | omega | (focus (simp; done)) | (simp; omega)) (HC.out.below (by repeat (first | with_reducible exact BEL.out | with_reducible apply Below.alloc | with_reducible apply Below.setCell | with_reducible apply Below.drew | with_reducible apply below_drewN | (first | omega | (focus (simp; done)) | (focus (simp; omega)) | (focus (simp [World.setCell]; omega))))) (Nat.le_refl _)) (HP.out.below (by repeat (first | with_reducible exact BEL.out | with_reducible apply Below.alloc | with_reducible apply Below.setCell | with_reducible apply Below.drew | with_reducible apply below_drewN | (first | omega | (focus (simp; done)) | (focus (simp; omega)) | (focus (simp [World.setCell]; omega))))) (Nat.le_refl _)) (HR.out.below (by repeat (first | with_reducible exact BEL.out | with_reducible apply Below.alloc | with_reducible apply Below.setCell | with_reducible apply Below.drew | with_reducible apply below_drewN | (first | omega | (focus (simp; done)) | (focus (simp; omega)) | (focus (simp [World.setCell]; omega))))) (Nat.le_refl _)) rfl rfl HE.out HQL.out HQ.out HL.out).mono ?_; rintro e w3 ⟨hor, hb3⟩
  have hee : e = .returned (.tuple #[.slice none 0 0, .iface 71 (.int .i64 4)]) := by
    rcases hor with ⟨_, h⟩ | ⟨h, _⟩
    · exact h
    · exfalso; obtain ⟨i, h1, h2⟩ := HFL.out; exact h2 (h i h1)
  clear hor
  subst hee
  have hk : Below w2.heap.size w2 w3 := Below.trans (by repeat (first | with_reducible exact Below.refl _ _ | with_reducible apply Below.drew | with_reducible apply below_drewN | with_reducible apply Below.alloc | omega | (focus (simp; done)) | (simp; omega))) (hb3.mono (by first | omega | (simp; done) | (simp; omega)))
  replace HN := Lib.hid (HN.out.go hk)
  replace HX := Lib.hid (HX.out.at' hk)
  replace BEL : Hid (Below w.heap.size w w3) := Lib.hid (BEL.out.trans (hk.mono BEL.out.size))
  have z_w3 := hk.size; have y_w3 := BEL.out.size; clear hk hb3
  clear pN0 pN1 fN0 fN1 zN zN_1 zN_2 zN_3
  obtain ⟨pN0, pN1, fN0, fN1, zN, zN_1, zN_2, zN_3⟩ := HN.out.two'
  go_wp2_with fail
  refine (fits_yes' C cc caps P cp _ paths A c _ Q L false w.heap.size _ (by first | omega | (focus (simp; done)) | (simp; omega)) (HC.out.below (by repeat (first | with_reducible exact BEL.out | with_reducible apply Below.alloc | with_reducible apply Below.setCell | with_reducible apply Below.drew | with_reducible apply below_drewN | (first | omega | (focus (simp; done)) | (focus (simp; omega)) | (focus (simp [World.setCell]; omega))))) (Nat.le_refl _)) (HP.out.below (by repeat (first | with_reducible exact BEL.out | with_reducible apply Below.alloc | with_reducible apply Below.setCell | with_reducible apply Below.drew | with_reducible apply below_drewN | (first | omega | (focus (simp; done)) | (focus (simp; omega)) | (focus (simp [World.setCell]; omega))))) (Nat.le_refl _)) (HR.out.below (by repeat (first | with_reducible exact BEL.out | with_reducible apply Below.alloc | with_reducible apply Below.setCell | with_reducible apply Below.drew | with_reducible apply below_drewN | (first | omega | (focus (simp; done)) | (focus (simp; omega)) | (focus (simp [World.setCell]; omega))))) (Nat.le_refl _)) rfl rfl HE.out HQL.out HQ.out HL.out HFB.out).mono ?_; rintro e w4 ⟨rfl, hb4⟩
  have hk : Below w3.heap.size w3 w4 := Below.trans (by repeat (first | with_reducible exact Below.refl _ _ | with_reducible apply Below.drew | with_reducible apply below_drewN | with_reducible apply Below.alloc | omega | (focus (simp; done)) | (simp; omega))) (hb4.mono (by first | omega | (simp; done) | (simp; omega)))
  replace HN := Lib.hid (HN.out.go hk)
  replace HX := Lib.hid (HX.out.at' hk)
  replace BEL : Hid (Below w.heap.size w w4) := Lib.hid (BEL.out.trans (hk.mono BEL.out.size))
  have z_w4 := hk.size; have y_w4 := BEL.out.size; clear hk hb4
  clear pN0 pN1 fN0 fN1 zN zN_1 zN_2 zN_3
  obtain ⟨pN0, pN1, fN0, fN1, zN, zN_1, zN_2, zN_3⟩ := HN.out.two'
  have hcm1 := HX.out.cap; have hcl1 := HX.out.le
  rw [List.length_map, HLL.out] at hcl1
  unfold maxLen at hcm1
  go_wp2_with fail
  refine wp_loop_rounds 1 ?_
  rw [rounds_succ]
  go_wp2_with fail
  refine (add_no C cc caps P cp paths A' c' l w.heap.size _ er (by first | omega | (focus (simp; done)) | (simp; omega)) (HC.out.below (by repeat (first | with_reducible exact BEL.out | with_reducible apply Below.alloc | with_reducible apply Below.setCell | with_reducible apply Below.drew | with_reducible apply below_drewN | (first | omega | (focus (simp; done)) | (focus (simp; omega)) | (focus (simp [World.setCell]; omega))))) (Nat.le_refl _)) (HP.out.below (by repeat (first | with_reducible exact BEL.out | with_reducible apply Below.alloc | with_reducible apply Below.setCell | with_reducible apply Below.drew | with_reducible apply below_drewN | (first | omega | (focus (simp; done)) | (focus (simp; omega)) | (focus (simp [World.setCell]; omega))))) (Nat.le_refl _)) (HI.out.below (by repeat (first | with_reducible exact BEL.out | with_reducible apply Below.alloc | with_reducible apply Below.setCell | with_reducible apply Below.drew | with_reducible apply below_drewN | (first | omega | (focus (simp; done)) | (focus (simp; omega)) | (focus (simp [World.setCell]; omega))))) (Nat.le_refl _)) HA.out H0.out).mono ?_; rintro e w5 ⟨rfl, hb5⟩
  have hk : Below w4.heap.size w4 w5 := Below.trans (by repeat (first | with_reducible exact Below.refl _ _ | with_reducible apply Below.drew | with_reducible apply below_drewN | with_reducible apply Below.alloc | omega | (focus (simp; done)) | (simp; omega))) (hb5.mono (by first | omega | (simp; done) | (simp; omega)))
  replace HN := Lib.hid (HN.out.go hk)
  replace HX := Lib.hid (HX.out.at' hk)
  replace BEL : Hid (Below w.heap.size w w5) := Lib.hid (BEL.out.trans (hk.mono BEL.out.size))
  have z_w5 := hk.size; have y_w5 := BEL.out.size; clear hk hb5
  clear pN0 pN1 fN0 fN1 zN zN_1 zN_2 zN_3
  obtain ⟨pN0, pN1, fN0, fN1, zN, zN_1, zN_2, zN_3⟩ := HN.out.two'
  go_wp2
  go_ret
  exact ⟨rfl, (by repeat (first | with_reducible exact BEL.out | with_reducible apply Below.alloc | with_reducible apply Below.setCell | with_reducible apply Below.drew | with_reducible apply below_drewN | (first | omega | (focus (simp; done)) | (focus (simp; omega)) | (focus (simp [World.setCell]; omega)))))⟩
set_option maxHeartbeats 16000000 in
set_option maxRecDepth 100000 in
theorem loadAdds_FLeftAdd (C : Option Addr) (cc : Nat) (caps : List Int) (P : Option Addr) (cp : Nat) (paths : List (List Int)) (A : Option Addr) (c : Nat) (S : List Fr) (A' : Option Addr) (c' : Nat) (l : List Int) (w : World) (hc : Ints w w.heap.size C cc caps) (hp : Rows2 w w.heap.size P cp paths) (hr : Frs w w.heap.size A c S) (hi : Ints w w.heap.size A' c' l) (Q L : List Rat) (hS : S = Q.map frQ) (he : netErr caps paths = 0) (hl : Q.length = paths.length) (hq : ∀ q ∈ Q, QIn q) (hL : loadsTo paths Q caps.length = some L) (hb : fitsB caps Q L = false) (hqy : ∀ i, i < caps.length → QIn (leftQ caps L i)) (ha : addErr caps paths l = 0) :
    Calls Try.prog 5 #[.agg #[.slice C caps.length cc, .slice P paths.length cp], .slice A S.length c, .slice A' l.length c'] w fun e w' => e = .returned (.bool true) ∧ Below w.heap.size w w' := by
  have HC := Lib.hid hc
  have HP := Lib.hid hp
  have HR := Lib.hid hr
  have HI := Lib.hid hi
  have hcm := hc.cap; have hcl := hc.le; have hrm := hr.cap; have hrl := hr.le
  unfold maxLen at hcm hrm
  clear hc hp hr hi
  subst hS
  obtain ⟨_, hc6, hp0, hp6, _, _⟩ := netErr_ok he
  have hLL := loadsTo_len hL
  have hAL : (leftAll caps L caps.length).length = caps.length := by simp [leftAll]
  rw [List.length_map] at hrl
  rw [List.length_map]
  have hnn : True := trivial
  have HE := Lib.hid he; have HQL := Lib.hid hl; have HQ := Lib.hid hq; have HL := Lib.hid hL; have HFB := Lib.hid hb; have HA := Lib.hid ha; have HLL := Lib.hid hLL; have HAL := Lib.hid hAL; have HNN := Lib.hid hnn
  have hq6 : Q.length ≤ 6 := by omega
  have hq0 : 0 < Q.length := by omega
  clear he hl hq hL hb ha hLL hAL hnn
  have HQY := Lib.hid hqy; clear hqy
  have BEL : Hid (Below w.heap.size w w) := Lib.hid (Below.refl _ _)
  have yB : w.heap.size ≤ w.heap.size := Nat.le_refl _
  go_enter Try.func5, Try.ntmps5
  have hH := Lib.hid ((Blk.new' (w.alloc (.cells #[.slice C caps.length cc, .slice P paths.length cp] 25)) 28 #[.int .i64 1, .int .i64 2] (g := w.heap.size + 1) (by simp)))
  go_wp2_with fail
  refine (loadAdds_fact (w.heap.size + 1 + 1) (w.heap.size + 1 + 1 + 1) (w.heap.size + 1 + 1 + 1 + 1) (w.heap.size + 1 + 1 + 1 + 1 + 1) (w.heap.size + 1 + 1 + 1 + 1 + 1 + 1) _ (by repeat (first | (with_reducible apply Blk.new'; first | with_reducible rfl | (focus (simp; done))) | with_reducible apply Blk.alloc)) (by repeat (first | (with_reducible apply Blk.new'; first | with_reducible rfl | (focus (simp; done))) | with_reducible apply Blk.alloc)) (by repeat (first | (with_reducible apply Blk.new'; first | with_reducible rfl | (focus (simp; done))) | with_reducible apply Blk.alloc)) (by repeat (first | (with_reducible apply Blk.new'; first | with_reducible rfl | (focus (simp; done))) | with_reducible apply Blk.alloc)) (by repeat (first | (with_reducible apply Blk.new'; first | with_reducible rfl | (focus (simp; done))) | with_reducible apply Blk.alloc))).mono ?_; rintro e w1 ⟨b0, o0, c0, rfl, hk0, hk1, hcp0, hb1⟩
  have hk : Below w.heap.size w w1 := Below.trans (by repeat (first | with_reducible exact Below.refl _ _ | with_reducible apply Below.drew | with_reducible apply below_drewN | with_reducible apply Below.alloc | omega | (focus (simp; done)) | (simp; omega))) (hb1.mono (by first | omega | (simp; done) | (simp; omega)))
  have HN := Lib.hid (show Blk w1 (w.heap.size) 25 _ from Blk.go (by repeat (first | (with_reducible apply Blk.new'; first | with_reducible rfl | (focus (simp; done))) | with_reducible apply Blk.alloc | with_reducible apply Blk.drew | with_reducible apply Blk.drewN)) hb1)
  replace BEL : Hid (Below w.heap.size w w1) := Lib.hid (BEL.out.trans (hk.mono BEL.out.size))
  have z_w1 := hk.size; have y_w1 := BEL.out.size; clear hk hb1
  clear hH
  have hcpI : (0 : Int) < (c0 : Int) := by omega
  obtain ⟨pN0, pN1, fN0, fN1, zN, zN_1, zN_2, zN_3⟩ := HN.out.two'
  go_wp2_with fail
  refine (lof_yes C cc caps P cp _ paths A c _ Q L w.heap.size _ (by first | omega | (focus (simp; done)) | (simp; omega)) (HC.out.below (by repeat (first | with_reducible exact BEL.out | with_reducible apply Below.alloc | with_reducible apply Below.setCell | with_reducible apply Below.drew | with_reducible apply below_drewN | (first | omega | (focus (simp; done)) | (focus (simp; omega)) | (focus (simp [World.setCell]; omega))))) (Nat.le_refl _)) (HP.out.below (by repeat (first | with_reducible exact BEL.out | with_reducible apply Below.alloc | with_reducible apply Below.setCell | with_reducible apply Below.drew | with_reducible apply below_drewN | (first | omega | (focus (simp; done)) | (focus (simp; omega)) | (focus (simp [World.setCell]; omega))))) (Nat.le_refl _)) (HR.out.below (by repeat (first | with_reducible exact BEL.out | with_reducible apply Below.alloc | with_reducible apply Below.setCell | with_reducible apply Below.drew | with_reducible apply below_drewN | (first | omega | (focus (simp; done)) | (focus (simp; omega)) | (focus (simp [World.setCell]; omega))))) (Nat.le_refl _)) rfl rfl HE.out HQL.out HQ.out HL.out).mono ?_; rintro e w2 ⟨A1, c1, rfl, hf1, _, hb2⟩
  have hk : Below w1.heap.size w1 w2 := Below.trans (by repeat (first | with_reducible exact Below.refl _ _ | with_reducible apply Below.drew | with_reducible apply below_drewN | with_reducible apply Below.alloc | omega | (focus (simp; done)) | (simp; omega))) (hb2.mono (by first | omega | (simp; done) | (simp; omega)))
  replace HN := Lib.hid (HN.out.go hk)
  replace BEL : Hid (Below w.heap.size w w2) := Lib.hid (BEL.out.trans (hk.mono BEL.out.size))
  have z_w2 := hk.size; have y_w2 := BEL.out.size; clear hk hb2
  clear pN0 pN1 fN0 fN1 zN zN_1 zN_2 zN_3
  obtain ⟨pN0, pN1, fN0, fN1, zN, zN_1, zN_2, zN_3⟩ := HN.out.two'
  have HX := Lib.hid hf1; clear hf1 hk0 hk1 hcp0 hcpI
  go_wp2_with fail
  refine (left_any C cc caps P cp _ paths A c _ Q L w.heap.size _ (by first | omega | (focus (simp; done)) | (simp; omega)) (HC.out.below (by repeat (first | with_reducible exact BEL.out | with_reducible apply Below.alloc | with_reducible apply Below.setCell | with_reducible apply Below.drew | with_reducible apply below_drewN | (first | omega | (focus (simp; done)) | (focus (simp; omega)) | (focus (simp [World.setCell]; omega))))) (Nat.le_refl _)) (HP.out.below (by repeat (first | with_reducible exact BEL.out | with_reducible apply Below.alloc | with_reducible apply Below.setCell | with_reducible apply Below.drew | with_reducible apply below_drewN | (first | omega | (focus (simp; done)) | (focus (simp; omega)) | (focus (simp [World.setCell]; omega))))) (Nat.le_refl _)) (HR.out.below (by repeat (first | with_reducible exact BEL.out | with_reducible apply Below.alloc | with_reducible apply Below.setCell | with_reducible apply Below.drew | with_reducible apply below_drewN | (first | omega | (focus (simp; done)) | (focus (simp; omega)) | (focus (simp [World.setCell]; omega))))) (Nat.le_refl _)) rfl rfl HE.out HQL.out HQ.out HL.out).mono ?_; rintro e w3 ⟨hor, hb3⟩
  have hee : ∃ A2 c2, e = .returned (.tuple #[.slice A2 caps.length c2, .nilIface]) ∧ Frs w3 w3.heap.size A2 c2 ((leftAll caps L caps.length).map frQ) := by
    rcases hor with ⟨⟨i, h1, h2⟩, _⟩ | ⟨_, h⟩
    · exact absurd (HQY.out i h1) h2
    · exact h
  clear hor
  obtain ⟨A2, c2, rfl, hf2⟩ := hee
  have HY := Lib.hid hf2; clear hf2
  have hk : Below w2.heap.size w2 w3 := Below.trans (by repeat (first | with_reducible exact Below.refl _ _ | with_reducible apply Below.drew | with_reducible apply below_drewN | with_reducible apply Below.alloc | omega | (focus (simp; done)) | (simp; omega))) (hb3.mono (by first | omega | (simp; done) | (simp; omega)))
  replace HN := Lib.hid (HN.out.go hk)
  replace HX := Lib.hid (HX.out.at' hk)
  replace BEL : Hid (Below w.heap.size w w3) := Lib.hid (BEL.out.trans (hk.mono BEL.out.size))
  have z_w3 := hk.size; have y_w3 := BEL.out.size; clear hk hb3
  clear pN0 pN1 fN0 fN1 zN zN_1 zN_2 zN_3
  obtain ⟨pN0, pN1, fN0, fN1, zN, zN_1, zN_2, zN_3⟩ := HN.out.two'
  go_wp2_with fail
  refine (fits_yes' C cc caps P cp _ paths A c _ Q L false w.heap.size _ (by first | omega | (focus (simp; done)) | (simp; omega)) (HC.out.below (by repeat (first | with_reducible exact BEL.out | with_reducible apply Below.alloc | with_reducible apply Below.setCell | with_reducible apply Below.drew | with_reducible apply below_drewN | (first | omega | (focus (simp; done)) | (focus (simp; omega)) | (focus (simp [World.setCell]; omega))))) (Nat.le_refl _)) (HP.out.below (by repeat (first | with_reducible exact BEL.out | with_reducible apply Below.alloc | with_reducible apply Below.setCell | with_reducible apply Below.drew | with_reducible apply below_drewN | (first | omega | (focus (simp; done)) | (focus (simp; omega)) | (focus (simp [World.setCell]; omega))))) (Nat.le_refl _)) (HR.out.below (by repeat (first | with_reducible exact BEL.out | with_reducible apply Below.alloc | with_reducible apply Below.setCell | with_reducible apply Below.drew | with_reducible apply below_drewN | (first | omega | (focus (simp; done)) | (focus (simp; omega)) | (focus (simp [World.setCell]; omega))))) (Nat.le_refl _)) rfl rfl HE.out HQL.out HQ.out HL.out HFB.out).mono ?_; rintro e w4 ⟨rfl, hb4⟩
  have hk : Below w3.heap.size w3 w4 := Below.trans (by repeat (first | with_reducible exact Below.refl _ _ | with_reducible apply Below.drew | with_reducible apply below_drewN | with_reducible apply Below.alloc | omega | (focus (simp; done)) | (simp; omega))) (hb4.mono (by first | omega | (simp; done) | (simp; omega)))
  replace HN := Lib.hid (HN.out.go hk)
  replace HX := Lib.hid (HX.out.at' hk)
  replace HY := Lib.hid (HY.out.at' hk)
  replace BEL : Hid (Below w.heap.size w w4) := Lib.hid (BEL.out.trans (hk.mono BEL.out.size))
  have z_w4 := hk.size; have y_w4 := BEL.out.size; clear hk hb4
  clear pN0 pN1 fN0 fN1 zN zN_1 zN_2 zN_3
  obtain ⟨pN0, pN1, fN0, fN1, zN, zN_1, zN_2, zN_3⟩ := HN.out.two'
  clear pN0 pN1 fN0 fN1 zN zN_1 zN_2 zN_3
  obtain ⟨wo, hwo⟩ : ∃ x, x = w4 := ⟨_, rfl⟩
  rw [← hwo] at HX HY HN BEL ⊢
  clear hwo
  obtain ⟨n0, n1, _, _, nz⟩ := HN.out.two
  have hbo := BEL.out.size
  have hmx := HX.out.cap; have hlx := HX.out.le; have hmy := HY.out.cap; have hly := HY.out.le
  rw [List.length_map, HLL.out] at hlx
  rw [List.length_map, HAL.out] at hly
  unfold maxLen at hmx hmy
  go_wp2_with fail
  go_loopw [15] (fun i wr => ∃ k : Nat, k ≤ caps.length ∧ i = .int .i64 k ∧ Hid (Below wo.heap.size wo wr)) (fun i _ => caps.length - (intOf i).toNat)
  case atStart => exact ⟨0, Nat.zero_le _, rfl, Lib.hid (Below.refl _ _)⟩
  case round =>
    clear n0 n1 nz
    obtain ⟨k, hk, rfl, HB⟩ := hrel
    have hB1 := HB.out.size
    have HND := Lib.hid (HN.out.go HB.out)
    by_cases hlt : k < caps.length
    · have k0 : (0 : Int) ≤ (k : Int) := by omega
      have k1 : (k : Int) < (caps.length : Int) := by omega
      obtain ⟨b1, o1, rfl, hb1, x0, x1⟩ := frs_q (HX.out.below HB.out (Nat.le_refl _)) (show k < L.length by rw [HLL.out]; exact hlt)
      obtain ⟨b2, o2, rfl, hb2, y0, y1⟩ := frs_q (HY.out.below HB.out (Nat.le_refl _)) (show k < (leftAll caps L caps.length).length by rw [HAL.out]; exact hlt)
      obtain ⟨b3, o3, rfl, hb3, hcell⟩ := caps_get ((HC.out.below BEL.out (Nat.le_refl _)).below HB.out (by omega)) hlt
      have hyg : (leftAll caps L caps.length).getD k 0 = leftQ caps L k := by unfold leftAll; simp [List.getD_eq_getElem?_getD, hlt]
      rw [hyg] at y0 y1
      have hci := caps_inL HE.out hlt
      have hlq : leftQ caps L k = ((caps.getD k 0 : Int) : Rat) + -(L.getD k 0) := rfl
      have hqx : QIn (L.getD k 0) := loadsTo_in HL.out _ (by rw [List.getD_eq_getElem?_getD, List.getElem?_eq_getElem (show k < L.length by rw [HLL.out]; exact hlt)]; exact List.getElem_mem _)
      have hqy := HQY.out k hlt
      have hnn : True := trivial
      obtain ⟨cv, hcv⟩ : ∃ x, caps.getD k 0 = x := ⟨_, rfl⟩
      obtain ⟨x, hx⟩ : ∃ x, L.getD k 0 = x := ⟨_, rfl⟩
      obtain ⟨y, hy⟩ : ∃ y, leftQ caps L k = y := ⟨_, rfl⟩
      rw [hcv] at hcell hci hlq
      rw [hx] at x0 x1 hqx hlq
      rw [hy] at y0 y1 hqy hlq
      try rw [hy] at hnn
      have hcq : QIn (cv : Rat) := by unfold QIn FracIn; simp; omega
      have HADD := Lib.hid fun W => (show Calls Try.prog 19 #[.agg #[.int .i64 x.num, .int .i64 x.den], .agg #[.int .i64 y.num, .int .i64 y.den]] W fun e w' => e = .returned (.tuple #[.agg #[.int .i64 cv, .int .i64 1], .nilIface]) ∧ Below W.heap.size W w' from by
        have := fadd_q x y (cv : Rat) W hqx hqy (by rw [hlq]; grind) hcq
        simpa using this)
      have z1 : b1 < wr.heap.size := by omega
      have z2 : b2 < wr.heap.size := by omega
      have z3 : b3 < wr.heap.size := by omega
      clear hyg hci hlq hqx hqy hcv hx hy hcq
      go_upto_region 17 with (fail)
      go_cut [16, 17] (fun s16 s17 wx => ∃ g16, s16 = .pointer (some ⟨g16, 0, none⟩) ∧ s17 = .nilIface ∧ Hid (Blk wx g16 28 #[.int .i64 cv, .int .i64 1]) ∧ Hid (Below wr.heap.size wr wx))
      case first =>
        go_region_held3 (fun w' => w'.cell? ⟨b1, o1 + k * 2, none⟩ = some (.int .i64 x.num) ∧ w'.cell? ⟨b1, o1 + k * 2 + 1, none⟩ = some (.int .i64 x.den) ∧ w'.cell? ⟨b2, o2 + k * 2, none⟩ = some (.int .i64 y.num) ∧ w'.cell? ⟨b2, o2 + k * 2 + 1, none⟩ = some (.int .i64 y.den)) (go_keep)
          (first
            | (go_simp; go_at_call 19; (with_reducible refine (HADD.out (wr.alloc (.cells #[.int .i64 0, .int .i64 0] 28)).drew).mono ?_); rintro e w5 ⟨rfl, hb5⟩; have HB5 : Hid (Below wr.heap.size wr w5) := Lib.hid (((Below.refl _ _).alloc (Nat.le_refl _) _).drew.trans (hb5.mono (by simp))); have HX5 := Lib.hid ((Blk.new wr 28 #[.int .i64 0, .int .i64 0]).drew.go hb5); have u0 := (HB5.out.cell (p := ⟨b1, o1 + k * 2, none⟩) z1).trans x0; have u1 := (HB5.out.cell (p := ⟨b1, o1 + k * 2 + 1, none⟩) z1).trans x1; have u2 := (HB5.out.cell (p := ⟨b2, o2 + k * 2, none⟩) z2).trans y0; have u3 := (HB5.out.cell (p := ⟨b2, o2 + k * 2 + 1, none⟩) z2).trans y1; have hz5 := HB5.out.size; have n1' : ¬ b1 = w5.heap.size := (by omega); have n2' : ¬ b2 = w5.heap.size := (by omega); have n3' : ¬ b1 = wr.heap.size := (by omega); have n4' : ¬ b2 = wr.heap.size := (by omega); have n5' : ¬ w5.heap.size = b1 := (by omega); have n6' : ¬ w5.heap.size = b2 := (by omega); have n7' : ¬ wr.heap.size = b1 := (by omega); have n8' : ¬ wr.heap.size = b2 := (by omega); clear hb5; obtain ⟨v0, v1, vf0, vf1, vz⟩ := HX5.out.two; dsimp only)
            | (go_simp; go_at_call 19; refine (HADD.out _).mono ?_; rintro e w5 ⟨rfl, hb5⟩; have HB5 : Hid (Below wr.heap.size wr w5) := Lib.hid (by first | exact hb5 | exact (Below.refl _ _).drew.trans hb5); have u0 := (HB5.out.cell (p := ⟨b1, o1 + k * 2, none⟩) z1).trans x0; have u1 := (HB5.out.cell (p := ⟨b1, o1 + k * 2 + 1, none⟩) z1).trans x1; have u2 := (HB5.out.cell (p := ⟨b2, o2 + k * 2, none⟩) z2).trans y0; have u3 := (HB5.out.cell (p := ⟨b2, o2 + k * 2 + 1, none⟩) z2).trans y1; have hz5 := HB5.out.size; have n1' : ¬ b1 = w5.heap.size := (by omega); have n2' : ¬ b2 = w5.heap.size := (by omega); have n3' : ¬ b1 = wr.heap.size := (by omega); have n4' : ¬ b2 = wr.heap.size := (by omega); have n5' : ¬ w5.heap.size = b1 := (by omega); have n6' : ¬ w5.heap.size = b2 := (by omega); have n7' : ¬ wr.heap.size = b1 := (by omega); have n8' : ¬ wr.heap.size = b2 := (by omega); clear hb5; dsimp only))
        all_goals
          go_wp2
          go_meet
          first
            | exact ⟨_, rfl, rfl, Lib.hid (Blk.new _ _ _), Lib.hid (HB5.out.alloc HB5.out.size _)⟩
            | exact ⟨_, rfl, rfl, Lib.hid ((HX5.out.s2_0 _).s2_1 _), Lib.hid ((HB5.out.setCell (p := ⟨_, 0, none⟩) (Nat.le_refl _) _).setCell (p := ⟨_, 1, none⟩) (Nat.le_refl _) _)⟩
      case rest =>
        obtain ⟨g16, rfl, rfl, HG, HBX⟩ := hcut
        have HB6 := Lib.hid (HB.out.trans (HBX.out.mono hB1))
        have HN6 := Lib.hid (HND.out.go HBX.out)
        have c6 := (HBX.out.cell (p := ⟨b3, o3 + k, none⟩) z3).trans hcell
        have yy6 := (HBX.out.cell (p := ⟨b2, o2 + k * 2, none⟩) z2).trans y0
        have hz6 := HBX.out.size
        obtain ⟨n0, n1, _, _, nz⟩ := HN6.out.two
        obtain ⟨g0, g1, _, _, gz⟩ := HG.out.two
        clear hcell x0 x1 y0 y1 HADD HBX HND
        go_wp2_with fail
        go_quiet (fail)
        go_wp2
        go_roundw
        case rel => exact ⟨k + 1, by omega, by go_num, Lib.hid (below_drewN HB6.out _)⟩
        case measure => simp [intOf]; omega
    · obtain rfl : k = caps.length := by omega
      replace BEL := Lib.hid (BEL.out.trans (HB.out.mono hbo))
      replace HX := Lib.hid (HX.out.at' HB.out)
      replace HN := HND
      clear HY HND hmx hlx hmy hly
      obtain ⟨wz, hwz⟩ : ∃ x, x = wr := ⟨_, rfl⟩
      rw [← hwz] at HX HN BEL ⊢
      clear hwz HB hB1
      obtain ⟨n0, n1, _, _, nz⟩ := HN.out.two
      have y_wz := BEL.out.size
      go_wp2_with fail
      refine (add_yes' C cc caps P cp paths A' c' l w.heap.size _ (by first | omega | (focus (simp; done)) | (simp; omega)) (HC.out.below (by repeat (first | with_reducible exact BEL.out | with_reducible apply Below.alloc | with_reducible apply Below.setCell | with_reducible apply Below.drew | with_reducible apply below_drewN | (first | omega | (focus (simp; done)) | (focus (simp; omega)) | (focus (simp [World.setCell]; omega))))) (Nat.le_refl _)) (HP.out.below (by repeat (first | with_reducible exact BEL.out | with_reducible apply Below.alloc | with_reducible apply Below.setCell | with_reducible apply Below.drew | with_reducible apply below_drewN | (first | omega | (focus (simp; done)) | (focus (simp; omega)) | (focus (simp [World.setCell]; omega))))) (Nat.le_refl _)) (HI.out.below (by repeat (first | with_reducible exact BEL.out | with_reducible apply Below.alloc | with_reducible apply Below.setCell | with_reducible apply Below.drew | with_reducible apply below_drewN | (first | omega | (focus (simp; done)) | (focus (simp; omega)) | (focus (simp [World.setCell]; omega))))) (Nat.le_refl _)) HA.out).mono ?_; rintro e w5 ⟨C1, cc1, P1, cp1, rfl, hc1, hp1, hb5⟩
      have hk : Below wz.heap.size wz w5 := Below.trans (by repeat (first | with_reducible exact Below.refl _ _ | with_reducible apply Below.drew | with_reducible apply below_drewN | with_reducible apply Below.alloc | omega | (focus (simp; done)) | (simp; omega))) (hb5.mono (by first | omega | (simp; done) | (simp; omega)))
      replace HN := Lib.hid (HN.out.go hk)
      replace HX := Lib.hid (HX.out.at' hk)
      replace BEL : Hid (Below w.heap.size w w5) := Lib.hid (BEL.out.trans (hk.mono BEL.out.size))
      have z_w5 := hk.size; have y_w5 := BEL.out.size; clear hk hb5
      clear n0 n1 nz
      obtain ⟨pN0, pN1, fN0, fN1, zN, zN_1, zN_2, zN_3⟩ := HN.out.two'
      have HC1 := Lib.hid hc1; have HP1 := Lib.hid hp1; clear hc1 hp1
      have HR5 := Lib.hid (HR.out.below (show Below w.heap.size w (w5.alloc (.cells #[.slice C1 caps.length cc1, .slice P1 (paths.length + 1) cp1] 25)) from BEL.out.alloc BEL.out.size _) (Nat.le_refl _))
      obtain ⟨b5, o5, hA5, hb5, _, _⟩ := frs_q HR5.out hq0
      subst hA5
      obtain ⟨i0, hi0, hz0, hz1, hz2⟩ := info_parts Try.info_fr
      have HCELL : Hid (∀ j u, (frCells (Q.map frQ))[j]? = some u → (w5.alloc (.cells #[.slice C1 caps.length cc1, .slice P1 (paths.length + 1) cp1] 25)).cell? ((⟨b5, o5, none⟩ : Addr).add j) = some u) := Lib.hid fun j u hu => by
        obtain ⟨b6, o6, e6, _, hc6⟩ := HR5.out.rd.2 (by rw [List.length_map]; exact hq0)
        injection e6 with e6
        injection e6 with e1 e2
        subst e1 e2
        have hadd : (⟨b5, o5, none⟩ : Addr).add j = ⟨b5, o5 + j, none⟩ := by unfold Addr.add; split <;> simp_all
        rw [hadd]; exact hc6 j u hu
      have HONE : Hid (∀ u ∈ frCells (Q.map frQ), u.oneCell' = true) := Lib.hid (frCells_one _)
      have HLEN : Hid ((frCells (Q.map frQ)).length = Q.length * 2) := Lib.hid (by rw [frCells_len, List.length_map])
      clear HR5
      go_wp2_with (at_builtin; (refine wpList_append_own _ rfl (.tmp 144) (.tmp 145) 26 rfl (w5.alloc (.cells #[.slice C1 caps.length cc1, .slice P1 (paths.length + 1) cp1] 25)).heap.size 28 i0 (.agg #[.int .i64 0, .int .i64 0]) 2 16 Try.underlying26 hi0 hz0 hz1 hz2 rfl (by omega) (.slice none 0 0) 0 [] rfl (World.ownsRow_nil _ _ _ _) ⟨b5, o5, none⟩ Q.length c (frCells (Q.map frQ)) rfl HLEN.out HCELL.out HONE.out (by simp only [maxLen]; omega) (by omega) (Nat.le_refl _) ?_; intro v6 wm hown6 hgrow6 _; rw [Nat.zero_add, List.nil_append] at hown6; obtain ⟨A6, c6, rfl, hl6, hm6, _⟩ := owns_reads hown6; have HO6 := Lib.hid hown6; have HBM : Hid (Below (w5.alloc (.cells #[.slice C1 caps.length cc1, .slice P1 (paths.length + 1) cp1] 25)).heap.size (w5.alloc (.cells #[.slice C1 caps.length cc1, .slice P1 (paths.length + 1) cp1] 25)) wm) := Lib.hid ((Below.refl _ _).grown hgrow6 (Nat.le_refl _) (fun k hk => by cases hk)); clear hown6 hgrow6; unfold maxLen at hm6; have hbmz := HBM.out.size; go_wp2_with (at_builtin; (refine wpList_push wm _ rfl (.tmp 147) (.tmp 149) 26 rfl (w5.alloc (.cells #[.slice C1 caps.length cc1, .slice P1 (paths.length + 1) cp1] 25)).heap.size 28 (.agg #[.int .i64 0, .int .i64 0]) 2 16 Try.underlying26 Try.info_fr rfl (by omega) _ _ _ rfl HO6.out rfl rfl (by simp [Value.oneCell']) (by omega) (by omega) hbmz ?_; intro v7 wn hown7 hg7; have hbm := below_push HBM.out HO6.out hg7 (Nat.le_refl _) hbmz; have hq7 : wn.ownsRow (w5.alloc (.cells #[.slice C1 caps.length cc1, .slice P1 (paths.length + 1) cp1] 25)).heap.size 28 2 v7 (Q.length + 1) (qcells (Q ++ [0])) := (by rw [qcells_snoc]; exact hown7); obtain ⟨A7, c7, rfl, hf7⟩ := rates_frs hq7; have HF7 := Lib.hid hf7; have hbm0 := Lib.hid hbm; clear hown7 hg7 hq7 hf7 hbm; obtain ⟨n0', n1', _, _, nz'⟩ := ((HN.out.alloc (.cells #[.slice C1 caps.length cc1, .slice P1 (paths.length + 1) cp1] 25)).go hbm0.out).two; obtain ⟨m0', m1', _, _, mz'⟩ := ((Blk.new w5 25 #[.slice C1 caps.length cc1, .slice P1 (paths.length + 1) cp1]).go hbm0.out).two))))
      have hbm := hbm0.out
      clear hi0 hz0 hz1 hz2 HCELL HONE HLEN n0' n1' nz' m0' m1' mz'
      have hk : Below w5.heap.size w5 wn := Below.trans (by repeat (first | with_reducible exact Below.refl _ _ | with_reducible apply Below.drew | with_reducible apply below_drewN | with_reducible apply Below.alloc | omega | (focus (simp; done)) | (simp; omega))) (hbm.mono (by first | omega | (simp; done) | (simp; omega)))
      replace HN := Lib.hid (HN.out.go hk)
      replace HX := Lib.hid (HX.out.at' hk)
      replace HC1 := Lib.hid (HC1.out.at' hk)
      replace HP1 := Lib.hid (HP1.out.at' hk)
      have HM := Lib.hid (show Blk wn (w5.heap.size) 25 _ from Blk.go (by repeat (first | (with_reducible apply Blk.new'; first | with_reducible rfl | (focus (simp; done))) | with_reducible apply Blk.alloc | with_reducible apply Blk.drew | with_reducible apply Blk.drewN)) hbm)
      replace BEL : Hid (Below w.heap.size w wn) := Lib.hid (BEL.out.trans (hk.mono BEL.out.size))
      have z_wn := hk.size; have y_wn := BEL.out.size; clear hk hbm
      clear pN0 pN1 fN0 fN1 zN zN_1 zN_2 zN_3
      obtain ⟨pN0, pN1, fN0, fN1, zN, zN_1, zN_2, zN_3⟩ := HN.out.two'
      obtain ⟨pM0, pM1, fM0, fM1, zM, zM_1, zM_2, zM_3⟩ := HM.out.two'
      have HMO := Lib.hid (more_ok (p := l) HQ.out HQL.out)
      have HE4 := Lib.hid (addErr_ok HA.out).2.2.2
      have HL4 := Lib.hid (loads_more (p := l) HQL.out HL.out)
      have HF4 : Hid (fitsB caps (Q ++ [0]) L = false) := Lib.hid (by rw [fits_more]; exact HFB.out)
      go_wp2_with fail
      refine (lof_yes C1 cc1 caps P1 cp1 _ (paths ++ [l]) A7 c7 _ (Q ++ [0]) L _ _ (Nat.le_refl _) (HC1.out.at' (by repeat (first | with_reducible exact Below.refl _ _ | with_reducible apply Below.drew | with_reducible apply below_drewN | with_reducible apply Below.alloc | omega | (focus (simp; done)) | (simp; omega)))) (HP1.out.at' (by repeat (first | with_reducible exact Below.refl _ _ | with_reducible apply Below.drew | with_reducible apply below_drewN | with_reducible apply Below.alloc | omega | (focus (simp; done)) | (simp; omega)))) (HF7.out.at' (by repeat (first | with_reducible exact Below.refl _ _ | with_reducible apply Below.drew | with_reducible apply below_drewN | with_reducible apply Below.alloc | omega | (focus (simp; done)) | (simp; omega)))) (by simp) (by simp) HE4.out HMO.out.2 HMO.out.1 HL4.out).mono ?_; rintro e w6 ⟨A8, c8, rfl, hf8, _, hb6⟩
      have hk : Below wn.heap.size wn w6 := Below.trans (by repeat (first | with_reducible exact Below.refl _ _ | with_reducible apply Below.drew | with_reducible apply below_drewN | with_reducible apply Below.alloc | omega | (focus (simp; done)) | (simp; omega))) (hb6.mono (by first | omega | (simp; done) | (simp; omega)))
      replace HN := Lib.hid (HN.out.go hk)
      replace HM := Lib.hid (HM.out.go hk)
      replace HX := Lib.hid (HX.out.at' hk)
      replace HC1 := Lib.hid (HC1.out.at' hk)
      replace HP1 := Lib.hid (HP1.out.at' hk)
      replace HF7 := Lib.hid (HF7.out.at' hk)
      replace BEL : Hid (Below w.heap.size w w6) := Lib.hid (BEL.out.trans (hk.mono BEL.out.size))
      have z_w6 := hk.size; have y_w6 := BEL.out.size; clear hk hb6
      clear pN0 pN1 fN0 fN1 zN zN_1 zN_2 zN_3 pM0 pM1 fM0 fM1 zM zM_1 zM_2 zM_3
      obtain ⟨pN0, pN1, fN0, fN1, zN, zN_1, zN_2, zN_3⟩ := HN.out.two'
      obtain ⟨pM0, pM1, fM0, fM1, zM, zM_1, zM_2, zM_3⟩ := HM.out.two'
      have HZ := Lib.hid hf8; clear hf8
      go_wp2_with fail
      refine (fits_yes' C1 cc1 caps P1 cp1 _ (paths ++ [l]) A7 c7 _ (Q ++ [0]) L false _ _ (Nat.le_refl _) (HC1.out.at' (by repeat (first | with_reducible exact Below.refl _ _ | with_reducible apply Below.drew | with_reducible apply below_drewN | with_reducible apply Below.alloc | omega | (focus (simp; done)) | (simp; omega)))) (HP1.out.at' (by repeat (first | with_reducible exact Below.refl _ _ | with_reducible apply Below.drew | with_reducible apply below_drewN | with_reducible apply Below.alloc | omega | (focus (simp; done)) | (simp; omega)))) (HF7.out.at' (by repeat (first | with_reducible exact Below.refl _ _ | with_reducible apply Below.drew | with_reducible apply below_drewN | with_reducible apply Below.alloc | omega | (focus (simp; done)) | (simp; omega)))) (by simp) (by simp) HE4.out HMO.out.2 HMO.out.1 HL4.out HF4.out).mono ?_; rintro e w7 ⟨rfl, hb7⟩
      have hk : Below w6.heap.size w6 w7 := Below.trans (by repeat (first | with_reducible exact Below.refl _ _ | with_reducible apply Below.drew | with_reducible apply below_drewN | with_reducible apply Below.alloc | omega | (focus (simp; done)) | (simp; omega))) (hb7.mono (by first | omega | (simp; done) | (simp; omega)))
      replace HN := Lib.hid (HN.out.go hk)
      replace HM := Lib.hid (HM.out.go hk)
      replace HX := Lib.hid (HX.out.at' hk)
      replace HC1 := Lib.hid (HC1.out.at' hk)
      replace HP1 := Lib.hid (HP1.out.at' hk)
      replace HF7 := Lib.hid (HF7.out.at' hk)
      replace HZ := Lib.hid (HZ.out.at' hk)
      replace BEL : Hid (Below w.heap.size w w7) := Lib.hid (BEL.out.trans (hk.mono BEL.out.size))
      have z_w7 := hk.size; have y_w7 := BEL.out.size; clear hk hb7
      clear pN0 pN1 fN0 fN1 zN zN_1 zN_2 zN_3 pM0 pM1 fM0 fM1 zM zM_1 zM_2 zM_3
      obtain ⟨pN0, pN1, fN0, fN1, zN, zN_1, zN_2, zN_3⟩ := HN.out.two'
      obtain ⟨pM0, pM1, fM0, fM1, zM, zM_1, zM_2, zM_3⟩ := HM.out.two'
      go_wp2_with fail
      refine (sameFr_any A8 A1 c8 c1 _ _ (L.map frQ) (L.map frQ) _ _ _ (HZ.out.at' (by repeat (first | with_reducible exact Below.refl _ _ | with_reducible apply Below.drew | with_reducible apply below_drewN | with_reducible apply Below.alloc | omega | (focus (simp; done)) | (simp; omega)))) (HX.out.at' (by repeat (first | with_reducible exact Below.refl _ _ | with_reducible apply Below.drew | with_reducible apply below_drewN | with_reducible apply Below.alloc | omega | (focus (simp; done)) | (simp; omega)))) (by simp [HLL.out]) (by simp [HLL.out]) (Nat.le_refl _) (Nat.le_refl _) true (decide_eq_true rfl)).mono ?_; rintro e w8 ⟨rfl, hb8⟩
      have hk : Below w7.heap.size w7 w8 := Below.trans (by repeat (first | with_reducible exact Below.refl _ _ | with_reducible apply Below.drew | with_reducible apply below_drewN | with_reducible apply Below.alloc | omega | (focus (simp; done)) | (simp; omega))) (hb8.mono (by first | omega | (simp; done) | (simp; omega)))
      replace HN := Lib.hid (HN.out.go hk)
      replace HM := Lib.hid (HM.out.go hk)
      replace HX := Lib.hid (HX.out.at' hk)
      replace HC1 := Lib.hid (HC1.out.at' hk)
      replace HP1 := Lib.hid (HP1.out.at' hk)
      replace HF7 := Lib.hid (HF7.out.at' hk)
      replace HZ := Lib.hid (HZ.out.at' hk)
      replace BEL : Hid (Below w.heap.size w w8) := Lib.hid (BEL.out.trans (hk.mono BEL.out.size))
      have z_w8 := hk.size; have y_w8 := BEL.out.size; clear hk hb8
      clear pN0 pN1 fN0 fN1 zN zN_1 zN_2 zN_3 pM0 pM1 fM0 fM1 zM zM_1 zM_2 zM_3
      obtain ⟨pN0, pN1, fN0, fN1, zN, zN_1, zN_2, zN_3⟩ := HN.out.two'
      obtain ⟨pM0, pM1, fM0, fM1, zM, zM_1, zM_2, zM_3⟩ := HM.out.two'
      go_wp2
      go_ret
      exact ⟨rfl, (by repeat (first | with_reducible exact BEL.out | with_reducible apply Below.alloc | with_reducible apply Below.setCell | with_reducible apply Below.drew | with_reducible apply below_drewN | (first | omega | (focus (simp; done)) | (focus (simp; omega)) | (focus (simp [World.setCell]; omega)))))⟩
set_option maxHeartbeats 16000000 in
set_option maxRecDepth 100000 in
theorem loadAdds_FLeftNo (C : Option Addr) (cc : Nat) (caps : List Int) (P : Option Addr) (cp : Nat) (paths : List (List Int)) (A : Option Addr) (c : Nat) (S : List Fr) (A' : Option Addr) (c' : Nat) (l : List Int) (w : World) (hc : Ints w w.heap.size C cc caps) (hp : Rows2 w w.heap.size P cp paths) (hr : Frs w w.heap.size A c S) (hi : Ints w w.heap.size A' c' l) (Q L : List Rat) (hS : S = Q.map frQ) (he : netErr caps paths = 0) (hl : Q.length = paths.length) (hq : ∀ q ∈ Q, QIn q) (hL : loadsTo paths Q caps.length = some L) (hb : fitsB caps Q L = false) (hqy : ∀ i, i < caps.length → QIn (leftQ caps L i)) (er : Int) (ha : addErr caps paths l = er) (h0 : er ≠ 0) :
    Calls Try.prog 5 #[.agg #[.slice C caps.length cc, .slice P paths.length cp], .slice A S.length c, .slice A' l.length c'] w fun e w' => e = .returned (.bool true) ∧ Below w.heap.size w w' := by
  have HC := Lib.hid hc
  have HP := Lib.hid hp
  have HR := Lib.hid hr
  have HI := Lib.hid hi
  have hcm := hc.cap; have hcl := hc.le; have hrm := hr.cap; have hrl := hr.le
  unfold maxLen at hcm hrm
  clear hc hp hr hi
  subst hS
  obtain ⟨_, hc6, hp0, hp6, _, _⟩ := netErr_ok he
  have hLL := loadsTo_len hL
  have hAL : (leftAll caps L caps.length).length = caps.length := by simp [leftAll]
  rw [List.length_map] at hrl
  rw [List.length_map]
  have hnn : True := trivial
  have HE := Lib.hid he; have HQL := Lib.hid hl; have HQ := Lib.hid hq; have HL := Lib.hid hL; have HFB := Lib.hid hb; have HA := Lib.hid ha; have HLL := Lib.hid hLL; have HAL := Lib.hid hAL; have HNN := Lib.hid hnn
  have hq6 : Q.length ≤ 6 := by omega
  have hq0 : 0 < Q.length := by omega
  clear he hl hq hL hb ha hLL hAL hnn
  have HQY := Lib.hid hqy; clear hqy
  have H0 := Lib.hid h0; clear h0
  have BEL : Hid (Below w.heap.size w w) := Lib.hid (Below.refl _ _)
  have yB : w.heap.size ≤ w.heap.size := Nat.le_refl _
  go_enter Try.func5, Try.ntmps5
  have hH := Lib.hid ((Blk.new' (w.alloc (.cells #[.slice C caps.length cc, .slice P paths.length cp] 25)) 28 #[.int .i64 1, .int .i64 2] (g := w.heap.size + 1) (by simp)))
  go_wp2_with fail
  refine (loadAdds_fact (w.heap.size + 1 + 1) (w.heap.size + 1 + 1 + 1) (w.heap.size + 1 + 1 + 1 + 1) (w.heap.size + 1 + 1 + 1 + 1 + 1) (w.heap.size + 1 + 1 + 1 + 1 + 1 + 1) _ (by repeat (first | (with_reducible apply Blk.new'; first | with_reducible rfl | (focus (simp; done))) | with_reducible apply Blk.alloc)) (by repeat (first | (with_reducible apply Blk.new'; first | with_reducible rfl | (focus (simp; done))) | with_reducible apply Blk.alloc)) (by repeat (first | (with_reducible apply Blk.new'; first | with_reducible rfl | (focus (simp; done))) | with_reducible apply Blk.alloc)) (by repeat (first | (with_reducible apply Blk.new'; first | with_reducible rfl | (focus (simp; done))) | with_reducible apply Blk.alloc)) (by repeat (first | (with_reducible apply Blk.new'; first | with_reducible rfl | (focus (simp; done))) | with_reducible apply Blk.alloc))).mono ?_; rintro e w1 ⟨b0, o0, c0, rfl, hk0, hk1, hcp0, hb1⟩
  have hk : Below w.heap.size w w1 := Below.trans (by repeat (first | with_reducible exact Below.refl _ _ | with_reducible apply Below.drew | with_reducible apply below_drewN | with_reducible apply Below.alloc | omega | (focus (simp; done)) | (simp; omega))) (hb1.mono (by first | omega | (simp; done) | (simp; omega)))
  have HN := Lib.hid (show Blk w1 (w.heap.size) 25 _ from Blk.go (by repeat (first | (with_reducible apply Blk.new'; first | with_reducible rfl | (focus (simp; done))) | with_reducible apply Blk.alloc | with_reducible apply Blk.drew | with_reducible apply Blk.drewN)) hb1)
  replace BEL : Hid (Below w.heap.size w w1) := Lib.hid (BEL.out.trans (hk.mono BEL.out.size))
  have z_w1 := hk.size; have y_w1 := BEL.out.size; clear hk hb1
  clear hH
  have hcpI : (0 : Int) < (c0 : Int) := by omega
  obtain ⟨pN0, pN1, fN0, fN1, zN, zN_1, zN_2, zN_3⟩ := HN.out.two'
  go_wp2_with fail
  refine (lof_yes C cc caps P cp _ paths A c _ Q L w.heap.size _ (by first | omega | (focus (simp; done)) | (simp; omega)) (HC.out.below (by repeat (first | with_reducible exact BEL.out | with_reducible apply Below.alloc | with_reducible apply Below.setCell | with_reducible apply Below.drew | with_reducible apply below_drewN | (first | omega | (focus (simp; done)) | (focus (simp; omega)) | (focus (simp [World.setCell]; omega))))) (Nat.le_refl _)) (HP.out.below (by repeat (first | with_reducible exact BEL.out | with_reducible apply Below.alloc | with_reducible apply Below.setCell | with_reducible apply Below.drew | with_reducible apply below_drewN | (first | omega | (focus (simp; done)) | (focus (simp; omega)) | (focus (simp [World.setCell]; omega))))) (Nat.le_refl _)) (HR.out.below (by repeat (first | with_reducible exact BEL.out | with_reducible apply Below.alloc | with_reducible apply Below.setCell | with_reducible apply Below.drew | with_reducible apply below_drewN | (first | omega | (focus (simp; done)) | (focus (simp; omega)) | (focus (simp [World.setCell]; omega))))) (Nat.le_refl _)) rfl rfl HE.out HQL.out HQ.out HL.out).mono ?_; rintro e w2 ⟨A1, c1, rfl, hf1, _, hb2⟩
  have hk : Below w1.heap.size w1 w2 := Below.trans (by repeat (first | with_reducible exact Below.refl _ _ | with_reducible apply Below.drew | with_reducible apply below_drewN | with_reducible apply Below.alloc | omega | (focus (simp; done)) | (simp; omega))) (hb2.mono (by first | omega | (simp; done) | (simp; omega)))
  replace HN := Lib.hid (HN.out.go hk)
  replace BEL : Hid (Below w.heap.size w w2) := Lib.hid (BEL.out.trans (hk.mono BEL.out.size))
  have z_w2 := hk.size; have y_w2 := BEL.out.size; clear hk hb2
  clear pN0 pN1 fN0 fN1 zN zN_1 zN_2 zN_3
  obtain ⟨pN0, pN1, fN0, fN1, zN, zN_1, zN_2, zN_3⟩ := HN.out.two'
  have HX := Lib.hid hf1; clear hf1 hk0 hk1 hcp0 hcpI
  go_wp2_with fail
  refine (left_any C cc caps P cp _ paths A c _ Q L w.heap.size _ (by first | omega | (focus (simp; done)) | (simp; omega)) (HC.out.below (by repeat (first | with_reducible exact BEL.out | with_reducible apply Below.alloc | with_reducible apply Below.setCell | with_reducible apply Below.drew | with_reducible apply below_drewN | (first | omega | (focus (simp; done)) | (focus (simp; omega)) | (focus (simp [World.setCell]; omega))))) (Nat.le_refl _)) (HP.out.below (by repeat (first | with_reducible exact BEL.out | with_reducible apply Below.alloc | with_reducible apply Below.setCell | with_reducible apply Below.drew | with_reducible apply below_drewN | (first | omega | (focus (simp; done)) | (focus (simp; omega)) | (focus (simp [World.setCell]; omega))))) (Nat.le_refl _)) (HR.out.below (by repeat (first | with_reducible exact BEL.out | with_reducible apply Below.alloc | with_reducible apply Below.setCell | with_reducible apply Below.drew | with_reducible apply below_drewN | (first | omega | (focus (simp; done)) | (focus (simp; omega)) | (focus (simp [World.setCell]; omega))))) (Nat.le_refl _)) rfl rfl HE.out HQL.out HQ.out HL.out).mono ?_; rintro e w3 ⟨hor, hb3⟩
  have hee : ∃ A2 c2, e = .returned (.tuple #[.slice A2 caps.length c2, .nilIface]) ∧ Frs w3 w3.heap.size A2 c2 ((leftAll caps L caps.length).map frQ) := by
    rcases hor with ⟨⟨i, h1, h2⟩, _⟩ | ⟨_, h⟩
    · exact absurd (HQY.out i h1) h2
    · exact h
  clear hor
  obtain ⟨A2, c2, rfl, hf2⟩ := hee
  have HY := Lib.hid hf2; clear hf2
  have hk : Below w2.heap.size w2 w3 := Below.trans (by repeat (first | with_reducible exact Below.refl _ _ | with_reducible apply Below.drew | with_reducible apply below_drewN | with_reducible apply Below.alloc | omega | (focus (simp; done)) | (simp; omega))) (hb3.mono (by first | omega | (simp; done) | (simp; omega)))
  replace HN := Lib.hid (HN.out.go hk)
  replace HX := Lib.hid (HX.out.at' hk)
  replace BEL : Hid (Below w.heap.size w w3) := Lib.hid (BEL.out.trans (hk.mono BEL.out.size))
  have z_w3 := hk.size; have y_w3 := BEL.out.size; clear hk hb3
  clear pN0 pN1 fN0 fN1 zN zN_1 zN_2 zN_3
  obtain ⟨pN0, pN1, fN0, fN1, zN, zN_1, zN_2, zN_3⟩ := HN.out.two'
  go_wp2_with fail
  refine (fits_yes' C cc caps P cp _ paths A c _ Q L false w.heap.size _ (by first | omega | (focus (simp; done)) | (simp; omega)) (HC.out.below (by repeat (first | with_reducible exact BEL.out | with_reducible apply Below.alloc | with_reducible apply Below.setCell | with_reducible apply Below.drew | with_reducible apply below_drewN | (first | omega | (focus (simp; done)) | (focus (simp; omega)) | (focus (simp [World.setCell]; omega))))) (Nat.le_refl _)) (HP.out.below (by repeat (first | with_reducible exact BEL.out | with_reducible apply Below.alloc | with_reducible apply Below.setCell | with_reducible apply Below.drew | with_reducible apply below_drewN | (first | omega | (focus (simp; done)) | (focus (simp; omega)) | (focus (simp [World.setCell]; omega))))) (Nat.le_refl _)) (HR.out.below (by repeat (first | with_reducible exact BEL.out | with_reducible apply Below.alloc | with_reducible apply Below.setCell | with_reducible apply Below.drew | with_reducible apply below_drewN | (first | omega | (focus (simp; done)) | (focus (simp; omega)) | (focus (simp [World.setCell]; omega))))) (Nat.le_refl _)) rfl rfl HE.out HQL.out HQ.out HL.out HFB.out).mono ?_; rintro e w4 ⟨rfl, hb4⟩
  have hk : Below w3.heap.size w3 w4 := Below.trans (by repeat (first | with_reducible exact Below.refl _ _ | with_reducible apply Below.drew | with_reducible apply below_drewN | with_reducible apply Below.alloc | omega | (focus (simp; done)) | (simp; omega))) (hb4.mono (by first | omega | (simp; done) | (simp; omega)))
  replace HN := Lib.hid (HN.out.go hk)
  replace HX := Lib.hid (HX.out.at' hk)
  replace HY := Lib.hid (HY.out.at' hk)
  replace BEL : Hid (Below w.heap.size w w4) := Lib.hid (BEL.out.trans (hk.mono BEL.out.size))
  have z_w4 := hk.size; have y_w4 := BEL.out.size; clear hk hb4
  clear pN0 pN1 fN0 fN1 zN zN_1 zN_2 zN_3
  obtain ⟨pN0, pN1, fN0, fN1, zN, zN_1, zN_2, zN_3⟩ := HN.out.two'
  clear pN0 pN1 fN0 fN1 zN zN_1 zN_2 zN_3
  obtain ⟨wo, hwo⟩ : ∃ x, x = w4 := ⟨_, rfl⟩
  rw [← hwo] at HX HY HN BEL ⊢
  clear hwo
  obtain ⟨n0, n1, _, _, nz⟩ := HN.out.two
  have hbo := BEL.out.size
  have hmx := HX.out.cap; have hlx := HX.out.le; have hmy := HY.out.cap; have hly := HY.out.le
  rw [List.length_map, HLL.out] at hlx
  rw [List.length_map, HAL.out] at hly
  unfold maxLen at hmx hmy
  go_wp2_with fail
  go_loopw [15] (fun i wr => ∃ k : Nat, k ≤ caps.length ∧ i = .int .i64 k ∧ Hid (Below wo.heap.size wo wr)) (fun i _ => caps.length - (intOf i).toNat)
  case atStart => exact ⟨0, Nat.zero_le _, rfl, Lib.hid (Below.refl _ _)⟩
  case round =>
    clear n0 n1 nz
    obtain ⟨k, hk, rfl, HB⟩ := hrel
    have hB1 := HB.out.size
    have HND := Lib.hid (HN.out.go HB.out)
    by_cases hlt : k < caps.length
    · have k0 : (0 : Int) ≤ (k : Int) := by omega
      have k1 : (k : Int) < (caps.length : Int) := by omega
      obtain ⟨b1, o1, rfl, hb1, x0, x1⟩ := frs_q (HX.out.below HB.out (Nat.le_refl _)) (show k < L.length by rw [HLL.out]; exact hlt)
      obtain ⟨b2, o2, rfl, hb2, y0, y1⟩ := frs_q (HY.out.below HB.out (Nat.le_refl _)) (show k < (leftAll caps L caps.length).length by rw [HAL.out]; exact hlt)
      obtain ⟨b3, o3, rfl, hb3, hcell⟩ := caps_get ((HC.out.below BEL.out (Nat.le_refl _)).below HB.out (by omega)) hlt
      have hyg : (leftAll caps L caps.length).getD k 0 = leftQ caps L k := by unfold leftAll; simp [List.getD_eq_getElem?_getD, hlt]
      rw [hyg] at y0 y1
      have hci := caps_inL HE.out hlt
      have hlq : leftQ caps L k = ((caps.getD k 0 : Int) : Rat) + -(L.getD k 0) := rfl
      have hqx : QIn (L.getD k 0) := loadsTo_in HL.out _ (by rw [List.getD_eq_getElem?_getD, List.getElem?_eq_getElem (show k < L.length by rw [HLL.out]; exact hlt)]; exact List.getElem_mem _)
      have hqy := HQY.out k hlt
      have hnn : True := trivial
      obtain ⟨cv, hcv⟩ : ∃ x, caps.getD k 0 = x := ⟨_, rfl⟩
      obtain ⟨x, hx⟩ : ∃ x, L.getD k 0 = x := ⟨_, rfl⟩
      obtain ⟨y, hy⟩ : ∃ y, leftQ caps L k = y := ⟨_, rfl⟩
      rw [hcv] at hcell hci hlq
      rw [hx] at x0 x1 hqx hlq
      rw [hy] at y0 y1 hqy hlq
      try rw [hy] at hnn
      have hcq : QIn (cv : Rat) := by unfold QIn FracIn; simp; omega
      have HADD := Lib.hid fun W => (show Calls Try.prog 19 #[.agg #[.int .i64 x.num, .int .i64 x.den], .agg #[.int .i64 y.num, .int .i64 y.den]] W fun e w' => e = .returned (.tuple #[.agg #[.int .i64 cv, .int .i64 1], .nilIface]) ∧ Below W.heap.size W w' from by
        have := fadd_q x y (cv : Rat) W hqx hqy (by rw [hlq]; grind) hcq
        simpa using this)
      have z1 : b1 < wr.heap.size := by omega
      have z2 : b2 < wr.heap.size := by omega
      have z3 : b3 < wr.heap.size := by omega
      clear hyg hci hlq hqx hqy hcv hx hy hcq
      go_upto_region 17 with (fail)
      go_cut [16, 17] (fun s16 s17 wx => ∃ g16, s16 = .pointer (some ⟨g16, 0, none⟩) ∧ s17 = .nilIface ∧ Hid (Blk wx g16 28 #[.int .i64 cv, .int .i64 1]) ∧ Hid (Below wr.heap.size wr wx))
      case first =>
        go_region_held3 (fun w' => w'.cell? ⟨b1, o1 + k * 2, none⟩ = some (.int .i64 x.num) ∧ w'.cell? ⟨b1, o1 + k * 2 + 1, none⟩ = some (.int .i64 x.den) ∧ w'.cell? ⟨b2, o2 + k * 2, none⟩ = some (.int .i64 y.num) ∧ w'.cell? ⟨b2, o2 + k * 2 + 1, none⟩ = some (.int .i64 y.den)) (go_keep)
          (first
            | (go_simp; go_at_call 19; (with_reducible refine (HADD.out (wr.alloc (.cells #[.int .i64 0, .int .i64 0] 28)).drew).mono ?_); rintro e w5 ⟨rfl, hb5⟩; have HB5 : Hid (Below wr.heap.size wr w5) := Lib.hid (((Below.refl _ _).alloc (Nat.le_refl _) _).drew.trans (hb5.mono (by simp))); have HX5 := Lib.hid ((Blk.new wr 28 #[.int .i64 0, .int .i64 0]).drew.go hb5); have u0 := (HB5.out.cell (p := ⟨b1, o1 + k * 2, none⟩) z1).trans x0; have u1 := (HB5.out.cell (p := ⟨b1, o1 + k * 2 + 1, none⟩) z1).trans x1; have u2 := (HB5.out.cell (p := ⟨b2, o2 + k * 2, none⟩) z2).trans y0; have u3 := (HB5.out.cell (p := ⟨b2, o2 + k * 2 + 1, none⟩) z2).trans y1; have hz5 := HB5.out.size; have n1' : ¬ b1 = w5.heap.size := (by omega); have n2' : ¬ b2 = w5.heap.size := (by omega); have n3' : ¬ b1 = wr.heap.size := (by omega); have n4' : ¬ b2 = wr.heap.size := (by omega); have n5' : ¬ w5.heap.size = b1 := (by omega); have n6' : ¬ w5.heap.size = b2 := (by omega); have n7' : ¬ wr.heap.size = b1 := (by omega); have n8' : ¬ wr.heap.size = b2 := (by omega); clear hb5; obtain ⟨v0, v1, vf0, vf1, vz⟩ := HX5.out.two; dsimp only)
            | (go_simp; go_at_call 19; refine (HADD.out _).mono ?_; rintro e w5 ⟨rfl, hb5⟩; have HB5 : Hid (Below wr.heap.size wr w5) := Lib.hid (by first | exact hb5 | exact (Below.refl _ _).drew.trans hb5); have u0 := (HB5.out.cell (p := ⟨b1, o1 + k * 2, none⟩) z1).trans x0; have u1 := (HB5.out.cell (p := ⟨b1, o1 + k * 2 + 1, none⟩) z1).trans x1; have u2 := (HB5.out.cell (p := ⟨b2, o2 + k * 2, none⟩) z2).trans y0; have u3 := (HB5.out.cell (p := ⟨b2, o2 + k * 2 + 1, none⟩) z2).trans y1; have hz5 := HB5.out.size; have n1' : ¬ b1 = w5.heap.size := (by omega); have n2' : ¬ b2 = w5.heap.size := (by omega); have n3' : ¬ b1 = wr.heap.size := (by omega); have n4' : ¬ b2 = wr.heap.size := (by omega); have n5' : ¬ w5.heap.size = b1 := (by omega); have n6' : ¬ w5.heap.size = b2 := (by omega); have n7' : ¬ wr.heap.size = b1 := (by omega); have n8' : ¬ wr.heap.size = b2 := (by omega); clear hb5; dsimp only))
        all_goals
          go_wp2
          go_meet
          first
            | exact ⟨_, rfl, rfl, Lib.hid (Blk.new _ _ _), Lib.hid (HB5.out.alloc HB5.out.size _)⟩
            | exact ⟨_, rfl, rfl, Lib.hid ((HX5.out.s2_0 _).s2_1 _), Lib.hid ((HB5.out.setCell (p := ⟨_, 0, none⟩) (Nat.le_refl _) _).setCell (p := ⟨_, 1, none⟩) (Nat.le_refl _) _)⟩
      case rest =>
        obtain ⟨g16, rfl, rfl, HG, HBX⟩ := hcut
        have HB6 := Lib.hid (HB.out.trans (HBX.out.mono hB1))
        have HN6 := Lib.hid (HND.out.go HBX.out)
        have c6 := (HBX.out.cell (p := ⟨b3, o3 + k, none⟩) z3).trans hcell
        have yy6 := (HBX.out.cell (p := ⟨b2, o2 + k * 2, none⟩) z2).trans y0
        have hz6 := HBX.out.size
        obtain ⟨n0, n1, _, _, nz⟩ := HN6.out.two
        obtain ⟨g0, g1, _, _, gz⟩ := HG.out.two
        clear hcell x0 x1 y0 y1 HADD HBX HND
        go_wp2_with fail
        go_quiet (fail)
        go_wp2
        go_roundw
        case rel => exact ⟨k + 1, by omega, by go_num, Lib.hid (below_drewN HB6.out _)⟩
        case measure => simp [intOf]; omega
    · obtain rfl : k = caps.length := by omega
      replace BEL := Lib.hid (BEL.out.trans (HB.out.mono hbo))
      replace HX := Lib.hid (HX.out.at' HB.out)
      replace HN := HND
      clear HY HND hmx hlx hmy hly
      obtain ⟨wz, hwz⟩ : ∃ x, x = wr := ⟨_, rfl⟩
      rw [← hwz] at HX HN BEL ⊢
      clear hwz HB hB1
      obtain ⟨n0, n1, _, _, nz⟩ := HN.out.two
      have y_wz := BEL.out.size
      go_wp2_with fail
      refine (add_no C cc caps P cp paths A' c' l w.heap.size _ er (by first | omega | (focus (simp; done)) | (simp; omega)) (HC.out.below (by repeat (first | with_reducible exact BEL.out | with_reducible apply Below.alloc | with_reducible apply Below.setCell | with_reducible apply Below.drew | with_reducible apply below_drewN | (first | omega | (focus (simp; done)) | (focus (simp; omega)) | (focus (simp [World.setCell]; omega))))) (Nat.le_refl _)) (HP.out.below (by repeat (first | with_reducible exact BEL.out | with_reducible apply Below.alloc | with_reducible apply Below.setCell | with_reducible apply Below.drew | with_reducible apply below_drewN | (first | omega | (focus (simp; done)) | (focus (simp; omega)) | (focus (simp [World.setCell]; omega))))) (Nat.le_refl _)) (HI.out.below (by repeat (first | with_reducible exact BEL.out | with_reducible apply Below.alloc | with_reducible apply Below.setCell | with_reducible apply Below.drew | with_reducible apply below_drewN | (first | omega | (focus (simp; done)) | (focus (simp; omega)) | (focus (simp [World.setCell]; omega))))) (Nat.le_refl _)) HA.out H0.out).mono ?_; rintro e w5 ⟨rfl, hb5⟩
      have hk : Below wz.heap.size wz w5 := Below.trans (by repeat (first | with_reducible exact Below.refl _ _ | with_reducible apply Below.drew | with_reducible apply below_drewN | with_reducible apply Below.alloc | omega | (focus (simp; done)) | (simp; omega))) (hb5.mono (by first | omega | (simp; done) | (simp; omega)))
      replace HN := Lib.hid (HN.out.go hk)
      replace HX := Lib.hid (HX.out.at' hk)
      replace BEL : Hid (Below w.heap.size w w5) := Lib.hid (BEL.out.trans (hk.mono BEL.out.size))
      have z_w5 := hk.size; have y_w5 := BEL.out.size; clear hk hb5
      clear n0 n1 nz
      obtain ⟨pN0, pN1, fN0, fN1, zN, zN_1, zN_2, zN_3⟩ := HN.out.two'
      go_wp2
      go_ret
      exact ⟨rfl, (by repeat (first | with_reducible exact BEL.out | with_reducible apply Below.alloc | with_reducible apply Below.setCell | with_reducible apply Below.drew | with_reducible apply below_drewN | (first | omega | (focus (simp; done)) | (focus (simp; omega)) | (focus (simp [World.setCell]; omega)))))⟩
theorem loadAdds_walk (w : World) (C : Option Addr) (cc : Nat) (caps : List Int) (hc : Ints w w.heap.size C cc caps) (_ : ∀ n ∈ caps, (Lit.int .i64 n).wf = true) (P : Option Addr) (cp : Nat) (paths : List (List Int)) (hp : Rows2 w w.heap.size P cp paths) (_ : ∀ l ∈ paths, ∀ n ∈ l, (Lit.int .i64 n).wf = true) (A : Option Addr) (c : Nat) (S : List Fr) (hr : Frs w w.heap.size A c S) (_ : True) (A' : Option Addr) (c' : Nat) (l : List Int) (hi : Ints w w.heap.size A' c' l) (_ : ∀ n ∈ l, (Lit.int .i64 n).wf = true) :
    Calls Try.prog 5 #[.agg #[.slice C caps.length cc, .slice P paths.length cp], .slice A S.length c, .slice A' l.length c'] w fun e w' => e = .returned (.bool true) ∧ Below w.heap.size w w' := by
  rcases lof_cases caps paths S with ⟨er, h0, hx⟩ | ⟨Q, L, hS, he, hl, hq, hL⟩
  · exact loadAdds_err C cc caps P cp paths A c S A' c' l w hc hp hr hi er hx h0
  · cases hb : fitsB caps Q L <;> by_cases hf : ∃ i, i < caps.length ∧ ¬ QIn (leftQ caps L i) <;> by_cases ha : addErr caps paths l = 0
    · exact loadAdds_FFullAdd C cc caps P cp paths A c S A' c' l w hc hp hr hi Q L hS he hl hq hL hb hf ha
    · exact loadAdds_FFullNo C cc caps P cp paths A c S A' c' l w hc hp hr hi Q L hS he hl hq hL hb hf _ rfl ha
    · exact loadAdds_FLeftAdd C cc caps P cp paths A c S A' c' l w hc hp hr hi Q L hS he hl hq hL hb (fun i hi => Decidable.byContradiction fun h => hf ⟨i, hi, h⟩) ha
    · exact loadAdds_FLeftNo C cc caps P cp paths A c S A' c' l w hc hp hr hi Q L hS he hl hq hL hb (fun i hi => Decidable.byContradiction fun h => hf ⟨i, hi, h⟩) _ rfl ha
    · exact loadAdds_TFullAdd C cc caps P cp paths A c S A' c' l w hc hp hr hi Q L hS he hl hq hL hb hf ha
    · exact loadAdds_TFullNo C cc caps P cp paths A c S A' c' l w hc hp hr hi Q L hS he hl hq hL hb hf _ rfl ha
    · exact loadAdds_TLeftAdd C cc caps P cp paths A c S A' c' l w hc hp hr hi Q L hS he hl hq hL hb (fun i hi => Decidable.byContradiction fun h => hf ⟨i, hi, h⟩) ha
    · exact loadAdds_TLeftNo C cc caps P cp paths A c S A' c' l w hc hp hr hi Q L hS he hl hq hL hb (fun i hi => Decidable.byContradiction fun h => hf ⟨i, hi, h⟩) _ rfl ha
end Go.Proofs.Ytblanfaghnflkaa
