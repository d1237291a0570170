/- net.Drop. -/
import Derived.Test.YthffjnfnfddpdaaNetDel
import Derived.Test.YthffjnfnfddpdaaPlNet2
namespace Go.Proofs.Ythffjnfnfddpdaa
open Go.RowKit
theorem erase_get {α : Type} {l : List α} {i j : Nat} {x : α} (h : (l.eraseIdx i)[j]? = some x) : l[if j < i then j else j + 1]? = some x := by
  rw [List.getElem?_eraseIdx] at h
  split at h
  · rename_i h1; rw [if_pos h1]; exact h
  · rename_i h1; rw [if_neg h1]; exact h
theorem NetOwn.erase {w w' : World} {base : Nat} {cv pv pv' : Value} {vs : List Value} {caps : List Int} {L : List (List Int)} (h : NetOwn w base cv pv vs caps L) {i : Nat} (hi : i < L.length)
    (hown : w'.ownsRow base 38 1 pv' (L.length - 1) (vs.eraseIdx i)) (hg : w.grownBy w' pv.ownBlock) : NetOwn w' base cv pv' (vs.eraseIdx i) caps (L.eraseIdx i) := by
  have hrow : ∀ x m (ys : List Value), w.ownsRow base 3 1 x m ys → w'.ownsRow base 3 1 x m ys := fun x m ys hx => own_grown hx hg (own_apart hx h.own (by decide))
  refine ⟨hrow _ _ _ h.capO, by rw [List.length_eraseIdx_of_lt hi]; exact hown, fun j u l h1 h2 => hrow _ _ _ (h.row _ _ _ (erase_get h1) (erase_get h2)), fun j u h1 => h.apC _ _ (erase_get h1), fun j k u u' h1 h2 hjk => h.apR _ _ _ _ (erase_get h1) (erase_get h2) ?_⟩
  split <;> split <;> omega
theorem NetOwn.oneC {w : World} {base : Nat} {cv pv : Value} {vs : List Value} {caps : List Int} {L : List (List Int)} (h : NetOwn w base cv pv vs caps L) : ∀ u ∈ vs, u.oneCell' = true := fun u hu => by
  obtain ⟨i, hi, e⟩ := List.getElem_of_mem hu
  have hl : i < L.length := by have := h.len; omega
  have := h.row i u L[i] (by rw [← e]; exact List.getElem?_eq_getElem hi) (List.getElem?_eq_getElem hl)
  obtain ⟨A, c, rfl, _⟩ := owns_reads this
  rfl
set_option maxHeartbeats 4000000 in
set_option maxRecDepth 100000 in
theorem drop_no (C : Option Addr) (cc : Nat) (caps : List Int) (P : Option Addr) (cp : Nat) (paths : List (List Int)) (flow : Int) (B : Nat) (w : World) (er : Int) (hB : B ≤ w.heap.size)
    (hc : Ints w B C cc caps) (hp : Rows2 w B P cp paths) (he : dropErr caps paths flow = er) (h0 : er ≠ 0) :
    Calls Try.prog 36 #[.agg #[.slice C caps.length cc, .slice P paths.length cp], .int .i64 flow] w fun e w' => e = .returned (.tuple #[.agg #[.slice none 0 0, .slice none 0 0], .iface 103 (.int .i64 er)]) ∧ Below w.heap.size w w' := by
  have HN0 := Lib.hid ((Blk.new w 56 #[.slice C caps.length cc, .slice P paths.length cp]).alloc (.cells #[.slice none 0 0, .slice none 0 0] 56))
  have HR0 := Lib.hid (Blk.new' (w.alloc (.cells #[.slice C caps.length cc, .slice P paths.length cp] 56)) 56 #[.slice none 0 0, .slice none 0 0] (g := w.heap.size + 1) (by simp))
  have HB0 := Lib.hid (((Below.refl w.heap.size w).alloc (Nat.le_refl _) (.cells #[.slice C caps.length cc, .slice P paths.length cp] 56)).alloc (by simp) (.cells #[.slice none 0 0, .slice none 0 0] 56))
  have HCK := Lib.hid (ncheck_all C cc caps P cp paths B _ (by simp; omega) (hc.below HB0.out hB) (hp.below HB0.out hB))
  clear hc hp
  have hlast : ∀ W : World, Below w.heap.size w W → Below w.heap.size w ((W.setCell ⟨w.heap.size + 1, 0, none⟩ (.slice none 0 0)).setCell ⟨w.heap.size + 1, 1, none⟩ (.slice none 0 0)) := fun W h => (h.setCell (p := ⟨w.heap.size + 1, 0, none⟩) (Nat.le_succ _) _).setCell (p := ⟨w.heap.size + 1, 1, none⟩) (Nat.le_succ _) _
  have HL := Lib.hid hlast
  clear hlast
  unfold dropErr at he
  by_cases h1 : netErr caps paths = 0
  · rw [if_pos h1] at he
    rw [h1, errVal_zero] at HCK
    obtain ⟨k0, k1, k2, k3, _, _⟩ := netErr_ok h1
    clear h1
    by_cases hf : flow < 0 ∨ (paths.length : Int) ≤ flow
    · rw [if_pos hf] at he
      subst he
      clear h0
      rcases hf with hf | hf
      · go_enter Try.func36, Try.ntmps36
        go_wp2_with fail
        refine HCK.out.mono ?_; rintro e w1 ⟨rfl, hb1⟩
        have HN1 := Lib.hid (HN0.out.go hb1)
        have HR1 := Lib.hid (HR0.out.go hb1)
        have HB1 := Lib.hid (HB0.out.trans (hb1.mono HB0.out.size))
        obtain ⟨n0, n1, nf0, nf1, nz⟩ := HN1.out.two
        obtain ⟨r0, r1, rf0, rf1, rz⟩ := HR1.out.two
        clear hb1 HCK
        go_wp2
        exact bodyPost_ret (v := .tuple #[.agg #[.slice none 0 0, .slice none 0 0], .iface 103 (.int .i64 1)]) (by simp [results, Try.results36, go_sem, r0, r1]) rfl ⟨rfl, HL.out _ HB1.out⟩
      · have hf0 : ¬ flow < 0 := by omega
        go_enter Try.func36, Try.ntmps36
        go_wp2_with fail
        refine HCK.out.mono ?_; rintro e w1 ⟨rfl, hb1⟩
        have HN1 := Lib.hid (HN0.out.go hb1)
        have HR1 := Lib.hid (HR0.out.go hb1)
        have HB1 := Lib.hid (HB0.out.trans (hb1.mono HB0.out.size))
        obtain ⟨n0, n1, nf0, nf1, nz⟩ := HN1.out.two
        obtain ⟨r0, r1, rf0, rf1, rz⟩ := HR1.out.two
        clear hb1 HCK
        go_wp2
        exact bodyPost_ret (v := .tuple #[.agg #[.slice none 0 0, .slice none 0 0], .iface 103 (.int .i64 1)]) (by simp [results, Try.results36, go_sem, r0, r1]) rfl ⟨rfl, HL.out _ HB1.out⟩
    · rw [if_neg hf] at he
      by_cases hl1 : paths.length = 1
      · rw [if_pos hl1] at he
        subst he
        clear h0
        have hf0 : ¬ flow < 0 := by omega
        have hf1 : decide ((1 : Int) ≤ flow) = false := decide_eq_false (by omega)
        rw [hl1] at HCK HB0 HR0 HN0 ⊢
        clear hl1 k2 k3 hf
        go_enter Try.func36, Try.ntmps36
        go_wp2_with fail
        refine HCK.out.mono ?_; rintro e w1 ⟨rfl, hb1⟩
        have HN1 := Lib.hid (HN0.out.go hb1)
        have HR1 := Lib.hid (HR0.out.go hb1)
        have HB1 := Lib.hid (HB0.out.trans (hb1.mono HB0.out.size))
        obtain ⟨n0, n1, nf0, nf1, nz⟩ := HN1.out.two
        obtain ⟨r0, r1, rf0, rf1, rz⟩ := HR1.out.two
        clear hb1 HCK
        go_wp2
        exact bodyPost_ret (v := .tuple #[.agg #[.slice none 0 0, .slice none 0 0], .iface 103 (.int .i64 5)]) (by simp [results, Try.results36, go_sem, r0, r1]) rfl ⟨rfl, HL.out _ HB1.out⟩
      · rw [if_neg hl1] at he; exact absurd he.symm h0
  · rw [if_neg h1] at he
    rw [he, errVal_pos h0] at HCK
    clear h1 he h0
    go_enter Try.func36, Try.ntmps36
    go_wp2_with fail
    refine HCK.out.mono ?_; rintro e w1 ⟨rfl, hb1⟩
    have HR1 := Lib.hid (HR0.out.go hb1)
    have HB1 := Lib.hid (HB0.out.trans (hb1.mono HB0.out.size))
    obtain ⟨r0, r1, rf0, rf1, rz⟩ := HR1.out.two
    clear hb1 HCK
    go_wp2
    exact bodyPost_ret (v := .tuple #[.agg #[.slice none 0 0, .slice none 0 0], .iface 103 (.int .i64 er)]) (by simp [results, Try.results36, go_sem, r0, r1]) rfl ⟨rfl, HL.out _ HB1.out⟩
set_option maxHeartbeats 4000000 in
set_option maxRecDepth 100000 in
theorem drop_yes (C : Option Addr) (cc : Nat) (caps : List Int) (P : Option Addr) (cp : Nat) (paths : List (List Int)) (f : Nat) (B : Nat) (w : World) (hB : B ≤ w.heap.size)
    (hc : Ints w B C cc caps) (hp : Rows2 w B P cp paths) (hn : netErr caps paths = 0) (hf : f < paths.length) (h2 : paths.length ≠ 1) :
    Calls Try.prog 36 #[.agg #[.slice C caps.length cc, .slice P paths.length cp], .int .i64 f] w fun e w' => ∃ nv, e = .returned (.tuple #[nv, .nilIface]) ∧ NetAt w' w'.heap.size nv caps (paths.eraseIdx f) ∧ Below w.heap.size w w' := by
  have HN0 := Lib.hid ((Blk.new w 56 #[.slice C caps.length cc, .slice P paths.length cp]).alloc (.cells #[.slice none 0 0, .slice none 0 0] 56))
  have HR0 := Lib.hid (Blk.new' (w.alloc (.cells #[.slice C caps.length cc, .slice P paths.length cp] 56)) 56 #[.slice none 0 0, .slice none 0 0] (g := w.heap.size + 1) (by simp))
  have HB0 := Lib.hid (((Below.refl w.heap.size w).alloc (Nat.le_refl _) (.cells #[.slice C caps.length cc, .slice P paths.length cp] 56)).alloc (by simp) (.cells #[.slice none 0 0, .slice none 0 0] 56))
  have HCK := Lib.hid (ncheck_all C cc caps P cp paths B _ (by simp; omega) (hc.below HB0.out hB) (hp.below HB0.out hB))
  rw [hn, errVal_zero] at HCK
  obtain ⟨k0, k1, k2, k3, _, _⟩ := netErr_ok hn
  have hsh := netErr_short hn
  have HOW := Lib.hid fun (W : World) (h : Below w.heap.size w W) => own_any C cc caps P cp paths B W (Nat.le_trans hB h.size) (hc.below h hB) (hp.below h hB) (by omega) (by omega) (fun l hl => by have := hsh l hl; omega)
  have e1 : ((paths.length : Int) == 1) = false := beq_eq_false_iff_ne.2 (by omega)
  have f0 : ¬ (f : Int) < 0 := by omega
  have f1 : decide ((paths.length : Int) ≤ (f : Int)) = false := decide_eq_false (by omega)
  have f2 : decide (paths.length ≤ f) = false := decide_eq_false (by omega)
  clear hsh hc hp hn
  go_enter Try.func36, Try.ntmps36
  go_wp2_with fail
  refine HCK.out.mono ?_; rintro e w1 ⟨rfl, hb1⟩
  have HN1 := Lib.hid (HN0.out.go hb1)
  have HR1 := Lib.hid (HR0.out.go hb1)
  have HB1 := Lib.hid (HB0.out.trans (hb1.mono HB0.out.size))
  obtain ⟨n0, n1, nf0, nf1, nz⟩ := HN1.out.two
  clear hb1 HCK HN0 HR0 HB0
  go_wp2_with fail
  refine (HOW.out _ HB1.out).mono ?_; rintro e w2 ⟨cv, pv, vs, rfl, ho, hb2⟩
  have HN2 := Lib.hid (HN1.out.go hb2)
  have HR2 := Lib.hid (HR1.out.go hb2)
  have HB2 := Lib.hid (HB1.out.trans (hb2.mono HB1.out.size))
  obtain ⟨Cv, ccv, rfl, _, _⟩ := owns_ints ho.capO
  obtain ⟨gp, cpv, rfl, _, _, _, _⟩ := own_form ho.own k2
  have hsz1 := HB1.out.size
  have HO2 := Lib.hid ((ho.far HN2.out (by decide) (by decide) 0 (.slice Cv caps.length ccv)).far (HN2.out.s2_0 (.slice Cv caps.length ccv)) (by decide) (by decide) 1 (.slice (some ⟨gp, 0, none⟩) paths.length cpv))
  have HN3 := Lib.hid ((HN2.out.s2_0 (.slice Cv caps.length ccv)).s2_1 (.slice (some ⟨gp, 0, none⟩) paths.length cpv))
  have hne : w.heap.size + 1 ≠ w.heap.size := by omega
  have HR3 := Lib.hid ((HR2.out.far (p := ⟨w.heap.size, 0, none⟩) hne (.slice Cv caps.length ccv)).far (p := ⟨w.heap.size, 1, none⟩) hne (.slice (some ⟨gp, 0, none⟩) paths.length cpv))
  have HB3 := Lib.hid ((HB2.out.setCell (p := ⟨w.heap.size, 0, none⟩) (Nat.le_refl _) (.slice Cv caps.length ccv)).setCell (p := ⟨w.heap.size, 1, none⟩) (Nat.le_refl _) (.slice (some ⟨gp, 0, none⟩) paths.length cpv))
  clear n0 n1 nf0 nf1 nz ho hb2
  obtain ⟨n0, n1, nf0, nf1, nz⟩ := HN2.out.two
  go_wp2_with fail
  obtain ⟨w3, hw3⟩ : ∃ x, x = (w2.setCell ⟨w.heap.size, 0, none⟩ (.slice Cv caps.length ccv)).setCell ⟨w.heap.size, 1, none⟩ (.slice (some ⟨gp, 0, none⟩) paths.length cpv) := ⟨_, rfl⟩
  rw [← hw3] at HO2 HN3 HR3 HB3 ⊢
  clear n0 n1 nf0 nf1 nz HN2 HR2 HB2 HN1 HR1 hw3
  have HD := delete_any w1.heap.size gp cpv paths.length f vs w3 HO2.out.own hf (by omega) HO2.out.oneC
  rw [show ((f + 1 : Nat) : Int) = (f : Int) + 1 by omega] at HD
  refine HD.mono ?_; rintro e w4 ⟨rfl, ho4, hg4⟩
  clear HD
  have HO4 := Lib.hid (HO2.out.erase hf ho4 hg4)
  have HN4 := Lib.hid (HN3.out.grown hg4 (fun e => own_blk_ne HO2.out.own HN3.out (by decide) e.symm))
  have HR4 := Lib.hid (HR3.out.grown hg4 (fun e => own_blk_ne HO2.out.own HR3.out (by decide) e.symm))
  have HB4 := Lib.hid (HB3.out.grown hg4 HB3.out.size (fun k hk => by
    have hk' : gp = k := by simpa using hk
    subst hk'
    exact Nat.le_trans hsz1 (HO2.out.own.lt gp rfl).1))
  clear ho4 hg4 HO2 HN3 HR3 HB3
  obtain ⟨n0, n1, nf0, nf1, nz⟩ := HN4.out.two
  have hne1 : w.heap.size + 1 ≠ w.heap.size := Nat.succ_ne_self _
  have HOA := Lib.hid (HO4.out.far HN4.out (by decide) (by decide) 1 (.slice (some ⟨gp, 0, none⟩) (paths.length - 1) cpv))
  have HRA := Lib.hid (HR4.out.far (p := ⟨w.heap.size, 1, none⟩) hne1 (.slice (some ⟨gp, 0, none⟩) (paths.length - 1) cpv))
  have HOB := Lib.hid ((HOA.out.far HRA.out (by decide) (by decide) 0 (.slice Cv caps.length ccv)).far (HRA.out.s2_0 (.slice Cv caps.length ccv)) (by decide) (by decide) 1 (.slice (some ⟨gp, 0, none⟩) (paths.length - 1) cpv))
  have HBA := Lib.hid (((HB4.out.setCell (p := ⟨w.heap.size, 1, none⟩) (Nat.le_refl _) (.slice (some ⟨gp, 0, none⟩) (paths.length - 1) cpv)).setCell (p := ⟨w.heap.size + 1, 0, none⟩) (Nat.le_succ _) (.slice Cv caps.length ccv)).setCell (p := ⟨w.heap.size + 1, 1, none⟩) (Nat.le_succ _) (.slice (some ⟨gp, 0, none⟩) (paths.length - 1) cpv))
  obtain ⟨r0, r1, rf0, rf1, rz⟩ := HR4.out.two
  go_wp2
  refine bodyPost_ret (v := .tuple #[.agg #[.slice Cv caps.length ccv, .slice (some ⟨gp, 0, none⟩) (paths.length - 1) cpv], .nilIface]) (by simp [results, Try.results36, go_sem, r0, r1]) rfl ⟨_, rfl, HOB.out.at_, HBA.out⟩
end Go.Proofs.Ythffjnfnfddpdaa
