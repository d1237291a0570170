/- even.Give: some go from one to another. -/
import Derived.Test.YtkheobdkmmbjnaaDoorEvenGap
namespace Go.Proofs.YtkheobdkmmbjnaaDoor
open Go.RowKit
attribute [local go_sem ↓] run_min_mn run_max_mx
theorem give1_cf (a : Array Value) (W : World) : (callFunc 97 a).run Tryd.prog W = .ok (.enter 97 a) W := by kernel_rfl
theorem place_yes (i : Int) (A : Option Addr) (n c g : Nat) (w : World) (hc : w.cell? ⟨g, 0, none⟩ = some (.slice A n c)) (h0 : 0 ≤ i) (h1 : i < n) :
    Calls Tryd.prog 97 #[.int .i64 i, .pointer (some ⟨g, 0, none⟩)] w fun e w' => e = .returned (.bool true) ∧ w = w' := by
  go_enter Tryd.func97, Tryd.ntmps97
  go_wp2
  go_ret
  exact ⟨rfl, rfl⟩
theorem place_no (i : Int) (A : Option Addr) (n c g : Nat) (w : World) (hc : w.cell? ⟨g, 0, none⟩ = some (.slice A n c)) (h : i < 0 ∨ (n : Int) ≤ i) :
    Calls Tryd.prog 97 #[.int .i64 i, .pointer (some ⟨g, 0, none⟩)] w fun e w' => e = .returned (.bool false) ∧ w = w' := by
  rcases h with h | h
  · go_enter Tryd.func97, Tryd.ntmps97
    go_wp2
    go_ret
    exact ⟨rfl, rfl⟩
  · have h0 : 0 ≤ i := by omega
    have h2 : decide (i < (n : Int)) = false := decide_eq_false (by omega)
    go_enter Tryd.func97, Tryd.ntmps97
    go_wp2
    go_ret
    exact ⟨rfl, rfl⟩
def GiveRange (n : Nat) (f t m : Int) : Prop := 0 ≤ f ∧ f < n ∧ 0 ≤ t ∧ t < n ∧ 0 ≤ m ∧ m ≤ 1000
abbrev boxed (w : World) (A : Option Addr) (n c : Nat) : World := w.alloc (.cells #[.slice A n c] 42)
theorem egive_few (A : Option Addr) (c : Nat) (l : List Int) (f t m : Int) (w : World) (h : Ints w w.heap.size A c l) (er : Int) (he : fewErr l 1000 = er) (hp : er ≠ 0) :
    Calls Tryd.prog 61 #[.slice A l.length c, .int .i64 f, .int .i64 t, .int .i64 m] w fun e w' => e = .returned (.tuple #[.slice none 0 0, .iface 124 (.int .i64 er)]) ∧ Below w.heap.size w w' := by
  have b0 : Below w.heap.size w (boxed w A l.length c) := (Below.refl _ _).alloc (Nat.le_refl _) _
  have HC := Lib.hid (echeck_no A c l w.heap.size _ (h.below b0 (Nat.le_refl _)) er he hp)
  clear h he hp
  go_enter Tryd.func61, Tryd.ntmps61
  go_wp2_with fail
  refine HC.out.mono ?_; rintro e w1 ⟨rfl, rfl⟩
  go_wp2
  go_ret2
  exact ⟨rfl, (Below.refl _ _).alloc (Nat.le_refl _) _⟩
set_option maxHeartbeats 1000000 in
theorem egive_range (A : Option Addr) (c : Nat) (l : List Int) (f t m : Int) (w : World) (h : Ints w w.heap.size A c l) (he : fewErr l 1000 = 0) (no : ¬ GiveRange l.length f t m) :
    Calls Tryd.prog 61 #[.slice A l.length c, .int .i64 f, .int .i64 t, .int .i64 m] w fun e w' => e = .returned (.tuple #[.slice none 0 0, .iface 124 (.int .i64 1)]) ∧ Below w.heap.size w w' := by
  have b0 : Below w.heap.size w (boxed w A l.length c) := (Below.refl _ _).alloc (Nat.le_refl _) _
  have HC := Lib.hid (echeck_yes A c l w.heap.size _ (h.below b0 (Nat.le_refl _)) he)
  have hcf := give1_cf
  unfold GiveRange at no
  clear h he
  by_cases hf : f < 0 ∨ (l.length : Int) ≤ f
  · clear no
    go_enter Tryd.func61, Tryd.ntmps61
    go_wp2_with fail
    refine HC.out.mono ?_; rintro e w1 ⟨rfl, rfl⟩
    go_wp2_with fail
    refine (place_no f A l.length c _ _ (by simp) hf).mono ?_; rintro e w1 ⟨rfl, rfl⟩
    clear hf
    go_wp2
    go_ret2
    exact ⟨rfl, (Below.refl _ _).alloc (Nat.le_refl _) _⟩
  · have hf0 : 0 ≤ f := by omega
    have hf1 : f < l.length := by omega
    by_cases ht : t < 0 ∨ (l.length : Int) ≤ t
    · clear no hf
      go_enter Tryd.func61, Tryd.ntmps61
      go_wp2_with fail
      refine HC.out.mono ?_; rintro e w1 ⟨rfl, rfl⟩
      go_wp2_with fail
      refine (place_yes f A l.length c _ _ (by simp) hf0 hf1).mono ?_; rintro e w1 ⟨rfl, rfl⟩
      go_wp2_with fail
      refine (place_no t A l.length c _ _ (by simp) ht).mono ?_; rintro e w1 ⟨rfl, rfl⟩
      clear ht
      go_wp2
      go_ret2
      exact ⟨rfl, (Below.refl _ _).alloc (Nat.le_refl _) _⟩
    · have ht0 : 0 ≤ t := by omega
      have ht1 : t < l.length := by omega
      have hm : m < 0 ∨ (0 ≤ m ∧ 1000 < m) := by omega
      clear no hf ht
      rcases hm with hm | ⟨hm0, hm⟩
      all_goals
        go_enter Tryd.func61, Tryd.ntmps61
        go_wp2_with fail
        refine HC.out.mono ?_; rintro e w1 ⟨rfl, rfl⟩
        go_wp2_with fail
        refine (place_yes f A l.length c _ _ (by simp) hf0 hf1).mono ?_; rintro e w1 ⟨rfl, rfl⟩
        go_wp2_with fail
        refine (place_yes t A l.length c _ _ (by simp) ht0 ht1).mono ?_; rintro e w1 ⟨rfl, rfl⟩
        go_wp2
        go_ret2
        exact ⟨rfl, (Below.refl _ _).alloc (Nat.le_refl _) _⟩
/-- some go from one place to another -/
def giveTo (l : List Int) (f t : Nat) (m : Int) : List Int := (l.set f (l.getD f 0 - m)).set t ((l.set f (l.getD f 0 - m)).getD t 0 + m)
set_option maxHeartbeats 2000000 in
set_option maxRecDepth 100000 in
theorem egive_in (A : Option Addr) (c : Nat) (l : List Int) (f t : Nat) (m : Int) (w : World) (h : Ints w w.heap.size A c l) (he : fewErr l 1000 = 0) (hf : f < l.length) (ht : t < l.length) (m0 : 0 ≤ m) (m1 : m ≤ 1000) :
    Calls Tryd.prog 61 #[.slice A l.length c, .int .i64 f, .int .i64 t, .int .i64 m] w fun e w' => Below w.heap.size w w' ∧
      ((l.getD f 0 < m ∧ e = .returned (.tuple #[.slice none 0 0, .iface 124 (.int .i64 8)])) ∨
       (m ≤ l.getD f 0 ∧ 1000 < (giveTo l f t m).getD t 0 ∧ e = .returned (.tuple #[.slice none 0 0, .iface 124 (.int .i64 4)])) ∨
       (m ≤ l.getD f 0 ∧ (giveTo l f t m).getD t 0 ≤ 1000 ∧ ∃ v, e = .returned (.tuple #[v, .nilIface]) ∧ w'.ownsRow (w.heap.size + 1) 3 1 v l.length ((giveTo l f t m).map (Value.int .i64)))) := by
  obtain ⟨h0, h6, hbad⟩ := few_ok he
  have hb := badTo_in hbad
  have b0 : Below w.heap.size w (boxed w A l.length c) := (Below.refl _ _).alloc (Nat.le_refl _) _
  have hI := h.below b0 (Nat.le_refl _)
  have HC := Lib.hid (echeck_yes A c l w.heap.size _ hI he)
  have HCL := Lib.hid (clone_any A c l w.heap.size _ hI (by omega) (by simp))
  obtain ⟨bb, off, hA, hbb, hcells⟩ := h.at_ hf
  have hcf0 := hcells f hf
  have hfm : l.getD f 0 ∈ l := getD_mem l f hf
  obtain ⟨x0, x1⟩ := hb _ hfm
  have hcf := give1_cf
  subst hA
  have e1 : l[f]? = some (l.getD f 0) := getD_some l f hf
  have HE1 := Lib.hid e1
  have HBB := Lib.hid (fun a ha => hb a ha)
  clear h he hbad hb hcells hI b0 hfm e1
  generalize hx : l.getD f 0 = x at *
  have HX := Lib.hid hx; clear hx
  have hf0 : (0 : Int) ≤ (f : Int) := by omega
  have hf1 : (f : Int) < l.length := by omega
  have ht0 : (0 : Int) ≤ (t : Int) := by omega
  have ht1 : (t : Int) < l.length := by omega
  have hbb1 : bb < w.heap.size + 1 := by omega
  by_cases hlow : x < m
  · go_enter Tryd.func61, Tryd.ntmps61
    go_wp2_with fail
    refine HC.out.mono ?_; rintro e w1 ⟨rfl, rfl⟩
    go_wp2_with fail
    refine (place_yes f (some ⟨bb, off, none⟩) l.length c _ _ (by simp) hf0 hf1).mono ?_; rintro e w1 ⟨rfl, rfl⟩
    go_wp2_with fail
    refine (place_yes t (some ⟨bb, off, none⟩) l.length c _ _ (by simp) ht0 ht1).mono ?_; rintro e w1 ⟨rfl, rfl⟩
    go_wp2
    go_ret2
    exact ⟨(Below.refl _ _).alloc (Nat.le_refl _) _, .inl ⟨by first | exact hlow | (rw [HX.out]; exact hlow), rfl⟩⟩
  · go_enter Tryd.func61, Tryd.ntmps61
    go_wp2_with fail
    refine HC.out.mono ?_; rintro e w1 ⟨rfl, rfl⟩
    go_wp2_with fail
    refine (place_yes f (some ⟨bb, off, none⟩) l.length c _ _ (by simp) hf0 hf1).mono ?_; rintro e w1 ⟨rfl, rfl⟩
    go_wp2_with fail
    refine (place_yes t (some ⟨bb, off, none⟩) l.length c _ _ (by simp) ht0 ht1).mono ?_; rintro e w1 ⟨rfl, rfl⟩
    go_wp2_with fail
    refine HCL.out.mono ?_
    rintro e w1 ⟨v, rfl, hown, hbel⟩
    obtain ⟨g, cap, rfl, hg0, hg1, hcap, hcm⟩ := own_form hown (by omega)
    have hg0' : w.heap.size + 1 ≤ g := by simpa using hg0
    have hown0 : w1.ownsRow (w.heap.size + 1) 3 1 (.slice (some ⟨g, 0, none⟩) l.length cap) l.length (l.map (Value.int .i64)) := by simpa using hown
    have hbel0 : Below w.heap.size w w1 := ((Below.refl w.heap.size w).alloc (Nat.le_refl _) _).trans (hbel.mono (by simp))
    have hs1 := (hown0.stored f (.int .i64 (x - m))).1
    have hcf1 := hown0.cellAt f (by omega)
    rw [List.getElem?_map, HE1.out] at hcf1
    have hff1 := hown0.frozenAt f
    have es : (l.map (Value.int .i64)).set f (.int .i64 (x - m)) = (l.set f (x - m)).map (Value.int .i64) := by rw [List.map_set]
    rw [es] at hs1
    obtain ⟨l1, hl1⟩ : ∃ l1, l1 = l.set f (x - m) := ⟨_, rfl⟩
    rw [← hl1] at hs1
    have hlen1 : l1.length = l.length := by rw [hl1]; simp
    have et : l1[t]? = some (l1.getD t 0) := getD_some l1 t (by omega)
    have hyb : 0 ≤ l1.getD t 0 ∧ l1.getD t 0 ≤ 1000 := by
      have hmem : l1.getD t 0 ∈ l1 := getD_mem l1 t (by omega)
      rw [hl1] at hmem
      rcases List.mem_or_eq_of_mem_set hmem with h | h
      · rw [← hl1] at h; exact HBB.out _ h
      · rw [← hl1] at h; omega
    have hct := hs1.cellAt t (by omega)
    rw [List.getElem?_map, et] at hct
    have hft := hs1.frozenAt t
    have hs2 := (hs1.stored t (.int .i64 (l1.getD t 0 + m))).1
    have es2 : (l1.map (Value.int .i64)).set t (.int .i64 (l1.getD t 0 + m)) = (l1.set t (l1.getD t 0 + m)).map (Value.int .i64) := by rw [List.map_set]
    rw [es2] at hs2
    have hgv : l1.set t (l1.getD t 0 + m) = giveTo l f t m := by unfold giveTo; rw [HX.out, ← hl1]
    have hgt : (giveTo l f t m).getD t 0 = l1.getD t 0 + m := by
      rw [← hgv]
      have : t < l1.length := by omega
      simp [this]
    rw [hgv] at hs2
    have HGT := Lib.hid hgt
    clear hgv es es2 hgt hl1 hlen1 et hown hbel
    generalize l1.getD t 0 = y at *
    obtain ⟨y0, y1⟩ := hyb
    have hbel2 := (hbel0.setCell (p := ⟨g, f, none⟩) (by show w.heap.size ≤ g; omega) (.int .i64 (x - m))).setCell (p := ⟨g, t, none⟩) (by show w.heap.size ≤ g; omega) (.int .i64 (y + m))
    have hc3 := hs2.cellAt t (by omega)
    have hgt1 : (giveTo l f t m)[t]? = some (y + m) := by
      have hl2 : t < (giveTo l f t m).length := by unfold giveTo; simp; exact ht
      rw [getD_some _ _ hl2, HGT.out]
    rw [List.getElem?_map, hgt1] at hc3
    have HO := Lib.hid hs2
    have HBEL := Lib.hid hbel2
    clear hs1 hs2 hown0 hbel0 hbel2 hgt1
    have hbx : w1.cell? ⟨w.heap.size, 0, none⟩ = w1.cell? ⟨w.heap.size, 0, none⟩ := rfl
    clear hbx
    by_cases hfull : 1000 < y + m
    · go_wp2
      go_ret2
      exact ⟨HBEL.out, .inr (.inl ⟨by first | omega | (rw [HX.out]; omega), by rw [HGT.out]; exact hfull, rfl⟩)⟩
    · go_wp2
      go_ret2
      exact ⟨HBEL.out, .inr (.inr ⟨by first | omega | (rw [HX.out]; omega), by rw [HGT.out]; omega, _, rfl, HO.out⟩)⟩
end Go.Proofs.YtkheobdkmmbjnaaDoor
