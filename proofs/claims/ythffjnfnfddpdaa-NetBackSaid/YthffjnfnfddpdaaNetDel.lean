/- slices.Delete of one row, from a row of rows that the call made. -/
import Derived.Test.YthffjnfnfddpdaaNetOwn2
import Derived.Lib.SliceRun
namespace Go.Proofs.Ythffjnfnfddpdaa
open Go.RowKit
def setL (xs : List Value) : Nat → List Value → List Value
  | _, [] => xs
  | o, v :: r => setL (xs.set o v) (o + 1) r
theorem setL_len (xs : List Value) (o : Nat) (r : List Value) : (setL xs o r).length = xs.length := by
  induction r generalizing xs o with
  | nil => rfl
  | cons v r ih => simp only [setL, ih, List.length_set]
theorem setL_get (xs : List Value) (o : Nat) (r : List Value) (h : o + r.length ≤ xs.length) (j : Nat) : (setL xs o r)[j]? = if j < o then xs[j]? else if j < o + r.length then r[j - o]? else xs[j]? := by
  induction r generalizing xs o with
  | nil => simp only [setL, List.length_nil, Nat.add_zero]; split <;> rfl
  | cons v r ih =>
    simp only [List.length_cons] at h
    simp only [setL]
    rw [ih _ _ (by rw [List.length_set]; omega)]
    simp only [List.length_cons]
    by_cases h1 : j < o
    · rw [if_pos (show j < o + 1 by omega), if_pos h1, List.getElem?_set_ne (by omega)]
    · rw [if_neg h1]
      by_cases h2 : j = o
      · subst h2
        rw [if_pos (by omega), if_pos (by omega), List.getElem?_set_self (by omega), Nat.sub_self]; rfl
      · rw [if_neg (by omega)]
        by_cases h3 : j < o + (r.length + 1)
        · rw [if_pos (by omega), if_pos h3]
          obtain ⟨d, hd⟩ : ∃ d, j - o = d + 1 := ⟨j - o - 1, by omega⟩
          rw [hd, show j - (o + 1) = d by omega]; rfl
        · rw [if_neg (by omega), if_neg h3, List.getElem?_set_ne (by omega)]
theorem own_setCells {base e g n cap : Nat} {size : Nat} : ∀ (r : List Value) (w : World) (xs : List Value) (o : Nat), w.ownsRow base e size (.slice (some ⟨g, 0, none⟩) n cap) n xs →
    (w.setCells g o r).ownsRow base e size (.slice (some ⟨g, 0, none⟩) n cap) n (setL xs o r) ∧ w.grownBy (w.setCells g o r) (some g) := by
  intro r
  induction r with
  | nil => intro w xs o h; exact ⟨h, ⟨rfl, rfl, rfl, Nat.le_refl _, fun _ _ _ => rfl⟩⟩
  | cons v r ih =>
    intro w xs o h
    obtain ⟨h1, h2⟩ := h.stored o v
    obtain ⟨h3, h4⟩ := ih _ _ (o + 1) h1
    refine ⟨h3, ⟨h4.os.trans h2.os, h4.tape.trans h2.tape, h4.output.trans h2.output, Nat.le_trans h2.size h4.size, fun i hi hne => ?_⟩⟩
    exact (h4.block i (Nat.lt_of_lt_of_le hi h2.size) hne).trans (h2.block i hi hne)
theorem own_shrink {w : World} {base e g n cap : Nat} {xs : List Value} (h : w.ownsRow base e 1 (.slice (some ⟨g, 0, none⟩) n cap) n xs) (m : Nat) (hm : m ≤ n) : w.ownsRow base e 1 (.slice (some ⟨g, 0, none⟩) m cap) m (xs.take m) := by
  have hl := h.1
  rcases h.2 with ⟨h', _⟩ | ⟨g', cap', cur, h', hb, hg, hnc, hcm, hcs, htake⟩
  · simp at h'
  · simp only [Value.slice.injEq, Option.some.injEq, Addr.mk.injEq, and_true, true_and] at h'
    obtain ⟨rfl, rfl⟩ := h'
    refine ⟨by rw [List.length_take]; omega, .inr ⟨g, cap, cur, rfl, hb, hg, by omega, hcm, hcs, ?_⟩⟩
    rw [← htake, List.take_take]; congr 1; omega
theorem moved_is (vs : List Value) (i : Nat) (hi : i < vs.length) : (setL vs i (vs.drop (i + 1))).take (vs.length - 1) = vs.eraseIdx i := by
  refine List.ext_getElem? fun j => ?_
  rw [List.getElem?_take, List.getElem?_eraseIdx, setL_get _ _ _ (by rw [List.length_drop]; omega)]
  rw [List.length_drop]
  by_cases h1 : j < vs.length - 1
  · rw [if_pos h1]
    by_cases h2 : j < i
    · rw [if_pos h2, if_pos h2]
    · rw [if_neg h2, if_neg h2, if_pos (by omega), List.getElem?_drop]
      congr 1; omega
  · rw [if_neg h1, if_neg (by omega)]
    rw [List.getElem?_eq_none (by omega)]
set_option maxHeartbeats 4000000 in
set_option maxRecDepth 1000000 in
theorem delete_any (base g cap n i : Nat) (vs : List Value) (w : World) (h : w.ownsRow base 38 1 (.slice (some ⟨g, 0, none⟩) n cap) n vs) (hi : i < n) (hn : n ≤ 1000) (h1 : ∀ u ∈ vs, u.oneCell' = true) :
    Calls Try.prog 82 #[.slice (some ⟨g, 0, none⟩) n cap, .int .i64 i, .int .i64 (i + 1 : Nat)] w fun e w' => e = .returned (.slice (some ⟨g, 0, none⟩) (n - 1) cap) ∧ w'.ownsRow base 38 1 (.slice (some ⟨g, 0, none⟩) (n - 1) cap) (n - 1) (vs.eraseIdx i) ∧ w.grownBy w' (some g) := by
  have hlen : vs.length = n := by have := h.1; simpa using this
  have hcapn : n ≤ cap ∧ cap ≤ maxLen := by
    obtain ⟨g', cap', e', _, _, h3, h4⟩ := own_form h (by omega)
    injection e' with _ _ e3
    subst e3; exact ⟨h3, h4⟩
  obtain ⟨hnc, hcm⟩ := hcapn
  unfold maxLen at hcm
  obtain ⟨i0, hi0, hz0, hz1, hz2⟩ := info_parts Try.info_row
  have hdl : (vs.drop (i + 1)).length = n - (i + 1) := by rw [List.length_drop, hlen]
  obtain ⟨A, hA, hnews⟩ : ∃ A : Addr, (if cap = i + 1 then some (⟨g, 0, none⟩ : Addr) else some ⟨g, i + 1, none⟩) = some A ∧ Hid (∀ j u, (vs.drop (i + 1))[j]? = some u → w.drew.cell? (A.add j) = some u) := by
    by_cases hc : cap = i + 1
    · refine ⟨⟨g, 0, none⟩, by simp [hc], fun j u hu => ?_⟩
      rw [List.length_eq_zero_iff.1 (by omega : (vs.drop (i + 1)).length = 0)] at hu
      simp at hu
    · refine ⟨⟨g, i + 1, none⟩, by simp [hc], fun j u hu => ?_⟩
      have hj : j < n - (i + 1) := by have := (List.getElem?_eq_some_iff.1 hu).1; omega
      rw [Addr.add_lit]
      rw [List.getElem?_drop] at hu
      exact (h.cellAt (i + 1 + j) (by omega)).trans hu
  have s1 : Hid ((vs.drop (i + 1)).length = (n - (i + 1)) * 1) := by rw [Nat.mul_one]; exact hdl
  have s2 : Hid (∀ u ∈ vs.drop (i + 1), u.oneCell' = true) := fun u hu => h1 u (List.mem_of_mem_drop hu)
  have s3 : Hid (∀ j, j < (vs.drop (i + 1)).length → (w.drew.cell? ⟨g, 0 + i * 1 + j, none⟩).isSome = true ∧ w.drew.frozen? ⟨g, 0 + i * 1 + j, none⟩ = false) := by
    intro j hj
    rw [hdl] at hj
    rw [Nat.mul_one, Nat.zero_add]
    refine ⟨?_, h.frozenAt _⟩
    show (w.cell? _).isSome = true
    rw [h.cellAt (i + j) (by omega), List.getElem?_eq_getElem (by omega)]; rfl
  obtain ⟨o1, g1⟩ := own_setCells (vs.drop (i + 1)) w.drew vs i (own_below h (Below.refl _ _).drew)
  obtain ⟨o2, g2⟩ := own_setCells [.slice none 0 0] _ _ (n - 1) o1
  have o3 := own_shrink o2 (n - 1) (by omega)
  have hfin : (setL (setL vs i (vs.drop (i + 1))) (n - 1) [.slice none 0 0]).take (n - 1) = vs.eraseIdx i := by
    rw [← moved_is vs i (by omega), hlen]
    simp only [setL]
    rw [List.take_set_of_le (Nat.le_refl _)]
  rw [hfin] at o3
  have O3 := Lib.hid o3
  have G3 : Hid (w.grownBy ((w.drew.setCells g i (vs.drop (i + 1))).setCells g (n - 1) [.slice none 0 0]) (some g)) := Lib.hid ⟨g2.os.trans g1.os, g2.tape.trans g1.tape, g2.output.trans g1.output, Nat.le_trans g1.size g2.size, fun k hk hne => (g2.block k (Nat.lt_of_lt_of_le hk g1.size) hne).trans (g1.block k hk hne)⟩
  have hz : (setL vs i (vs.drop (i + 1))).length = n := by rw [setL_len, hlen]
  have hclr : ∀ (ty : TypeId) (c : Nat), (Builtin.clear_ #[54] ty #[.slice (some ⟨g, n - 1, none⟩) 1 c]).run Try.prog (w.drew.setCells g i (vs.drop (i + 1))) = .ok (.tuple #[]) ((w.drew.setCells g i (vs.drop (i + 1))).setCells g (n - 1) [.slice none 0 0]) := fun ty c =>
    Lib.run_clear_slice _ 54 38 ty (.slice none 0 0) Try.underlying54 (fun _ => by kernel_rfl) rfl rfl g (n - 1) 1 c Nat.one_pos (fun j hj => by
      rw [o1.cellAt (n - 1 + j) (by omega), List.getElem?_eq_getElem (by omega)]; rfl) (fun j _ => o1.frozenAt _)
  have HC := Lib.hid hclr
  clear hclr o1 g1 o2 g2 o3 hfin hz h h1 hdl hlen
  have hic : i ≤ cap := by omega
  have hcast : ((i + 1 : Nat) : Int) = (i : Int) + 1 := by omega
  have hij : ((i : Int) == (i : Int) + 1) = false := beq_eq_false_iff_ne.2 (by omega)
  have hp0 : (0 : Int) ≤ (i : Int) + 1 := by omega
  have hp1 : (i : Int) + 1 ≤ (n : Int) := by omega
  have hp2 : ((i : Int) + 1).toNat = i + 1 := by omega
  have hp3 : (i : Int) ≤ (i : Int) + 1 := by omega
  have hnm : n - (i + 1) ≤ cap - (i + 1) := by omega
  rw [hcast]
  go_enter Try.func82, Try.ntmps82
  go_wp2_with fail
  have hsum : i + (n - (i + 1)) = n - 1 := by omega
  have hcn : ¬ cap = n - 1 := by omega
  have hn1 : n - (n - 1) = 1 := by omega
  have hn2 : ((n - 1 : Nat) : Int) ≤ (n : Int) := by omega
  have hn3 : (0 : Int) ≤ ((n - 1 : Nat) : Int) := by omega
  have hn4 : (n : Int) ≤ (cap : Int) := by omega
  go_region_law (refine step_append_room rfl (.tmp 22) (.tmp 25) 54 rfl 38 i0 1 Try.underlying54 hi0 hz1 g 0 i cap (by simp [Act.eval, Act.put]) A (n - (i + 1)) (cap - (i + 1)) (vs.drop (i + 1)) (by simp [Act.eval, Act.put]) s1.out hnews.out s2.out (by omega) s3.out ?_)
  have hc2 := HC.out
  clear hsum hnews s1 s2 s3 hA
  go_wp2
  go_ret
  exact ⟨rfl, O3.out, G3.out⟩
end Go.Proofs.Ythffjnfnfddpdaa
