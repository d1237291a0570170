/- An insertion sort of Rats in plain words. -/
import Derived.Test.YtaijpiebjhhkjaaGreatDoorLibP
namespace Go.Proofs.YtaijpiebjhhkjaaGreatDoor
namespace QS
theorem up_eq : ∀ {a b : List Rat}, MM.Up a → MM.Up b → a.Perm b → a = b
  | [], b, _, _, h => (List.Perm.nil_eq h)
  | x :: l, [], _, _, h => by have := h.length_eq; simp at this
  | x :: l, y :: m, ha, hb, h => by
    have hl : MM.Up l := (List.pairwise_cons.1 ha).2
    have hm : MM.Up m := (List.pairwise_cons.1 hb).2
    have h1 : y ≤ x := by
      rcases List.mem_cons.1 (h.mem_iff.1 (List.mem_cons_self (a := x) (l := l))) with e | e
      · rw [e]; exact Rat.le_refl
      · exact (List.pairwise_cons.1 hb).1 x e
    have h2 : x ≤ y := by
      rcases List.mem_cons.1 (h.mem_iff.2 (List.mem_cons_self (a := y) (l := m))) with e | e
      · rw [e]; exact Rat.le_refl
      · exact (List.pairwise_cons.1 ha).1 y e
    have e : x = y := Rat.le_antisymm h2 h1
    subst e
    rw [up_eq hl hm (List.Perm.cons_inv h)]
theorem is_srt {L Q : List Rat} (hp : L.Perm Q) (hu : MM.Up L) : L = MM.srt Q := up_eq hu (MM.up_srt Q) (hp.trans (MM.perm_srt Q).symm)
theorem srt_perm {L Q : List Rat} (hp : L.Perm Q) : MM.srt L = MM.srt Q := is_srt ((MM.perm_srt L).trans hp) (MM.up_srt L)
theorem srt_len (Q : List Rat) : (MM.srt Q).length = Q.length := (MM.perm_srt Q).length_eq
/-- the first i stand sorted; all is Q in another order -/
structure Upto (Q : List Rat) (i : Nat) (L : List Rat) : Prop where
  perm : L.Perm Q
  up : MM.Up (L.take i)
/-- one on its way: at j; those behind it, up to i, are greater -/
structure Ins (Q : List Rat) (i j : Nat) (x : Rat) (L : List Rat) : Prop where
  perm : L.Perm Q
  parts : ∃ A B C, L = A ++ x :: (B ++ C) ∧ A.length = j ∧ A.length + B.length = i ∧ MM.Up (A ++ B) ∧ ∀ y ∈ B, x < y
theorem Upto.start (Q : List Rat) : Upto Q 1 Q := ⟨List.Perm.refl _, by
  cases Q with
  | nil => exact List.Pairwise.nil
  | cons a l => unfold MM.Up; simp⟩
theorem Upto.ins {Q L : List Rat} {i : Nat} (h : Upto Q i L) (hi : i < L.length) : Ins Q i i (L.getD i 0) L := by
  refine ⟨h.perm, L.take i, [], L.drop (i + 1), ?_, by rw [List.length_take]; omega, by rw [List.length_take]; simp; omega, by simpa using h.up, fun y hy => by cases hy⟩
  rw [List.nil_append, List.getD_eq_getElem?_getD, List.getElem?_eq_getElem hi, Option.getD_some, List.getElem_cons_drop, List.take_append_drop]
theorem Ins.here {Q L : List Rat} {i j : Nat} {x : Rat} (h : Ins Q i j x L) : L[j]? = some x := by
  obtain ⟨A, B, C, e, h1, _⟩ := h.parts
  rw [e, ← h1]; simp
theorem Ins.swap {Q L : List Rat} {i j : Nat} {x a : Rat} (h : Ins Q i (j + 1) x L) (ha : L[j]? = some a) (hlt : x < a) : Ins Q i j x ((L.set (j + 1) a).set j x) := by
  obtain ⟨A, B, C, e, h1, h2, h3, h4⟩ := h.parts
  obtain ⟨A', a', rfl⟩ : ∃ A' a', A = A' ++ [a'] := by
    rcases List.eq_nil_or_concat A with e | ⟨A', a', e⟩
    · rw [e] at h1; simp at h1
    · exact ⟨A', a', by rw [e]; simp⟩
  have hl : A'.length = j := by simpa using h1
  have e2 : L = A' ++ a' :: x :: (B ++ C) := by rw [e]; simp
  have ea : a' = a := by
    rw [e2, ← hl] at ha
    simpa using ha
  subst ea
  have e3 : (L.set (j + 1) a').set j x = A' ++ x :: a' :: (B ++ C) := by
    rw [e2, ← hl]
    simp
  rw [e3]
  refine ⟨?_, A', a' :: B, C, by simp, hl, by simp at h2 ⊢; omega, by simpa using h3, fun y hy => ?_⟩
  · refine List.Perm.trans ?_ h.perm
    rw [e2]
    exact List.Perm.append_left A' (List.Perm.swap a' x _)
  · rcases List.mem_cons.1 hy with e | e
    · rw [e]; exact hlt
    · exact h4 y e
theorem Ins.done {Q L : List Rat} {i j : Nat} {x : Rat} (h : Ins Q i j x L) (hd : j = 0 ∨ ∃ a, L[j - 1]? = some a ∧ ¬ x < a) : Upto Q (i + 1) L := by
  obtain ⟨A, B, C, e, h1, h2, h3, h4⟩ := h.parts
  refine ⟨h.perm, ?_⟩
  have et : L.take (i + 1) = A ++ x :: B := by
    rw [e, ← h2, show A ++ x :: (B ++ C) = (A ++ x :: B) ++ C by simp, List.take_left' (by simp; omega)]
  rw [et]
  unfold MM.Up at h3 ⊢
  rw [List.pairwise_append] at h3
  rw [List.pairwise_append, List.pairwise_cons]
  have hx : ∀ y ∈ A, y ≤ x := by
    intro y hy
    rcases hd with hd | ⟨a, ha, hna⟩
    · rw [hd] at h1
      rw [List.length_eq_zero_iff.1 h1] at hy; cases hy
    · rcases List.eq_nil_or_concat A with e' | ⟨A', a', e'⟩
      · rw [e'] at hy; cases hy
      · have e'' : A = A' ++ [a'] := by rw [e']; simp
        rw [e''] at hy h1
        have hj : j - 1 = A'.length := by rw [← h1]; simp
        have ea : a' = a := by
          rw [e, e'', hj] at ha
          simpa using ha
        subst ea
        have h5 := h3.1
        rw [e'', List.pairwise_append] at h5
        rcases List.mem_append.1 hy with hy | hy
        · have := h5.2.2 y hy a' (by simp)
          grind
        · have : y = a' := by simpa using hy
          grind
  refine ⟨h3.1, ⟨fun y hy => by have := h4 y hy; grind, h3.2.1⟩, fun y hy z hz => ?_⟩
  rcases List.mem_cons.1 hz with e | e
  · rw [e]; exact hx y hy
  · exact h3.2.2 y hy z e
theorem Upto.all {Q L : List Rat} {i : Nat} (h : Upto Q i L) (hi : L.length ≤ i) : L = MM.srt Q := by
  have := h.up
  rw [List.take_of_length_le hi] at this
  exact is_srt h.perm this
theorem set_len (L : List Rat) (j k : Nat) (x a : Rat) : ((L.set j a).set k x).length = L.length := by simp
/-- the least -/
theorem head_le {Q : List Rat} {m : Rat} (h : (MM.srt Q)[0]? = some m) : m ∈ Q ∧ ∀ q ∈ Q, m ≤ q := by
  have hm : m ∈ MM.srt Q := List.mem_of_getElem? h
  refine ⟨(MM.perm_srt Q).mem_iff.1 hm, fun q hq => ?_⟩
  have hq := (MM.perm_srt Q).mem_iff.2 hq
  have hu := MM.up_srt Q
  cases hs : MM.srt Q with
  | nil => rw [hs] at hq; cases hq
  | cons x l =>
    rw [hs] at h hq hu
    have e : x = m := by simpa using h
    subst e
    rcases List.mem_cons.1 hq with e | e
    · rw [e]; exact Rat.le_refl
    · exact (List.pairwise_cons.1 hu).1 q e
theorem lex_head {a b : List Rat} {x y : Rat} (h : MM.lex a b ≤ 0) (ha : a[0]? = some x) (hb : b[0]? = some y) : x ≤ y := by
  cases a with
  | nil => simp at ha
  | cons p a =>
    cases b with
    | nil => simp at hb
    | cons q b =>
      have e1 : p = x := by simpa using ha
      have e2 : q = y := by simpa using hb
      subst e1 e2
      unfold MM.lex at h
      by_cases h1 : p < q
      · grind
      · rw [if_neg h1] at h
        by_cases h2 : q < p
        · rw [if_pos h2] at h; omega
        · grind
/-- a greater one in the place of one is better -/
theorem lex_more {Q R : List Rat} {i : Nat} {q d : Rat} (hp : Q.Perm R) (hi : R[i]? = some q) (hd : 0 < d) : MM.lex (MM.srt Q) (MM.srt (R.set i (q + d))) = -1 := by
  have hil : i < R.length := (List.getElem?_eq_some_iff.1 hi).1
  have e1 : R = R.take i ++ q :: R.drop (i + 1) := by
    have : R[i] = q := (List.getElem?_eq_some_iff.1 hi).2
    rw [← this, List.getElem_cons_drop, List.take_append_drop]
  have e2 : R.set i (q + d) = R.take i ++ (q + d) :: R.drop (i + 1) := by
    rw [List.set_eq_take_append_cons_drop, if_pos hil]
  have hc : ∀ t, MM.cnt t R = MM.cnt t (R.take i) + MM.cnt t (R.drop (i + 1)) + if q ≤ t then 1 else 0 := fun t => by
    conv => lhs; rw [e1]
    unfold MM.cnt
    rw [List.countP_append, List.countP_cons]; simp; omega
  have hc2 : ∀ t, MM.cnt t (R.set i (q + d)) = MM.cnt t (R.take i) + MM.cnt t (R.drop (i + 1)) + if q + d ≤ t then 1 else 0 := fun t => by
    rw [e2]
    unfold MM.cnt
    rw [List.countP_append, List.countP_cons]; simp; omega
  refine MM.lex_less q _ _ ?_ (MM.up_srt _) (MM.up_srt _) (fun t ht => ?_) ?_
  · rw [srt_len, srt_len, hp.length_eq]; simp
  · rw [MM.cnt_perm t (MM.perm_srt _), MM.cnt_perm t (MM.perm_srt _), MM.cnt_perm t hp, hc, hc2, if_neg (by grind), if_neg (by grind)]
  · rw [MM.cnt_perm _ (MM.perm_srt _), MM.cnt_perm _ (MM.perm_srt _), MM.cnt_perm _ hp, hc, hc2, if_pos Rat.le_refl, if_neg (by grind)]
    omega
end QS
end Go.Proofs.YtaijpiebjhhkjaaGreatDoor
