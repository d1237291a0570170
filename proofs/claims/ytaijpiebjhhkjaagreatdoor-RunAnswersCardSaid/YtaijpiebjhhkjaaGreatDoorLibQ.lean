/- Several texts in one: PlSortQ, RankSeq, RankSort, Rank1, Rank2, Rank3. -/
import Derived.Test.YtaijpiebjhhkjaaGreatDoorLibP
import Derived.Test.YtaijpiebjhhkjaaGreatDoorLibK
import Derived.RangeFuncNested
import Derived.RangeFuncBound
import Derived.RangeFuncCalls
import Derived.RangeFuncLeaves
import Derived.RangeFuncBox
import Derived.Shelf.Abstract
import Derived.OwnWalkIn
import Derived.TacticsInMore
import Derived.LoopNIn
import Derived.LoopIn
import Derived.Test.YtaijpiebjhhkjaaGreatDoorLibA
import Derived.Deep.RegionHeld3
import Derived.Test.YtaijpiebjhhkjaaGreatDoorLibL
/- An insertion sort of Rats in plain words. -/
namespace Go.Proofs.YtaijpiebjhhkjaaGreatDoor
namespace QS
theorem up_eq : ∀ {a b : List Rat}, MM.Up a → MM.Up b → a.Perm b → a = b
  | [], b, _, _, h => (List.Perm.nil_eq h)
  | x :: l, [], _, _, h => by have := h.length_eq; simp at this
  | x :: l, y :: m, ha, hb, h => by
    have hl : MM.Up l := (List.pairwise_cons.1 ha).2
    have hm : MM.Up m := (List.pairwise_cons.1 hb).2
    have h1 : y ≤ x := by
      rcases List.mem_cons.1 (h.mem_iff.1 (List.mem_cons_self (a := x) (l := l))) with e | e
      · rw [e]; exact Rat.le_refl
      · exact (List.pairwise_cons.1 hb).1 x e
    have h2 : x ≤ y := by
      rcases List.mem_cons.1 (h.mem_iff.2 (List.mem_cons_self (a := y) (l := m))) with e | e
      · rw [e]; exact Rat.le_refl
      · exact (List.pairwise_cons.1 ha).1 y e
    have e : x = y := Rat.le_antisymm h2 h1
    subst e
    rw [up_eq hl hm (List.Perm.cons_inv h)]
theorem is_srt {L Q : List Rat} (hp : L.Perm Q) (hu : MM.Up L) : L = MM.srt Q := up_eq hu (MM.up_srt Q) (hp.trans (MM.perm_srt Q).symm)
theorem srt_perm {L Q : List Rat} (hp : L.Perm Q) : MM.srt L = MM.srt Q := is_srt ((MM.perm_srt L).trans hp) (MM.up_srt L)
theorem srt_len (Q : List Rat) : (MM.srt Q).length = Q.length := (MM.perm_srt Q).length_eq
/-- the first i stand sorted; all is Q in another order -/
structure Upto (Q : List Rat) (i : Nat) (L : List Rat) : Prop where
  perm : L.Perm Q
  up : MM.Up (L.take i)
/-- one on its way: at j; those behind it, up to i, are greater -/
structure Ins (Q : List Rat) (i j : Nat) (x : Rat) (L : List Rat) : Prop where
  perm : L.Perm Q
  parts : ∃ A B C, L = A ++ x :: (B ++ C) ∧ A.length = j ∧ A.length + B.length = i ∧ MM.Up (A ++ B) ∧ ∀ y ∈ B, x < y
theorem Upto.start (Q : List Rat) : Upto Q 1 Q := ⟨List.Perm.refl _, by
  cases Q with
  | nil => exact List.Pairwise.nil
  | cons a l => unfold MM.Up; simp⟩
theorem Upto.ins {Q L : List Rat} {i : Nat} (h : Upto Q i L) (hi : i < L.length) : Ins Q i i (L.getD i 0) L := by
  refine ⟨h.perm, L.take i, [], L.drop (i + 1), ?_, by rw [List.length_take]; omega, by rw [List.length_take]; simp; omega, by simpa using h.up, fun y hy => by cases hy⟩
  rw [List.nil_append, List.getD_eq_getElem?_getD, List.getElem?_eq_getElem hi, Option.getD_some, List.getElem_cons_drop, List.take_append_drop]
theorem Ins.here {Q L : List Rat} {i j : Nat} {x : Rat} (h : Ins Q i j x L) : L[j]? = some x := by
  obtain ⟨A, B, C, e, h1, _⟩ := h.parts
  rw [e, ← h1]; simp
theorem Ins.swap {Q L : List Rat} {i j : Nat} {x a : Rat} (h : Ins Q i (j + 1) x L) (ha : L[j]? = some a) (hlt : x < a) : Ins Q i j x ((L.set (j + 1) a).set j x) := by
  obtain ⟨A, B, C, e, h1, h2, h3, h4⟩ := h.parts
  obtain ⟨A', a', rfl⟩ : ∃ A' a', A = A' ++ [a'] := by
    rcases List.eq_nil_or_concat A with e | ⟨A', a', e⟩
    · rw [e] at h1; simp at h1
    · exact ⟨A', a', by rw [e]; simp⟩
  have hl : A'.length = j := by simpa using h1
  have e2 : L = A' ++ a' :: x :: (B ++ C) := by rw [e]; simp
  have ea : a' = a := by
    rw [e2, ← hl] at ha
    simpa using ha
  subst ea
  have e3 : (L.set (j + 1) a').set j x = A' ++ x :: a' :: (B ++ C) := by
    rw [e2, ← hl]
    simp
  rw [e3]
  refine ⟨?_, A', a' :: B, C, by simp, hl, by simp at h2 ⊢; omega, by simpa using h3, fun y hy => ?_⟩
  · refine List.Perm.trans ?_ h.perm
    rw [e2]
    exact List.Perm.append_left A' (List.Perm.swap a' x _)
  · rcases List.mem_cons.1 hy with e | e
    · rw [e]; exact hlt
    · exact h4 y e
theorem Ins.done {Q L : List Rat} {i j : Nat} {x : Rat} (h : Ins Q i j x L) (hd : j = 0 ∨ ∃ a, L[j - 1]? = some a ∧ ¬ x < a) : Upto Q (i + 1) L := by
  obtain ⟨A, B, C, e, h1, h2, h3, h4⟩ := h.parts
  refine ⟨h.perm, ?_⟩
  have et : L.take (i + 1) = A ++ x :: B := by
    rw [e, ← h2, show A ++ x :: (B ++ C) = (A ++ x :: B) ++ C by simp, List.take_left' (by simp; omega)]
  rw [et]
  unfold MM.Up at h3 ⊢
  rw [List.pairwise_append] at h3
  rw [List.pairwise_append, List.pairwise_cons]
  have hx : ∀ y ∈ A, y ≤ x := by
    intro y hy
    rcases hd with hd | ⟨a, ha, hna⟩
    · rw [hd] at h1
      rw [List.length_eq_zero_iff.1 h1] at hy; cases hy
    · rcases List.eq_nil_or_concat A with e' | ⟨A', a', e'⟩
      · rw [e'] at hy; cases hy
      · have e'' : A = A' ++ [a'] := by rw [e']; simp
        rw [e''] at hy h1
        have hj : j - 1 = A'.length := by rw [← h1]; simp
        have ea : a' = a := by
          rw [e, e'', hj] at ha
          simpa using ha
        subst ea
        have h5 := h3.1
        rw [e'', List.pairwise_append] at h5
        rcases List.mem_append.1 hy with hy | hy
        · have := h5.2.2 y hy a' (by simp)
          grind
        · have : y = a' := by simpa using hy
          grind
  refine ⟨h3.1, ⟨fun y hy => by have := h4 y hy; grind, h3.2.1⟩, fun y hy z hz => ?_⟩
  rcases List.mem_cons.1 hz with e | e
  · rw [e]; exact hx y hy
  · exact h3.2.2 y hy z e
theorem Upto.all {Q L : List Rat} {i : Nat} (h : Upto Q i L) (hi : L.length ≤ i) : L = MM.srt Q := by
  have := h.up
  rw [List.take_of_length_le hi] at this
  exact is_srt h.perm this
theorem set_len (L : List Rat) (j k : Nat) (x a : Rat) : ((L.set j a).set k x).length = L.length := by simp
/-- the least -/
theorem head_le {Q : List Rat} {m : Rat} (h : (MM.srt Q)[0]? = some m) : m ∈ Q ∧ ∀ q ∈ Q, m ≤ q := by
  have hm : m ∈ MM.srt Q := List.mem_of_getElem? h
  refine ⟨(MM.perm_srt Q).mem_iff.1 hm, fun q hq => ?_⟩
  have hq := (MM.perm_srt Q).mem_iff.2 hq
  have hu := MM.up_srt Q
  cases hs : MM.srt Q with
  | nil => rw [hs] at hq; cases hq
  | cons x l =>
    rw [hs] at h hq hu
    have e : x = m := by simpa using h
    subst e
    rcases List.mem_cons.1 hq with e | e
    · rw [e]; exact Rat.le_refl
    · exact (List.pairwise_cons.1 hu).1 q e
theorem lex_head {a b : List Rat} {x y : Rat} (h : MM.lex a b ≤ 0) (ha : a[0]? = some x) (hb : b[0]? = some y) : x ≤ y := by
  cases a with
  | nil => simp at ha
  | cons p a =>
    cases b with
    | nil => simp at hb
    | cons q b =>
      have e1 : p = x := by simpa using ha
      have e2 : q = y := by simpa using hb
      subst e1 e2
      unfold MM.lex at h
      by_cases h1 : p < q
      · grind
      · rw [if_neg h1] at h
        by_cases h2 : q < p
        · rw [if_pos h2] at h; omega
        · grind
/-- a greater one in the place of one is better -/
theorem lex_more {Q R : List Rat} {i : Nat} {q d : Rat} (hp : Q.Perm R) (hi : R[i]? = some q) (hd : 0 < d) : MM.lex (MM.srt Q) (MM.srt (R.set i (q + d))) = -1 := by
  have hil : i < R.length := (List.getElem?_eq_some_iff.1 hi).1
  have e1 : R = R.take i ++ q :: R.drop (i + 1) := by
    have : R[i] = q := (List.getElem?_eq_some_iff.1 hi).2
    rw [← this, List.getElem_cons_drop, List.take_append_drop]
  have e2 : R.set i (q + d) = R.take i ++ (q + d) :: R.drop (i + 1) := by
    rw [List.set_eq_take_append_cons_drop, if_pos hil]
  have hc : ∀ t, MM.cnt t R = MM.cnt t (R.take i) + MM.cnt t (R.drop (i + 1)) + if q ≤ t then 1 else 0 := fun t => by
    conv => lhs; rw [e1]
    unfold MM.cnt
    rw [List.countP_append, List.countP_cons]; simp; omega
  have hc2 : ∀ t, MM.cnt t (R.set i (q + d)) = MM.cnt t (R.take i) + MM.cnt t (R.drop (i + 1)) + if q + d ≤ t then 1 else 0 := fun t => by
    rw [e2]
    unfold MM.cnt
    rw [List.countP_append, List.countP_cons]; simp; omega
  refine MM.lex_less q _ _ ?_ (MM.up_srt _) (MM.up_srt _) (fun t ht => ?_) ?_
  · rw [srt_len, srt_len, hp.length_eq]; simp
  · rw [MM.cnt_perm t (MM.perm_srt _), MM.cnt_perm t (MM.perm_srt _), MM.cnt_perm t hp, hc, hc2, if_neg (by grind), if_neg (by grind)]
  · rw [MM.cnt_perm _ (MM.perm_srt _), MM.cnt_perm _ (MM.perm_srt _), MM.cnt_perm _ hp, hc, hc2, if_pos Rat.le_refl, if_neg (by grind)]
    omega
end QS
end Go.Proofs.YtaijpiebjhhkjaaGreatDoor
/- slices.Collect over slices.Values of fractions. -/
namespace Go.Proofs.YtaijpiebjhhkjaaGreatDoor
open Go.RowKit Go.Shelf
attribute [local go_sem] Oper.semAt_some
set_option maxHeartbeats 1000000 in
theorem values_in (F : Fence) (n : Nat) (h : F.fn 95) (hro : F.round = none) (a : Option Addr) (len cap : Nat) (w : World) :
    CallsIn F n Tryz.prog 95 #[.slice a len cap] w fun e w' => e = .returned (.func (.func 134) #[] #[.pointer (some ⟨w.heap.size, 0, none⟩)]) ∧ w' = w.alloc (.cells #[.slice a len cap] 33) := by
  refine callsIn_of_wp Tryz.func95 rfl h ?_ hro
  simp only [Tryz.ntmps95, List.size_toArray, List.length_cons, List.length_nil, Nat.reduceAdd, Nat.reduceSub, Array.replicate_succ, Array.replicate_zero, List.push_toArray, List.append_toArray, List.nil_append, List.cons_append]
  gi_wp2
  go_ret
  exact ⟨rfl, rfl⟩
set_option maxRecDepth 100000 in
set_option maxHeartbeats 4000000 in
theorem values1_in (F : Fence) (n : Nat) (h7 : F.fn 134) (hro : F.round = none) (hn : 1 ≤ n) (l Bs n₀ : Nat) (A : Option Addr) (c : Nat) (Q : List Rat) (J Jx : List Rat → World → Prop)
    (W : World) (hJ : AbidesFrom W.heap.size J)
    (hY : ∀ pre x W, J pre W → pre.length < Q.length → YieldAt F (n - 1) Tryz.prog l #[.agg #[.int .i64 x.num, .int .i64 x.den]] W fun e W' =>
      (e = .returned (.bool true) ∧ J (pre ++ [x]) W' ∧ Below n₀ W W') ∨ (e = .returned (.bool false) ∧ Jx (pre ++ [x]) W'))
    (hBs : W.cell? ⟨Bs, 0, none⟩ = some (.slice A Q.length c)) (hf : Frs W n₀ A c (Q.map frQ)) (hn₀ : n₀ ≤ W.heap.size) (h0 : J [] W) :
    CallsIn F n Tryz.prog 134 #[.func (.yield l) #[] #[], .pointer (some ⟨Bs, 0, none⟩)] W fun e W' => (∃ v, e = .returned v) ∧
      ((∃ ys, ys = Q ∧ J ys W') ∨ (∃ pre, pre <+: Q ∧ Jx pre W')) := by
  have HF := Lib.hid hf
  have hm := hf.cap; have hl := hf.le
  rw [List.length_map] at hl
  unfold maxLen at hm
  clear hf
  refine callsIn_of_wp Tryz.func134 rfl h7 ?_ hro
  simp only [Tryz.ntmps134, List.size_toArray, List.length_cons, List.length_nil, Nat.reduceAdd, Nat.reduceSub, Array.replicate_succ, Array.replicate_zero, List.push_toArray, List.append_toArray, List.nil_append, List.cons_append]
  gi_wp2
  gi_loopw [7] (fun i wr => ∃ k : Nat, k ≤ Q.length ∧ i = .int .i64 k ∧ J (Q.take k) wr ∧ Below n₀ W wr)
    (fun i _ => Q.length - (intOf i).toNat)
  case atStart => exact ⟨0, Nat.zero_le _, rfl, by rw [List.take_zero]; exact h0, Below.refl _ _⟩
  case round =>
    obtain ⟨k, hk, rfl, hJs, hnx⟩ := hrel
    have hwr : n₀ ≤ wr.heap.size := Nat.le_trans hn₀ hnx.size
    by_cases hlt : k < Q.length
    · obtain ⟨b, off, rfl, hb, c0, c1⟩ := frs_q (HF.out.below hnx (Nat.le_refl _)) hlt
      obtain ⟨q, hq⟩ : ∃ q, Q.getD k 0 = q := ⟨_, rfl⟩
      rw [hq] at c0 c1
      have hqk : Q[k]? = some q := by rw [← hq, List.getD_eq_getElem?_getD, List.getElem?_eq_getElem hlt]; rfl
      have hts := take_snoc' Q k q hqk
      have hJa : J (Q.take k) (wr.alloc (.cells #[.int .i64 q.num, .int .i64 q.den] 37)) := hJ _ _ _ none hJs (World.grownBy_alloc wr _ none) (fun r e => by cases e)
      obtain ⟨fn, tmps, assign, body, hy, hR⟩ := hY _ q _ hJa (by rw [List.length_take]; omega)
      have hba := hnx.alloc hwr (.cells #[.int .i64 q.num, .int .i64 q.den] 37)
      clear hq hqk
      gi_wp2
      refine hR.mono ?_
      rintro e W3 (⟨rfl, hJ3, hk3⟩ | ⟨rfl, hJx3⟩)
      · gi_wp2
        go_roundw
        case rel => exact ⟨k + 1, by omega, by go_num, by rw [hts]; exact hJ3, hba.trans hk3⟩
        case measure => simp [intOf]; omega
      · gi_wp2
        refine bodyPost_ret (results_none rfl _ _ _) rfl ?_
        exact ⟨⟨_, rfl⟩, .inr ⟨_, by rw [← hts]; exact List.take_prefix _ _, hJx3⟩⟩
    · obtain rfl : k = Q.length := by omega
      gi_wp2
      go_end0
      exact ⟨⟨_, rfl⟩, .inl ⟨_, rfl, by rw [List.take_length] at hJs; exact hJs⟩⟩
theorem values_stops (F : Fence) (n : Nat) (h7 : F.fn 134) (hro : F.round = none) (hn : 1 ≤ n) (Bs n₀ : Nat) (A : Option Addr) (c : Nat) (Q : List Rat) (w : World) (hBs : Bs < w.heap.size) (hn₀ : n₀ ≤ w.heap.size)
    (hc : w.cell? ⟨Bs, 0, none⟩ = some (.slice A Q.length c)) (hf : Frs w n₀ A c (Q.map frQ)) :
    SeqStopsK F n Tryz.prog 134 #[.pointer (some ⟨Bs, 0, none⟩)] (fun x : Rat => #[Value.agg #[.int .i64 x.num, .int .i64 x.den]]) (Below n₀) (fun ys => ys = Q) (fun pre => pre <+: Q) Q.length w := fun l J Jx W hW hJ _ hY h0 =>
  values1_in F n h7 hro hn l Bs n₀ A c Q J Jx W hJ hY ((hW.cell (p := ⟨Bs, 0, none⟩) hBs).trans hc) (hf.below hW hn₀) (Nat.le_trans hn₀ hW.size) h0
set_option maxRecDepth 100000 in
set_option maxHeartbeats 4000000 in
theorem appendSeq_in (F : Fence) (n : Nat) (hA : F.fn 155) (h7 : F.fn 134) (hro : F.round = none) (hn : 3 ≤ n) (Bs : Nat) (A : Option Addr) (c : Nat) (Q : List Rat) (h6 : Q.length ≤ 1000000) (w : World) (hBs : Bs < w.heap.size)
    (hc : w.cell? ⟨Bs, 0, none⟩ = some (.slice A Q.length c)) (hf : Frs w w.heap.size A c (Q.map frQ)) :
    CallsIn F n Tryz.prog 155 #[.slice none 0 0, .func (.func 134) #[] #[.pointer (some ⟨Bs, 0, none⟩)]] w fun e W' => ∃ v, e = .returned v ∧ W'.ownsRow w.heap.size 37 2 v Q.length (qcells Q) ∧ Below w.heap.size w W' := by
  have h1 : 1 ≤ n := by omega
  obtain ⟨i0, hi, hz0, hz1, hz2⟩ := info_parts Tryz.info_fr
  refine callsIn_of_wp_marks Tryz.func155 rfl hA ?_ hro
  simp only [Tryz.ntmps155, List.size_toArray, List.length_cons, List.length_nil, Nat.reduceAdd, Nat.reduceSub, Array.replicate_succ, Array.replicate_zero, List.push_toArray, List.append_toArray, List.nil_append, List.cons_append]
  gi_wp2
  have bO := Boxed.new w 33 (.slice none 0 0)
  have hB0 : Below w.heap.size w (w.alloc (.cells #[.slice none 0 0] 33)) := (Below.refl _ w).alloc (Nat.le_refl _) _
  refine wpIn_rangeFunc_ownH hro h1 (gf := 134) (lb := #[.pointer (some ⟨Bs, 0, none⟩)]) rfl h7 (enters_of Tryz.func134 (by kernel_rfl) rfl)
    (values_stops F (n - 1) h7 hro (by omega) Bs w.heap.size A c Q (w.alloc (.cells #[.slice none 0 0] 33)) (by simp; omega) (by simp) ((hB0.cell (p := ⟨Bs, 0, none⟩) hBs).trans hc) (hf.below hB0 (Nat.le_refl _))) belowK_t (belowK_b (by simp)) (Below.refl _ _) (fun _ => rfl)
    (fun pre W => (∃ v, Boxed W w.heap.size 33 v ∧ W.ownsRow w.heap.size 37 2 v pre.length (qcells pre) ∧ True) ∧ Below w.heap.size w W)
    (fun _ _ _ => False)
    (OwnFrom.and (Own.from (holdsRow_own w.heap.size w.heap.size 33 37 2 (fun pre => pre.length) (fun pre => qcells pre) (fun _ _ => True)) _) (ownFrom_below (Nat.le_refl _) (by simp)))
    (fun _ _ _ _ _ hs _ _ => hs)
    ⟨⟨_, bO, World.ownsRow_nil _ _ _ _, trivial⟩, hB0⟩
    (fun x a' W => ∃ Bx, w.heap.size < Bx ∧ Blk W Bx 37 #[.int .i64 x.num, .int .i64 x.den] ∧ a' = { tmps := #[.slice none 0 0, .func (.func 134) #[] #[.pointer (some ⟨Bs, 0, none⟩)], .pointer (some ⟨w.heap.size, 0, none⟩), undef, .slice none 0 0, .pointer (some ⟨Bx, 0, none⟩), .func (.func 134) #[] #[.pointer (some ⟨Bs, 0, none⟩)], .agg #[.int .i64 x.num, .int .i64 x.den], undef, undef, undef, undef, undef], defers := [] })
    (fun x a' _ X Y row hs hg hr => by
      obtain ⟨Bx, h1, h2, h3⟩ := hs
      refine ⟨Bx, h1, h2.grown hg (fun e => ?_), h3⟩
      obtain ⟨_, o, ho, hco⟩ := hr Bx e.symm
      unfold Blk at h2
      rw [h2] at ho; cases ho; cases hco)
    ?assign ?body ?done ?stop
  case assign =>
    rintro l pre x W K ⟨⟨v, hv, hrow, _⟩, hB⟩ hK
    gi_wp2
    exact hK _ _ ((KeepsOthers.alloc _ _).from _) ((Below.refl _ W).alloc hB.size _) ⟨⟨v, hv.alloc _, hrow.alloc _, trivial⟩, hB.alloc hB.size _⟩ ⟨W.heap.size, hv.lt, Blk.new _ _ _, rfl⟩
  case body =>
    rintro l pre x a' W hl ⟨r, hr⟩ ⟨⟨v, hv, hrow, _⟩, hB⟩ ⟨Bx, hBx, bX, rfl⟩ hlt
    have hcv := hv.cell
    obtain ⟨x0, x1, _, _, xz⟩ := bX.two
    have hnews : ∀ (j : Nat) (u : Value), ([.int .i64 x.num, .int .i64 x.den] : List Value)[j]? = some u → (W.alloc (.cells #[.int .i64 x.num, .int .i64 x.den] 37)).cell? ((⟨W.heap.size, 0, none⟩ : Addr).add j) = some u := fun j u hu => by
      have hadd : (⟨W.heap.size, 0, none⟩ : Addr).add j = ⟨W.heap.size, j, none⟩ := by unfold Addr.add; split <;> simp_all
      rw [hadd, cell_of_row _ W.heap.size j #[.int .i64 x.num, .int .i64 x.den] 37 (0, 0) (heap_alloc_new W _)]
      simpa using hu
    gi_wp2_with (gi_at_builtin; refine wpListIn_append_own _ rfl _ _ 33 rfl w.heap.size 37 i0 (.agg #[.int .i64 0, .int .i64 0]) 2 16 Tryz.underlying33 hi hz0 hz1 hz2 rfl (by decide) _ _ _ rfl (hrow.alloc _) ⟨W.heap.size, 0, none⟩ 1 1 [.int .i64 x.num, .int .i64 x.den] rfl rfl hnews (by simp [Value.oneCell']) (by unfold maxLen; omega) (by omega) (by have := hB.size; simp; omega) ?_; intro v' w1 hown' hgrow _; obtain ⟨g', cap', rfl⟩ := ownsRow_succ hown'; obtain ⟨hv1, hv2, hr2, hk2, hb2⟩ := hv.appended (by decide) hrow hB.size (Nat.le_refl _) hown' hgrow; have hc1 := hv1.cell; have hf1 := hv1.frozen)
    exact ⟨hk2.from _, hb2, ⟨_, hv2, by rw [List.length_append, qcells_snoc]; exact hr2, trivial⟩, hB.trans hb2⟩
  case done =>
    rintro D ys W hD rfl ⟨⟨v, hv, hrow, _⟩, hB⟩ hK
    have hcv := hv.cell
    gi_wp2
    refine ⟨by simp, .inl ⟨_, _, rfl, run_takeDeferred hK, ?_⟩⟩
    exact ⟨_, results_tmp rfl _ _ _, v, rfl, ownsRow_putObj hrow _ hK rfl, hB.trans (belowK_b (w := w) (Nat.le_refl _) W D _ _ (by simp at hD; omega) hK rfl rfl)⟩
  case stop =>
    rintro D c pre W _ _ h _
    exact h.elim
end Go.Proofs.YtaijpiebjhhkjaaGreatDoor
/- slices.SortStableFunc over fractions that the call itself made, at most twenty, by frac.Order. -/
namespace Go.Proofs.YtaijpiebjhhkjaaGreatDoor
open Go.RowKit
theorem ord_lt {q r : Rat} : ordQ q r < 0 ↔ q < r := by
  unfold ordQ
  by_cases h : q < r
  · simp [h]
  · rw [if_neg h]
    by_cases h2 : r < q
    · simp [h2, h]
    · simp [h2, h]
def QRow (base n g cap : Nat) (L : List Rat) (w : World) : Prop := w.ownsRow base 37 2 (.slice (some ⟨g, 0, none⟩) n cap) n (qcells L)
theorem QRow.cell {base n g cap : Nat} {L : List Rat} {w : World} (h : QRow base n g cap L w) {k : Nat} {q : Rat} (hk : L[k]? = some q) (hn : L.length = n) :
    w.cell? ⟨g, k * 2, none⟩ = some (.int .i64 q.num) ∧ w.cell? ⟨g, k * 2 + 1, none⟩ = some (.int .i64 q.den) ∧ w.frozen? ⟨g, k * 2, none⟩ = false ∧ w.frozen? ⟨g, k * 2 + 1, none⟩ = false := by
  have hkl : k < L.length := (List.getElem?_eq_some_iff.1 hk).1
  obtain ⟨h1, h2⟩ := qcells_at hk
  exact ⟨(h.cellAt (k * 2) (by omega)).trans h1, (h.cellAt (k * 2 + 1) (by omega)).trans h2, h.frozenAt _, h.frozenAt _⟩
theorem QRow.put {base n g cap : Nat} {L : List Rat} {w : World} (h : QRow base n g cap L w) {k : Nat} (hk : k < L.length) (q : Rat) :
    QRow base n g cap (L.set k q) ((w.setCell ⟨g, k * 2, none⟩ (.int .i64 q.num)).setCell ⟨g, k * 2 + 1, none⟩ (.int .i64 q.den)) := qrow_put h hk q
theorem QRow.below {base n g cap : Nat} {L : List Rat} {w w' : World} (h : QRow base n g cap L w) (hb : Below w.heap.size w w') : QRow base n g cap L w' := own_below h hb
theorem QRow.lt {base n g cap : Nat} {L : List Rat} {w : World} (h : QRow base n g cap L w) : g < w.heap.size := (World.ownsRow.lt h g rfl).2
set_option maxHeartbeats 8000000 in
set_option maxRecDepth 100000 in
theorem insFr_any (Q : List Rat) (n g cap base : Nat) (w : World) (hn : 0 < n) (hn6 : n ≤ 20) (hnq : n = Q.length) (hq : ∀ q ∈ Q, QIn q) (hrow : QRow base n g cap Q w) (hbg : base ≤ g) (hbw : base ≤ w.heap.size) :
    Calls Tryz.prog 174 #[.slice (some ⟨g, 0, none⟩) n cap, .int .i64 0, .int .i64 n, .func (Fn.func 66) #[] #[]] w fun e w' =>
      e = .returned (.tuple #[]) ∧ QRow base n g cap (MM.srt Q) w' ∧ Below base w w' := by
  have HR := Lib.hid hrow; clear hrow
  have H0 := Lib.hid (QS.Upto.start Q)
  have HL0 : Hid (Q.length = n) := Lib.hid hnq.symm
  have HQ := Lib.hid hq
  clear hnq hq
  go_enter Tryz.func174, Tryz.ntmps174
  go_wp2
  go_loopw [8] (fun vi wr => ∃ (i : Nat) (L : List Rat), vi = .int .i64 i ∧ 1 ≤ i ∧ i ≤ n ∧ Hid (L.length = n) ∧ Hid (QS.Upto Q i L) ∧ Hid (QRow base n g cap L wr) ∧ Hid (Below base w wr)) (fun vi _ => n - (intOf vi).toNat)
  case atStart => exact ⟨1, _, rfl, by omega, by omega, HL0, H0, HR, Lib.hid (Below.refl _ _)⟩
  case round =>
    obtain ⟨i, L, rfl, hi1, hin, HL, HU, HW, HG⟩ := hrel
    clear H0 HL0 HR
    by_cases hlt : i < n
    · have HI := Lib.hid (HU.out.ins (by rw [HL.out]; exact hlt)); clear HU
      obtain ⟨x, hx⟩ : ∃ x, L.getD i 0 = x := ⟨_, rfl⟩
      rw [hx] at HI
      clear hx
      go_wp2
      go_loopg [9] i (fun g2 vj wq => ∃ (j : Nat) (p : List Rat), vj = .int .i64 j ∧ j ≤ i ∧ j ≤ g2 ∧ Hid (p.length = n) ∧ Hid (QS.Ins Q i j x p) ∧ Hid (QRow base n g cap p wq) ∧ Hid (Below base w wq))
      case atStart => exact ⟨i, L, rfl, Nat.le_refl _, Nat.le_refl _, HL, HI, HW, HG⟩
      case round =>
        clear HL HI HW HG
        obtain ⟨j, p, rfl, hji, hg2, HL, HI, HW, HG⟩ := hrel
        have hsz := HG.out.size
        by_cases hj : 0 < j
        · obtain ⟨jp, rfl⟩ : ∃ jp, j = jp + 1 := ⟨j - 1, by omega⟩
          have hpl : jp < p.length := by rw [HL.out]; omega
          obtain ⟨a, ha⟩ : ∃ a, p[jp]? = some a := ⟨p[jp], List.getElem?_eq_getElem hpl⟩
          obtain ⟨cj0, cj1, fj0, fj1⟩ := HW.out.cell HI.out.here HL.out
          obtain ⟨cp0, cp1, fp0, fp1⟩ := HW.out.cell ha HL.out
          have hQx := HQ.out x (HI.out.perm.mem_iff.1 (List.mem_of_getElem? HI.out.here))
          have hQa := HQ.out a (HI.out.perm.mem_iff.1 (List.mem_of_getElem? ha))
          obtain ⟨o, ho⟩ : ∃ o, ordQ x a = o := ⟨_, rfl⟩
          have hol := @ord_lt x a
          rw [ho] at hol
          have HC := Lib.hid fun W => order_q x a o W hQx hQa ho
          have HOL := Lib.hid hol
          have hgz := HW.out.lt
          have hjz : (0 : Int) < (jp : Int) + 1 := by omega
          have hj1 : (jp : Int) + 1 < (n : Int) := by omega
          have hwp : IntKind.i64.wrap (jp : Int) = (jp : Int) := by rw [IntKind.wrap_i64]; omega
          have jz1 : (jp : Int) < (n : Int) := by omega
          have p0 : (0 : Int) ≤ (jp : Int) + 1 := by omega
          have e0 : ((jp : Int) + 1).toNat = jp + 1 := by omega
          have HA := Lib.hid ha
          have HPL := Lib.hid hpl
          clear ha hpl hQx hQa hol ho
          obtain ⟨j1, hj1'⟩ : ∃ j1, j1 = jp + 1 := ⟨_, rfl⟩
          rw [← hj1'] at cj0 cj1 fj0 fj1 e0
          have J1 := Lib.hid hj1'
          clear hj1'
          obtain ⟨xn, hxn⟩ : ∃ z, x.num = z := ⟨_, rfl⟩
          obtain ⟨xd, hxd⟩ : ∃ z : Int, (x.den : Int) = z := ⟨_, rfl⟩
          obtain ⟨an, han⟩ : ∃ z, a.num = z := ⟨_, rfl⟩
          obtain ⟨ad, had⟩ : ∃ z : Int, (a.den : Int) = z := ⟨_, rfl⟩
          rw [hxn] at cj0; rw [hxd] at cj1; rw [han] at cp0; rw [had] at cp1
          rw [hxn, hxd, han, had] at HC
          have HXN := Lib.hid hxn; have HXD := Lib.hid hxd; have HAN := Lib.hid han; have HAD := Lib.hid had
          clear hxn hxd han had
          by_cases hlv : o < 0
          · have HS := Lib.hid (HI.out.swap HA.out (HOL.out.1 hlv))
            go_wp2_with fail
            go_region_held3 (fun w' => w'.cell? ⟨g, j1 * 2, none⟩ = some (.int .i64 xn) ∧ w'.cell? ⟨g, j1 * 2 + 1, none⟩ = some (.int .i64 xd) ∧ w'.cell? ⟨g, jp * 2, none⟩ = some (.int .i64 an) ∧ w'.cell? ⟨g, jp * 2 + 1, none⟩ = some (.int .i64 ad)) (go_keep)
              (first
                | (go_simp; go_at_call 66; refine (HC.out _).mono ?_; rintro e w5 ⟨rfl, hb5⟩; have HB5 : Hid (Below wr.heap.size wr w5) := Lib.hid (by first | exact hb5 | exact (Below.refl _ _).drew.trans hb5); have y0 : w5.cell? ⟨g, j1 * 2, none⟩ = some (.int .i64 xn) := (HB5.out.cell (p := ⟨g, j1 * 2, none⟩) hgz).trans cj0; have y1 : w5.cell? ⟨g, j1 * 2 + 1, none⟩ = some (.int .i64 xd) := (HB5.out.cell (p := ⟨g, j1 * 2 + 1, none⟩) hgz).trans cj1; have y2 : w5.cell? ⟨g, jp * 2, none⟩ = some (.int .i64 an) := (HB5.out.cell (p := ⟨g, jp * 2, none⟩) hgz).trans cp0; have y3 : w5.cell? ⟨g, jp * 2 + 1, none⟩ = some (.int .i64 ad) := (HB5.out.cell (p := ⟨g, jp * 2 + 1, none⟩) hgz).trans cp1; have hz5 := HB5.out.size; clear hb5; dsimp only))
            have f0 : w5.frozen? ⟨g, j1 * 2, none⟩ = false := (HB5.out.frozen (p := ⟨g, j1 * 2, none⟩) hgz).trans fj0
            have f1 : w5.frozen? ⟨g, j1 * 2 + 1, none⟩ = false := (HB5.out.frozen (p := ⟨g, j1 * 2 + 1, none⟩) hgz).trans fj1
            have f2 : w5.frozen? ⟨g, jp * 2, none⟩ = false := (HB5.out.frozen (p := ⟨g, jp * 2, none⟩) hgz).trans fp0
            have f3 : w5.frozen? ⟨g, jp * 2 + 1, none⟩ = false := (HB5.out.frozen (p := ⟨g, jp * 2 + 1, none⟩) hgz).trans fp1
            have HW5 := Lib.hid (HW.out.below HB5.out)
            have HG5 := Lib.hid (HG.out.trans (HB5.out.mono (Nat.le_trans hbw hsz)))
            have hgz5 : g < w5.heap.size := by omega
            clear cj0 cj1 fj0 fj1 cp0 cp1 fp0 fp1 HC HW HG HB5
            go_wp2_with fail
            go_big_region
            all_goals go_wp2
            go_roundg jp
            case measure => omega
            case rel =>
              refine ⟨jp, (p.set (jp + 1) a).set jp x, by first | rfl | go_num | (congr 1; omega), by omega, Nat.le_refl _, Lib.hid (by rw [List.length_set, List.length_set]; exact HL.out), HS, ?_, ?_⟩
              · refine Lib.hid ?_
                rw [J1.out, ← HXN.out, ← HXD.out, ← HAN.out, ← HAD.out]
                exact ((HW5.out.put (by rw [HL.out]; omega) a).put (by rw [List.length_set]; exact HPL.out) x).below (below_drewN (Below.refl _ _) 1)
              · refine Lib.hid ?_
                exact below_drewN ((((HG5.out.setCell (p := ⟨g, j1 * 2, none⟩) hbg _).setCell (p := ⟨g, j1 * 2 + 1, none⟩) hbg _).setCell (p := ⟨g, jp * 2, none⟩) hbg _).setCell (p := ⟨g, jp * 2 + 1, none⟩) hbg _) 1
          · have HD := Lib.hid (HI.out.done (.inr ⟨a, HA.out, fun h => hlv (HOL.out.2 h)⟩))
            go_wp2_with fail
            go_region_held3 (fun w' => w'.cell? ⟨g, j1 * 2, none⟩ = some (.int .i64 xn) ∧ w'.cell? ⟨g, j1 * 2 + 1, none⟩ = some (.int .i64 xd) ∧ w'.cell? ⟨g, jp * 2, none⟩ = some (.int .i64 an) ∧ w'.cell? ⟨g, jp * 2 + 1, none⟩ = some (.int .i64 ad)) (go_keep)
              (first
                | (go_simp; go_at_call 66; refine (HC.out _).mono ?_; rintro e w5 ⟨rfl, hb5⟩; have HB5 : Hid (Below wr.heap.size wr w5) := Lib.hid (by first | exact hb5 | exact (Below.refl _ _).drew.trans hb5); have y0 : w5.cell? ⟨g, j1 * 2, none⟩ = some (.int .i64 xn) := (HB5.out.cell (p := ⟨g, j1 * 2, none⟩) hgz).trans cj0; have y1 : w5.cell? ⟨g, j1 * 2 + 1, none⟩ = some (.int .i64 xd) := (HB5.out.cell (p := ⟨g, j1 * 2 + 1, none⟩) hgz).trans cj1; have y2 : w5.cell? ⟨g, jp * 2, none⟩ = some (.int .i64 an) := (HB5.out.cell (p := ⟨g, jp * 2, none⟩) hgz).trans cp0; have y3 : w5.cell? ⟨g, jp * 2 + 1, none⟩ = some (.int .i64 ad) := (HB5.out.cell (p := ⟨g, jp * 2 + 1, none⟩) hgz).trans cp1; have hz5 := HB5.out.size; clear hb5; dsimp only))
            have HW5 := Lib.hid (HW.out.below HB5.out)
            have HG5 := Lib.hid (HG.out.trans (HB5.out.mono (Nat.le_trans hbw hsz)))
            go_wp2
            go_roundw
            case rel => exact ⟨i + 1, p, by go_num, by omega, by omega, HL, HD, HW5, HG5⟩
            case measure => simp [intOf]; omega
        · obtain rfl : j = 0 := by omega
          have HD := Lib.hid (HI.out.done (.inl rfl))
          rw [show ((0 : Nat) : Int) = 0 from rfl]
          go_wp2_with fail
          go_region
          all_goals go_wp2
          go_roundw
          case rel => exact ⟨i + 1, p, by go_num, by omega, by omega, HL, HD, Lib.hid (HW.out.below (below_drewN (Below.refl _ _) 1)), Lib.hid (below_drewN HG.out 1)⟩
          case measure => simp [intOf]; omega
    · obtain rfl : i = n := by omega
      have HO := Lib.hid (HU.out.all (by rw [HL.out]; exact Nat.le_refl _))
      go_wp2
      go_end0
      exact ⟨rfl, by rw [← HO.out]; exact HW.out, HG.out⟩
set_option maxHeartbeats 2000000 in
theorem insFr_nil (A : Option Addr) (c : Nat) (w : World) :
    Calls Tryz.prog 174 #[.slice A 0 c, .int .i64 0, .int .i64 0, .func (Fn.func 66) #[] #[]] w fun e w' => e = .returned (.tuple #[]) ∧ w' = w := by
  go_enter Tryz.func174, Tryz.ntmps174
  go_wp2
  refine wp_loop_rounds 1 ?_
  rw [rounds_succ]
  go_wp2
  go_end0
  exact ⟨rfl, rfl⟩
set_option maxHeartbeats 2000000 in
set_option maxRecDepth 100000 in
theorem stableFr_any (Q : List Rat) (n g cap base : Nat) (w : World) (hn : 0 < n) (hn6 : n ≤ 6) (hnq : n = Q.length) (hq : ∀ q ∈ Q, QIn q) (hrow : QRow base n g cap Q w) (hbg : base ≤ g) (hbw : base ≤ w.heap.size) :
    Calls Tryz.prog 156 #[.slice (some ⟨g, 0, none⟩) n cap, .int .i64 n, .func (Fn.func 66) #[] #[]] w fun e w' =>
      e = .returned (.tuple #[]) ∧ QRow base n g cap (MM.srt Q) w' ∧ Below base w w' := by
  have HI := Lib.hid (insFr_any Q n g cap base w hn (by omega) hnq hq hrow hbg hbw)
  clear hrow hq hnq
  have hlt : ¬ (20 : Int) ≤ (n : Int) := by omega
  have hlt2 : ¬ (20 : Int) < (n : Int) := by omega
  go_enter Tryz.func156, Tryz.ntmps156
  go_wp2
  refine wp_loop_rounds 1 ?_
  rw [rounds_succ]
  go_wp2_with fail
  refine HI.out.mono ?_; rintro e w' ⟨rfl, h1, h2⟩
  have H1 := Lib.hid h1
  have H2 := Lib.hid h2
  clear h1 h2
  go_wp2
  refine wp_loop_rounds 1 ?_
  rw [rounds_succ]
  go_wp2
  go_end0
  exact ⟨rfl, H1.out, H2.out⟩
set_option maxHeartbeats 2000000 in
set_option maxRecDepth 100000 in
theorem stableFr_nil (A : Option Addr) (c : Nat) (w : World) :
    Calls Tryz.prog 156 #[.slice A 0 c, .int .i64 0, .func (Fn.func 66) #[] #[]] w fun e w' => e = .returned (.tuple #[]) ∧ w' = w := by
  go_enter Tryz.func156, Tryz.ntmps156
  go_wp2
  refine wp_loop_rounds 1 ?_
  rw [rounds_succ]
  go_wp2_with fail
  refine (insFr_nil A c w).mono ?_; rintro e w' ⟨rfl, rfl⟩
  go_wp2
  refine wp_loop_rounds 1 ?_
  rw [rounds_succ]
  go_wp2
  go_end0
  exact ⟨rfl, rfl⟩
/-- whatever row of so many the call itself made -/
theorem sortFr_any (Q : List Rat) (n base : Nat) (v : Value) (w : World) (hn6 : n ≤ 6) (hnq : n = Q.length) (hq : ∀ q ∈ Q, QIn q) (hrow : w.ownsRow base 37 2 v n (qcells Q)) (hbw : base ≤ w.heap.size) :
    Calls Tryz.prog 133 #[v, .func (Fn.func 66) #[] #[]] w fun e w' =>
      e = .returned (.tuple #[]) ∧ w'.ownsRow base 37 2 v n (qcells (MM.srt Q)) ∧ Below base w w' := by
  by_cases h0 : 0 < n
  · obtain ⟨g, cap, rfl, hbg, _, _, _⟩ := own_form hrow h0
    have HI := Lib.hid (stableFr_any Q n g cap base w h0 hn6 hnq hq hrow hbg hbw)
    clear hrow hq hnq
    go_enter Tryz.func133, Tryz.ntmps133
    go_wp2_with fail
    refine HI.out.mono ?_; rintro e w' ⟨rfl, h1, h2⟩
    have H1 := Lib.hid h1
    have H2 := Lib.hid h2
    clear h1 h2
    go_wp2
    go_end0
    exact ⟨rfl, H1.out, H2.out⟩
  · obtain rfl : n = 0 := by omega
    obtain rfl : Q = [] := List.length_eq_zero_iff.1 hnq.symm
    obtain ⟨A, c, rfl, _, _, _⟩ := owns_reads hrow
    have HR := Lib.hid hrow
    clear hrow hq hnq h0 hn6
    go_enter Tryz.func133, Tryz.ntmps133
    go_wp2_with fail
    refine (stableFr_nil A c w).mono ?_; rintro e w' ⟨rfl, rfl⟩
    go_wp2
    go_end0
    exact ⟨rfl, HR.out, Below.refl _ _⟩
end Go.Proofs.YtaijpiebjhhkjaaGreatDoor
/- Package rank: Sorted. -/
namespace Go.Proofs.YtaijpiebjhhkjaaGreatDoor
open Go.RowKit
/-- what is wrong with rates -/
def frsErr (S : List Fr) : Int := if 6 < S.length then 4 else firstFrom (fun i => match S[i]? with | some s => frErr s | none => 0) S.length 0
set_option maxHeartbeats 2000000 in
theorem sorted_fn (A : Option Addr) (c : Nat) (Q : List Rat) (B : Nat) (w : World) (hB : B ≤ w.heap.size) (hf : Frs w B A c (Q.map frQ)) (h6 : Q.length ≤ 6) (hq : ∀ q ∈ Q, QIn q) :
    Calls Tryz.prog 94 #[.func (.func 134) #[] #[.pointer (some ⟨w.heap.size, 0, none⟩)], .func (Fn.func 66) #[] #[]] (w.alloc (.cells #[.slice A Q.length c] 33)) fun e w' => ∃ v, e = .returned v ∧ w'.ownsRow w.heap.size 37 2 v Q.length (qcells (MM.srt Q)) ∧ Below w.heap.size w w' := by
  have hb0 := (Below.refl w.heap.size w).alloc (Nat.le_refl _) (.cells #[.slice A Q.length c] 33)
  have HB0 := Lib.hid hb0
  have hn0 : w.heap.size < (w.alloc (.cells #[.slice A Q.length c] 33)).heap.size := by simp
  have hcl : (w.alloc (.cells #[.slice A Q.length c] 33)).cell? ⟨w.heap.size, 0, none⟩ = some (.slice A Q.length c) := (Blk.new w _ _).cell 0
  have hff : Frs (w.alloc (.cells #[.slice A Q.length c] 33)) (w.alloc (.cells #[.slice A Q.length c] 33)).heap.size A c (Q.map frQ) := (hf.below hb0 hB).more (by omega)
  have HS := Lib.hid (Go.callsIn_wide.1 (appendSeq_in Fence.wide 5 trivial trivial rfl (by omega) w.heap.size A c Q (by omega) _ hn0 hcl hff))
  have HQ := Lib.hid hq
  clear hb0 hcl hff hf hq
  obtain ⟨w1, hw1⟩ : ∃ x, x = w.alloc (.cells #[.slice A Q.length c] 33) := ⟨_, rfl⟩
  rw [← hw1] at HB0 HS hn0 ⊢
  clear hw1
  have HC : Hid (Calls Tryz.prog 132 #[.func (.func 134) #[] #[.pointer (some ⟨w.heap.size, 0, none⟩)]] w1 fun e w' => ∃ v, e = .returned v ∧ w'.ownsRow w1.heap.size 37 2 v Q.length (qcells Q) ∧ Below w1.heap.size w1 w') := Lib.hid (by
    go_enter Tryz.func132, Tryz.ntmps132
    go_wp2_with fail
    refine HS.out.mono ?_; rintro e w2 ⟨v, rfl, ho, hb⟩
    have HO := Lib.hid ho; have HB := Lib.hid hb
    clear ho hb
    obtain ⟨A', c', rfl, _, _, _⟩ := owns_reads HO.out
    go_wp2
    go_ret
    exact ⟨_, rfl, HO.out, HB.out⟩)
  clear HS
  go_enter Tryz.func94, Tryz.ntmps94
  go_wp2_with fail
  refine HC.out.mono ?_; rintro e w2 ⟨v, rfl, ho, hb⟩
  have HO := Lib.hid ho; have HB := Lib.hid hb
  have hs := hb.size
  clear ho hb HC
  obtain ⟨A', c', rfl, _, _, _⟩ := owns_reads HO.out
  go_wp2_with fail
  refine (sortFr_any Q Q.length w1.heap.size _ w2 h6 rfl HQ.out HO.out hs).mono ?_; rintro e w3 ⟨rfl, ho, hb⟩
  have HO3 := Lib.hid (own_baseB ho (Nat.le_of_lt hn0)); have HB3 := Lib.hid ((HB0.out.trans (HB.out.mono (Nat.le_of_lt hn0))).trans (hb.mono (Nat.le_of_lt hn0)))
  clear ho hb
  go_wp2
  go_ret
  exact ⟨_, rfl, HO3.out, HB3.out⟩
end Go.Proofs.YtaijpiebjhhkjaaGreatDoor
/- rank.Sorted: the forms for laws. -/
namespace Go.Proofs.YtaijpiebjhhkjaaGreatDoor
open Go.RowKit
/-- what is wrong with some rates -/
def rkErr (S : List Fr) : Int := if 6 < S.length then 4 else ratesErr S
set_option maxHeartbeats 4000000 in
set_option maxRecDepth 100000 in
theorem rsort_er (A : Option Addr) (c n : Nat) (S : List Fr) (B : Nat) (w : World) (er : Int) (hB : B ≤ w.heap.size) (hr : Frs w B A c S) (hn : n = S.length) (he : rkErr S = er) (h0 : er ≠ 0) :
    Calls Tryz.prog 68 #[.slice A n c] w fun e w' => e = .returned (.tuple #[.slice none 0 0, .iface 74 (.int .i64 er)]) ∧ Below w.heap.size w w' := by
  subst hn
  have HR := Lib.hid hr
  have hm := hr.cap; have hml := hr.le
  unfold maxLen at hm
  clear hr
  unfold rkErr at he
  by_cases h6 : 6 < S.length
  · rw [if_pos h6] at he
    subst he
    have h6' : (6 : Int) < (S.length : Int) := by omega
    clear h0
    go_enter Tryz.func68, Tryz.ntmps68
    go_wp2
    go_ret2
    exact ⟨rfl, Below.refl _ _⟩
  · rw [if_neg h6] at he
    have h6' : decide ((6 : Int) < (S.length : Int)) = false := decide_eq_false (by omega)
    unfold ratesErr at he
    have HEV := Lib.hid he; have H0 := Lib.hid h0
    clear he h0
    go_enter Tryz.func68, Tryz.ntmps68
    go_wp2
    go_loopw [13] (fun i wr => ∃ k : Nat, k ≤ S.length ∧ i = .int .i64 k ∧ Hid (firstFrom (fun i => frErr (S.getD i ⟨0, 1⟩)) (S.length - k) k = er) ∧ Hid (Below w.heap.size w wr)) (fun i _ => S.length - (intOf i).toNat)
    case atStart => exact ⟨0, Nat.zero_le _, rfl, HEV, Lib.hid (Below.refl _ _)⟩
    case round =>
      clear HEV
      obtain ⟨k, hk, rfl, HEV, HB⟩ := hrel
      by_cases hlt : k < S.length
      · obtain ⟨b, off, s, rfl, hb, c0, c1, HX⟩ := (HR.out.below HB.out hB).elem hlt
        have k0 : (0 : Int) ≤ (k : Int) := by omega
        have hbz : b < wr.heap.size := by have := HB.out.size; omega
        have hs := HEV.out
        rw [firstFrom_step hlt] at hs
        have hg : S.getD k ⟨0, 1⟩ = s := by rw [List.getD_eq_getElem?_getD, HX.out]; rfl
        simp only [hg] at hs
        obtain ⟨t, d⟩ := s
        simp only at c0 c1
        by_cases hz : frErr ⟨t, d⟩ = 0
        · rw [if_pos hz] at hs
          have HS := Lib.hid hs
          have HZ := Lib.hid (show fracErr t d = 0 from hz)
          have hB1 := HB.out.size
          clear hs hz hg HX
          go_wp2_with fail
          refine (fcheck_yes t d _ HZ.out).mono ?_; rintro e w2 ⟨rfl, hb2⟩
          have HB2 := Lib.hid ((HB.out.alloc hB1 (.cells #[.int .i64 t, .int .i64 d] 37)).trans (hb2.mono (by simp; omega)))
          clear hb2
          go_wp2
          go_roundw
          case rel => exact ⟨k + 1, by omega, by go_num, HS, HB2⟩
          case measure => simp [intOf]; omega
        · rw [if_neg hz] at hs
          have HZ := Lib.hid (show fracErr t d = er from hs)
          have hB1 := HB.out.size
          clear hs hz hg HX
          go_wp2_with fail
          refine (fcheck_no t d er _ HZ.out H0.out).mono ?_; rintro e w2 ⟨rfl, hb2⟩
          have HB2 := Lib.hid ((HB.out.alloc hB1 (.cells #[.int .i64 t, .int .i64 d] 37)).trans (hb2.mono (by simp; omega)))
          clear hb2
          go_wp2
          go_ret2
          exact ⟨rfl, HB2.out⟩
      · obtain rfl : k = S.length := by omega
        have hs := HEV.out
        rw [firstFrom_end] at hs
        exact absurd hs.symm H0.out
set_option maxHeartbeats 4000000 in
set_option maxRecDepth 100000 in
theorem rsort_yes (A : Option Addr) (c n : Nat) (Q : List Rat) (B : Nat) (w : World) (hB : B ≤ w.heap.size) (hr : Frs w B A c (Q.map frQ)) (hn : n = Q.length) (h6 : Q.length ≤ 6) (hq : ∀ q ∈ Q, QIn q) :
    Calls Tryz.prog 68 #[.slice A n c] w fun e w' => ∃ A' c', e = .returned (.tuple #[.slice A' Q.length c', .nilIface]) ∧ Frs w' w'.heap.size A' c' ((MM.srt Q).map frQ) ∧ Below w.heap.size w w' := by
  subst hn
  have HR := Lib.hid hr; have HQ := Lib.hid hq
  have hm := hr.cap; have hml := hr.le
  rw [List.length_map] at hml
  unfold maxLen at hm
  clear hr hq
  have h6' : decide ((6 : Int) < (Q.length : Int)) = false := decide_eq_false (by omega)
  go_enter Tryz.func68, Tryz.ntmps68
  go_wp2
  go_loopw [13] (fun i wr => ∃ k : Nat, k ≤ Q.length ∧ i = .int .i64 k ∧ Hid (Below w.heap.size w wr)) (fun i _ => Q.length - (intOf i).toNat)
  case atStart => exact ⟨0, Nat.zero_le _, rfl, Lib.hid (Below.refl _ _)⟩
  case round =>
    obtain ⟨k, hk, rfl, HB⟩ := hrel
    have hB1 := HB.out.size
    by_cases hlt : k < Q.length
    · obtain ⟨b, off, rfl, hb, c0, c1⟩ := frs_q (HR.out.below HB.out hB) hlt
      have k0 : (0 : Int) ≤ (k : Int) := by omega
      have hbz : b < wr.heap.size := by omega
      obtain ⟨q, hqq⟩ : ∃ q, Q.getD k 0 = q := ⟨_, rfl⟩
      have HQK := Lib.hid (show QIn q from HQ.out q (by rw [← hqq, List.getD_eq_getElem?_getD, List.getElem?_eq_getElem hlt]; exact List.getElem_mem hlt))
      rw [hqq] at c0 c1
      clear hqq
      go_wp2_with fail
      refine (fcheck_q q _ HQK.out).mono ?_; rintro e w2 ⟨rfl, hb2⟩
      have HB2 := Lib.hid ((HB.out.alloc hB1 (.cells #[.int .i64 q.num, .int .i64 q.den] 37)).trans (hb2.mono (by simp; omega)))
      clear hb2
      go_wp2
      go_roundw
      case rel => exact ⟨k + 1, by omega, by go_num, HB2⟩
      case measure => simp [intOf]; omega
    · obtain rfl : k = Q.length := by omega
      have HR1 := Lib.hid ((HR.out.below HB.out hB).more (Nat.le_trans hB hB1))
      go_wp2_with fail
      refine (Go.callsIn_wide.1 (values_in Fence.wide 5 trivial rfl A Q.length c wr)).mono ?_; rintro e w2 ⟨rfl, rfl⟩
      go_wp2_with fail
      refine (sorted_fn A c Q wr.heap.size wr (Nat.le_refl _) HR1.out h6 HQ.out).mono ?_; rintro e w3 ⟨v, rfl, ho, hb3⟩
      have HB3 := Lib.hid (HB.out.trans (hb3.mono hB1))
      obtain ⟨A', c', rfl, hnn, hf⟩ := owns_frs (S := (MM.srt Q).map frQ) ho
      rw [List.length_map, QS.srt_len]
      have HF := Lib.hid hf
      clear ho hb3 hf hnn
      go_wp2
      go_ret2
      exact ⟨A', c', rfl, HF.out, HB3.out⟩
end Go.Proofs.YtaijpiebjhhkjaaGreatDoor
/- rank.Compare, rank.Least: the forms for laws. -/
namespace Go.Proofs.YtaijpiebjhhkjaaGreatDoor
open Go.RowKit
theorem lex_step {Q R : List Rat} {k : Nat} {q r : Rat} (hq : Q[k]? = some q) (hr : R[k]? = some r) : MM.lex (Q.drop k) (R.drop k) = if ordQ q r = 0 then MM.lex (Q.drop (k + 1)) (R.drop (k + 1)) else ordQ q r := by
  obtain ⟨h1, e1⟩ := List.getElem?_eq_some_iff.1 hq
  obtain ⟨h2, e2⟩ := List.getElem?_eq_some_iff.1 hr
  rw [List.drop_eq_getElem_cons h1, List.drop_eq_getElem_cons h2, e1, e2]
  show (if q < r then -1 else if r < q then 1 else _) = _
  unfold ordQ
  by_cases h : q < r
  · simp [h]
  · by_cases h' : r < q
    · simp [h, h']
    · simp [h, h']
theorem q_at {Q : List Rat} {k : Nat} (h : k < Q.length) : Q[k]? = some (Q.getD k 0) := by rw [List.getD_eq_getElem?_getD, List.getElem?_eq_getElem h]; rfl
theorem q_mem {Q : List Rat} {k : Nat} (h : k < Q.length) : Q.getD k 0 ∈ Q := List.mem_of_getElem? (q_at h)
set_option maxHeartbeats 4000000 in
set_option maxRecDepth 100000 in
theorem cmpF_any (A A' : Option Addr) (c c' n : Nat) (Q R : List Rat) (o : Int) (w : World) (hf : Frs w w.heap.size A c (Q.map frQ)) (hg : Frs w w.heap.size A' c' (R.map frQ)) (hn : Q.length = n) (hn' : R.length = n) (hq : ∀ q ∈ Q, QIn q) (hr : ∀ q ∈ R, QIn q) (ho : MM.lex Q R = o) :
    Calls Tryz.prog 69 #[.slice A n c, .slice A' n c', .func (Fn.func 66) #[] #[]] w fun e w' => e = .returned (.int .i64 o) ∧ Below w.heap.size w w' := by
  have HF := Lib.hid hf; have HG := Lib.hid hg; have HQ := Lib.hid hq; have HR := Lib.hid hr
  have HN := Lib.hid hn; have HN' := Lib.hid hn'
  have HO : Hid (MM.lex (Q.drop 0) (R.drop 0) = o) := Lib.hid ho
  have hm := hf.cap; have hml := hf.le; have hm' := hg.cap; have hml' := hg.le
  rw [List.length_map, hn] at hml
  rw [List.length_map, hn'] at hml'
  unfold maxLen at hm hm'
  clear hf hg hq hr hn hn' ho
  go_enter Tryz.func69, Tryz.ntmps69
  go_wp2
  go_loopw [13] (fun i wr => ∃ k : Nat, k ≤ n ∧ i = .int .i64 k ∧ Hid (MM.lex (Q.drop k) (R.drop k) = o) ∧ Hid (Below w.heap.size w wr)) (fun i _ => n - (intOf i).toNat)
  case atStart => exact ⟨0, Nat.zero_le _, rfl, HO, Lib.hid (Below.refl _ _)⟩
  case round =>
    clear HO
    obtain ⟨k, hk, rfl, HO, HB⟩ := hrel
    have hB1 := HB.out.size
    by_cases hlt : k < n
    · have k0 : (0 : Int) ≤ (k : Int) := by omega
      have k1 : (k : Int) < (n : Int) := by omega
      have hkq : k < Q.length := by rw [HN.out]; exact hlt
      have hkr : k < R.length := by rw [HN'.out]; exact hlt
      obtain ⟨b, off, rfl, hb, c0, c1⟩ := frs_q (HF.out.below HB.out (Nat.le_refl _)) hkq
      obtain ⟨b', off', rfl, hb', d0, d1⟩ := frs_q (HG.out.below HB.out (Nat.le_refl _)) hkr
      have hst := HO.out
      rw [lex_step (q_at hkq) (q_at hkr)] at hst
      have hqi := HQ.out _ (q_mem hkq)
      have hri := HR.out _ (q_mem hkr)
      obtain ⟨q, hqq⟩ : ∃ q, Q.getD k 0 = q := ⟨_, rfl⟩
      obtain ⟨r, hrr⟩ : ∃ r, R.getD k 0 = r := ⟨_, rfl⟩
      rw [hqq] at c0 c1 hst hqi
      rw [hrr] at d0 d1 hst hri
      obtain ⟨o', ho'⟩ : ∃ o', ordQ q r = o' := ⟨_, rfl⟩
      have HC := Lib.hid fun W => order_q q r o' W hqi hri ho'
      rw [ho'] at hst
      have hbz : b < wr.heap.size := by omega
      have hbz' : b' < wr.heap.size := by omega
      have HB2 := Lib.hid ((HB.out.alloc hB1 (.cells #[.int .i64 q.num, .int .i64 q.den] 37)).alloc (by simp; omega) (.cells #[.int .i64 r.num, .int .i64 r.den] 37))
      clear hqq hrr ho' hqi hri hkq hkr
      by_cases hz : o' = 0
      · rw [if_pos hz] at hst
        have HS := Lib.hid hst
        subst hz
        clear hst
        go_wp2_with fail
        refine (HC.out _).mono ?_; rintro e w5 ⟨rfl, hb5⟩
        have HB5 := Lib.hid (HB2.out.trans (hb5.mono HB2.out.size))
        clear hb5
        go_wp2
        go_roundw
        case rel => exact ⟨k + 1, by omega, by go_num, HS, HB5⟩
        case measure => simp [intOf]; omega
      · rw [if_neg hz] at hst
        subst hst
        have hz' : (o' == 0) = false := beq_eq_false_iff_ne.2 hz
        go_wp2_with fail
        refine (HC.out _).mono ?_; rintro e w5 ⟨rfl, hb5⟩
        have HB5 := Lib.hid (HB2.out.trans (hb5.mono HB2.out.size))
        clear hb5
        go_wp2
        go_ret
        exact ⟨rfl, HB5.out⟩
    · obtain rfl : k = n := by omega
      have hst := HO.out
      rw [List.drop_of_length_le (by rw [HN.out]; exact Nat.le_refl _), List.drop_of_length_le (by rw [HN'.out]; exact Nat.le_refl _)] at hst
      have hst : (0 : Int) = o := hst
      subst hst
      go_wp2
      go_ret
      exact ⟨rfl, HB.out⟩
theorem srt_in {Q : List Rat} (hq : ∀ q ∈ Q, QIn q) : ∀ q ∈ MM.srt Q, QIn q := fun q h => hq q ((MM.perm_srt Q).mem_iff.1 h)
set_option maxHeartbeats 4000000 in
theorem rcmp_yes (A A' : Option Addr) (c c' n n' : Nat) (Q R : List Rat) (o : Int) (B : Nat) (w : World) (hB : B ≤ w.heap.size) (hf : Frs w B A c (Q.map frQ)) (hg : Frs w B A' c' (R.map frQ)) (hn : n = Q.length) (hn' : n' = R.length) (hl : Q.length = R.length) (h6 : Q.length ≤ 6) (hq : ∀ q ∈ Q, QIn q) (hr : ∀ q ∈ R, QIn q) (ho : MM.lex (MM.srt Q) (MM.srt R) = o) :
    Calls Tryz.prog 35 #[.slice A n c, .slice A' n' c'] w fun e w' => e = .returned (.tuple #[.int .i64 o, .nilIface]) ∧ Below w.heap.size w w' := by
  have HX := Lib.hid (rsort_yes A c n Q B w hB hf hn h6 hq)
  have HY := Lib.hid fun (W : World) (h : Below w.heap.size w W) => rsort_yes A' c' n' R B W (Nat.le_trans hB h.size) (hg.below h hB) hn' (by omega) hr
  have HQ := Lib.hid (srt_in hq); have HR := Lib.hid (srt_in hr); have HO := Lib.hid ho
  have HL := Lib.hid (QS.srt_len Q); have HL' := Lib.hid ((QS.srt_len R).trans hl.symm)
  obtain ⟨m, hm⟩ : ∃ m, Q.length = m := ⟨_, rfl⟩
  rw [← hl] at HY
  rw [hm] at HX HY HL HL'
  clear hf hg hn hn' hl h6 hq hr ho hm
  go_enter Tryz.func35, Tryz.ntmps35
  go_wp2_with fail
  refine HX.out.mono ?_; rintro e w1 ⟨A1, c1, rfl, hf1, hb1⟩
  have HF := Lib.hid hf1; have HB := Lib.hid hb1
  have hs := hb1.size
  clear hf1 hb1
  go_wp2_with fail
  refine (HY.out _ HB.out).mono ?_; rintro e w2 ⟨A2, c2, rfl, hf2, hb2⟩
  have HFx := Lib.hid (HF.out.at' hb2); have HG := Lib.hid hf2; have HB2 := Lib.hid (HB.out.trans (hb2.mono hs))
  clear hf2 hb2 HF
  go_wp2_with fail
  refine (cmpF_any A1 A2 c1 c2 m (MM.srt Q) (MM.srt R) o w2 HFx.out HG.out HL.out HL'.out HQ.out HR.out HO.out).mono ?_; rintro e w3 ⟨rfl, hb3⟩
  have HB3 := Lib.hid (HB2.out.trans (hb3.mono HB2.out.size))
  clear hb3
  go_wp2
  go_ret2
  exact ⟨rfl, HB3.out⟩
theorem rk_ok {S : List Fr} (h : rkErr S = 0) : ∃ Q : List Rat, S = Q.map frQ ∧ Q.length ≤ 6 ∧ ∀ q ∈ Q, QIn q := by
  unfold rkErr at h
  by_cases h6 : 6 < S.length
  · rw [if_pos h6] at h; exact absurd h (by decide)
  · rw [if_neg h6] at h
    obtain ⟨Q, rfl, hq⟩ := ratesErr_ok h
    exact ⟨Q, rfl, by simp at h6; exact h6, hq⟩
theorem rk_of {Q : List Rat} (h6 : Q.length ≤ 6) (hq : ∀ q ∈ Q, QIn q) : rkErr (Q.map frQ) = 0 := by
  unfold rkErr
  rw [if_neg (by simp; omega), ratesErr_of hq]
/-- what is wrong with two that are compared -/
def cmpErr (S T : List Fr) : Int := if rkErr S = 0 then (if rkErr T = 0 then (if S.length = T.length then 0 else 3) else rkErr T) else rkErr S
set_option maxHeartbeats 4000000 in
theorem rcmp_er (A A' : Option Addr) (c c' n n' : Nat) (S T : List Fr) (er : Int) (B : Nat) (w : World) (hB : B ≤ w.heap.size) (hf : Frs w B A c S) (hg : Frs w B A' c' T) (hn : n = S.length) (hn' : n' = T.length) (he : cmpErr S T = er) (h0 : er ≠ 0) :
    Calls Tryz.prog 35 #[.slice A n c, .slice A' n' c'] w fun e w' => e = .returned (.tuple #[.int .i64 0, .iface 74 (.int .i64 er)]) ∧ Below w.heap.size w w' := by
  unfold cmpErr at he
  by_cases h1 : rkErr S = 0
  · rw [if_pos h1] at he
    obtain ⟨Q, rfl, h6, hq⟩ := rk_ok h1
    have HX := Lib.hid (rsort_yes A c n Q B w hB hf (by rw [hn, List.length_map]) h6 hq)
    by_cases h2 : rkErr T = 0
    · rw [if_pos h2] at he
      obtain ⟨R, rfl, h6', hr⟩ := rk_ok h2
      have hd : Q.length ≠ R.length := fun e => by rw [if_pos (by simpa using e)] at he; exact h0 he.symm
      rw [if_neg (by simpa using hd)] at he
      subst he
      have HY := Lib.hid fun (W : World) (h : Below w.heap.size w W) => rsort_yes A' c' n' R B W (Nat.le_trans hB h.size) (hg.below h hB) (by rw [hn', List.length_map]) h6' hr
      have hdd : ((Q.length : Int) != (R.length : Int)) = true := by rw [bne_iff_ne]; omega
      clear hf hg hn hn' h6 h6' hq hr h0 h1 h2 hd
      go_enter Tryz.func35, Tryz.ntmps35
      go_wp2_with fail
      refine HX.out.mono ?_; rintro e w1 ⟨A1, c1, rfl, _, hb1⟩
      have HB := Lib.hid hb1
      have hs := hb1.size
      clear hb1
      go_wp2_with fail
      refine (HY.out _ HB.out).mono ?_; rintro e w2 ⟨A2, c2, rfl, _, hb2⟩
      have HB2 := Lib.hid (HB.out.trans (hb2.mono hs))
      clear hb2
      go_wp2
      go_ret2
      exact ⟨rfl, HB2.out⟩
    · rw [if_neg h2] at he
      have HY := Lib.hid fun (W : World) (h : Below w.heap.size w W) => rsort_er A' c' n' T B W er (Nat.le_trans hB h.size) (hg.below h hB) hn' he h0
      clear hf hg hn hn' h6 hq h0 h1 h2 he
      go_enter Tryz.func35, Tryz.ntmps35
      go_wp2_with fail
      refine HX.out.mono ?_; rintro e w1 ⟨A1, c1, rfl, _, hb1⟩
      have HB := Lib.hid hb1
      have hs := hb1.size
      clear hb1
      go_wp2_with fail
      refine (HY.out _ HB.out).mono ?_; rintro e w2 ⟨rfl, hb2⟩
      have HB2 := Lib.hid (HB.out.trans (hb2.mono hs))
      clear hb2
      go_wp2
      go_ret2
      exact ⟨rfl, HB2.out⟩
  · rw [if_neg h1] at he
    have HX := Lib.hid (rsort_er A c n S B w er hB hf hn he h0)
    clear hf hg hn hn' h0 h1 he
    go_enter Tryz.func35, Tryz.ntmps35
    go_wp2_with fail
    refine HX.out.mono ?_; rintro e w1 ⟨rfl, hb1⟩
    have HB := Lib.hid hb1
    clear hb1
    go_wp2
    go_ret2
    exact ⟨rfl, HB.out⟩
set_option maxHeartbeats 4000000 in
theorem rleast_er (A : Option Addr) (c n : Nat) (S : List Fr) (er : Int) (B : Nat) (w : World) (hB : B ≤ w.heap.size) (hf : Frs w B A c S) (hn : n = S.length) (he : rkErr S = er) (h0 : er ≠ 0) :
    Calls Tryz.prog 149 #[.slice A n c] w fun e w' => e = .returned (.tuple #[.agg #[.int .i64 0, .int .i64 0], .iface 74 (.int .i64 er)]) ∧ Below w.heap.size w w' := by
  have HR0 := Lib.hid (Blk.new w 37 #[.int .i64 0, .int .i64 0])
  have HB0 := Lib.hid ((Below.refl w.heap.size w).alloc (Nat.le_refl _) (.cells #[.int .i64 0, .int .i64 0] 37))
  have HX := Lib.hid fun (W : World) (h : Below w.heap.size w W) => rsort_er A c n S B W er (Nat.le_trans hB h.size) (hf.below h hB) hn he h0
  clear hf hn h0 he
  go_enter Tryz.func149, Tryz.ntmps149
  go_wp2_with fail
  refine (HX.out _ HB0.out).mono ?_; rintro e w1 ⟨rfl, hb1⟩
  have HR1 := Lib.hid (HR0.out.go hb1)
  have HB1 := Lib.hid (HB0.out.trans (hb1.mono HB0.out.size))
  obtain ⟨r0, r1, rf0, rf1, rz⟩ := HR1.out.two
  have HBF := Lib.hid ((HB1.out.setCell (p := ⟨w.heap.size, 0, none⟩) (Nat.le_refl _) (.int .i64 0)).setCell (p := ⟨w.heap.size, 1, none⟩) (Nat.le_refl _) (.int .i64 0))
  clear hb1
  go_wp2
  exact bodyPost_ret (v := .tuple #[.agg #[.int .i64 0, .int .i64 0], .iface 74 (.int .i64 er)]) (by simp [results, Tryz.results149, go_sem, r0, r1]) rfl ⟨rfl, HBF.out⟩
set_option maxHeartbeats 4000000 in
theorem rleast_none (A : Option Addr) (c : Nat) (w : World) (hf : Frs w w.heap.size A c []) :
    Calls Tryz.prog 149 #[.slice A 0 c] w fun e w' => e = .returned (.tuple #[.agg #[.int .i64 0, .int .i64 0], .iface 74 (.int .i64 5)]) ∧ Below w.heap.size w w' := by
  have HR0 := Lib.hid (Blk.new w 37 #[.int .i64 0, .int .i64 0])
  have HB0 := Lib.hid ((Below.refl w.heap.size w).alloc (Nat.le_refl _) (.cells #[.int .i64 0, .int .i64 0] 37))
  have HX := Lib.hid (rsort_yes A c 0 [] _ _ (Nat.le_refl _) (hf.at' HB0.out) rfl (by decide) (fun q hq => by cases hq))
  clear hf
  go_enter Tryz.func149, Tryz.ntmps149
  go_wp2_with fail
  refine HX.out.mono ?_; rintro e w1 ⟨A1, c1, rfl, _, hb1⟩
  have HR1 := Lib.hid (HR0.out.go hb1)
  have HB1 := Lib.hid (HB0.out.trans (hb1.mono HB0.out.size))
  obtain ⟨r0, r1, rf0, rf1, rz⟩ := HR1.out.two
  have HBF := Lib.hid ((HB1.out.setCell (p := ⟨w.heap.size, 0, none⟩) (Nat.le_refl _) (.int .i64 0)).setCell (p := ⟨w.heap.size, 1, none⟩) (Nat.le_refl _) (.int .i64 0))
  clear hb1
  go_wp2
  exact bodyPost_ret (v := .tuple #[.agg #[.int .i64 0, .int .i64 0], .iface 74 (.int .i64 5)]) (by simp [results, Tryz.results149, go_sem, r0, r1]) rfl ⟨rfl, HBF.out⟩
set_option maxHeartbeats 4000000 in
theorem rleast_yes (A : Option Addr) (c n : Nat) (Q : List Rat) (m : Rat) (B : Nat) (w : World) (hB : B ≤ w.heap.size) (hf : Frs w B A c (Q.map frQ)) (hn : n = Q.length) (h6 : Q.length ≤ 6) (hq : ∀ q ∈ Q, QIn q) (hm : (MM.srt Q)[0]? = some m) :
    Calls Tryz.prog 149 #[.slice A n c] w fun e w' => e = .returned (.tuple #[.agg #[.int .i64 m.num, .int .i64 m.den], .nilIface]) ∧ Below w.heap.size w w' := by
  have HR0 := Lib.hid (Blk.new w 37 #[.int .i64 0, .int .i64 0])
  have HB0 := Lib.hid ((Below.refl w.heap.size w).alloc (Nat.le_refl _) (.cells #[.int .i64 0, .int .i64 0] 37))
  have HX := Lib.hid fun (W : World) (h : Below w.heap.size w W) => rsort_yes A c n Q B W (Nat.le_trans hB h.size) (hf.below h hB) hn h6 hq
  have h0 : 0 < (MM.srt Q).length := (List.getElem?_eq_some_iff.1 hm).1
  have hgd : (MM.srt Q).getD 0 0 = m := by rw [List.getD_eq_getElem?_getD, hm]; rfl
  have HGD := Lib.hid hgd; have H0 := Lib.hid h0
  have h0' : 0 < Q.length := by rwa [QS.srt_len] at h0
  have h1' : ((Q.length : Int) == 0) = false := beq_eq_false_iff_ne.2 (by omega)
  have h2' : ¬ (Q.length : Int) = 0 := by omega
  clear hf hn hq hm hgd h0
  go_enter Tryz.func149, Tryz.ntmps149
  go_wp2_with fail
  refine (HX.out _ HB0.out).mono ?_; rintro e w1 ⟨A1, c1, rfl, hf1, hb1⟩
  obtain ⟨b, off, rfl, hb, c0, d0⟩ := frs_q hf1 H0.out
  rw [HGD.out] at c0 d0
  rw [Nat.zero_mul, Nat.add_zero] at c0 d0
  have HR1 := Lib.hid (HR0.out.go hb1)
  have HB1 := Lib.hid (HB0.out.trans (hb1.mono HB0.out.size))
  obtain ⟨r0, r1, rf0, rf1, rz⟩ := HR1.out.two
  have HBF := Lib.hid ((HB1.out.setCell (p := ⟨w.heap.size, 0, none⟩) (Nat.le_refl _) (.int .i64 m.num)).setCell (p := ⟨w.heap.size, 1, none⟩) (Nat.le_refl _) (.int .i64 m.den))
  clear hb1 hf1
  go_wp2
  exact bodyPost_ret (v := .tuple #[.agg #[.int .i64 m.num, .int .i64 m.den], .nilIface]) (by simp [results, Tryz.results149, go_sem, r0, r1]) rfl ⟨rfl, HBF.out⟩
end Go.Proofs.YtaijpiebjhhkjaaGreatDoor
