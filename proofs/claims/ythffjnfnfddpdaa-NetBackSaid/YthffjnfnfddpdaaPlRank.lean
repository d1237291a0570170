/- Ranks in plain words: who is ahead of whom, the best of those not taken, an insertion sort. -/
import Derived.Test.YthffjnfnfddpdaaBase
namespace Go.Proofs.Ythffjnfnfddpdaa
namespace PR
/-- is j ahead of i: it has the greater key, or as great a one and stands first -/
def ahead (key : Nat → Int) (j i : Nat) : Bool := decide (key i < key j) || (decide (key j = key i) && decide (j < i))
/-- how many of the first n are ahead of i -/
def rank (key : Nat → Int) (n i : Nat) : Nat := (List.range n).countP fun j => ahead key j i

theorem ahead_irr (key : Nat → Int) (i : Nat) : ahead key i i = false := by simp [ahead]
theorem ahead_asymm {key : Nat → Int} {i j : Nat} (h : ahead key i j = true) : ahead key j i = false := by
  simp only [ahead, Bool.or_eq_true, Bool.and_eq_true, decide_eq_true_eq, Bool.or_eq_false_iff, Bool.and_eq_false_imp, decide_eq_false_iff_not] at *; omega
theorem ahead_total {key : Nat → Int} {i j : Nat} (h : i ≠ j) : ahead key i j = true ∨ ahead key j i = true := by
  simp only [ahead, Bool.or_eq_true, Bool.and_eq_true, decide_eq_true_eq]; omega
theorem ahead_trans {key : Nat → Int} {i j k : Nat} (h : ahead key i j = true) (h' : ahead key j k = true) : ahead key i k = true := by
  simp only [ahead, Bool.or_eq_true, Bool.and_eq_true, decide_eq_true_eq] at *; omega

/-- a list of the first n, each once, those ahead first: each stands at its rank -/
theorem rank_of_sorted {key : Nat → Int} {n : Nat} {o : List Nat} (hp : o.Perm (List.range n)) (hs : o.Pairwise fun a b => ahead key a b = true) {A B : List Nat} {i : Nat} (he : o = A ++ i :: B) : rank key n i = A.length := by
  unfold rank
  rw [← hp.countP_eq, he, List.countP_append, List.countP_cons]
  rw [he, List.pairwise_append, List.pairwise_cons] at hs
  have h1 : A.countP (fun j => ahead key j i) = A.length := List.countP_eq_length.2 fun a ha => hs.2.2 a ha i List.mem_cons_self
  have h2 : B.countP (fun j => ahead key j i) = 0 := List.countP_eq_zero.2 fun b hb => by
    have := ahead_asymm (hs.2.1.1 b hb); simp [this]
  rw [h1, h2, ahead_irr]; simp

theorem mem_take_iff {key : Nat → Int} {n : Nat} {o : List Nat} (hp : o.Perm (List.range n)) (hs : o.Pairwise fun a b => ahead key a b = true) (m : Nat) {i : Nat} (hi : i < n) : i ∈ o.take m ↔ rank key n i < m := by
  have hm : i ∈ o := hp.mem_iff.2 (List.mem_range.2 hi)
  obtain ⟨A, B, he⟩ := List.append_of_mem hm
  rw [rank_of_sorted hp hs he]
  have hnd : o.Nodup := hp.nodup_iff.2 List.nodup_range
  constructor
  · intro h
    apply Classical.byContradiction
    intro hc
    rw [he, List.take_append_of_le_length (by omega)] at h
    have hA : i ∈ A := List.mem_of_mem_take h
    rw [he, List.nodup_append] at hnd
    exact hnd.2.2 i hA i List.mem_cons_self rfl
  · intro h
    rw [he, List.take_append, List.mem_append]
    right
    obtain ⟨k, hk⟩ : ∃ k, m - A.length = k + 1 := ⟨m - A.length - 1, by omega⟩
    rw [hk, List.take_succ_cons]
    exact List.mem_cons_self

/-- insert an index behind all that are ahead of it -/
def ins (key : Nat → Int) (x : Nat) : List Nat → List Nat
  | [] => [x]
  | a :: l => if ahead key a x then a :: ins key x l else x :: a :: l
def srt (key : Nat → Int) : Nat → List Nat
  | 0 => []
  | n + 1 => ins key n (srt key n)
theorem ins_perm (key : Nat → Int) (x : Nat) (l : List Nat) : (ins key x l).Perm (x :: l) := by
  induction l with
  | nil => exact List.Perm.refl _
  | cons a l ih =>
    unfold ins; split
    · exact (List.Perm.cons a ih).trans (List.Perm.swap x a l)
    · exact List.Perm.refl _
theorem srt_perm (key : Nat → Int) (n : Nat) : (srt key n).Perm (List.range n) := by
  induction n with
  | zero => exact List.Perm.refl _
  | succ n ih =>
    rw [List.range_succ]
    exact (ins_perm key n _).trans ((List.Perm.cons n ih).trans (List.perm_append_singleton n _).symm)
theorem ins_up {key : Nat → Int} {x : Nat} {l : List Nat} (hx : x ∉ l) (h : l.Pairwise fun a b => ahead key a b = true) : (ins key x l).Pairwise fun a b => ahead key a b = true := by
  induction l with
  | nil => unfold ins; simp
  | cons a l ih =>
    rw [List.pairwise_cons] at h
    simp only [List.mem_cons, not_or] at hx
    unfold ins; split
    · rename_i hax
      rw [List.pairwise_cons]
      refine ⟨fun b hb => ?_, ih hx.2 h.2⟩
      rcases List.mem_cons.1 ((ins_perm key x l).mem_iff.1 hb) with e | e
      · subst e; exact hax
      · exact h.1 b e
    · rename_i hax
      have hxa : ahead key x a = true := by
        rcases ahead_total (key := key) hx.1 with e | e
        · exact e
        · exact absurd e hax
      rw [List.pairwise_cons]
      refine ⟨fun b hb => ?_, List.pairwise_cons.2 h⟩
      rcases List.mem_cons.1 hb with e | e
      · subst e; exact hxa
      · exact ahead_trans hxa (h.1 b e)
theorem srt_up (key : Nat → Int) (n : Nat) : (srt key n).Pairwise fun a b => ahead key a b = true := by
  induction n with
  | zero => exact List.Pairwise.nil
  | succ n ih =>
    refine ins_up (fun h => ?_) ih
    have := List.mem_range.1 ((srt_perm key n).mem_iff.1 h)
    omega
theorem srt_len (key : Nat → Int) (n : Nat) : (srt key n).length = n := by rw [(srt_perm key n).length_eq]; simp

/-- there is one at each place -/
theorem at_rank (key : Nat → Int) {n t : Nat} (ht : t < n) : ∃ i, i < n ∧ rank key n i = t := by
  have hl : t < (srt key n).length := by rw [srt_len]; exact ht
  refine ⟨(srt key n)[t], List.mem_range.1 ((srt_perm key n).mem_iff.1 (List.getElem_mem hl)), ?_⟩
  have he : srt key n = (srt key n).take t ++ (srt key n)[t] :: (srt key n).drop (t + 1) := by
    rw [List.getElem_cons_drop, List.take_append_drop]
  rw [rank_of_sorted (srt_perm key n) (srt_up key n) he]
  simp; omega
theorem rank_lt (key : Nat → Int) {n i : Nat} (hi : i < n) : rank key n i < n := by
  have hm : i ∈ srt key n := (srt_perm key n).mem_iff.2 (List.mem_range.2 hi)
  obtain ⟨A, B, he⟩ := List.append_of_mem hm
  rw [rank_of_sorted (srt_perm key n) (srt_up key n) he]
  have := srt_len key n
  rw [he, List.length_append, List.length_cons] at this
  omega
theorem rank_mono {key : Nat → Int} {n i j : Nat} (hi : i < n) (h : ahead key i j = true) : rank key n i < rank key n j := by
  unfold rank
  have hsub : ∀ k, ahead key k i = true → ahead key k j = true := fun k hk => ahead_trans hk h
  have : (List.range n).countP (fun k => ahead key k i) + 1 ≤ (List.range n).countP (fun k => ahead key k j) := by
    obtain ⟨A, B, he⟩ := List.append_of_mem (List.mem_range.2 hi)
    rw [he, List.countP_append, List.countP_append, List.countP_cons, List.countP_cons, ahead_irr, h]
    have a := List.countP_mono_left (l := A) (p := fun k => ahead key k i) (q := fun k => ahead key k j) fun k _ hk => hsub k hk
    have b := List.countP_mono_left (l := B) (p := fun k => ahead key k i) (q := fun k => ahead key k j) fun k _ hk => hsub k hk
    simp; omega
  omega
theorem rank_inj {key : Nat → Int} {n i j : Nat} (hi : i < n) (hj : j < n) (h : rank key n i = rank key n j) : i = j := by
  apply Classical.byContradiction
  intro hne
  rcases ahead_total (key := key) hne with e | e
  · have := rank_mono hi e; omega
  · have := rank_mono hj e; omega
/-- the sum of ones at ranks below m is m -/
theorem ones (key : Nat → Int) (n m : Nat) (hm : m ≤ n) : (List.range n).countP (fun i => decide (rank key n i < m)) = m := by
  rw [← (srt_perm key n).countP_eq]
  have hsplit := List.take_append_drop m (srt key n)
  rw [← hsplit, List.countP_append]
  have h1 : ((srt key n).take m).countP (fun i => decide (rank key n i < m)) = m := by
    rw [List.countP_eq_length.2, List.length_take, srt_len]
    · omega
    · intro i hi
      have hin : i < n := List.mem_range.1 ((srt_perm key n).mem_iff.1 (List.mem_of_mem_take hi))
      simpa using (mem_take_iff (srt_perm key n) (srt_up key n) m hin).1 hi
  have h2 : ((srt key n).drop m).countP (fun i => decide (rank key n i < m)) = 0 := by
    rw [List.countP_eq_zero]
    intro i hi hlt
    have hin : i < n := List.mem_range.1 ((srt_perm key n).mem_iff.1 (List.mem_of_mem_drop hi))
    have ht := (mem_take_iff (srt_perm key n) (srt_up key n) m hin).2 (by simpa using hlt)
    have hnd : (srt key n).Nodup := (srt_perm key n).nodup_iff.2 List.nodup_range
    rw [← hsplit, List.nodup_append] at hnd
    exact hnd.2.2 i ht i hi rfl
  omega
/-- the best of the first k that are not taken -/
def Best (key : Nat → Int) (got : Nat → Bool) (k b : Nat) : Prop := b < k ∧ got b = false ∧ ∀ j, j < k → got j = false → j = b ∨ ahead key b j = true
theorem Best.skip {key : Nat → Int} {got : Nat → Bool} {k b : Nat} (h : Best key got k b) (hg : got k = true) : Best key got (k + 1) b :=
  ⟨Nat.lt_succ_of_lt h.1, h.2.1, fun j hj hjg => by
    rcases Nat.lt_or_ge j k with hlt | hge
    · exact h.2.2 j hlt hjg
    · obtain rfl : j = k := by omega
      rw [hg] at hjg; cases hjg⟩
theorem Best.stay {key : Nat → Int} {got : Nat → Bool} {k b : Nat} (h : Best key got k b) (hk : ¬ key b < key k) : Best key got (k + 1) b :=
  ⟨Nat.lt_succ_of_lt h.1, h.2.1, fun j hj hjg => by
    rcases Nat.lt_or_ge j k with hlt | hge
    · exact h.2.2 j hlt hjg
    · obtain rfl : j = k := by omega
      have := h.1
      right
      simp only [ahead, Bool.or_eq_true, Bool.and_eq_true, decide_eq_true_eq]; omega⟩
theorem Best.turn {key : Nat → Int} {got : Nat → Bool} {k b : Nat} (h : Best key got k b) (hg : got k = false) (hk : key b < key k) : Best key got (k + 1) k :=
  ⟨Nat.lt_succ_self k, hg, fun j hj hjg => by
    rcases Nat.lt_or_ge j k with hlt | hge
    · right
      have hkb : ahead key k b = true := by simp only [ahead, Bool.or_eq_true, decide_eq_true_eq]; left; exact hk
      rcases h.2.2 j hlt hjg with rfl | h'
      · exact hkb
      · exact ahead_trans hkb h'
    · left; omega⟩
theorem Best.first {key : Nat → Int} {got : Nat → Bool} {k : Nat} (hall : ∀ j, j < k → got j = true) (hg : got k = false) : Best key got (k + 1) k :=
  ⟨Nat.lt_succ_self k, hg, fun j hj hjg => by
    rcases Nat.lt_or_ge j k with hlt | hge
    · rw [hall j hlt] at hjg; cases hjg
    · left; omega⟩
/-- those of a rank below t are taken -/
def taken (key : Nat → Int) (n t i : Nat) : Bool := decide (rank key n i < t)
theorem Best.rank {key : Nat → Int} {n t b : Nat} (ht : t < n) (h : Best key (taken key n t) n b) : rank key n b = t := by
  obtain ⟨i, hi, hr⟩ := at_rank key ht
  rcases h.2.2 i hi (by simp [taken, hr]) with rfl | ha
  · exact hr
  · have h1 := rank_mono h.1 ha
    have h2 := h.2.1
    simp only [taken, decide_eq_false_iff_not] at h2
    omega
theorem some_free {key : Nat → Int} {n t : Nat} (ht : t < n) : ¬ ∀ j, j < n → taken key n t j = true := fun h => by
  obtain ⟨i, hi, hr⟩ := at_rank key ht
  have := h i hi
  simp [taken, hr] at this
theorem taken_succ {key : Nat → Int} {n t b : Nat} (hb : b < n) (hr : rank key n b = t) {i : Nat} (hi : i < n) : taken key n (t + 1) i = (taken key n t i || decide (i = b)) := by
  rw [Bool.eq_iff_iff]
  simp only [taken, Bool.or_eq_true, decide_eq_true_eq]
  constructor
  · intro h
    rcases Nat.lt_or_ge (rank key n i) t with h1 | h1
    · exact .inl h1
    · exact .inr (rank_inj (key := key) hi hb (by omega))
  · rintro (h | rfl)
    · omega
    · omega
/-- one more for each of a rank below t -/
def incs (f : Nat → Int) (key : Nat → Int) (n t : Nat) : List Int := (List.range n).map fun i => f i + if rank key n i < t then 1 else 0
def takens (key : Nat → Int) (n t : Nat) : List Bool := (List.range n).map (taken key n t)
theorem incs_len (f : Nat → Int) (key : Nat → Int) (n t : Nat) : (incs f key n t).length = n := by simp [incs]
theorem takens_len (key : Nat → Int) (n t : Nat) : (takens key n t).length = n := by simp [takens]
theorem incs_at {f : Nat → Int} {key : Nat → Int} {n t b : Nat} (hb : b < n) (hr : rank key n b = t) : (incs f key n t)[b]? = some (f b) := by
  simp [incs, hb, hr]
theorem takens_at {key : Nat → Int} {n t i : Nat} (hi : i < n) : (takens key n t)[i]? = some (taken key n t i) := by simp [takens, hi]
theorem incs_set {f : Nat → Int} {key : Nat → Int} {n t b : Nat} (hb : b < n) (hr : rank key n b = t) : (incs f key n t).set b (f b + 1) = incs f key n (t + 1) := by
  apply List.ext_getElem
  · simp [incs]
  · intro i h1 h2
    have hi : i < n := by simpa [incs] using h2
    rw [List.getElem_set]
    by_cases e : b = i
    · subst e; rw [if_pos rfl]; simp [incs, hr]
    · rw [if_neg e]
      have : taken key n (t + 1) i = taken key n t i := by rw [taken_succ hb hr hi]; simp [show ¬ i = b from fun h => e h.symm]
      simp only [taken, decide_eq_decide] at this
      simp [incs, this]
theorem takens_set {key : Nat → Int} {n t b : Nat} (hb : b < n) (hr : rank key n b = t) : (takens key n t).set b true = takens key n (t + 1) := by
  apply List.ext_getElem
  · simp [takens]
  · intro i h1 h2
    have hi : i < n := by simpa [takens] using h2
    rw [List.getElem_set]
    by_cases e : b = i
    · subst e; rw [if_pos rfl]; simp [takens, taken, hr]
    · rw [if_neg e]
      simp [takens, taken_succ hb hr hi, show ¬ i = b from fun h => e h.symm]
theorem incs_zero (f : Nat → Int) (key : Nat → Int) (n : Nat) : incs f key n 0 = (List.range n).map f := by simp [incs]
theorem takens_zero (key : Nat → Int) (n : Nat) : takens key n 0 = List.replicate n false := by
  apply List.ext_getElem
  · simp [takens]
  · intro i h1 h2; simp [takens, taken]
/-- an order: each once, those ahead first -/
def Ord (key : Nat → Int) (n : Nat) (o : List Nat) : Prop := o.Perm (List.range n) ∧ o.Pairwise fun a b => ahead key a b = true
theorem Ord.len {key : Nat → Int} {n : Nat} {o : List Nat} (h : Ord key n o) : o.length = n := by rw [h.1.length_eq]; simp
theorem Ord.at_ {key : Nat → Int} {n : Nat} {o : List Nat} (h : Ord key n o) {k : Nat} (hk : k < n) : ∃ i, o[k]? = some i ∧ i < n ∧ rank key n i = k := by
  have hl : k < o.length := by rw [h.len]; exact hk
  refine ⟨o[k], List.getElem?_eq_getElem hl, List.mem_range.1 (h.1.mem_iff.1 (List.getElem_mem hl)), ?_⟩
  have he : o = o.take k ++ o[k] :: o.drop (k + 1) := by rw [List.getElem_cons_drop, List.take_append_drop]
  rw [rank_of_sorted h.1 h.2 he]
  simp; omega
/-- an insertion under way: x stands behind A, ahead of B, of which all are behind it -/
structure Ins (key : Nat → Int) (i j : Nat) (o : List Nat) : Prop where
  len : i < o.length
  le : j ≤ i
  here : o[j]? = some i
  perm : (o.take (i + 1)).Perm (List.range (i + 1))
  rest : ∀ k, i < k → k < o.length → o[k]? = some k
  left : (o.take j).Pairwise fun a b => ahead key a b = true
  right : ((o.take (i + 1)).drop (j + 1)).Pairwise fun a b => ahead key a b = true
  less : ∀ b, b ∈ (o.take (i + 1)).drop (j + 1) → ahead key i b = true
  over : ∀ a b, a ∈ o.take j → b ∈ (o.take (i + 1)).drop (j + 1) → ahead key a b = true
/-- the first i are in order -/
structure Upto (key : Nat → Int) (i : Nat) (o : List Nat) : Prop where
  le : i ≤ o.length
  ord : Ord key i (o.take i)
  rest : ∀ k, i ≤ k → k < o.length → o[k]? = some k
theorem Upto.start (key : Nat → Int) (n : Nat) (h : 0 < n) : Upto key 1 (List.range n) :=
  ⟨by simp; omega, by
    have : (List.range n).take 1 = [0] := by
      cases n with
      | zero => omega
      | succ n => rw [List.range_succ_eq_map]; rfl
    rw [this]
    exact ⟨List.Perm.refl _, List.pairwise_singleton _ _⟩, fun k _ hk => by simp at hk; simp [hk]⟩
theorem Upto.none (key : Nat → Int) (o : List Nat) (h : o = []) : Ord key 0 o := by subst h; exact ⟨List.Perm.refl _, List.Pairwise.nil⟩
theorem Upto.ins {key : Nat → Int} {i : Nat} {o : List Nat} (h : Upto key i o) (hi : i < o.length) : Ins key i i o := by
  have hx := h.rest i (Nat.le_refl _) hi
  have hd : (o.take (i + 1)).drop (i + 1) = [] := List.drop_of_length_le (by simp; omega)
  refine ⟨hi, Nat.le_refl _, hx, ?_, fun k hk hl => h.rest k (by omega) hl, h.ord.2, by rw [hd]; exact List.Pairwise.nil, by rw [hd]; simp, by rw [hd]; simp⟩
  rw [List.take_add_one, hx, List.range_succ]
  exact h.ord.1.append_right _
theorem Ins.done {key : Nat → Int} {i j : Nat} {o : List Nat} (h : Ins key i j o) (hs : j = 0 ∨ ∃ a, o[j - 1]? = some a ∧ ¬ key a < key i) : Upto key (i + 1) o := by
  have hl := h.len
  have hle := h.le
  have hj : o[j] = i := by have := h.here; rw [List.getElem?_eq_getElem (by omega)] at this; exact Option.some.inj this
  have he : o.take (i + 1) = o.take j ++ i :: (o.take (i + 1)).drop (j + 1) := by
    have h1 : o.take (i + 1) = (o.take (i + 1)).take j ++ (o.take (i + 1)).drop j := (List.take_append_drop _ _).symm
    rw [List.take_take, Nat.min_eq_left (by omega)] at h1
    rw [List.drop_eq_getElem_cons (by simp; omega)] at h1
    rw [List.getElem_take, hj] at h1
    exact h1
  have hai : ∀ a ∈ o.take j, ahead key a i = true := by
    intro a ha
    rcases hs with rfl | ⟨c, hc, hn⟩
    · simp at ha
    · by_cases hj0 : j = 0
      · subst hj0; simp at ha
      · -- c is the last of them
        have hcl : o.take j = o.take (j - 1) ++ [c] := by
          have := List.take_add_one (l := o) (i := j - 1)
          rw [hc, show j - 1 + 1 = j by omega] at this
          simpa using this
        have hci : c < i := by
          have hm : c ∈ o.take (i + 1) := by rw [he]; exact List.mem_append_left _ (by rw [hcl]; simp)
          have h2 := List.mem_range.1 (h.perm.mem_iff.1 hm)
          have hnd : (o.take (i + 1)).Nodup := h.perm.nodup_iff.2 List.nodup_range
          rw [he, List.nodup_append] at hnd
          have := hnd.2.2 c (by rw [hcl]; simp) i List.mem_cons_self
          omega
        have hca : ahead key c i = true := by simp only [ahead, Bool.or_eq_true, Bool.and_eq_true, decide_eq_true_eq]; omega
        rw [hcl] at ha
        rcases List.mem_append.1 ha with ha | ha
        · have hp := h.left
          rw [hcl, List.pairwise_append] at hp
          exact ahead_trans (hp.2.2 a ha c (by simp)) hca
        · simp at ha; subst ha; exact hca
  refine ⟨hl, ⟨h.perm, ?_⟩, fun k hk hkl => h.rest k (by omega) hkl⟩
  rw [he, List.pairwise_append, List.pairwise_cons]
  refine ⟨h.left, ⟨h.less, h.right⟩, fun a ha b hb => ?_⟩
  rcases List.mem_cons.1 hb with rfl | hb
  · exact hai a ha
  · exact h.over a b ha hb
def swap (o : List Nat) (j : Nat) (x a : Nat) : List Nat := (o.set j a).set (j - 1) x
theorem swap_len (o : List Nat) (j x a : Nat) : (swap o j x a).length = o.length := by simp [swap]
theorem Ins.swap {key : Nat → Int} {i j a : Nat} {o : List Nat} (h : Ins key i j o) (hj : 0 < j) (ha : o[j - 1]? = some a) (hk : key a < key i) : Ins key i (j - 1) (swap o j i a) := by
  have hl := h.len
  have hle := h.le
  obtain ⟨p, rfl⟩ : ∃ p, j = p + 1 := ⟨j - 1, by omega⟩
  simp only [Nat.add_sub_cancel] at *
  have hia : ahead key i a = true := by simp only [ahead, Bool.or_eq_true, decide_eq_true_eq]; left; exact hk
  have hjx : o[p + 1] = i := by have := h.here; rw [List.getElem?_eq_getElem (by omega)] at this; exact Option.some.inj this
  have hax : o[p] = a := by rw [List.getElem?_eq_getElem (by omega)] at ha; exact Option.some.inj ha
  -- the parts
  obtain ⟨A, hA⟩ : ∃ A, A = o.take p := ⟨_, rfl⟩
  obtain ⟨B, hB⟩ : ∃ B, B = (o.take (i + 1)).drop (p + 1 + 1) := ⟨_, rfl⟩
  obtain ⟨C, hC⟩ : ∃ C, C = o.drop (i + 1) := ⟨_, rfl⟩
  have hAl : A.length = p := by rw [hA]; simp; omega
  have hBl : B.length = i - (p + 1) := by rw [hB]; simp; omega
  have htj : o.take (p + 1) = A ++ [a] := by rw [List.take_add_one, ha, hA]; rfl
  have he1 : o.take (i + 1) = A ++ a :: i :: B := by
    have h1 : o.take (i + 1) = (o.take (i + 1)).take p ++ (o.take (i + 1)).drop p := (List.take_append_drop _ _).symm
    rw [List.take_take, Nat.min_eq_left (by omega)] at h1
    rw [List.drop_eq_getElem_cons (by simp; omega), List.drop_eq_getElem_cons (by simp; omega)] at h1
    rw [List.getElem_take, List.getElem_take, hax, hjx, ← hA, ← hB] at h1
    exact h1
  have he : o = A ++ a :: i :: (B ++ C) := by
    have : o = o.take (i + 1) ++ o.drop (i + 1) := (List.take_append_drop _ _).symm
    rw [he1, ← hC] at this
    simpa using this
  have hs : PR.swap o (p + 1) i a = A ++ i :: a :: (B ++ C) := by
    unfold PR.swap
    rw [he]
    simp only [Nat.add_sub_cancel]
    rw [List.set_append_right _ _ (by omega), hAl, show p + 1 - p = 1 by omega]
    simp only [List.set_cons_succ, List.set_cons_zero]
    rw [List.set_append_right _ _ (by omega), hAl, Nat.sub_self]
    simp
  have hst : (PR.swap o (p + 1) i a).take (i + 1) = A ++ i :: a :: B := by
    rw [hs, show A ++ i :: a :: (B ++ C) = (A ++ i :: a :: B) ++ C by simp]
    rw [List.take_append_of_le_length (by simp; omega)]
    exact List.take_of_length_le (by simp; omega)
  have hsd : ((PR.swap o (p + 1) i a).take (i + 1)).drop (p + 1) = a :: B := by
    rw [hst, show A ++ i :: a :: B = (A ++ [i]) ++ a :: B by simp]
    rw [List.drop_append_of_le_length (by simp; omega), List.drop_of_length_le (by simp; omega)]; rfl
  have hstp : (PR.swap o (p + 1) i a).take p = A := by
    rw [hs, List.take_append_of_le_length (by omega)]
    exact List.take_of_length_le (by omega)
  have hleft := h.left
  rw [htj, List.pairwise_append] at hleft
  have hover : ∀ x b, x ∈ A ++ [a] → b ∈ B → ahead key x b = true := fun x b hx hb => h.over x b (by rw [htj]; exact hx) (by rw [← hB]; exact hb)
  have hless : ∀ b ∈ B, ahead key i b = true := fun b hb => h.less b (by rw [← hB]; exact hb)
  refine ⟨by rw [swap_len]; exact hl, by omega, ?_, ?_, ?_, ?_, ?_, ?_, ?_⟩
  · rw [hs, List.getElem?_append_right (by omega), hAl, Nat.sub_self]; rfl
  · have hp := h.perm
    rw [he1] at hp
    rw [hst]
    exact (List.Perm.append_left A (List.Perm.swap a i B)).trans hp
  · intro k hk hkl
    rw [swap_len] at hkl
    unfold PR.swap
    simp only [Nat.add_sub_cancel]
    rw [List.getElem?_set_ne (by omega), List.getElem?_set_ne (by omega)]
    exact h.rest k hk hkl
  · rw [hstp]; exact hleft.1
  · rw [hsd, List.pairwise_cons]
    refine ⟨fun b hb => hover a b (by simp) hb, ?_⟩
    have := h.right
    rw [← hB] at this; exact this
  · rw [hsd]; intro b hb
    rcases List.mem_cons.1 hb with rfl | hb
    · exact hia
    · exact hless b hb
  · rw [hsd, hstp]; intro x b hx hb
    rcases List.mem_cons.1 hb with rfl | hb
    · exact hleft.2.2 x hx b (by simp)
    · exact hover x b (List.mem_append_left _ hx) hb
theorem Upto.ord_all {key : Nat → Int} {n : Nat} {o : List Nat} (h : Upto key n o) (hl : o.length = n) : Ord key n o := by
  have := h.ord
  rwa [List.take_of_length_le (by omega)] at this
end PR
end Go.Proofs.Ythffjnfnfddpdaa
