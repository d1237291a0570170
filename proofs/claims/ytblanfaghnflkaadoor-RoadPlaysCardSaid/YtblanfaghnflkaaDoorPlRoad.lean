/- A road in plain words: who sends, goes, falls, waits. -/
import Derived.Test.YtblanfaghnflkaaDoorSource
import Derived.Test.YtblanfaghnflkaaDoorSrcs
import Derived.Test.YtblanfaghnflkaaDoorPlPool
namespace Go.Proofs.YtblanfaghnflkaaDoor
def Src.n (s : Src) : Int := sentN s.W s.a s.l
def Src.sent (s : Src) : Src := ⟨s.W, s.a + s.n, s.l - s.n, s.c⟩
def Src.ack (b : Bool) (s : Src) : Src := ⟨ackW s.W b, s.a - 1, s.l, s.c + 1⟩
def Src.fell (s : Src) : Src := ⟨max 1 (s.W / 2), s.a - 1, s.l + 1, s.c⟩
def sends : Nat → List Src → List Nat
  | _, [] => []
  | i, s :: S => List.replicate s.n.toNat i ++ sends (i + 1) S
def cameOf : List Src → Int
  | [] => 0
  | s :: S => s.n + cameOf S
def act1 (b : Bool) (went stay : Nat) (row : List Nat) (n : Nat) (S : List Src) : List Src :=
  match row[n]? with
  | none => S
  | some i => match S[i]? with
    | none => S
    | some s => if n < went then S.set i (s.ack b) else if stay ≤ n then S.set i s.fell else S
def acts (b : Bool) (went stay : Nat) (row : List Nat) (S : List Src) : Nat → List Src
  | 0 => S
  | n + 1 => act1 b went stay row n (acts b went stay row S n)
theorem act1_len (b : Bool) (went stay : Nat) (row : List Nat) (n : Nat) (S : List Src) : (act1 b went stay row n S).length = S.length := by
  unfold act1
  split
  · rfl
  · split
    · rfl
    · split
      · simp
      · split <;> simp
theorem acts_len (b : Bool) (went stay : Nat) (row : List Nat) (S : List Src) (n : Nat) : (acts b went stay row S n).length = S.length := by
  induction n with
  | zero => rfl
  | succ n ih => simp only [acts, act1_len, ih]
theorem act1_some {b : Bool} {went stay : Nat} {row : List Nat} {n : Nat} {S : List Src} {i : Nat} {s : Src} (h : row[n]? = some i) (hs : S[i]? = some s) :
    act1 b went stay row n S = if n < went then S.set i (s.ack b) else if stay ≤ n then S.set i s.fell else S := by
  unfold act1; rw [h]; simp only; rw [hs]
/-- what holds of a source whose share of what there was at first is L, of which so many are under way -/
structure SrcIs (L : Int) (way : Nat) (s : Src) : Prop where
  W0 : 1 ≤ s.W
  W1 : s.W ≤ 1000
  l0 : 0 ≤ s.l
  c0 : 0 ≤ s.c
  way : s.a = way
  all : s.a + s.l + s.c = L
  top : L ≤ 10000
theorem SrcIs.ok {L : Int} {way : Nat} {s : Src} (h : SrcIs L way s) : SourceOk s.W s.a s.l s.c := by
  obtain ⟨h1, h2, h3, h4, h5, h6, h7⟩ := h
  unfold SourceOk; omega
theorem Src.n_bd {L : Int} {way : Nat} {s : Src} (h : SrcIs L way s) : 0 ≤ s.n ∧ s.n ≤ s.l ∧ s.n ≤ 1000 := by
  obtain ⟨h1, h2, h3, h4, h5, h6, h7⟩ := h
  unfold Src.n sentN; omega
theorem SrcIs.sent {L : Int} {way : Nat} {s : Src} (h : SrcIs L way s) : SrcIs L (way + s.n.toNat) s.sent := by
  have hb := Src.n_bd h
  obtain ⟨h1, h2, h3, h4, h5, h6, h7⟩ := h
  refine ⟨h1, h2, ?_, h4, ?_, ?_, h7⟩ <;> simp only [Src.sent] <;> omega
theorem SrcIs.ack {L : Int} {way : Nat} {s : Src} (b : Bool) (h : SrcIs L (way + 1) s) : SrcIs L way (s.ack b) := by
  obtain ⟨h1, h2, h3, h4, h5, h6, h7⟩ := h
  refine ⟨?_, ?_, h3, ?_, ?_, ?_, h7⟩
  · simp only [Src.ack, ackW]; cases b <;> simp <;> omega
  · simp only [Src.ack, ackW]; cases b <;> simp <;> omega
  all_goals (simp only [Src.ack]; omega)
theorem SrcIs.fell {L : Int} {way : Nat} {s : Src} (h : SrcIs L (way + 1) s) : SrcIs L way s.fell := by
  obtain ⟨h1, h2, h3, h4, h5, h6, h7⟩ := h
  refine ⟨?_, ?_, ?_, h4, ?_, ?_, h7⟩ <;> simp only [Src.fell] <;> omega
/-- so many of each are under way -/
def AllIs (L : List Int) (way : Nat → Nat) (S : List Src) : Prop := S.length = L.length ∧ ∀ i s, S[i]? = some s → SrcIs (L.getD i 0) (way i) s
theorem AllIs.set {L : List Int} {way way' : Nat → Nat} {S : List Src} (h : AllIs L way S) {i : Nat} {s : Src} (hi : i < S.length) (hs : SrcIs (L.getD i 0) (way' i) s) (hw : ∀ j, j ≠ i → way' j = way j) : AllIs L way' (S.set i s) := by
  refine ⟨by simpa using h.1, fun j t ht => ?_⟩
  by_cases e : i = j
  · subst e
    rw [List.getElem?_set_self hi] at ht
    injection ht with ht
    subst ht
    exact hs
  · rw [List.getElem?_set_ne e] at ht
    rw [hw j (fun x => e x.symm)]
    exact h.2 j t ht
theorem AllIs.congr {L : List Int} {way way' : Nat → Nat} {S : List Src} (h : AllIs L way S) (hw : ∀ j, way' j = way j) : AllIs L way' S :=
  ⟨h.1, fun i s hs => by rw [hw]; exact h.2 i s hs⟩
/-- sent by each -/
theorem sends_count (S : List Src) (i j : Nat) : (sends i S).count j = if i ≤ j then ((S[j - i]?).map fun s => s.n.toNat).getD 0 else 0 := by
  induction S generalizing i with
  | nil => simp [sends]
  | cons s S ih =>
    simp only [sends, List.count_append, List.count_replicate, ih]
    by_cases e : i = j
    · subst e; rw [if_neg (show ¬ i + 1 ≤ i by omega)]; simp
    · by_cases h : i ≤ j
      · have h1 : i + 1 ≤ j := by omega
        rw [if_pos h1, if_pos h]
        obtain ⟨d, hd⟩ : ∃ d, j - i = d + 1 := ⟨j - i - 1, by omega⟩
        rw [hd, show j - (i + 1) = d by omega]
        simp [e]
      · rw [if_neg (show ¬ i + 1 ≤ j by omega), if_neg h]; simp [e]
theorem sends_mem {S : List Src} {i j : Nat} (h : j ∈ sends i S) : i ≤ j ∧ j < i + S.length := by
  induction S generalizing i with
  | nil => simp [sends] at h
  | cons s S ih =>
    simp only [sends, List.mem_append] at h
    rcases h with h | h
    · have := List.eq_of_mem_replicate h
      simp; omega
    · have := ih h
      simp; omega
theorem cameOf_nn {L : List Int} {way : Nat → Nat} {S : List Src} (h : AllIs L way S) : ∀ s ∈ S, 0 ≤ s.n ∧ s.n ≤ s.l ∧ s.n ≤ 1000 := fun s hs => by
  obtain ⟨i, hi, e⟩ := List.getElem_of_mem hs
  exact Src.n_bd (h.2 i s (by rw [← e]; exact List.getElem?_eq_getElem hi))
theorem sends_len (S : List Src) (h : ∀ s ∈ S, 0 ≤ s.n) (i : Nat) : ((sends i S).length : Int) = cameOf S := by
  induction S generalizing i with
  | nil => rfl
  | cons s S ih =>
    have := ih (fun t ht => h t (List.mem_cons_of_mem _ ht)) (i + 1)
    have := h s List.mem_cons_self
    simp only [sends, List.length_append, List.length_replicate, cameOf]
    omega
theorem cameOf_bd (S : List Src) (h : ∀ s ∈ S, 0 ≤ s.n ∧ s.n ≤ 1000) : 0 ≤ cameOf S ∧ cameOf S ≤ S.length * 1000 := by
  induction S with
  | nil => simp [cameOf]
  | cons s S ih =>
    have := ih (fun t ht => h t (List.mem_cons_of_mem _ ht))
    have := h s List.mem_cons_self
    simp only [cameOf, List.length_cons]
    omega
theorem AllIs.sent {L : List Int} {way : Nat → Nat} {S : List Src} (h : AllIs L way S) : AllIs L (fun i => way i + (sends 0 S).count i) (S.map Src.sent) := by
  refine ⟨by simpa using h.1, fun i s hs => ?_⟩
  rw [List.getElem?_map] at hs
  obtain ⟨t, ht, rfl⟩ := Option.map_eq_some_iff.1 hs
  have := (h.2 i t ht).sent
  show SrcIs _ (way i + (sends 0 S).count i) _
  rw [sends_count]
  simpa [ht] using this
/-- those that stay, of the first n -/
def stays (went stay : Nat) (row : List Nat) (n : Nat) : List Nat := (row.take (min n stay)).drop went
theorem stays_zero (went stay : Nat) (row : List Nat) : stays went stay row 0 = [] := by simp [stays]
theorem stays_in {went stay : Nat} {row : List Nat} {n i : Nat} (h : row[n]? = some i) (h1 : went ≤ n) (h2 : n < stay) : stays went stay row (n + 1) = stays went stay row n ++ [i] := by
  have hn : n < row.length := (List.getElem?_eq_some_iff.1 h).1
  unfold stays
  rw [Nat.min_eq_left (by omega), Nat.min_eq_left (by omega), List.take_add_one, h, List.drop_append_of_le_length (by simp; omega)]
  rfl
theorem stays_out {went stay : Nat} {row : List Nat} {n : Nat} (h : n < went ∨ stay ≤ n) : stays went stay row (n + 1) = stays went stay row n := by
  unfold stays
  rcases h with h | h
  · rw [List.drop_of_length_le (by simp; omega), List.drop_of_length_le (by simp; omega)]
  · rw [Nat.min_eq_right (by omega), Nat.min_eq_right (by omega)]
theorem stays_all {went stay : Nat} {row : List Nat} (h : stay ≤ row.length) : stays went stay row row.length = (row.drop went).take (stay - went) := by
  unfold stays
  rw [Nat.min_eq_right h, List.take_drop]
  by_cases e : went ≤ stay
  · rw [show went + (stay - went) = stay by omega]
  · rw [show stay - went = 0 by omega, Nat.add_zero, List.drop_of_length_le (by simp; omega), List.drop_of_length_le (by simp; omega)]
def ways (went stay : Nat) (row : List Nat) (n i : Nat) : Nat := (row.drop n).count i + (stays went stay row n).count i
theorem acts_is {L : List Int} {b : Bool} {went stay : Nat} {row : List Nat} {S : List Src} (h : AllIs L (fun i => row.count i) S) (hr : ∀ i ∈ row, i < S.length) :
    ∀ n, n ≤ row.length → AllIs L (ways went stay row n) (acts b went stay row S n) := by
  intro n
  induction n with
  | zero =>
    intro _
    refine h.congr fun j => ?_
    unfold ways; rw [stays_zero]; simp
  | succ n ih =>
    intro hn
    have hp := ih (by omega)
    have hrn : row[n]? = some row[n] := List.getElem?_eq_getElem (by omega)
    have hi : row[n] < S.length := hr _ (List.getElem_mem (by omega))
    have hil : row[n] < (acts b went stay row S n).length := by rw [acts_len]; exact hi
    have hsi := List.getElem?_eq_getElem hil
    have hd : row.drop n = row[n] :: row.drop (n + 1) := List.drop_eq_getElem_cons (by omega)
    have hp1 := hp.2 _ _ hsi
    simp only [acts]
    rw [act1_some hrn hsi]
    generalize hsv : (acts b went stay row S n)[row[n]] = s at *
    have hw : ∀ j, (row.drop n).count j = (row.drop (n + 1)).count j + if row[n] = j then 1 else 0 := fun j => by
      rw [hd, List.count_cons]; congr 1; simp
    by_cases h1 : n < went
    · rw [if_pos h1]
      have hst := stays_out (row := row) (stay := stay) (.inl h1)
      refine hp.set hil ?_ fun j hj => ?_
      · refine SrcIs.ack b ?_
        have : ways went stay row n row[n] = ways went stay row (n + 1) row[n] + 1 := by unfold ways; rw [hw, hst]; simp; omega
        rwa [← this]
      · unfold ways; rw [hw j, hst, if_neg (fun e => hj e.symm)]; omega
    · rw [if_neg h1]
      by_cases h2 : stay ≤ n
      · rw [if_pos h2]
        have hst := stays_out (row := row) (went := went) (.inr h2)
        refine hp.set hil ?_ fun j hj => ?_
        · refine SrcIs.fell ?_
          have : ways went stay row n row[n] = ways went stay row (n + 1) row[n] + 1 := by unfold ways; rw [hw, hst]; simp; omega
          rwa [← this]
        · unfold ways; rw [hw j, hst, if_neg (fun e => hj e.symm)]; omega
      · rw [if_neg h2]
        have hst := stays_in (went := went) (stay := stay) hrn (by omega) (by omega)
        refine hp.congr fun j => ?_
        unfold ways
        rw [hw j, hst, List.count_append, List.count_singleton]
        by_cases e : row[n] = j
        · subst e; simp; omega
        · rw [if_neg e]; simp [e]
def sumC : List Src → Int
  | [] => 0
  | s :: S => s.c + sumC S
theorem sumC_set (S : List Src) (i : Nat) (s t : Src) (h : S[i]? = some t) : sumC (S.set i s) = sumC S + s.c - t.c := by
  induction S generalizing i with
  | nil => simp at h
  | cons u S ih =>
    cases i with
    | zero => simp at h; subst h; simp only [List.set_cons_zero, sumC]; omega
    | succ i =>
      have := ih i (by simpa using h)
      simp only [List.set_cons_succ, sumC, this]; omega
theorem sumC_acts {b : Bool} {went stay : Nat} {row : List Nat} {S : List Src} (hr : ∀ i ∈ row, i < S.length) : ∀ n, n ≤ row.length → sumC (acts b went stay row S n) = sumC S + min n went := by
  intro n
  induction n with
  | zero => intro _; simp [acts]
  | succ n ih =>
    intro hn
    have hp := ih (by omega)
    have hrn : row[n]? = some row[n] := List.getElem?_eq_getElem (by omega)
    have hil : row[n] < (acts b went stay row S n).length := by rw [acts_len]; exact hr _ (List.getElem_mem (by omega))
    have hsi := List.getElem?_eq_getElem hil
    simp only [acts]
    rw [act1_some hrn hsi]
    generalize (acts b went stay row S n)[row[n]] = s at *
    by_cases h1 : n < went
    · rw [if_pos h1, sumC_set _ _ _ _ hsi, hp]; simp only [Src.ack]; omega
    · rw [if_neg h1]
      split
      · rw [sumC_set _ _ _ _ hsi, hp]; simp only [Src.fell]; omega
      · rw [hp]; omega
theorem sumC_sent (S : List Src) : sumC (S.map Src.sent) = sumC S := by
  induction S with
  | nil => rfl
  | cons s S ih => simp only [List.map_cons, sumC, ih, Src.sent]
end Go.Proofs.YtblanfaghnflkaaDoor
