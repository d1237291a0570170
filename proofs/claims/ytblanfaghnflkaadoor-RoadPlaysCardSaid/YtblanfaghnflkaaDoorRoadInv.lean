/- What holds of a road from tick to tick (plain). -/
import Derived.Test.YtblanfaghnflkaaDoorRoadNew
namespace Go.Proofs.YtblanfaghnflkaaDoor
open Go.RowKit
structure RInv (L : List Int) (S : List Src) (r p k : Int) (row : List Nat) : Prop where
  six : S.length ≤ 6
  all : AllIs L (fun i => row.count i) S
  mem : ∀ i ∈ row, i < S.length
  rowl : (row.length : Int) = k
  pool : PoolOk r p k
/-- the state behind a tick -/
def tickS (S : List Src) (r p k : Int) (row : List Nat) : List Src :=
  acts (decide (k ≤ r / 2)) (PP.went p k (cameOf S)).toNat (PP.went p k (cameOf S) + PP.left r p k (cameOf S)).toNat (row ++ sends 0 S) (S.map Src.sent) (row ++ sends 0 S).length
def tickRow (S : List Src) (r p k : Int) (row : List Nat) : List Nat :=
  ((row ++ sends 0 S).drop (PP.went p k (cameOf S)).toNat).take (PP.left r p k (cameOf S)).toNat
section
variable {L : List Int} {S : List Src} {r p k : Int} {row : List Nat}
theorem RInv.nn (h : RInv L S r p k row) : ∀ s ∈ S, 0 ≤ s.n ∧ s.n ≤ s.l ∧ s.n ≤ 1000 := cameOf_nn h.all
theorem RInv.came (h : RInv L S r p k row) : 0 ≤ cameOf S ∧ cameOf S ≤ 6000 := by
  have := cameOf_bd S fun s hs => ⟨(h.nn s hs).1, (h.nn s hs).2.2⟩
  have := h.six
  omega
theorem RInv.len1 (h : RInv L S r p k row) : ((row ++ sends 0 S).length : Int) = k + cameOf S := by
  have h1 := sends_len S (fun s hs => (h.nn s hs).1) 0
  have h2 := h.rowl
  rw [List.length_append]; omega
theorem RInv.mem1 (h : RInv L S r p k row) : ∀ i ∈ row ++ sends 0 S, i < S.length := fun i hi => by
  rcases List.mem_append.1 hi with hi | hi
  · exact h.mem i hi
  · have := sends_mem hi; omega
theorem RInv.all1 (h : RInv L S r p k row) : AllIs L (fun i => (row ++ sends 0 S).count i) (S.map Src.sent) :=
  h.all.sent.congr fun j => by rw [List.count_append]
theorem RInv.pl (h : RInv L S r p k row) : 0 ≤ PP.went p k (cameOf S) ∧ PP.went p k (cameOf S) ≤ p ∧ 0 ≤ PP.left r p k (cameOf S) ∧ PP.left r p k (cameOf S) ≤ r ∧ 0 ≤ PP.lost r p k (cameOf S) ∧ PP.went p k (cameOf S) + PP.left r p k (cameOf S) ≤ k + cameOf S := by
  have h1 := h.came
  obtain ⟨q0, q1, q2, q3, q4, q5⟩ := h.pool
  unfold PP.lost PP.left PP.went; omega
theorem RInv.actsIs (h : RInv L S r p k row) (n : Nat) (hn : n ≤ (row ++ sends 0 S).length) : AllIs L (ways (PP.went p k (cameOf S)).toNat (PP.went p k (cameOf S) + PP.left r p k (cameOf S)).toNat (row ++ sends 0 S) n)
    (acts (decide (k ≤ r / 2)) (PP.went p k (cameOf S)).toNat (PP.went p k (cameOf S) + PP.left r p k (cameOf S)).toNat (row ++ sends 0 S) (S.map Src.sent) n) :=
  acts_is h.all1 (by simpa using h.mem1) n hn
theorem RInv.tick (h : RInv L S r p k row) : TickIn S.length S r p k row := by
  obtain ⟨q0, q1, q2, q3, q4, q5⟩ := h.pool
  refine ⟨h.six, rfl, fun s hs => ?_, fun s hs => ⟨(h.nn s hs).1, (h.nn s hs).2.2⟩, q0, q1, by omega, by omega, q4, q5, h.rowl, fun m hm => ?_⟩
  · obtain ⟨i, hi, e⟩ := List.getElem_of_mem hs
    exact (h.all.2 i s (by rw [← e]; exact List.getElem?_eq_getElem hi)).ok
  · have ha := h.actsIs m (by omega)
    have hi : (row ++ sends 0 S)[m] < S.length := h.mem1 _ (List.getElem_mem hm)
    have hl : (row ++ sends 0 S)[m] < (Proofs.YtblanfaghnflkaaDoor.acts (decide (k ≤ r / 2)) (PP.went p k (cameOf S)).toNat (PP.went p k (cameOf S) + PP.left r p k (cameOf S)).toNat (row ++ sends 0 S) (S.map Src.sent) m).length := by
      rw [acts_len]; simpa using hi
    exact ⟨_, _, List.getElem?_eq_getElem hm, List.getElem?_eq_getElem hl, (ha.2 _ _ (List.getElem?_eq_getElem hl)).ok⟩
theorem RInv.next (h : RInv L S r p k row) : RInv L (tickS S r p k row) r p (PP.left r p k (cameOf S)) (tickRow S r p k row) := by
  obtain ⟨q0, q1, q2, q3, q4, q5⟩ := h.pool
  obtain ⟨e0, e1, e2, e3, e4, e5⟩ := h.pl
  have hl := h.len1
  have hsl : (tickS S r p k row).length = S.length := by unfold tickS; rw [acts_len]; simp
  refine ⟨by rw [hsl]; exact h.six, ?_, fun i hi => ?_, ?_, ⟨q0, q1, q2, q3, e2, e3⟩⟩
  · refine (h.actsIs _ (Nat.le_refl _)).congr fun j => ?_
    unfold ways tickRow
    rw [stays_all (by omega), List.drop_length]
    rw [show (PP.went p k (cameOf S) + PP.left r p k (cameOf S)).toNat - (PP.went p k (cameOf S)).toNat = (PP.left r p k (cameOf S)).toNat by omega]
    simp
  · rw [hsl]
    exact h.mem1 i (List.mem_of_mem_drop (List.mem_of_mem_take hi))
  · unfold tickRow
    rw [List.length_take, List.length_drop]; omega
theorem RInv.sumNext (h : RInv L S r p k row) : sumC (tickS S r p k row) = sumC S + PP.went p k (cameOf S) := by
  have hl := h.len1
  obtain ⟨e0, e1, e2, e3, e4, e5⟩ := h.pl
  unfold tickS
  rw [sumC_acts (by simpa using h.mem1) _ (Nat.le_refl _), sumC_sent]
  omega
end
/-- so much of each is there at all, together -/
def sumL : List Int → Int
  | [] => 0
  | l :: L => l + sumL L
theorem AllIs.some_left : ∀ {L : List Int} {way : Nat → Nat} {S : List Src}, AllIs L way S → sumC S < sumL L → ∃ (i : Nat) (s : Src), S[i]? = some s ∧ s.c < s.a + s.l + s.c := by
  intro L
  induction L with
  | nil =>
    intro way S h hlt
    have : S = [] := List.eq_nil_of_length_eq_zero (by simpa using h.1)
    subst this; simp [sumC, sumL] at hlt
  | cons l L ih =>
    intro way S h hlt
    cases S with
    | nil => simp [AllIs] at h
    | cons s S =>
      have h0 := h.2 0 s rfl
      by_cases hc : s.c < s.a + s.l + s.c
      · exact ⟨0, s, rfl, hc⟩
      · have h1 : AllIs L (fun i => way (i + 1)) S := ⟨by simpa using h.1, fun i t ht => by have := h.2 (i + 1) t (by simpa using ht); simpa using this⟩
        have e := h0.all
        have e2 : (l :: L).getD 0 0 = l := rfl
        rw [e2] at e
        simp only [Proofs.YtblanfaghnflkaaDoor.sumC, sumL] at hlt
        obtain ⟨i, t, ht, hlt'⟩ := ih h1 (by have := h0.way; have := h0.l0; omega)
        exact ⟨i + 1, t, by simpa using ht, hlt'⟩
theorem cameOf_pos {S : List Src} (h : ∀ s ∈ S, 0 ≤ s.n) {i : Nat} {s : Src} (hi : S[i]? = some s) (hn : 1 ≤ s.n) : 1 ≤ cameOf S := by
  induction S generalizing i with
  | nil => simp at hi
  | cons t S ih =>
    have h0 := h t List.mem_cons_self
    have hr := fun s hs => h s (List.mem_cons_of_mem t hs)
    simp only [cameOf]
    cases i with
    | zero =>
      simp at hi; subst hi
      have : 0 ≤ cameOf S := by
        clear ih hn h0 h
        induction S with
        | nil => simp [cameOf]
        | cons u S ih =>
          have a := hr u List.mem_cons_self
          have b := ih fun s hs => hr s (List.mem_cons_of_mem u hs)
          simp only [cameOf]; omega
      omega
    | succ i =>
      have := ih hr (i := i) (by simpa using hi)
      omega
/-- while not all came, something comes -/
theorem RInv.goes {L : List Int} {S : List Src} {r p k : Int} {row : List Nat} (h : RInv L S r p k row) (hlt : sumC S < sumL L) : 1 ≤ PP.went p k (cameOf S) := by
  obtain ⟨q0, q1, q2, q3, q4, q5⟩ := h.pool
  have hc := h.came
  unfold PP.went
  by_cases hk : k = 0
  · obtain ⟨i, s, hs, hlt'⟩ := h.all.some_left hlt
    have hi := h.all.2 i s hs
    have hr : row = [] := List.eq_nil_of_length_eq_zero (by have := h.rowl; omega)
    subst hr
    have hw := hi.way
    simp at hw
    have hn : 1 ≤ s.n := by
      have := hi.W0; have := hi.l0
      unfold Src.n sentN; omega
    have := cameOf_pos (fun s hs => (h.nn s hs).1) hs hn
    omega
  · omega
theorem RInv.sum_le {L : List Int} {S : List Src} {r p k : Int} {row : List Nat} (h : RInv L S r p k row) : 0 ≤ sumC S ∧ sumC S ≤ sumL L := by
  have : ∀ (L : List Int) (way : Nat → Nat) (S : List Src), AllIs L way S → 0 ≤ sumC S ∧ sumC S ≤ sumL L := by
    intro L
    induction L with
    | nil =>
      intro way S h
      have : S = [] := List.eq_nil_of_length_eq_zero (by simpa using h.1)
      subst this; simp [Proofs.YtblanfaghnflkaaDoor.sumC, sumL]
    | cons l L ih =>
      intro way S h
      cases S with
      | nil => simp [AllIs] at h
      | cons s S =>
        have h0 := h.2 0 s rfl
        have h1 : AllIs L (fun i => way (i + 1)) S := ⟨by simpa using h.1, fun i t ht => by have := h.2 (i + 1) t (by simpa using ht); simpa using this⟩
        have := ih _ _ h1
        have e := h0.all
        have e2 : (l :: L).getD 0 0 = l := rfl
        rw [e2] at e
        have := h0.way; have := h0.l0; have := h0.c0
        simp only [Proofs.YtblanfaghnflkaaDoor.sumC, sumL]; omega
  exact this _ _ _ h.all
/-- at first -/
theorem RInv.start {S : List Src} {r p : Int} (he : roadErr S = 0) (hp : PoolOk r p 0) : RInv (S.map Src.l) S r p 0 [] := by
  obtain ⟨h0, h6⟩ := roadErr_len he
  have hf : firstErr S = 0 := by
    unfold roadErr at he
    rw [if_neg (by omega), if_neg (by omega)] at he; exact he
  have hall : ∀ (S : List Src), firstErr S = 0 → ∀ s ∈ S, SourceOk s.W s.a s.l s.c ∧ s.a = 0 ∧ s.c = 0 := by
    intro S
    induction S with
    | nil => intro _ s hs; simp at hs
    | cons t S ih =>
      intro hf s hs
      unfold firstErr at hf
      split at hf
      · rename_i ht
        rcases List.mem_cons.1 hs with e | hs
        · subst e
          unfold srcErr at ht
          split at ht
          · split at ht
            · omega
            · rename_i a b
              exact ⟨a, by omega, by omega⟩
          · omega
        · exact ih hf s hs
      · rename_i ht; exact absurd hf ht
  refine ⟨h6, ⟨by simp, fun i s hs => ?_⟩, by simp, by simp, hp⟩
  obtain ⟨h1, h2, h3⟩ := hall S hf s (List.mem_of_getElem? hs)
  obtain ⟨g1, g2, g3, g4, g5, g6, g7, g8⟩ := h1
  have e : (S.map Src.l).getD i 0 = s.l := by simp [hs]
  exact ⟨g1, g2, g5, g7, by simpa using h2, by rw [e]; omega, by rw [e]; omega⟩
end Go.Proofs.YtblanfaghnflkaaDoor
