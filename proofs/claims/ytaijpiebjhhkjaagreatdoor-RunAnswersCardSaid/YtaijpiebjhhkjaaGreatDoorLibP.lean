/- Several texts in one: PlMaxMin, PlLex, PlFillT, PlFill, PlFill2, PlFill3, PlLoad, PlLoad2. -/
import Derived.Test.YtaijpiebjhhkjaaGreatDoorLibA
import Derived.Test.YtaijpiebjhhkjaaGreatDoorLibN
import Derived.Test.YtaijpiebjhhkjaaGreatDoorLibF
/- Rates over links in plain words: what is fair, and that only one is. -/
namespace Go.Proofs.YtaijpiebjhhkjaaGreatDoor
namespace MM
/-- sum of g over 0..n-1 -/
def sm (g : Nat → Rat) : Nat → Rat
  | 0 => 0
  | n + 1 => sm g n + g n

theorem sm_le {g h : Nat → Rat} (n : Nat) (H : ∀ i, i < n → g i ≤ h i) : sm g n ≤ sm h n := by
  induction n with
  | zero => exact Rat.le_refl
  | succ n ih =>
    have := ih fun i hi => H i (by omega)
    have := H n (by omega)
    simp only [sm]; grind

theorem sm_lt {g h : Nat → Rat} (n : Nat) (H : ∀ i, i < n → g i ≤ h i) (k : Nat) (hk : k < n) (hlt : g k < h k) : sm g n < sm h n := by
  induction n with
  | zero => omega
  | succ n ih =>
    simp only [sm]
    have h1 := H n (by omega)
    by_cases e : k = n
    · subst e
      have := sm_le (g := g) (h := h) k fun i hi => H i (by omega)
      grind
    · have := ih (fun i hi => H i (by omega)) (by omega)
      grind

theorem sm_congr {g h : Nat → Rat} (n : Nat) (H : ∀ i, i < n → g i = h i) : sm g n = sm h n := by
  induction n with
  | zero => rfl
  | succ n ih => simp only [sm]; rw [ih fun i hi => H i (by omega), H n (by omega)]

/-- a net in plain words: so many flows and links, how much each link takes, who goes over it -/
structure Net where
  F : Nat
  L : Nat
  cap : Nat → Rat
  on : Nat → Nat → Prop
  dec : ∀ f l, Decidable (on f l)
instance (N : Net) (f l : Nat) : Decidable (N.on f l) := N.dec f l

def Net.load (N : Net) (x : Nat → Rat) (l : Nat) : Rat := sm (fun f => if N.on f l then x f else 0) N.F

structure Net.Fits (N : Net) (x : Nat → Rat) : Prop where
  nn : ∀ f, f < N.F → 0 ≤ x f
  cap : ∀ l, l < N.L → N.load x l ≤ N.cap l

structure Net.Neck (N : Net) (x : Nat → Rat) (f l : Nat) : Prop where
  lt : l < N.L
  on : N.on f l
  full : N.load x l = N.cap l
  top : ∀ u, u < N.F → N.on u l → x u ≤ x f

def Net.Fair (N : Net) (x : Nat → Rat) : Prop := N.Fits x ∧ ∀ f, f < N.F → ∃ l, N.Neck x f l

/-- Giving one more takes of one who has no more. -/
theorem weak {N : Net} {x r : Nat → Rat} (hr : ∀ l, l < N.L → N.load r l ≤ N.cap l) {f : Nat} (hf : f < N.F) {l : Nat} (hn : N.Neck x f l) (hlt : x f < r f) :
    ∃ u, u < N.F ∧ u ≠ f ∧ x u ≤ x f ∧ r u < x u := by
  apply Classical.byContradiction
  intro hno
  have hge : ∀ u, u < N.F → N.on u l → x u ≤ r u := by
    intro u hu hon
    by_cases e : u = f
    · subst e; grind
    · apply Classical.byContradiction
      intro hc
      exact hno ⟨u, hu, e, hn.top u hu hon, by grind⟩
  have h1 : N.load x l < N.load r l := by
    unfold Net.load
    refine sm_lt N.F ?_ f hf ?_
    · intro i hi
      by_cases ho : N.on i l
      · simp [ho, hge i hi ho]
      · simp [ho]
    · simp [hn.on, hlt]
  have h2 := hr l hn.lt
  have h3 := hn.full
  grind

/-- Finite sets have a least: of the flows with p, one whose value v is least. -/
theorem least (v : Nat → Rat) (p : Nat → Prop) (n : Nat) (h : ∃ i, i < n ∧ p i) : ∃ i, i < n ∧ p i ∧ ∀ j, j < n → p j → v i ≤ v j := by
  induction n with
  | zero => obtain ⟨i, hi, _⟩ := h; omega
  | succ n ih =>
    by_cases hb : ∃ i, i < n ∧ p i
    · obtain ⟨i, hi, hp, hl⟩ := ih hb
      by_cases hn : p n ∧ v n < v i
      · refine ⟨n, by omega, hn.1, fun j hj hpj => ?_⟩
        by_cases e : j = n
        · subst e; exact Rat.le_refl
        · have := hl j (by omega) hpj; grind
      · refine ⟨i, by omega, hp, fun j hj hpj => ?_⟩
        by_cases e : j = n
        · subst e; grind
        · exact hl j (by omega) hpj
    · obtain ⟨i, hi, hp⟩ := h
      have e : i = n := by
        apply Classical.byContradiction
        intro hne
        exact hb ⟨i, by omega, hp⟩
      subst e
      refine ⟨i, by omega, hp, fun j hj hpj => ?_⟩
      by_cases e : j = i
      · subst e; exact Rat.le_refl
      · exact absurd ⟨j, by omega, hpj⟩ hb

/-- Where a fair one and one that fits differ: the least place where it shows. -/
theorem apart {N : Net} {x r : Nat → Rat} (hx : N.Fair x) (hr : ∀ l, l < N.L → N.load r l ≤ N.cap l) (hne : ∃ f, f < N.F ∧ r f ≠ x f) :
    ∃ u, u < N.F ∧ r u < x u ∧ (∀ f, f < N.F → r f ≠ x f → r u < x f ∧ r u ≤ r f) := by
  obtain ⟨f, hf, hfd, hfl⟩ := least x (fun f => r f ≠ x f) N.F hne
  have key : ∃ u, u < N.F ∧ r u < x u ∧ x u ≤ x f := by
    by_cases hlt : x f < r f
    · obtain ⟨l, hn⟩ := hx.2 f hf
      obtain ⟨u, hu, _, h1, h2⟩ := weak hr hf hn hlt
      exact ⟨u, hu, h2, h1⟩
    · exact ⟨f, hf, by grind, Rat.le_refl⟩
  obtain ⟨u0, hu0, hlt0, hle0⟩ := key
  have hne0 : r u0 ≠ x u0 := by grind
  obtain ⟨u, hu, hud, hul⟩ := least r (fun f => r f ≠ x f) N.F hne
  have h1 := hul u0 hu0 hne0
  have h2 := hfl u hu hud
  refine ⟨u, hu, by grind, fun g hg hgd => ⟨?_, hul g hg hgd⟩⟩
  have := hfl g hg hgd
  grind

/-- Only one is fair. -/
theorem only {N : Net} {x y : Nat → Rat} (hx : N.Fair x) (hy : N.Fair y) : ∀ f, f < N.F → x f = y f := by
  intro f hf
  apply Classical.byContradiction
  intro hne
  obtain ⟨u, hu, h1, h2⟩ := apart hx hy.1.cap ⟨f, hf, fun e => hne e.symm⟩
  obtain ⟨v, hv, h3, h4⟩ := apart hy hx.1.cap ⟨f, hf, hne⟩
  have a := h2 v hv (by grind)
  have b := h4 u hu (by grind)
  grind
end MM
end Go.Proofs.YtaijpiebjhhkjaaGreatDoor
/- Sorted rates in plain words: the fair ones are best. -/
namespace Go.Proofs.YtaijpiebjhhkjaaGreatDoor
namespace MM
/-- insert into a sorted list, behind those that are no greater -/
def ins (a : Rat) : List Rat → List Rat
  | [] => [a]
  | b :: l => if b ≤ a then b :: ins a l else a :: b :: l
/-- sorted, the lesser ones first -/
def srt : List Rat → List Rat
  | [] => []
  | a :: l => ins a (srt l)
/-- the first difference tells -/
def lex : List Rat → List Rat → Int
  | a :: l, b :: m => if a < b then -1 else if b < a then 1 else lex l m
  | _, _ => 0

theorem perm_ins (a : Rat) (l : List Rat) : (ins a l).Perm (a :: l) := by
  induction l with
  | nil => exact List.Perm.refl _
  | cons b l ih =>
    unfold ins
    split
    · exact (List.Perm.cons b ih).trans (List.Perm.swap a b l)
    · exact List.Perm.refl _
theorem perm_srt (l : List Rat) : (srt l).Perm l := by
  induction l with
  | nil => exact List.Perm.refl _
  | cons a l ih => exact (perm_ins a _).trans (List.Perm.cons a ih)
def Up (l : List Rat) : Prop := l.Pairwise (· ≤ ·)
theorem up_ins (a : Rat) (l : List Rat) (h : Up l) : Up (ins a l) := by
  induction l with
  | nil => unfold ins Up; simp
  | cons b l ih =>
    unfold Up at h
    rw [List.pairwise_cons] at h
    unfold ins
    split
    · rename_i hle
      unfold Up
      rw [List.pairwise_cons]
      refine ⟨fun c hc => ?_, ih h.2⟩
      have := (perm_ins a l).mem_iff.1 hc
      rcases List.mem_cons.1 this with e | e
      · subst e; exact hle
      · exact h.1 c e
    · rename_i hle
      unfold Up
      rw [List.pairwise_cons]
      refine ⟨fun c hc => ?_, List.pairwise_cons.2 h⟩
      rcases List.mem_cons.1 hc with e | e
      · subst e; grind
      · have := h.1 c e; grind
theorem up_srt (l : List Rat) : Up (srt l) := by
  induction l with
  | nil => exact List.Pairwise.nil
  | cons a l ih => exact up_ins a _ ih

/-- how many are no more than t -/
def cnt (t : Rat) (l : List Rat) : Nat := l.countP (fun a => decide (a ≤ t))
theorem cnt_perm {l m : List Rat} (t : Rat) (h : l.Perm m) : cnt t l = cnt t m := h.countP_eq _
theorem cnt_cons (t a : Rat) (l : List Rat) : cnt t (a :: l) = cnt t l + if a ≤ t then 1 else 0 := by
  unfold cnt; rw [List.countP_cons]; simp
theorem cnt_none (t : Rat) (l : List Rat) (h : ∀ a, a ∈ l → t < a) : cnt t l = 0 := by
  unfold cnt
  rw [List.countP_eq_zero]
  intro a ha
  have := h a ha
  simp; grind

theorem lex_less (t0 : Rat) : ∀ (a b : List Rat), a.length = b.length → Up a → Up b → (∀ t, t < t0 → cnt t a = cnt t b) → cnt t0 b < cnt t0 a → lex a b = -1
  | [], [], _, _, _, _, h => by simp [cnt] at h
  | [], _ :: _, h, _, _, _, _ => by simp at h
  | _ :: _, [], h, _, _, _, _ => by simp at h
  | a :: l, b :: m, hl, ha, hb, he, hlt => by
    unfold lex
    unfold Up at ha hb
    rw [List.pairwise_cons] at ha hb
    by_cases h1 : a < b
    · rw [if_pos h1]
    · rw [if_neg h1]
      by_cases h2 : b < a
      · exfalso
        have z : ∀ t, t < a → cnt t (a :: l) = 0 := fun t ht => cnt_none t _ fun c hc => by
          rcases List.mem_cons.1 hc with e | e
          · subst e; exact ht
          · have := ha.1 c e; grind
        have one : ∀ t, b ≤ t → 0 < cnt t (b :: m) := fun t ht => by rw [cnt_cons, if_pos ht]; omega
        by_cases h3 : b < t0
        · have := he b h3
          have := z b h2
          have := one b Rat.le_refl
          omega
        · have h4 : t0 < a := by grind
          have := z t0 h4
          omega
      · rw [if_neg h2]
        have e : a = b := by grind
        subst e
        refine lex_less t0 l m (by simpa using hl) ha.2 hb.2 (fun t ht => ?_) ?_
        · have := he t ht
          rw [cnt_cons, cnt_cons] at this
          omega
        · rw [cnt_cons, cnt_cons] at hlt
          omega

theorem lex_self (a : List Rat) : lex a a = 0 := by
  induction a with
  | nil => rfl
  | cons a l ih => unfold lex; simp [ih, Rat.lt_irrefl]
theorem lex_anti : ∀ (a b : List Rat), lex a b = - lex b a
  | [], [] => rfl
  | [], _ :: _ => rfl
  | _ :: _, [] => rfl
  | a :: l, b :: m => by
    unfold lex
    by_cases h1 : a < b
    · have h2 : ¬ b < a := by grind
      simp [h1, h2]
    · by_cases h2 : b < a
      · simp [h1, h2]
      · simp [h1, h2, lex_anti l m]

/-- the rates of a net as a list -/
def lst (x : Nat → Rat) (n : Nat) : List Rat := (List.range n).map x

theorem cnt_lst (t : Rat) (x : Nat → Rat) (n : Nat) : cnt t (lst x (n + 1)) = cnt t (lst x n) + if x n ≤ t then 1 else 0 := by
  unfold lst cnt
  rw [List.range_succ, List.map_append, List.countP_append]
  simp [List.countP_cons]

theorem cnt_le (t : Rat) (x y : Nat → Rat) (n : Nat) (h : ∀ i, i < n → y i ≤ t → x i ≤ t) : cnt t (lst y n) ≤ cnt t (lst x n) := by
  induction n with
  | zero => exact Nat.le_refl _
  | succ n ih =>
    have := ih fun i hi => h i (by omega)
    have hn := h n (by omega)
    rw [cnt_lst, cnt_lst]
    by_cases a : y n ≤ t
    · rw [if_pos a, if_pos (hn a)]; omega
    · rw [if_neg a]; omega
theorem cnt_lt (t : Rat) (x y : Nat → Rat) (n : Nat) (h : ∀ i, i < n → y i ≤ t → x i ≤ t) (k : Nat) (hk : k < n) (h1 : x k ≤ t) (h2 : ¬ y k ≤ t) : cnt t (lst y n) < cnt t (lst x n) := by
  induction n with
  | zero => omega
  | succ n ih =>
    have hn := h n (by omega)
    rw [cnt_lst, cnt_lst]
    by_cases e : k = n
    · subst e
      have := cnt_le t x y k fun i hi => h i (by omega)
      rw [if_pos h1, if_neg h2]; omega
    · have := ih (fun i hi => h i (by omega)) (by omega)
      by_cases a : y n ≤ t
      · rw [if_pos a, if_pos (hn a)]; omega
      · rw [if_neg a]; omega

/-- No way that fits helps the weakest more. -/
theorem best {N : Net} {x r : Nat → Rat} (hx : N.Fair x) (hr : ∀ l, l < N.L → N.load r l ≤ N.cap l) : lex (srt (lst r N.F)) (srt (lst x N.F)) ≤ 0 := by
  by_cases hne : ∃ f, f < N.F ∧ r f ≠ x f
  · obtain ⟨u, hu, hlt, hall⟩ := apart hx hr hne
    have : lex (srt (lst r N.F)) (srt (lst x N.F)) = -1 := by
      refine lex_less (r u) _ _ ?_ (up_srt _) (up_srt _) (fun t ht => ?_) ?_
      · rw [(perm_srt _).length_eq, (perm_srt _).length_eq]; simp [lst]
      · rw [cnt_perm t (perm_srt _), cnt_perm t (perm_srt _)]
        have a : ∀ i, i < N.F → (r i ≤ t ↔ x i ≤ t) := fun i hi => by
          by_cases e : r i = x i
          · rw [e]
          · have := hall i hi e
            constructor <;> intro <;> grind
        exact Nat.le_antisymm (cnt_le t x r _ fun i hi => (a i hi).1) (cnt_le t r x _ fun i hi => (a i hi).2)
      · rw [cnt_perm _ (perm_srt _), cnt_perm _ (perm_srt _)]
        refine cnt_lt (r u) r x N.F (fun i hi hxi => ?_) u hu Rat.le_refl (by grind)
        by_cases e : r i = x i
        · rw [e]; exact hxi
        · have := hall i hi e; grind
    omega
  · have e : lst r N.F = lst x N.F := by
      unfold lst
      refine List.map_congr_left fun i hi => ?_
      apply Classical.byContradiction
      intro hc
      exact hne ⟨i, List.mem_range.1 hi, hc⟩
    rw [e, lex_self]; omega
end MM
end Go.Proofs.YtaijpiebjhhkjaaGreatDoor
/- Rounds of rates that rise together, in plain words. -/
namespace Go.Proofs.YtaijpiebjhhkjaaGreatDoor
namespace MM
/-- rates as far as they stand: those that are done have theirs, the others the level -/
def lev (done : Nat → Bool) (rate : Nat → Rat) (t : Rat) (f : Nat) : Rat := if done f then rate f else t
/-- is there one over a link that is free? -/
def Net.Free (N : Net) (done : Nat → Bool) (l : Nat) : Prop := ∃ f, f < N.F ∧ N.on f l ∧ done f = false

structure Net.Inv (N : Net) (done : Nat → Bool) (rate : Nat → Rat) (t : Rat) : Prop where
  nn : 0 ≤ t
  pos : ∀ f, f < N.F → done f = true → 0 < rate f ∧ rate f ≤ t
  le : ∀ l, l < N.L → N.load (lev done rate t) l ≤ N.cap l
  lt : ∀ l, l < N.L → N.Free done l → N.load (lev done rate t) l < N.cap l
  neck : ∀ f, f < N.F → done f = true → ∃ l, l < N.L ∧ N.on f l ∧ ¬ N.Free done l ∧ N.load (lev done rate t) l = N.cap l ∧ ∀ u, u < N.F → N.on u l → rate u ≤ rate f

/-- one round: the least share, the links that have it, who is free no more by it -/
structure Net.Round (N : Net) (done : Nat → Bool) (rate : Nat → Rat) (best : Rat) (links : Nat → Prop) (done' : Nat → Bool) (rate' : Nat → Rat) : Prop where
  some_ : ∃ l, links l
  link : ∀ l, links l → l < N.L ∧ N.Free done l ∧ N.load (lev done rate best) l = N.cap l
  other : ∀ l, l < N.L → N.Free done l → ¬ links l → N.load (lev done rate best) l < N.cap l
  new : ∀ f, f < N.F → done f = false → (∃ l, links l ∧ N.on f l) → done' f = true ∧ rate' f = best
  old : ∀ f, f < N.F → (done f = true ∨ ¬ ∃ l, links l ∧ N.on f l) → done' f = done f ∧ rate' f = rate f

theorem load_le {N : Net} {x y : Nat → Rat} {l : Nat} (h : ∀ f, f < N.F → N.on f l → x f ≤ y f) : N.load x l ≤ N.load y l := by
  unfold Net.load
  refine sm_le _ fun i hi => ?_
  by_cases ho : N.on i l
  · simp [ho, h i hi ho]
  · simp [ho]
theorem load_lt {N : Net} {x y : Nat → Rat} {l : Nat} (h : ∀ f, f < N.F → N.on f l → x f ≤ y f) (f : Nat) (hf : f < N.F) (ho : N.on f l) (hlt : x f < y f) : N.load x l < N.load y l := by
  unfold Net.load
  refine sm_lt _ (fun i hi => ?_) f hf (by simp [ho, hlt])
  by_cases ho : N.on i l
  · simp [ho, h i hi ho]
  · simp [ho]
theorem load_congr {N : Net} {x y : Nat → Rat} {l : Nat} (h : ∀ f, f < N.F → N.on f l → x f = y f) : N.load x l = N.load y l := by
  unfold Net.load
  refine sm_congr _ fun i hi => ?_
  by_cases ho : N.on i l
  · simp [ho, h i hi ho]
  · simp [ho]

theorem Net.Round.more {N : Net} {done : Nat → Bool} {rate : Nat → Rat} {t best : Rat} {links : Nat → Prop} {done' : Nat → Bool} {rate' : Nat → Rat}
    (h : N.Inv done rate t) (r : N.Round done rate best links done' rate') : t < best := by
  obtain ⟨l, hl⟩ := r.some_
  obtain ⟨h1, h2, h3⟩ := r.link l hl
  have h4 := h.lt l h1 h2
  apply Classical.byContradiction
  intro hc
  have : N.load (lev done rate best) l ≤ N.load (lev done rate t) l := load_le fun f _ _ => by
    unfold lev
    split
    · exact Rat.le_refl
    · grind
  grind

theorem Net.Round.inv {N : Net} {done : Nat → Bool} {rate : Nat → Rat} {t best : Rat} {links : Nat → Prop} {done' : Nat → Bool} {rate' : Nat → Rat}
    (h : N.Inv done rate t) (r : N.Round done rate best links done' rate') : N.Inv done' rate' best := by
  have hm := r.more h
  have hnn := h.nn
  have hsame : ∀ f, f < N.F → lev done' rate' best f = lev done rate best f := fun f hf => by
    by_cases hd : done f = true
    · obtain ⟨a, b⟩ := r.old f hf (.inl hd)
      simp [lev, a, b, hd]
    · have hd' : done f = false := by simpa using hd
      by_cases hn : ∃ l, links l ∧ N.on f l
      · obtain ⟨a, b⟩ := r.new f hf hd' hn
        simp [lev, a, b, hd']
      · obtain ⟨a, b⟩ := r.old f hf (.inr hn)
        simp [lev, a, hd']
  have hload : ∀ l, N.load (lev done' rate' best) l = N.load (lev done rate best) l := fun l => load_congr fun f hf _ => hsame f hf
  have hkeep : ∀ f, f < N.F → done f = true → done' f = true := fun f hf hd => by rw [(r.old f hf (.inl hd)).1]; exact hd
  have hfree : ∀ l, N.Free done' l → N.Free done l := fun l ⟨f, hf, ho, hd⟩ => ⟨f, hf, ho, by
    cases e : done f
    · rfl
    · rw [hkeep f hf e] at hd; cases hd⟩
  have hlink : ∀ l, links l → ¬ N.Free done' l := fun l hl ⟨f, hf, ho, hd⟩ => by
    by_cases hdf : done f = true
    · rw [hkeep f hf hdf] at hd; cases hd
    · rw [(r.new f hf (by simpa using hdf) ⟨l, hl, ho⟩).1] at hd; cases hd
  have hstill : ∀ l, l < N.L → ¬ N.Free done l → N.load (lev done rate best) l = N.load (lev done rate t) l := fun l _ hnf => load_congr fun f hf ho => by
    have : done f = true := by
      cases e : done f
      · exact absurd ⟨f, hf, ho, e⟩ hnf
      · rfl
    simp [lev, this]
  have hcase : ∀ f, f < N.F → done' f = true → (done f = true ∧ rate' f = rate f) ∨ (done f = false ∧ rate' f = best ∧ ∃ l, links l ∧ N.on f l) := fun f hf hd => by
    by_cases hdf : done f = true
    · exact .inl ⟨hdf, (r.old f hf (.inl hdf)).2⟩
    · have hd' : done f = false := by simpa using hdf
      by_cases hn : ∃ l, links l ∧ N.on f l
      · exact .inr ⟨hd', (r.new f hf hd' hn).2, hn⟩
      · rw [(r.old f hf (.inr hn)).1, hd'] at hd; cases hd
  have hle : ∀ f, f < N.F → done' f = true → 0 < rate' f ∧ rate' f ≤ best := fun f hf hd => by
    rcases hcase f hf hd with ⟨a, b⟩ | ⟨a, b, _⟩
    · have := h.pos f hf a; grind
    · rw [b]; exact ⟨by grind, Rat.le_refl⟩
  refine ⟨by grind, hle, fun l hl => ?_, fun l hl hf => ?_, fun f hf hd => ?_⟩
  · rw [hload]
    by_cases hfr : N.Free done l
    · by_cases hk : links l
      · rw [(r.link l hk).2.2]; exact Rat.le_refl
      · have := r.other l hl hfr hk; grind
    · rw [hstill l hl hfr]; exact h.le l hl
  · rw [hload]
    exact r.other l hl (hfree l hf) fun hk => hlink l hk hf
  · rcases hcase f hf hd with ⟨a, b⟩ | ⟨a, b, l, hl, ho⟩
    · obtain ⟨l, hl, ho, hnf, hfull, htop⟩ := h.neck f hf a
      refine ⟨l, hl, ho, fun hc => hnf (hfree l hc), by rw [hload, hstill l hl hnf, hfull], fun u hu hou => ?_⟩
      have hud : done u = true := by
        cases e : done u
        · exact absurd ⟨u, hu, hou, e⟩ hnf
        · rfl
      rw [b, (r.old u hu (.inl hud)).2]
      exact htop u hu hou
    · obtain ⟨h1, h2, h3⟩ := r.link l hl
      refine ⟨l, h1, ho, hlink l hl, by rw [hload, h3], fun u hu hou => ?_⟩
      rw [b]
      have : done' u = true := by
        cases e : done' u
        · exact absurd ⟨u, hu, hou, e⟩ (hlink l hl)
        · rfl
      exact (hle u hu this).2

/-- When all are done what stands is fair. -/
theorem Net.Inv.fair {N : Net} {done : Nat → Bool} {rate : Nat → Rat} {t : Rat} (h : N.Inv done rate t) (hall : ∀ f, f < N.F → done f = true) : N.Fair rate := by
  have hload : ∀ l, N.load (lev done rate t) l = N.load rate l := fun l => load_congr fun f hf _ => by simp [lev, hall f hf]
  refine ⟨⟨fun f hf => by have := (h.pos f hf (hall f hf)).1; grind, fun l hl => by rw [← hload]; exact h.le l hl⟩, fun f hf => ?_⟩
  obtain ⟨l, hl, ho, _, hfull, htop⟩ := h.neck f hf (hall f hf)
  exact ⟨l, hl, ho, by rw [← hload]; exact hfull, htop⟩

/-- Ahead of the first round. -/
theorem Net.Inv.start {N : Net} {rate : Nat → Rat} (hc : ∀ l, l < N.L → 0 < N.cap l) : N.Inv (fun _ => false) rate 0 := by
  have hz : ∀ l, N.load (lev (fun _ => false) rate 0) l = 0 := fun l => by
    unfold Net.load
    have : ∀ n, sm (fun f => if N.on f l then lev (fun _ => false) rate 0 f else 0) n = 0 := fun n => by
      induction n with
      | zero => rfl
      | succ n ih => simp only [sm, ih]; simp [lev, Rat.add_zero]
    exact this _
  refine ⟨Rat.le_refl, fun _ _ h => by simp at h, fun l hl => ?_, fun l hl _ => ?_, fun _ _ h => by simp at h⟩
  · have := hc l hl; rw [hz]; grind
  · have := hc l hl; rw [hz]; exact this
end MM
end Go.Proofs.YtaijpiebjhhkjaaGreatDoor
/- Rates that rise together as a program finds them, in plain words: shares, the least of them, rounds. -/
namespace Go.Proofs.YtaijpiebjhhkjaaGreatDoor
/-- flows: none, it is free still; some, its rate -/
abbrev St := List (Option Rat)
def St.at_ (st : St) (u : Nat) : Option Rat := st.getD u none
def leftStep (st : St) (s : Rat) (u : Nat) : Rat := match st.at_ u with
  | some q => s + -q
  | none => s
def leftTo (st : St) (c : Rat) (us : List Nat) : Rat := us.foldl (leftStep st) c
def freeOf (st : St) (us : List Nat) : Nat := us.countP fun u => (st.at_ u).isNone
theorem leftTo_snoc (st : St) (c : Rat) (us : List Nat) (u : Nat) : leftTo st c (us ++ [u]) = leftStep st (leftTo st c us) u := by
  unfold leftTo; rw [List.foldl_append]; rfl
theorem freeOf_snoc (st : St) (us : List Nat) (u : Nat) : freeOf st (us ++ [u]) = freeOf st us + if (st.at_ u).isNone then 1 else 0 := by
  unfold freeOf; rw [List.countP_append]; simp [List.countP_cons]
def capQ (caps : List Int) (l : Nat) : Rat := ((caps.getD l 0 : Int) : Rat)
def leftOf (caps : List Int) (paths : List (List Int)) (st : St) (l : Nat) : Rat := leftTo st (capQ caps l) (users paths l)
def freeL (paths : List (List Int)) (st : St) (l : Nat) : Nat := freeOf st (users paths l)
/-- the share of a link: none, no one that is free goes over it -/
def share (caps : List Int) (paths : List (List Int)) (st : St) (l : Nat) : Option Rat :=
  if freeL paths st l = 0 then none else some (leftOf caps paths st l / (freeL paths st l : Rat))
def minO : Option Rat → Option Rat → Option Rat
  | b, none => b
  | none, some s => some s
  | some b, some s => if s < b then some s else some b
theorem minO_lt {b s : Rat} (h : s < b) : minO (some b) (some s) = some s := by simp [minO, h]
theorem minO_ge {b s : Rat} (h : ¬ s < b) : minO (some b) (some s) = some b := by simp [minO, h]
theorem minO_none (b : Option Rat) : minO b none = b := by cases b <;> rfl
def bestTo (sh : Nat → Option Rat) : Nat → Option Rat
  | 0 => none
  | n + 1 => minO (bestTo sh n) (sh n)
def linksTo (sh : Nat → Option Rat) (n : Nat) : List Nat := (List.range n).filter fun l => (sh l).isSome && decide (sh l = bestTo sh n)
theorem bestTo_le {sh : Nat → Option Rat} : ∀ {n : Nat} {l : Nat} {s : Rat}, l < n → sh l = some s → ∃ b, bestTo sh n = some b ∧ b ≤ s := by
  intro n
  induction n with
  | zero => intro l s h; omega
  | succ n ih =>
    intro l s h hs
    by_cases e : l = n
    · subst e
      unfold bestTo
      rw [hs]
      cases hb : bestTo sh l with
      | none => exact ⟨s, rfl, Rat.le_refl⟩
      | some b =>
        by_cases hlt : s < b
        · rw [minO_lt hlt]; exact ⟨s, rfl, Rat.le_refl⟩
        · rw [minO_ge hlt]; exact ⟨b, rfl, by grind⟩
    · obtain ⟨b, hb, hle⟩ := ih (show l < n by omega) hs
      unfold bestTo
      rw [hb]
      cases sh n with
      | none => exact ⟨b, rfl, hle⟩
      | some x =>
        by_cases hlt : x < b
        · rw [minO_lt hlt]; exact ⟨x, rfl, by grind⟩
        · rw [minO_ge hlt]; exact ⟨b, rfl, hle⟩
theorem bestTo_in {sh : Nat → Option Rat} : ∀ {n : Nat} {b : Rat}, bestTo sh n = some b → ∃ l, l < n ∧ sh l = some b := by
  intro n
  induction n with
  | zero => intro b h; cases h
  | succ n ih =>
    intro b h
    unfold bestTo at h
    cases hs : sh n with
    | none => rw [hs] at h; rw [minO_none] at h; obtain ⟨l, h1, h2⟩ := ih h; exact ⟨l, by omega, h2⟩
    | some s =>
      rw [hs] at h
      cases hb : bestTo sh n with
      | none => rw [hb] at h; exact ⟨n, by omega, by rw [hs]; exact h⟩
      | some x =>
        rw [hb] at h
        by_cases hlt : s < x
        · rw [minO_lt hlt] at h; exact ⟨n, by omega, by rw [hs]; exact h⟩
        · rw [minO_ge hlt] at h; obtain ⟨l, h1, h2⟩ := ih hb; exact ⟨l, by omega, by rw [h2]; exact h⟩
theorem bestTo_none {sh : Nat → Option Rat} {n : Nat} (h : bestTo sh n = none) : ∀ l, l < n → sh l = none := fun l hl => by
  cases e : sh l with
  | none => rfl
  | some s => obtain ⟨b, hb, _⟩ := bestTo_le hl e; rw [h] at hb; cases hb
theorem links_none {sh : Nat → Option Rat} {n : Nat} (h : bestTo sh n = none) : linksTo sh n = [] := by
  unfold linksTo
  rw [List.filter_eq_nil_iff]
  intro l hl
  rw [bestTo_none h l (List.mem_range.1 hl)]; simp
theorem links_some {sh : Nat → Option Rat} {n : Nat} {b : Rat} (h : bestTo sh n = some b) : 0 < (linksTo sh n).length := by
  obtain ⟨l, h1, h2⟩ := bestTo_in h
  have : l ∈ linksTo sh n := by
    unfold linksTo
    rw [List.mem_filter]
    exact ⟨List.mem_range.2 h1, by rw [h2, h]; simp⟩
  exact List.length_pos_of_mem this
theorem links_mem {sh : Nat → Option Rat} {n l : Nat} {b : Rat} (h : bestTo sh n = some b) : l ∈ linksTo sh n ↔ l < n ∧ sh l = some b := by
  unfold linksTo
  rw [List.mem_filter, List.mem_range, h]
  constructor
  · rintro ⟨h1, h2⟩
    simp only [Bool.and_eq_true, decide_eq_true_eq] at h2
    exact ⟨h1, h2.2⟩
  · rintro ⟨h1, h2⟩
    exact ⟨h1, by rw [h2]; simp⟩
theorem links_le (sh : Nat → Option Rat) (n : Nat) : (linksTo sh n).length ≤ n := by
  unfold linksTo; exact Nat.le_trans (List.length_filter_le _ _) (by simp)
/-- a link that no one that is free goes over -/
theorem best_skip {sh : Nat → Option Rat} {n : Nat} (h : sh n = none) : bestTo sh (n + 1) = bestTo sh n ∧ linksTo sh (n + 1) = linksTo sh n := by
  have e : bestTo sh (n + 1) = bestTo sh n := by
    show minO (bestTo sh n) (sh n) = _
    rw [h, minO_none]
  refine ⟨e, ?_⟩
  unfold linksTo
  rw [List.range_succ, List.filter_append, e]
  simp [h]
/-- a link whose share is more than the least -/
theorem best_more {sh : Nat → Option Rat} {n : Nat} {s b : Rat} (h : sh n = some s) (hb : bestTo sh n = some b) (hlt : b < s) : bestTo sh (n + 1) = some b ∧ linksTo sh (n + 1) = linksTo sh n := by
  have e : bestTo sh (n + 1) = some b := by
    show minO (bestTo sh n) (sh n) = _
    rw [h, hb]; exact minO_ge (by grind)
  refine ⟨e, ?_⟩
  unfold linksTo
  rw [List.range_succ, List.filter_append, e, hb]
  have : ¬ s = b := by grind
  simp [h, this]
/-- a link with the least share of all so far -/
theorem best_less {sh : Nat → Option Rat} {n : Nat} {s : Rat} (h : sh n = some s) (hb : bestTo sh n = none ∨ ∃ b, bestTo sh n = some b ∧ s < b) : bestTo sh (n + 1) = some s ∧ linksTo sh (n + 1) = [n] := by
  have e : bestTo sh (n + 1) = some s := by
    show minO (bestTo sh n) (sh n) = _
    rcases hb with hb | ⟨b, hb, hlt⟩
    · rw [h, hb]; rfl
    · rw [h, hb]; exact minO_lt hlt
  refine ⟨e, ?_⟩
  unfold linksTo
  rw [List.range_succ, List.filter_append, e]
  have h1 : (List.range n).filter (fun l => (sh l).isSome && decide (sh l = some s)) = [] := by
    rw [List.filter_eq_nil_iff]
    intro l hl
    have hl := List.mem_range.1 hl
    intro hc
    simp only [Bool.and_eq_true, decide_eq_true_eq] at hc
    obtain ⟨b, hb2, hle⟩ := bestTo_le hl hc.2
    rcases hb with hb | ⟨b', hb, hlt⟩
    · rw [hb] at hb2; cases hb2
    · rw [hb] at hb2; injection hb2 with hb2; grind
  rw [h1]; simp [h]
/-- a link with as much -/
theorem best_same {sh : Nat → Option Rat} {n : Nat} {s : Rat} (h : sh n = some s) (hb : bestTo sh n = some s) : bestTo sh (n + 1) = some s ∧ linksTo sh (n + 1) = linksTo sh n ++ [n] := by
  have e : bestTo sh (n + 1) = some s := by
    show minO (bestTo sh n) (sh n) = _
    rw [h, hb]; exact minO_ge Rat.lt_irrefl
  refine ⟨e, ?_⟩
  unfold linksTo
  rw [List.range_succ, List.filter_append, e, hb]
  simp [h]
/-- does a path have one of these links? -/
def meets (links : List Nat) (p : List Int) : Bool := p.any fun l => inL (links.map fun (i : Nat) => (i : Int)) l
def outTo (paths : List (List Int)) (st : St) (links : List Nat) (n : Nat) : List Nat := (List.range n).filter fun u => (st.at_ u).isNone && meets links (paths.getD u [])
theorem outTo_succ (paths : List (List Int)) (st : St) (links : List Nat) (n : Nat) : outTo paths st links (n + 1) = outTo paths st links n ++ if ((st.at_ n).isNone && meets links (paths.getD n [])) = true then [n] else [] := by
  unfold outTo
  rw [List.range_succ, List.filter_append]
  congr 1
  rw [List.filter_cons]; rfl
theorem outTo_le (paths : List (List Int)) (st : St) (links : List Nat) (n : Nat) : (outTo paths st links n).length ≤ n := by
  unfold outTo; exact Nat.le_trans (List.length_filter_le _ _) (by simp)
theorem outTo_lt {paths : List (List Int)} {st : St} {links : List Nat} {n u : Nat} (h : u ∈ outTo paths st links n) : u < n := by
  unfold outTo at h; rw [List.mem_filter] at h; exact List.mem_range.1 h.1
/-- these are free no more, and have so much -/
def setAll (st : St) (b : Rat) (out : List Nat) : St := out.foldl (fun s u => s.set u (some b)) st
theorem setAll_snoc (st : St) (b : Rat) (out : List Nat) (u : Nat) : setAll st b (out ++ [u]) = (setAll st b out).set u (some b) := by
  unfold setAll; rw [List.foldl_append]; rfl
theorem setAll_len (st : St) (b : Rat) (out : List Nat) : (setAll st b out).length = st.length := by
  induction out generalizing st with
  | nil => rfl
  | cons u out ih => show (setAll (st.set u (some b)) b out).length = _; rw [ih]; simp
theorem setAll_at (st : St) (b : Rat) (out : List Nat) (u : Nat) (hu : u < st.length) : (setAll st b out).at_ u = if u ∈ out then some b else st.at_ u := by
  induction out generalizing st with
  | nil => simp [setAll]
  | cons v out ih =>
    show (setAll (st.set v (some b)) b out).at_ u = _
    rw [ih _ (by simpa using hu)]
    by_cases h1 : u ∈ out
    · simp [h1]
    · rw [if_neg h1]
      unfold St.at_
      by_cases e : u = v
      · subst e
        simp [List.getD_eq_getElem?_getD, hu]
      · have e' : ¬ v = u := fun x => e x.symm
        simp [List.getD_eq_getElem?_getD, e', h1, e]
/-- one round: who is free no more by it, and how all stand behind it -/
def roundOut (caps : List Int) (paths : List (List Int)) (st : St) : List Nat := outTo paths st (linksTo (share caps paths st) caps.length) paths.length
def roundSt (caps : List Int) (paths : List (List Int)) (st : St) : St := match bestTo (share caps paths st) caps.length with
  | some b => setAll st b (roundOut caps paths st)
  | none => st
def fillSt (caps : List Int) (paths : List (List Int)) : Nat → St
  | 0 => List.replicate paths.length none
  | k + 1 => roundSt caps paths (fillSt caps paths k)
def roundsTo (caps : List Int) (paths : List (List Int)) (k : Nat) : List (List Nat) := (List.range k).map fun i => roundOut caps paths (fillSt caps paths i)
def allDone (st : St) : Bool := st.all Option.isSome
end Go.Proofs.YtaijpiebjhhkjaaGreatDoor
/- Rates that rise together, in plain words: what holds from round to round. -/
namespace Go.Proofs.YtaijpiebjhhkjaaGreatDoor
def netOf (caps : List Int) (paths : List (List Int)) : MM.Net := ⟨paths.length, caps.length, capQ caps, fun f l => inL (paths.getD f []) (l : Int) = true, fun _ _ => inferInstance⟩
def dn (st : St) (f : Nat) : Bool := (st.at_ f).isSome
def rt (st : St) (f : Nat) : Rat := (st.at_ f).getD 0
structure NetOk (caps : List Int) (paths : List (List Int)) : Prop where
  L0 : 0 < caps.length
  L1 : caps.length ≤ 1000
  F0 : 0 < paths.length
  F1 : paths.length ≤ 6
  cap : ∀ c ∈ caps, 1 ≤ c ∧ c ≤ 1000
  path : ∀ p ∈ paths, 0 < p.length ∧ ∀ l ∈ p, 0 ≤ l ∧ l < (caps.length : Int)
theorem netOk_of {caps : List Int} {paths : List (List Int)} (h : netErr caps paths = 0) : NetOk caps paths := by
  obtain ⟨h1, h2, h3, h4, h5, h6⟩ := netErr_ok h
  exact ⟨h1, by omega, h3, h4, h5, fun p hp => pathErr_ok (h6 p hp)⟩
theorem usersTo_succ (paths : List (List Int)) (x : Int) (n : Nat) : usersTo paths x (n + 1) = usersTo paths x n ++ if inL (paths.getD n []) x = true then [n] else [] := by
  unfold usersTo
  rw [List.range_succ, List.filter_append]
  congr 1
  rw [List.filter_cons]; rfl
theorem users_len (paths : List (List Int)) (x : Int) : (users paths x).length ≤ paths.length := usersTo_le paths x paths.length
theorem load_to (paths : List (List Int)) (st : St) (c t : Rat) (l n : Nat) :
    MM.sm (fun f => if inL (paths.getD f []) (l : Int) = true then MM.lev (dn st) (rt st) t f else 0) n = c - leftTo st c (usersTo paths l n) + (freeOf st (usersTo paths l n) : Rat) * t := by
  induction n with
  | zero => show (0 : Rat) = c - c + ((0 : Nat) : Rat) * t; grind
  | succ n ih =>
    rw [usersTo_succ]
    simp only [MM.sm]
    rw [ih]
    by_cases hon : inL (paths.getD n []) (l : Int) = true
    · rw [if_pos hon, if_pos hon, leftTo_snoc, freeOf_snoc]
      unfold leftStep MM.lev dn rt
      cases e : st.at_ n with
      | none =>
        have : ((freeOf st (usersTo paths l n) + 1 : Nat) : Rat) = (freeOf st (usersTo paths l n) : Rat) + 1 := by push_cast; rfl
        simp only [Option.isNone_none, if_true, Option.isSome_none, Bool.false_eq_true, if_false]
        rw [this]; grind
      | some q =>
        simp only [Option.isNone_some, Option.isSome_some, Bool.false_eq_true, if_false, if_true, Option.getD_some, Nat.add_zero]
        grind
    · rw [if_neg hon, if_neg hon, List.append_nil, Rat.add_zero]
theorem load_of (caps : List Int) (paths : List (List Int)) (st : St) (t : Rat) (l : Nat) :
    (netOf caps paths).load (MM.lev (dn st) (rt st) t) l = capQ caps l - leftOf caps paths st l + (freeL paths st l : Rat) * t := load_to paths st (capQ caps l) t l paths.length
theorem free_iff (caps : List Int) (paths : List (List Int)) (st : St) (l : Nat) : (netOf caps paths).Free (dn st) l ↔ 0 < freeL paths st l := by
  unfold freeL freeOf
  rw [List.countP_pos_iff]
  constructor
  · rintro ⟨f, hf, ho, hd⟩
    refine ⟨f, users_mem.2 ⟨hf, inL_iff.1 ho⟩, ?_⟩
    unfold dn at hd
    cases e : st.at_ f with
    | none => rfl
    | some q => rw [e] at hd; cases hd
  · rintro ⟨f, hf, hn⟩
    obtain ⟨h1, h2⟩ := users_mem.1 hf
    refine ⟨f, h1, inL_iff.2 h2, ?_⟩
    unfold dn
    cases e : st.at_ f with
    | none => rfl
    | some q => rw [e] at hn; cases hn
theorem share_some {caps : List Int} {paths : List (List Int)} {st : St} {l : Nat} {s : Rat} (h : share caps paths st l = some s) :
    0 < freeL paths st l ∧ leftOf caps paths st l = (freeL paths st l : Rat) * s ∧ (netOf caps paths).load (MM.lev (dn st) (rt st) s) l = (netOf caps paths).cap l := by
  unfold share at h
  by_cases h0 : freeL paths st l = 0
  · rw [if_pos h0] at h; cases h
  · rw [if_neg h0] at h
    injection h with h
    have hp : (0 : Rat) < (freeL paths st l : Rat) := by
      have : 0 < freeL paths st l := by omega
      exact_mod_cast this
    have hl : leftOf caps paths st l = (freeL paths st l : Rat) * s := by
      rw [← h, Rat.mul_comm, Rat.div_mul_cancel (by grind)]
    refine ⟨by omega, hl, ?_⟩
    rw [load_of, hl]
    show capQ caps l - _ + _ = capQ caps l
    grind
theorem share_is {caps : List Int} {paths : List (List Int)} {st : St} {l : Nat} (h : 0 < freeL paths st l) : ∃ s, share caps paths st l = some s := ⟨_, by unfold share; rw [if_neg (by omega)]⟩
theorem meets_iff {links : List Nat} {p : List Int} : meets links p = true ↔ ∃ l ∈ links, inL p (l : Int) = true := by
  unfold meets
  rw [List.any_eq_true]
  constructor
  · rintro ⟨x, hx, h⟩
    rw [inL_iff, List.mem_map] at h
    obtain ⟨l, hl, rfl⟩ := h
    exact ⟨l, hl, inL_iff.2 hx⟩
  · rintro ⟨l, hl, h⟩
    exact ⟨l, inL_iff.1 h, inL_iff.2 (List.mem_map_of_mem hl)⟩
theorem out_iff {caps : List Int} {paths : List (List Int)} {st : St} {u : Nat} {b : Rat} (hb : bestTo (share caps paths st) caps.length = some b) :
    u ∈ roundOut caps paths st ↔ u < paths.length ∧ st.at_ u = none ∧ ∃ l, (l < caps.length ∧ share caps paths st l = some b) ∧ inL (paths.getD u []) (l : Int) = true := by
  unfold roundOut outTo
  rw [List.mem_filter, List.mem_range]
  constructor
  · rintro ⟨h1, h2⟩
    simp only [Bool.and_eq_true, Option.isNone_iff_eq_none] at h2
    obtain ⟨l, hl, ho⟩ := meets_iff.1 h2.2
    exact ⟨h1, h2.1, l, (links_mem hb).1 hl, ho⟩
  · rintro ⟨h1, h2, l, hl, ho⟩
    refine ⟨h1, ?_⟩
    simp only [Bool.and_eq_true, Option.isNone_iff_eq_none]
    exact ⟨h2, meets_iff.2 ⟨l, (links_mem hb).2 hl, ho⟩⟩
/-- what holds from round to round -/
structure FInv (caps : List Int) (paths : List (List Int)) (st : St) : Prop where
  len : st.length = paths.length
  inv : ∃ t, (netOf caps paths).Inv (dn st) (rt st) t
  int : ∃ D : Nat, 0 < D ∧ D ≤ 2 ^ (st.countP Option.isSome) ∧ ∀ u q, st.at_ u = some q → ∃ z : Int, q * (D : Rat) = (z : Rat)
  top : ∀ u q, st.at_ u = some q → 0 < q ∧ q ≤ 1000
theorem mul_den (q : Rat) : q * (q.den : Rat) = (q.num : Rat) := by
  have h4 : (q.den : Rat) ≠ 0 := by have := q.den_pos; exact_mod_cast (by omega : q.den ≠ 0)
  have h : q = (q.num : Rat) / (q.den : Rat) := by
    have h1 := Rat.mkRat_self q
    have h2 := Rat.mkRat_eq_div q.num q.den
    rw [h1] at h2; exact h2
  conv => lhs; lhs; rw [h]
  exact Rat.div_mul_cancel h4
theorem qin_M {q : Rat} {D M : Nat} {z : Int} (h0 : 0 < D) (h1 : D ≤ 10000) (hM : M ≤ 10000) (hz : q * (D : Rat) = (z : Rat)) (h2 : -(M : Rat) ≤ q) (h3 : q ≤ (M : Rat)) : QIn q := by
  have h5 := mul_den q
  have hd : q.den ∣ D := by
    have e : q.num * (D : Int) = z * (q.den : Int) := by
      have h6 : (q.num : Rat) * (D : Rat) = (z : Rat) * (q.den : Rat) := by rw [← h5, ← hz]; grind
      exact_mod_cast h6
    have h7 : q.den ∣ q.num.natAbs * D := by
      have : (q.den : Int) ∣ q.num * (D : Int) := ⟨z, by rw [e, Int.mul_comm]⟩
      have := Int.natAbs_dvd_natAbs.2 this
      rw [Int.natAbs_mul] at this
      simpa using this
    exact Nat.Coprime.dvd_of_dvd_mul_left q.reduced.symm h7
  have hle := Nat.le_of_dvd h0 hd
  have hp := q.den_pos
  have hdp : (0 : Rat) < q.den := by exact_mod_cast hp
  have a : (q.num : Rat) ≤ ((M * q.den : Nat) : Rat) := by
    rw [← h5]; push_cast
    exact Rat.mul_le_mul_of_nonneg_right h3 (Rat.le_of_lt hdp)
  have b : ((-(M * q.den : Nat) : Int) : Rat) ≤ (q.num : Rat) := by
    rw [← h5]; push_cast
    have := Rat.mul_le_mul_of_nonneg_right h2 (Rat.le_of_lt hdp)
    grind
  have a' : q.num ≤ ((M * q.den : Nat) : Int) := by exact_mod_cast a
  have b' : (-(M * q.den : Nat) : Int) ≤ q.num := by exact_mod_cast b
  have hm : M * q.den ≤ 10000 * 10000 := Nat.mul_le_mul hM (by omega)
  generalize M * q.den = y at *
  refine ⟨?_, ?_, ?_, ?_⟩ <;> omega
theorem tenK : ((10000 : Nat) : Rat) = 10000 := rfl
theorem qin_of {q : Rat} {D : Nat} {z : Int} (h0 : 0 < D) (h1 : D ≤ 10000) (hz : q * (D : Rat) = (z : Rat)) (h2 : -10000 ≤ q) (h3 : q ≤ 10000) : QIn q :=
  qin_M (M := 10000) h0 h1 (Nat.le_refl _) hz (by rw [tenK]; exact h2) (by rw [tenK]; exact h3)
theorem left_bd {st : St} (h : ∀ u q, st.at_ u = some q → 0 < q ∧ q ≤ 1000) (c : Rat) : ∀ us : List Nat, leftTo st c us ≤ c ∧ c ≤ leftTo st c us + 1000 * (us.length : Rat) := by
  intro us
  induction us generalizing c with
  | nil => exact ⟨Rat.le_refl, by show c ≤ c + 1000 * ((0 : Nat) : Rat); grind⟩
  | cons u us ih =>
    have e : leftTo st c (u :: us) = leftTo st (leftStep st c u) us := rfl
    rw [e]
    have := ih (leftStep st c u)
    have hs : leftStep st c u ≤ c ∧ c ≤ leftStep st c u + 1000 := by
      unfold leftStep
      cases e : st.at_ u with
      | none => exact ⟨Rat.le_refl, by show c ≤ c + 1000; grind⟩
      | some q => have := h u q e; show c + -q ≤ c ∧ c ≤ c + -q + 1000; constructor <;> grind
    have hl : (((u :: us).length : Nat) : Rat) = (us.length : Rat) + 1 := by rw [List.length_cons]; push_cast; rfl
    rw [hl]
    constructor <;> grind
theorem left_int {st : St} {D : Nat} (h : ∀ u q, st.at_ u = some q → ∃ z : Int, q * (D : Rat) = (z : Rat)) (c : Rat) (hc : ∃ z : Int, c * (D : Rat) = (z : Rat)) : ∀ us : List Nat, ∃ z : Int, leftTo st c us * (D : Rat) = (z : Rat) := by
  intro us
  induction us generalizing c with
  | nil => exact hc
  | cons u us ih =>
    refine ih (leftStep st c u) ?_
    unfold leftStep
    cases e : st.at_ u with
    | none => exact hc
    | some q =>
      obtain ⟨z, hz⟩ := h u q e
      obtain ⟨y, hy⟩ := hc
      refine ⟨y - z, ?_⟩
      show (c + -q) * (D : Rat) = _
      push_cast
      rw [← hz, ← hy]; grind
theorem capQ_bd {caps : List Int} {paths : List (List Int)} (h : NetOk caps paths) {l : Nat} (hl : l < caps.length) : 1 ≤ capQ caps l ∧ capQ caps l ≤ 1000 := by
  have := h.cap caps[l] (List.getElem_mem hl)
  have e : capQ caps l = ((caps[l] : Int) : Rat) := by unfold capQ; rw [List.getD_eq_getElem?_getD, List.getElem?_eq_getElem hl]; rfl
  rw [e]
  refine ⟨by exact_mod_cast this.1, ?_⟩
  have h2 : ((caps[l] : Int) : Rat) ≤ ((1000 : Int) : Rat) := Rat.intCast_le_intCast.2 this.2
  exact h2
theorem pow_le {F n : Nat} (h : n ≤ F) (hF : F ≤ 6) : 2 ^ n ≤ 64 := Nat.le_trans (Nat.pow_le_pow_right (by omega) (show n ≤ 6 by omega)) (by decide)
section
variable {caps : List Int} {paths : List (List Int)} {st : St}
theorem FInv.D (h : FInv caps paths st) (ok : NetOk caps paths) : ∃ D : Nat, 0 < D ∧ D ≤ 64 ∧ D ≤ 2 ^ (st.countP Option.isSome) ∧ ∀ u q, st.at_ u = some q → ∃ z : Int, q * (D : Rat) = (z : Rat) := by
  obtain ⟨D, h1, h2, h3⟩ := h.int
  refine ⟨D, h1, Nat.le_trans h2 (pow_le (F := st.length) List.countP_le_length (by rw [h.len]; exact ok.F1)), h2, h3⟩
theorem FInv.rate_in (h : FInv caps paths st) (ok : NetOk caps paths) {u : Nat} {q : Rat} (hq : st.at_ u = some q) : QIn q ∧ QIn (-q) := by
  obtain ⟨D, h1, h2, _, h3⟩ := h.D ok
  obtain ⟨z, hz⟩ := h3 u q hq
  have := h.top u q hq
  refine ⟨qin_of h1 (by omega) hz (by grind) (by grind), qin_of (z := -z) h1 (by omega) ?_ (by grind) (by grind)⟩
  push_cast; rw [← hz]; grind
theorem FInv.left_in (h : FInv caps paths st) (ok : NetOk caps paths) {l : Nat} (hl : l < caps.length) (us : List Nat) (hu : us.length ≤ 6) : QIn (leftTo st (capQ caps l) us) := by
  obtain ⟨D, h1, h2, _, h3⟩ := h.D ok
  obtain ⟨z, hz⟩ := left_int h3 (capQ caps l) ⟨caps.getD l 0 * D, by unfold capQ; push_cast; rfl⟩ us
  have hb := left_bd h.top (capQ caps l) us
  have hc := capQ_bd ok hl
  have : (us.length : Rat) ≤ 6 := by exact_mod_cast hu
  exact qin_of h1 (by omega) hz (by grind) (by grind)
theorem free_le (st : St) (ok : NetOk caps paths) (l : Nat) : freeL paths st l ≤ 6 := by
  have h1 : freeL paths st l ≤ (users paths l).length := List.countP_le_length
  have := users_len paths l; have := ok.F1; omega
theorem share_int {l : Nat} {s : Rat} (hs : share caps paths st l = some s) {D : Nat} (h3 : ∀ u q, st.at_ u = some q → ∃ z : Int, q * (D : Rat) = (z : Rat)) : ∃ z : Int, s * ((D * freeL paths st l : Nat) : Rat) = (z : Rat) := by
  obtain ⟨z, hz⟩ := left_int h3 (capQ caps l) ⟨caps.getD l 0 * D, by unfold capQ; push_cast; rfl⟩ (users paths l)
  obtain ⟨h4, h5, _⟩ := share_some hs
  refine ⟨z, ?_⟩
  rw [← hz]
  show _ = leftOf caps paths st l * (D : Rat)
  rw [h5]; push_cast; grind
theorem FInv.share_in (h : FInv caps paths st) (ok : NetOk caps paths) {l : Nat} (hl : l < caps.length) {s : Rat} (hs : share caps paths st l = some s) : QIn s := by
  obtain ⟨D, h1, h2, _, h3⟩ := h.D ok
  obtain ⟨z, hz⟩ := share_int hs h3
  obtain ⟨h4, h5, _⟩ := share_some hs
  have hf := free_le st ok l
  have hb := left_bd h.top (capQ caps l) (users paths l)
  have hc := capQ_bd ok hl
  have hu : ((users paths l).length : Rat) ≤ 6 := by
    have := users_len paths l; have := ok.F1
    exact_mod_cast (by omega : (users paths (l : Int)).length ≤ 6)
  have hle : leftOf caps paths st l ≤ 1000 ∧ -6000 ≤ leftOf caps paths st l := by
    show leftTo st (capQ caps l) (users paths l) ≤ 1000 ∧ -6000 ≤ leftTo st (capQ caps l) (users paths l)
    constructor <;> grind
  have hfp : (1 : Rat) ≤ (freeL paths st l : Rat) := by exact_mod_cast (by omega : 1 ≤ freeL paths st l)
  have hD : D * freeL paths st l ≤ 64 * 6 := Nat.mul_le_mul h2 hf
  refine qin_of (D := D * freeL paths st l) (Nat.mul_pos h1 h4) (by omega) hz ?_ ?_
  · apply Classical.byContradiction
    intro hc
    have h7 : s ≤ -10000 := by grind
    have h8 : (freeL paths st l : Rat) * s ≤ 1 * s := by
      have := Rat.mul_le_mul_of_nonneg_right hfp (show (0 : Rat) ≤ -s by grind)
      grind
    grind
  · apply Classical.byContradiction
    intro hc
    have h7 : 10000 ≤ s := by grind
    have h8 : 1 * s ≤ (freeL paths st l : Rat) * s := Rat.mul_le_mul_of_nonneg_right hfp (show (0 : Rat) ≤ s by grind)
    grind
end
end Go.Proofs.YtaijpiebjhhkjaaGreatDoor
/- Rates that rise together, in plain words: from round to round till all are done. -/
namespace Go.Proofs.YtaijpiebjhhkjaaGreatDoor
theorem at_none_of {st : St} (h : allDone st = false) : ∃ u, u < st.length ∧ st.at_ u = none := by
  unfold allDone at h
  rw [List.all_eq_false] at h
  obtain ⟨x, hx, hn⟩ := h
  obtain ⟨u, hu, e⟩ := List.getElem_of_mem hx
  refine ⟨u, hu, ?_⟩
  unfold St.at_
  rw [List.getD_eq_getElem?_getD, List.getElem?_eq_getElem hu, e]
  cases x with
  | none => rfl
  | some q => exact absurd rfl hn
theorem done_at {st : St} (h : allDone st = true) {u : Nat} (hu : u < st.length) : ∃ q, st.at_ u = some q := by
  unfold allDone at h
  rw [List.all_eq_true] at h
  have := h st[u] (List.getElem_mem hu)
  unfold St.at_
  rw [List.getD_eq_getElem?_getD, List.getElem?_eq_getElem hu]
  cases e : st[u] with
  | none => rw [e] at this; cases this
  | some q => exact ⟨q, by simp⟩
theorem count_setAll (b : Rat) : ∀ (out : List Nat) (st : St), out.Nodup → (∀ u ∈ out, u < st.length ∧ st.at_ u = none) → (setAll st b out).countP Option.isSome = st.countP Option.isSome + out.length := by
  intro out
  induction out with
  | nil => intro st _ _; rfl
  | cons u out ih =>
    intro st hn h
    rw [List.nodup_cons] at hn
    obtain ⟨hu, hz⟩ := h u List.mem_cons_self
    show (setAll (st.set u (some b)) b out).countP _ = _
    rw [ih _ hn.2]
    · rw [List.countP_set hu]
      have : st[u] = none := by
        unfold St.at_ at hz
        rw [List.getD_eq_getElem?_getD, List.getElem?_eq_getElem hu] at hz
        simpa using hz
      rw [this]; simp; omega
    · intro v hv
      obtain ⟨h1, h2⟩ := h v (List.mem_cons_of_mem _ hv)
      refine ⟨by simpa using h1, ?_⟩
      have hne : ¬ u = v := fun e => hn.1 (by rw [e]; exact hv)
      unfold St.at_ at *
      rw [List.getD_eq_getElem?_getD] at *
      rw [List.getElem?_set_ne hne]; exact h2
theorem out_nodup (caps : List Int) (paths : List (List Int)) (st : St) : (roundOut caps paths st).Nodup := List.Pairwise.filter _ List.nodup_range
theorem free_out {caps : List Int} {paths : List (List Int)} {st : St} {l : Nat} {b : Rat} (hb : bestTo (share caps paths st) caps.length = some b) (hl : l < caps.length) (hs : share caps paths st l = some b) : freeL paths st l ≤ (roundOut caps paths st).length := by
  unfold freeL freeOf users usersTo roundOut outTo
  rw [List.countP_filter, ← List.countP_eq_length_filter]
  refine List.countP_mono_left fun u _ hu => ?_
  simp only [Bool.and_eq_true] at hu ⊢
  exact ⟨hu.1, meets_iff.2 ⟨l, (links_mem hb).2 ⟨hl, hs⟩, hu.2⟩⟩
section
variable {caps : List Int} {paths : List (List Int)} {st : St}
theorem FInv.start (ok : NetOk caps paths) : FInv caps paths (List.replicate paths.length none) := by
  have hat : ∀ u, St.at_ (List.replicate paths.length none) u = none := fun u => by
    unfold St.at_
    rw [List.getD_eq_getElem?_getD, List.getElem?_replicate]
    split <;> rfl
  refine ⟨by simp, ⟨0, ?_⟩, ⟨1, by omega, Nat.one_le_two_pow, fun u q h => (by rw [hat] at h; cases h)⟩, fun u q h => (by rw [hat] at h; cases h)⟩
  have e : dn (List.replicate paths.length none) = fun _ => false := by funext f; unfold dn; rw [hat]; rfl
  rw [e]
  refine MM.Net.Inv.start fun l hl => ?_
  have := (capQ_bd ok hl).1
  show 0 < capQ caps l
  grind
theorem best_is (h : FInv caps paths st) (ok : NetOk caps paths) (hd : allDone st = false) : ∃ b, bestTo (share caps paths st) caps.length = some b := by
  obtain ⟨u, hu, hn⟩ := at_none_of hd
  rw [h.len] at hu
  obtain ⟨h1, h2⟩ := ok.path paths[u] (List.getElem_mem hu)
  obtain ⟨h3, h4⟩ := h2 _ (List.getElem_mem h1)
  have hx : paths[u][0] ∈ paths.getD u [] := by rw [List.getD_eq_getElem?_getD, List.getElem?_eq_getElem hu]; exact List.getElem_mem h1
  obtain ⟨l, hl⟩ := Int.eq_ofNat_of_zero_le h3
  rw [hl] at hx h4
  have hf : 0 < freeL paths st l := by
    unfold freeL freeOf
    rw [List.countP_pos_iff]
    exact ⟨u, users_mem.2 ⟨hu, hx⟩, by rw [hn]; rfl⟩
  obtain ⟨s, hs⟩ := share_is (caps := caps) hf
  obtain ⟨b, hb, _⟩ := bestTo_le (by omega : l < caps.length) hs
  exact ⟨b, hb⟩
theorem FInv.round (h : FInv caps paths st) {b : Rat} (hb : bestTo (share caps paths st) caps.length = some b) :
    (netOf caps paths).Round (dn st) (rt st) b (fun l => l < caps.length ∧ share caps paths st l = some b) (dn (roundSt caps paths st)) (rt (roundSt caps paths st)) := by
  have hr : roundSt caps paths st = setAll st b (roundOut caps paths st) := by unfold roundSt; rw [hb]
  have hat : ∀ f, f < paths.length → (roundSt caps paths st).at_ f = if f ∈ roundOut caps paths st then some b else st.at_ f := fun f hf => by
    rw [hr]; exact setAll_at _ _ _ _ (by rw [h.len]; exact hf)
  refine ⟨?_, ?_, ?_, ?_, ?_⟩
  · obtain ⟨l, h1, h2⟩ := bestTo_in hb; exact ⟨l, h1, h2⟩
  · rintro l ⟨h1, h2⟩
    obtain ⟨h3, _, h5⟩ := share_some h2
    exact ⟨h1, (free_iff caps paths st l).2 h3, h5⟩
  · intro l hl hf hn
    have hl : l < caps.length := hl
    have hf := (free_iff caps paths st l).1 hf
    obtain ⟨s, hs⟩ := share_is (caps := caps) hf
    obtain ⟨b', hb', hle⟩ := bestTo_le hl hs
    rw [hb] at hb'; injection hb' with hb'; subst hb'
    have hne : ¬ s = b := fun e => hn ⟨hl, by rw [hs, e]⟩
    obtain ⟨_, h5, _⟩ := share_some hs
    rw [load_of, h5]
    show capQ caps l - _ + _ < capQ caps l
    have hp : (0 : Rat) < (freeL paths st l : Rat) := by exact_mod_cast hf
    have : (freeL paths st l : Rat) * b < (freeL paths st l : Rat) * s := Rat.mul_lt_mul_of_pos_left (by grind) hp
    grind
  · rintro f hf hd ⟨l, ⟨h1, h2⟩, ho⟩
    have hn : st.at_ f = none := by
      unfold dn at hd
      cases e : st.at_ f with
      | none => rfl
      | some q => rw [e] at hd; cases hd
    have hm : f ∈ roundOut caps paths st := (out_iff hb).2 ⟨hf, hn, l, ⟨h1, h2⟩, ho⟩
    have e := hat f hf
    rw [if_pos hm] at e
    exact ⟨by unfold dn; rw [e]; rfl, by unfold rt; rw [e]; rfl⟩
  · intro f hf hor
    have hm : f ∉ roundOut caps paths st := fun hm => by
      obtain ⟨_, h2, l, h3, h4⟩ := (out_iff hb).1 hm
      rcases hor with hd | hd
      · unfold dn at hd; rw [h2] at hd; cases hd
      · exact hd ⟨l, h3, h4⟩
    have e := hat f hf
    rw [if_neg hm] at e
    exact ⟨by unfold dn; rw [e], by unfold rt; rw [e]⟩
theorem round_at (h : FInv caps paths st) {b : Rat} (hb : bestTo (share caps paths st) caps.length = some b) {f : Nat} (hf : f < paths.length) : (roundSt caps paths st).at_ f = if f ∈ roundOut caps paths st then some b else st.at_ f := by
  have hr : roundSt caps paths st = setAll st b (roundOut caps paths st) := by unfold roundSt; rw [hb]
  rw [hr]; exact setAll_at _ _ _ _ (by rw [h.len]; exact hf)
theorem FInv.next (h : FInv caps paths st) (ok : NetOk caps paths) {b : Rat} (hb : bestTo (share caps paths st) caps.length = some b) :
    FInv caps paths (roundSt caps paths st) ∧ st.countP Option.isSome < (roundSt caps paths st).countP Option.isSome ∧ 0 < b ∧ b ≤ 1000 ∧ (∀ u q, st.at_ u = some q → q < b) := by
  have hr : roundSt caps paths st = setAll st b (roundOut caps paths st) := by unfold roundSt; rw [hb]
  have hR := h.round hb
  obtain ⟨t, hI⟩ := h.inv
  have hm := hR.more hI
  have hb0 : 0 < b := by have := hI.nn; grind
  obtain ⟨l, hl, hs⟩ := bestTo_in hb
  obtain ⟨h4, h5, _⟩ := share_some hs
  have hb1 : b ≤ 1000 := by
    have hfp : (1 : Rat) ≤ (freeL paths st l : Rat) := by exact_mod_cast (by omega : 1 ≤ freeL paths st l)
    have h8 : 1 * b ≤ (freeL paths st l : Rat) * b := Rat.mul_le_mul_of_nonneg_right hfp (show (0 : Rat) ≤ b by grind)
    have h9 := (left_bd h.top (capQ caps l) (users paths l)).1
    have hc := capQ_bd ok hl
    have h10 : leftOf caps paths st l ≤ capQ caps l := h9
    grind
  have hlen : (roundSt caps paths st).length = paths.length := by rw [hr, setAll_len, h.len]
  have hcnt : (roundSt caps paths st).countP Option.isSome = st.countP Option.isSome + (roundOut caps paths st).length := by
    rw [hr]
    refine count_setAll b _ _ (out_nodup _ _ _) fun u hu => ?_
    obtain ⟨h1, h2, _⟩ := (out_iff hb).1 hu
    exact ⟨by rw [h.len]; exact h1, h2⟩
  have hfo := free_out hb hl hs
  have hin : ∀ u q, (roundSt caps paths st).at_ u = some q → q = b ∨ st.at_ u = some q := fun u q hq => by
    by_cases hu : u < paths.length
    · rw [round_at h hb hu] at hq
      split at hq
      · injection hq with hq; exact .inl hq.symm
      · exact .inr hq
    · unfold St.at_ at hq
      rw [List.getD_eq_getElem?_getD, List.getElem?_eq_none (by omega)] at hq
      cases hq
  refine ⟨⟨hlen, ⟨b, hR.inv hI⟩, ?_, fun u q hq => ?_⟩, by omega, hb0, hb1, fun u q hq => ?_⟩
  · obtain ⟨D, h1, _, h2, h3⟩ := h.D ok
    refine ⟨D * freeL paths st l, Nat.mul_pos h1 h4, ?_, fun u q hq => ?_⟩
    · rw [hcnt, Nat.pow_add]
      refine Nat.mul_le_mul h2 (Nat.le_trans (Nat.le_of_lt (Nat.lt_two_pow_self)) (Nat.pow_le_pow_right (by omega) hfo))
    · rcases hin u q hq with rfl | hq
      · exact share_int hs h3
      · obtain ⟨z, hz⟩ := h3 u q hq
        refine ⟨z * freeL paths st l, ?_⟩
        push_cast; rw [← hz]; grind
  · rcases hin u q hq with rfl | hq
    · exact ⟨hb0, hb1⟩
    · exact h.top u q hq
  · by_cases hu : u < paths.length
    · have := hI.pos u hu (by unfold dn; rw [hq]; rfl)
      have e : rt st u = q := by unfold rt; rw [hq]; rfl
      rw [e] at this; grind
    · unfold St.at_ at hq
      rw [List.getD_eq_getElem?_getD, List.getElem?_eq_none (by rw [h.len]; omega)] at hq
      cases hq
end
/-- so many rounds, and what stands then -/
def FillEnds (caps : List Int) (paths : List (List Int)) (K : Nat) (R : List Rat) : Prop := allDone (fillSt caps paths K) = true ∧ (∀ j, j < K → allDone (fillSt caps paths j) = false) ∧ fillSt caps paths K = R.map some
theorem finv_at {caps : List Int} {paths : List (List Int)} (ok : NetOk caps paths) : ∀ j, (∀ i, i < j → allDone (fillSt caps paths i) = false) → FInv caps paths (fillSt caps paths j) ∧ j ≤ (fillSt caps paths j).countP Option.isSome := by
  intro j
  induction j with
  | zero => intro _; exact ⟨FInv.start ok, Nat.zero_le _⟩
  | succ j ih =>
    intro h
    obtain ⟨h1, h2⟩ := ih fun i hi => h i (by omega)
    obtain ⟨b, hb⟩ := best_is h1 ok (h j (by omega))
    obtain ⟨h3, h4, _⟩ := h1.next ok hb
    exact ⟨h3, by show j + 1 ≤ (roundSt caps paths (fillSt caps paths j)).countP _; omega⟩
theorem all_some {st : St} (h : allDone st = true) : ∃ R : List Rat, st = R.map some := by
  refine ⟨st.map fun o => o.getD 0, ?_⟩
  rw [List.map_map]
  unfold allDone at h
  rw [List.all_eq_true] at h
  conv => lhs; rw [← List.map_id st]
  refine List.map_congr_left fun x hx => ?_
  have := h x hx
  cases x with
  | none => cases this
  | some q => rfl
theorem fill_ends {caps : List Int} {paths : List (List Int)} (ok : NetOk caps paths) : ∃ K R, FillEnds caps paths K R := by
  have key : ∀ d j, paths.length + 1 - j = d → (∀ i, i < j → allDone (fillSt caps paths i) = false) → ∃ K R, FillEnds caps paths K R := by
    intro d
    induction d with
    | zero =>
      intro j hd h
      obtain ⟨h1, h2⟩ := finv_at ok j h
      have h3 : (fillSt caps paths j).countP Option.isSome ≤ (fillSt caps paths j).length := List.countP_le_length
      rw [h1.len] at h3
      omega
    | succ d ih =>
      intro j hd h
      cases hj : allDone (fillSt caps paths j)
      · exact ih (j + 1) (by omega) fun i hi => by
          by_cases e : i = j
          · subst e; exact hj
          · exact h i (by omega)
      · obtain ⟨R, hR⟩ := all_some hj
        exact ⟨j, R, hj, h, hR⟩
  exact key _ 0 rfl fun i hi => by omega
section
variable {caps : List Int} {paths : List (List Int)} {K : Nat} {R : List Rat}
theorem FillEnds.finv (h : FillEnds caps paths K R) (ok : NetOk caps paths) : FInv caps paths (R.map some) := by
  rw [← h.2.2]; exact (finv_at ok K h.2.1).1
theorem FillEnds.K_le (h : FillEnds caps paths K R) (ok : NetOk caps paths) : K ≤ paths.length := by
  obtain ⟨h1, h2⟩ := finv_at ok K h.2.1
  have h3 : (fillSt caps paths K).countP Option.isSome ≤ (fillSt caps paths K).length := List.countP_le_length
  rw [h1.len] at h3; omega
theorem FillEnds.len (h : FillEnds caps paths K R) (ok : NetOk caps paths) : R.length = paths.length := by
  have := (h.finv ok).len; simpa using this
theorem at_map {R : List Rat} {u : Nat} (h : u < R.length) : St.at_ (R.map some) u = some (R.getD u 0) := by
  unfold St.at_; simp [List.getD_eq_getElem?_getD, h]
theorem FillEnds.rates (h : FillEnds caps paths K R) (ok : NetOk caps paths) : ∀ q ∈ R, QIn q ∧ 0 < q ∧ q ≤ 1000 := fun q hq => by
  obtain ⟨u, hu, rfl⟩ := List.getElem_of_mem hq
  have e : St.at_ (R.map some) u = some R[u] := by rw [at_map hu, List.getD_eq_getElem?_getD, List.getElem?_eq_getElem hu]; rfl
  exact ⟨((h.finv ok).rate_in ok e).1, (h.finv ok).top u _ e⟩
theorem FillEnds.fair (h : FillEnds caps paths K R) (ok : NetOk caps paths) : (netOf caps paths).Fair fun f => R.getD f 0 := by
  obtain ⟨t, hI⟩ := (h.finv ok).inv
  have hl := h.len ok
  have hf := hI.fair fun f hf => by unfold dn; rw [at_map (by rw [hl]; exact hf)]; rfl
  have e : ∀ f, f < (netOf caps paths).F → rt (R.map some) f = R.getD f 0 := fun f hf => by unfold rt; rw [at_map (by rw [hl]; exact hf)]; rfl
  have el : ∀ l, (netOf caps paths).load (rt (R.map some)) l = (netOf caps paths).load (fun f => R.getD f 0) l := fun l => MM.load_congr fun f hf _ => e f hf
  obtain ⟨⟨h1, h2⟩, h3⟩ := hf
  refine ⟨⟨fun f hf => by have := h1 f hf; rw [e f hf] at this; exact this, fun l hl => by rw [← el]; exact h2 l hl⟩, fun f hf => ?_⟩
  obtain ⟨l, h4, h5, h6, h7⟩ := h3 f hf
  refine ⟨l, h4, h5, by rw [← el]; exact h6, fun u hu hon => ?_⟩
  have := h7 u hu hon
  rw [e u hu, e f hf] at this; exact this
theorem FillEnds.same {K' : Nat} {R' : List Rat} (h : FillEnds caps paths K R) (h' : FillEnds caps paths K' R') : K = K' ∧ R = R' := by
  have hk : K = K' := by
    rcases Nat.lt_trichotomy K K' with e | e | e
    · have := h'.2.1 K e; rw [h.1] at this; cases this
    · exact e
    · have := h.2.1 K' e; rw [h'.1] at this; cases this
  subst hk
  refine ⟨rfl, ?_⟩
  have e : R.map some = R'.map some := h.2.2.symm.trans h'.2.2
  have e2 : (R.map some).map (fun o => Option.getD o 0) = (R'.map some).map (fun o => Option.getD o 0) := by rw [e]
  simpa [List.map_map, Function.comp_def] using e2
end
end Go.Proofs.YtaijpiebjhhkjaaGreatDoor
/- Loads of links in plain words. -/
namespace Go.Proofs.YtaijpiebjhhkjaaGreatDoor
def frQ (q : Rat) : Fr := ⟨q.num, q.den⟩
theorem frQ_inj {q r : Rat} (h : frQ q = frQ r) : q = r := by
  unfold frQ at h; injection h with h1 h2
  exact rat_ext h1 h2
def frErr (s : Fr) : Int := fracErr s.t s.b
def ratesErr (S : List Fr) : Int := firstFrom (fun i => frErr (S.getD i ⟨0, 1⟩)) (S.length - 0) 0
theorem ratesErr_ok {S : List Fr} (h : ratesErr S = 0) : ∃ Q : List Rat, S = Q.map frQ ∧ ∀ q ∈ Q, QIn q := by
  have h1 : ∀ s ∈ S, frErr s = 0 := fun s hs => by
    obtain ⟨i, hi, e⟩ := List.getElem_of_mem hs
    have := firstFrom_zero h i (Nat.zero_le _) (by omega)
    simpa [List.getD_eq_getElem?_getD, hi, e] using this
  clear h
  induction S with
  | nil => exact ⟨[], rfl, fun q hq => by cases hq⟩
  | cons s S ih =>
    obtain ⟨Q, e, hQ⟩ := ih fun s hs => h1 s (List.mem_cons_of_mem _ hs)
    obtain ⟨q, h2, h3, h4⟩ := frac_rat (h1 s List.mem_cons_self)
    refine ⟨q :: Q, ?_, fun r hr => ?_⟩
    · rw [List.map_cons, ← e]; congr 1
      unfold frQ; rw [← h2, ← h3]
    · rcases List.mem_cons.1 hr with rfl | hr
      · exact h4
      · exact hQ r hr
theorem ratesErr_of {Q : List Rat} (h : ∀ q ∈ Q, QIn q) : ratesErr (Q.map frQ) = 0 := by
  unfold ratesErr
  refine firstFrom_all fun j _ hj => ?_
  have hj : j < Q.length := by simp at hj; omega
  rw [List.getD_eq_getElem?_getD, List.getElem?_map, List.getElem?_eq_getElem hj]
  exact rat_frac (h _ (List.getElem_mem hj))
def chkErr (caps : List Int) (paths : List (List Int)) (S : List Fr) : Int := if netErr caps paths = 0 then (if S.length = paths.length then ratesErr S else 3) else netErr caps paths
theorem chk_ok {caps : List Int} {paths : List (List Int)} {S : List Fr} (h : chkErr caps paths S = 0) : netErr caps paths = 0 ∧ ∃ Q : List Rat, S = Q.map frQ ∧ Q.length = paths.length ∧ ∀ q ∈ Q, QIn q := by
  unfold chkErr at h
  by_cases h1 : netErr caps paths = 0
  · rw [if_pos h1] at h
    by_cases h2 : S.length = paths.length
    · rw [if_pos h2] at h
      obtain ⟨Q, rfl, hQ⟩ := ratesErr_ok h
      exact ⟨h1, Q, rfl, by simpa using h2, hQ⟩
    · rw [if_neg h2] at h; omega
  · rw [if_neg h1] at h; exact absurd h h1
theorem chk_of {caps : List Int} {paths : List (List Int)} {Q : List Rat} (h : netErr caps paths = 0) (hl : Q.length = paths.length) (hQ : ∀ q ∈ Q, QIn q) : chkErr caps paths (Q.map frQ) = 0 := by
  unfold chkErr; rw [if_pos h, if_pos (by simpa using hl), ratesErr_of hQ]
/-- one added to another, if that may be -/
def addQ (Q : List Rat) (o : Option Rat) (u : Nat) : Option Rat := match o with
  | none => none
  | some s => if QIn (s + Q.getD u 0) then some (s + Q.getD u 0) else none
def addUp (Q : List Rat) (us : List Nat) : Option Rat := us.foldl (addQ Q) (some 0)
theorem addUp_snoc (Q : List Rat) (us : List Nat) (u : Nat) : addUp Q (us ++ [u]) = addQ Q (addUp Q us) u := by
  unfold addUp; rw [List.foldl_append]; rfl
theorem addQ_none (Q : List Rat) : ∀ us : List Nat, us.foldl (addQ Q) none = none := by
  intro us
  induction us with
  | nil => rfl
  | cons u us ih => exact ih
theorem addUp_none {Q : List Rat} {us : List Nat} {k : Nat} (h : addUp Q (us.take k) = none) : addUp Q us = none := by
  have e : addUp Q us = (us.drop k).foldl (addQ Q) (addUp Q (us.take k)) := by
    unfold addUp; rw [← List.foldl_append, List.take_append_drop]
  rw [e, h, addQ_none]
def sumOf (Q : List Rat) (us : List Nat) (c : Rat) : Rat := us.foldl (fun s u => s + Q.getD u 0) c
theorem addUp_some {Q : List Rat} {us : List Nat} {s : Rat} (h : addUp Q us = some s) : s = sumOf Q us 0 := by
  have key : ∀ (us : List Nat) (c s : Rat), us.foldl (addQ Q) (some c) = some s → s = sumOf Q us c := by
    intro us
    induction us with
    | nil => intro c s h; injection h with h; exact h.symm
    | cons u us ih =>
      intro c s h
      have e : (u :: us).foldl (addQ Q) (some c) = us.foldl (addQ Q) (addQ Q (some c) u) := rfl
      rw [e] at h
      by_cases hq : QIn (c + Q.getD u 0)
      · have e2 : addQ Q (some c) u = some (c + Q.getD u 0) := by show (if _ then _ else _) = _; rw [if_pos hq]
        rw [e2] at h
        exact ih _ _ h
      · have e2 : addQ Q (some c) u = none := by show (if _ then _ else _) = _; rw [if_neg hq]
        rw [e2, addQ_none] at h; cases h
  exact key us 0 s h
theorem zero_in : QIn 0 := by unfold QIn FracIn; decide
theorem addUp_in {Q : List Rat} : ∀ {us : List Nat} {s : Rat}, addUp Q us = some s → QIn s := by
  have key : ∀ (us : List Nat) (c s : Rat), QIn c → us.foldl (addQ Q) (some c) = some s → QIn s := by
    intro us
    induction us with
    | nil => intro c s hc h; injection h with h; rwa [← h]
    | cons u us ih =>
      intro c s _ h
      have e : (u :: us).foldl (addQ Q) (some c) = us.foldl (addQ Q) (addQ Q (some c) u) := rfl
      rw [e] at h
      by_cases hq : QIn (c + Q.getD u 0)
      · have e2 : addQ Q (some c) u = some (c + Q.getD u 0) := by show (if _ then _ else _) = _; rw [if_pos hq]
        rw [e2] at h
        exact ih _ _ hq h
      · have e2 : addQ Q (some c) u = none := by show (if _ then _ else _) = _; rw [if_neg hq]
        rw [e2, addQ_none] at h; cases h
  intro us s h
  exact key us 0 s zero_in h
/-- the loads of the first n links -/
def loadsTo (paths : List (List Int)) (Q : List Rat) : Nat → Option (List Rat)
  | 0 => some []
  | n + 1 => match loadsTo paths Q n, addUp Q (users paths n) with
    | some L, some s => some (L ++ [s])
    | _, _ => none
theorem loadsTo_yes {paths : List (List Int)} {Q L : List Rat} {n : Nat} {s : Rat} (h : loadsTo paths Q n = some L) (hs : addUp Q (users paths n) = some s) : loadsTo paths Q (n + 1) = some (L ++ [s]) := by
  unfold loadsTo; rw [h, hs]
theorem loadsTo_no {paths : List (List Int)} {Q : List Rat} {n : Nat} (h : loadsTo paths Q n = none ∨ addUp Q (users paths n) = none) : loadsTo paths Q (n + 1) = none := by
  unfold loadsTo
  rcases h with h | h
  · rw [h]
  · rw [h]; cases loadsTo paths Q n <;> rfl
theorem loadsTo_none {paths : List (List Int)} {Q : List Rat} {n m : Nat} (h : n < m) (hs : addUp Q (users paths n) = none) : loadsTo paths Q m = none := by
  obtain ⟨d, rfl⟩ : ∃ d, m = n + 1 + d := ⟨m - (n + 1), by omega⟩
  induction d with
  | zero => exact loadsTo_no (.inr hs)
  | succ d ih => exact loadsTo_no (.inl (ih (by omega)))
theorem loadsTo_len {paths : List (List Int)} {Q : List Rat} : ∀ {n : Nat} {L : List Rat}, loadsTo paths Q n = some L → L.length = n := by
  intro n
  induction n with
  | zero => intro L h; injection h with h; subst h; rfl
  | succ n ih =>
    intro L h
    unfold loadsTo at h
    split at h
    · rename_i L' s h1 h2
      injection h with h; subst h
      rw [List.length_append, ih h1]; rfl
    · cases h
theorem loadsTo_at {paths : List (List Int)} {Q : List Rat} : ∀ {n : Nat} {L : List Rat}, loadsTo paths Q n = some L → ∀ {l : Nat}, l < n → ∃ s, L[l]? = some s ∧ addUp Q (users paths l) = some s := by
  intro n
  induction n with
  | zero => intro L _ l hl; omega
  | succ n ih =>
    intro L h l hl
    unfold loadsTo at h
    split at h
    · rename_i L' s h1 h2
      injection h with h; subst h
      have hL := loadsTo_len h1
      by_cases e : l = n
      · subst e
        exact ⟨s, by rw [List.getElem?_append_right (by omega), hL, Nat.sub_self]; rfl, h2⟩
      · obtain ⟨x, hx, h3⟩ := ih h1 (show l < n by omega)
        exact ⟨x, by rw [List.getElem?_append_left (by omega)]; exact hx, h3⟩
    · cases h
theorem loadsTo_in {paths : List (List Int)} {Q : List Rat} {n : Nat} {L : List Rat} (h : loadsTo paths Q n = some L) : ∀ q ∈ L, QIn q := fun q hq => by
  obtain ⟨l, hl, e⟩ := List.getElem_of_mem hq
  obtain ⟨s, h1, h2⟩ := loadsTo_at h (by rw [← loadsTo_len h]; exact hl)
  rw [List.getElem?_eq_getElem hl, e] at h1
  injection h1 with h1
  rw [h1]; exact addUp_in h2
end Go.Proofs.YtaijpiebjhhkjaaGreatDoor
/- Loads of links in plain words: what fits, and how it goes with rates that rise together. -/
namespace Go.Proofs.YtaijpiebjhhkjaaGreatDoor
def rateOf (Q : List Rat) (f : Nat) : Rat := Q.getD f 0
theorem sumOf_snoc (Q : List Rat) (us : List Nat) (u : Nat) (c : Rat) : sumOf Q (us ++ [u]) c = sumOf Q us c + Q.getD u 0 := by
  unfold sumOf; rw [List.foldl_append]; rfl
theorem sum_to (paths : List (List Int)) (Q : List Rat) (l n : Nat) :
    MM.sm (fun f => if inL (paths.getD f []) (l : Int) = true then rateOf Q f else 0) n = sumOf Q (usersTo paths l n) 0 := by
  induction n with
  | zero => rfl
  | succ n ih =>
    rw [usersTo_succ]
    simp only [MM.sm]
    rw [ih]
    by_cases hon : inL (paths.getD n []) (l : Int) = true
    · rw [if_pos hon, if_pos hon, sumOf_snoc]; rfl
    · rw [if_neg hon, if_neg hon, List.append_nil, Rat.add_zero]
theorem load_sum (caps : List Int) (paths : List (List Int)) (Q : List Rat) (l : Nat) : (netOf caps paths).load (rateOf Q) l = sumOf Q (users paths l) 0 := sum_to paths Q l paths.length
theorem load_at {caps : List Int} {paths : List (List Int)} {Q L : List Rat} (h : loadsTo paths Q caps.length = some L) {l : Nat} (hl : l < caps.length) : L[l]? = some ((netOf caps paths).load (rateOf Q) l) := by
  obtain ⟨s, h1, h2⟩ := loadsTo_at h hl
  rw [h1, load_sum, ← addUp_some h2]
/-- does it fit? -/
def overB (caps : List Int) (L : List Rat) (l : Nat) : Bool := decide (capQ caps l < L.getD l 0)
def negB (Q : List Rat) : Bool := Q.any fun q => decide (q.num < 0)
def fitsB (caps : List Int) (Q L : List Rat) : Bool := !negB Q && !(List.range caps.length).any (overB caps L)
theorem fitsB_iff {caps : List Int} {paths : List (List Int)} {Q L : List Rat} (h : loadsTo paths Q caps.length = some L) (hl : Q.length = paths.length) : fitsB caps Q L = true ↔ (netOf caps paths).Fits (rateOf Q) := by
  unfold fitsB negB
  rw [Bool.and_eq_true, Bool.not_eq_true', Bool.not_eq_true', List.any_eq_false, List.any_eq_false]
  constructor
  · rintro ⟨h1, h2⟩
    refine ⟨fun f hf => ?_, fun l hl' => ?_⟩
    · have hf : f < Q.length := by rw [hl]; exact hf
      have := h1 Q[f] (List.getElem_mem hf)
      have e : rateOf Q f = Q[f] := by unfold rateOf; rw [List.getD_eq_getElem?_getD, List.getElem?_eq_getElem hf]; rfl
      rw [e]
      have h3 : ¬ Q[f].num < 0 := by simpa using this
      exact Rat.num_nonneg.1 (by omega)
    · have := h2 l (List.mem_range.2 hl')
      unfold overB at this
      rw [List.getD_eq_getElem?_getD, load_at h hl'] at this
      have h3 : ¬ capQ caps l < (netOf caps paths).load (rateOf Q) l := by simpa using this
      show _ ≤ capQ caps l
      grind
  · rintro ⟨h1, h2⟩
    refine ⟨fun q hq => ?_, fun l hl' => ?_⟩
    · obtain ⟨f, hf, e⟩ := List.getElem_of_mem hq
      have := h1 f (show f < paths.length by rw [← hl]; exact hf)
      have e2 : rateOf Q f = q := by unfold rateOf; rw [List.getD_eq_getElem?_getD, List.getElem?_eq_getElem hf, e]; rfl
      rw [e2] at this
      have := Rat.num_nonneg.2 this
      have h3 : ¬ q.num < 0 := by omega
      simpa using h3
    · have hl' := List.mem_range.1 hl'
      have := h2 l hl'
      unfold overB
      rw [List.getD_eq_getElem?_getD, load_at h hl']
      have h3 : ¬ capQ caps l < (netOf caps paths).load (rateOf Q) l := by
        have : (netOf caps paths).load (rateOf Q) l ≤ capQ caps l := this
        grind
      simpa using h3
end Go.Proofs.YtaijpiebjhhkjaaGreatDoor
