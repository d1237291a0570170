/- The bucket in plain words: what goes, tick by tick. -/
import Derived.Test.YtbojccikmpbpbaaPlPool
namespace Go.Proofs.Ytbojccikmpbpbaa
namespace PB
/-- what goes, tick by tick, of a bucket that has so many tokens, while so many wait -/
def send (size rate : Int) (has wait : Int) : List Int → List Int
  | [] => []
  | n :: l => min (wait + n) has :: send size rate (min size (has - min (wait + n) has + rate)) (wait + n - min (wait + n) has) l
theorem len_send (size rate : Int) : ∀ (l : List Int) (has wait : Int), (send size rate has wait l).length = l.length := by
  intro l
  induction l with
  | nil => intros; rfl
  | cons n l ih => intros; simp [send, ih]
/-- how many tokens there are, how much waits, behind so many ticks -/
def after (size rate : Int) (has wait : Int) : List Int → Int × Int
  | [] => (has, wait)
  | n :: l => after size rate (min size (has - min (wait + n) has + rate)) (wait + n - min (wait + n) has) l
theorem send_snoc (size rate : Int) : ∀ (l : List Int) (has wait x : Int), send size rate has wait (l ++ [x]) = send size rate has wait l ++ [min ((after size rate has wait l).2 + x) (after size rate has wait l).1] := by
  intro l
  induction l with
  | nil => intros; simp [send, after]
  | cons n l ih => intros; simp only [List.cons_append, send, after, ih]
theorem after_snoc (size rate : Int) : ∀ (l : List Int) (has wait x : Int), after size rate has wait (l ++ [x]) = (min size ((after size rate has wait l).1 - min ((after size rate has wait l).2 + x) (after size rate has wait l).1 + rate), (after size rate has wait l).2 + x - min ((after size rate has wait l).2 + x) (after size rate has wait l).1) := by
  intro l
  induction l with
  | nil => intros; simp [after]
  | cons n l ih => intros; simp only [List.cons_append, after, ih]
/-- no more goes than there are tokens, and what comes between -/
theorem window (size rate : Int) (hz : 0 ≤ size) (hr : 0 ≤ rate) : ∀ (l : List Int) (has wait : Int) (m : Nat), 0 ≤ has → tot ((send size rate has wait l).take (m + 1)) ≤ has + m * rate := by
  intro l
  induction l with
  | nil => intro has wait m h; simp only [send, List.take_nil, tot]; have : 0 ≤ (m : Int) * rate := Int.mul_nonneg (by omega) hr; omega
  | cons n l ih =>
    intro has wait m h
    simp only [send, List.take_succ_cons, tot]
    cases m with
    | zero => simp [tot]; omega
    | succ m =>
      have := ih (min size (has - min (wait + n) has + rate)) (wait + n - min (wait + n) has) m (by omega)
      rw [show ((m + 1 : Nat) : Int) * rate = (m : Int) * rate + rate by rw [Int.natCast_add, Int.add_mul]; simp]
      omega
/-- what goes from the i-th tick on is what a bucket sends that is as it is then -/
theorem drop (size rate : Int) (hz : 0 ≤ size) (hr : 0 ≤ rate) : ∀ (i : Nat) (l : List Int) (has wait : Int), 0 ≤ has → has ≤ size → 0 ≤ wait → (∀ n ∈ l, 0 ≤ n) →
    ∃ h w, 0 ≤ h ∧ h ≤ size ∧ 0 ≤ w ∧ (send size rate has wait l).drop i = send size rate h w (l.drop i) := by
  intro i
  induction i with
  | zero => intro l has wait h0 h1 h2 _; exact ⟨has, wait, h0, h1, h2, rfl⟩
  | succ i ih =>
    intro l has wait h0 h1 h2 hl
    cases l with
    | nil => exact ⟨has, wait, h0, h1, h2, rfl⟩
    | cons n l =>
      have hn := hl n List.mem_cons_self
      simp only [send, List.drop_succ_cons]
      exact ih l _ _ (by omega) (by omega) (by omega) fun m hm => hl m (List.mem_cons_of_mem _ hm)
/-- never more than came, nothing below 0 -/
theorem came (size rate : Int) (hz : 0 ≤ size) (hr : 0 ≤ rate) : ∀ (k : Nat) (l : List Int) (has wait : Int), 0 ≤ has → 0 ≤ wait → (∀ n ∈ l, 0 ≤ n) →
    tot ((send size rate has wait l).take k) ≤ wait + tot (l.take k) ∧ ∀ x ∈ send size rate has wait l, 0 ≤ x := by
  intro k
  induction k with
  | zero =>
    intro l has wait h0 h1 hl
    refine ⟨by simp [tot]; omega, ?_⟩
    revert has wait
    induction l with
    | nil => intro has wait _ _ x hx; simp [send] at hx
    | cons n l ih =>
      intro has wait h0 h1 x hx
      have hn := hl n List.mem_cons_self
      simp only [send, List.mem_cons] at hx
      rcases hx with e | hx
      · omega
      · exact ih (fun m hm => hl m (List.mem_cons_of_mem _ hm)) _ _ (by omega) (by omega) x hx
  | succ k ih =>
    intro l has wait h0 h1 hl
    cases l with
    | nil => simp [send, tot]; omega
    | cons n l =>
      have hn := hl n List.mem_cons_self
      have := ih l (min size (has - min (wait + n) has + rate)) (wait + n - min (wait + n) has) (by omega) (by omega) fun m hm => hl m (List.mem_cons_of_mem _ hm)
      simp only [send, List.take_succ_cons, tot, List.mem_cons]
      refine ⟨by omega, ?_⟩
      rintro x (e | hx)
      · omega
      · exact this.2 x hx
/-- shaped ahead of a pool nothing is lost -/
theorem shaped (size rate room cap : Int) (hz : 0 ≤ size) (hr : 0 ≤ rate) (hrc : rate ≤ cap) (hsz : size ≤ room + cap) (hroom : 0 ≤ room) : ∀ (l : List Int) (has wait w : Int), 0 ≤ has → has ≤ size → 0 ≤ wait → 0 ≤ w → w ≤ room → w + has ≤ room + cap → (∀ n ∈ l, 0 ≤ n) →
    (PP.run room cap w (send size rate has wait l)).2.1 = 0 := by
  intro l
  induction l with
  | nil => intros; rfl
  | cons n l ih =>
    intro has wait w h0 h1 h2 h3 h4 h5 hl
    have hn := hl n List.mem_cons_self
    simp only [send, PP.run]
    have := ih (min size (has - min (wait + n) has + rate)) (wait + n - min (wait + n) has) (PP.left room cap w (min (wait + n) has)) (by omega) (by omega) (by omega) (by unfold PP.left PP.went; omega) (by unfold PP.left; omega) (by unfold PP.left PP.went; omega) fun m hm => hl m (List.mem_cons_of_mem _ hm)
    rw [this]
    unfold PP.lost PP.left PP.went; omega
theorem send_le (size rate : Int) : ∀ (l : List Int) (has wait : Int), has ≤ size → ∀ x ∈ send size rate has wait l, x ≤ size := by
  intro l
  induction l with
  | nil => intro has wait _ x hx; simp [send] at hx
  | cons n l ih =>
    intro has wait h x hx
    simp only [send, List.mem_cons] at hx
    rcases hx with e | hx
    · omega
    · exact ih _ _ (by omega) x hx
/-- what the statements ask of what goes -/
structure Facts (s r h : Int) (l xs : List Int) : Prop where
  len : xs.length = l.length
  range : ∀ x ∈ xs, 0 ≤ x ∧ x ≤ s
  win : ∀ j m : Nat, tot ((xs.drop j).take (m + 1)) ≤ s + m * r
  came : ∀ j : Nat, tot (xs.take j) ≤ tot (l.take j)
theorem facts (s r h : Int) (l : List Int) (hz : 0 ≤ s) (hr : 0 ≤ r) (h0 : 0 ≤ h) (h1 : h ≤ s) (hl : ∀ n ∈ l, 0 ≤ n) : Facts s r h l (send s r h 0 l) := by
  refine ⟨len_send _ _ _ _ _, fun x hx => ⟨(came s r hz hr 0 l h 0 h0 (Int.le_refl _) hl).2 x hx, send_le s r l h 0 h1 x hx⟩, fun j m => ?_, fun j => ?_⟩
  · obtain ⟨h', w', a, b, _, e⟩ := drop s r hz hr j l h 0 h0 h1 (Int.le_refl _) hl
    rw [e]
    have := window s r hz hr (l.drop j) h' w' m a
    omega
  · have := (came s r hz hr j l h 0 h0 (Int.le_refl _) hl).1
    omega
theorem send_head (s r h n : Int) (l : List Int) : send s r h 0 (n :: l) = min n h :: send s r (min s (h - min n h + r)) (n - min n h) l := by simp [send]
end PB
end Go.Proofs.Ytbojccikmpbpbaa
