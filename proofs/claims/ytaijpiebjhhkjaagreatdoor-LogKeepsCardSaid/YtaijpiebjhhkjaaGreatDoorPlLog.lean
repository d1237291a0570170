/- The log's bytes, plain: records, what a cut leaves of them, what their lines say. -/
import Derived.Test.YtaijpiebjhhkjaaGreatDoorLibN
import Derived.Lib.ItoaNum
import Derived.Lib.Fields
import Derived.Lib.AtoiAll
import Derived.Lib.LastIndexLaws
namespace Go.Proofs.YtaijpiebjhhkjaaGreatDoor.LG
/-- a record: a flow more, or one fewer -/
structure Op where
  add : Bool
  p : List Nat
def word (b : Bool) : UInt8 := if b then 43 else 45
def dig (x : Nat) : UInt8 := UInt8.ofNat (48 + x)
def nums : List Nat → List UInt8
  | [] => []
  | x :: p => 32 :: dig x :: nums p
def recB (o : Op) : List UInt8 := word o.add :: (nums o.p ++ [10])
def flat : List Op → List UInt8
  | [] => []
  | o :: O => recB o ++ flat O
/-- all numbers have one digit -/
def Small (o : Op) : Prop := ∀ x ∈ o.p, x < 10
def step1 (L : List (List Int)) (o : Op) : List (List Int) := if o.add then L ++ [o.p.map fun (x : Nat) => (x : Int)] else L.eraseIdx (o.p.headD 0)
def runs (O : List Op) : List (List Int) := O.foldl step1 []
theorem nums_snoc (p : List Nat) (x : Nat) : nums (p ++ [x]) = nums p ++ [32, dig x] := by
  induction p with
  | nil => rfl
  | cons y p ih => simp only [List.cons_append, nums, ih]
theorem nums_len (p : List Nat) : (nums p).length = 2 * p.length := by
  induction p with
  | nil => rfl
  | cons y p ih => simp only [nums, List.length_cons, ih]; omega
theorem recB_len (o : Op) : (recB o).length = 2 + 2 * o.p.length := by
  simp only [recB, List.length_cons, List.length_append, nums_len, List.length_nil]; omega
theorem flat_snoc (O : List Op) (o : Op) : flat (O ++ [o]) = flat O ++ recB o := by
  induction O with
  | nil => simp [flat]
  | cons y O ih => simp only [List.cons_append, flat, ih, List.append_assoc]
theorem runs_snoc (O : List Op) (o : Op) : runs (O ++ [o]) = step1 (runs O) o := by simp [runs]
theorem dig_nat {x : Nat} (h : x < 10) : (dig x).toNat = 48 + x := by
  unfold dig; rw [UInt8.toNat_ofNat']; omega
theorem dig_ne {x : Nat} (h : x < 10) {c : UInt8} (hc : c.toNat < 48) : dig x ≠ c := fun e => by
  have := dig_nat h; rw [e] at this; omega
theorem nums_no {p : List Nat} (h : ∀ x ∈ p, x < 10) : (10 : UInt8) ∉ nums p := by
  induction p with
  | nil => simp [nums]
  | cons y p ih =>
    simp only [nums, List.mem_cons, not_or]
    exact ⟨by decide, fun e => dig_ne (h y List.mem_cons_self) (c := 10) (by decide) e.symm, ih fun x hx => h x (List.mem_cons_of_mem _ hx)⟩
theorem word_no (b : Bool) : (10 : UInt8) ≠ word b := by cases b <;> decide
theorem runs_len (X : List Op) : (runs X).length ≤ X.length := by
  have h : ∀ (X : List Op) (L : List (List Int)), (X.foldl step1 L).length ≤ L.length + X.length := by
    intro X
    induction X with
    | nil => intro L; simp
    | cons o X ih =>
      intro L
      have h1 := ih (step1 L o)
      have h2 : (step1 L o).length ≤ L.length + 1 := by
        unfold step1
        split
        · simp
        · rw [List.length_eraseIdx]; split <;> omega
      simp only [List.foldl_cons, List.length_cons]; omega
  simpa [runs] using h X []
/-- how many records lie wholly in so many bytes -/
def full : List Op → Nat → Nat
  | [], _ => 0
  | o :: O, hi => if (recB o).length ≤ hi then full O (hi - (recB o).length) + 1 else 0
theorem full_le (O : List Op) (hi : Nat) : full O hi ≤ O.length := by
  induction O generalizing hi with
  | nil => simp [full]
  | cons o O ih => unfold full; split <;> simp <;> exact ih _
theorem cut_is (O : List Op) (hO : ∀ o ∈ O, Small o) (tail : List UInt8) (ht : (10 : UInt8) ∉ tail) (hi : Nat) : ∃ b, (flat O ++ tail).take hi = flat (O.take (full O hi)) ++ b ∧ (10 : UInt8) ∉ b := by
  induction O generalizing hi with
  | nil => exact ⟨tail.take hi, by simp [flat, full], fun h => ht (List.mem_of_mem_take h)⟩
  | cons o O ih =>
    unfold full
    split
    · rename_i hle
      obtain ⟨b, hb, hn⟩ := ih (fun x hx => hO x (List.mem_cons_of_mem _ hx)) (hi - (recB o).length)
      refine ⟨b, ?_, hn⟩
      simp only [flat, List.take_succ_cons, List.append_assoc]
      rw [List.take_append, List.take_of_length_le hle, hb]
    · rename_i hlt
      refine ⟨(flat (o :: O) ++ tail).take hi, by simp [flat], fun h => ?_⟩
      simp only [flat, List.append_assoc] at h
      rw [List.take_append_of_le_length (by omega)] at h
      have e : recB o = (word o.add :: nums o.p) ++ [10] := by simp [recB]
      rw [e, List.take_append_of_le_length (by rw [e] at hlt; simp at hlt ⊢; omega)] at h
      have h2 := List.mem_of_mem_take h
      rcases List.mem_cons.1 h2 with h3 | h3
      · exact word_no _ h3
      · exact nums_no (hO o List.mem_cons_self) h3
/-- where the last line ends -/
theorem occ_ten (l : List UInt8) (i : Nat) : Lib.occAt l [10] i = true ↔ l[i]? = some 10 := by
  unfold Lib.occAt
  rw [List.isPrefixOf_iff_prefix]
  constructor
  · rintro ⟨t, ht⟩
    have : (l.drop i)[0]? = some 10 := by rw [← ht]; rfl
    simpa using this
  · intro h
    obtain ⟨hi, e⟩ := List.getElem?_eq_some_iff.1 h
    exact ⟨l.drop (i + 1), by rw [List.drop_eq_getElem_cons hi, e]; rfl⟩
theorem last_none {l : List UInt8} (h : (10 : UInt8) ∉ l) : Lib.lastIndex l [10] = -1 := by
  unfold Lib.lastIndex
  split
  · rcases Lib.lastOcc_spec l [10] (l.length - [(10 : UInt8)].length + 1) with ⟨e, _⟩ | ⟨i, hi, e, hc, _⟩
    · exact e
    · exact absurd (List.mem_of_getElem? ((occ_ten l i).1 hc)) h
  · rfl
theorem last_at {a b : List UInt8} (h : (10 : UInt8) ∉ b) : Lib.lastIndex (a ++ 10 :: b) [10] = a.length := by
  unfold Lib.lastIndex
  rw [if_pos (by simp; omega)]
  have hat : Lib.occAt (a ++ 10 :: b) [10] a.length = true := (occ_ten _ _).2 (by simp)
  rcases Lib.lastOcc_spec (a ++ 10 :: b) [10] ((a ++ 10 :: b).length - [(10 : UInt8)].length + 1) with ⟨_, hn⟩ | ⟨i, hi, e, hc, hn⟩
  · exact absurd hat (by rw [hn a.length (by simp; omega)]; simp)
  · rw [e]
    have h1 := (occ_ten _ _).1 hc
    rcases Nat.lt_trichotomy i a.length with hlt | heq | hgt
    · have := hn a.length hlt (by simp; omega)
      rw [hat] at this; cases this
    · exact_mod_cast heq
    · rw [List.getElem?_append_right (by omega)] at h1
      obtain ⟨d, hd⟩ : ∃ d, i - a.length = d + 1 := ⟨i - a.length - 1, by omega⟩
      rw [hd] at h1
      exact absurd (List.mem_of_getElem? (by simpa using h1)) h
theorem flat_end {O : List Op} (h : O ≠ []) : ∃ a, flat O = a ++ [10] := by
  obtain ⟨O', o, rfl⟩ : ∃ O' o, O = O' ++ [o] := ⟨O.dropLast, O.getLast h, (List.dropLast_concat_getLast h).symm⟩
  exact ⟨flat O' ++ word o.add :: nums o.p, by rw [flat_snoc]; simp [recB]⟩
/-- what Crash cuts off: the index of the last newline, and one -/
theorem cut_last (O : List Op) (hO : ∀ o ∈ O, Small o) (tail : List UInt8) (ht : (10 : UInt8) ∉ tail) (hi : Nat) : Lib.lastIndex ((flat O ++ tail).take hi) [10] + 1 = ((flat (O.take (full O hi))).length : Int) := by
  obtain ⟨b, hb, hn⟩ := cut_is O hO tail ht hi
  rw [hb]
  by_cases h0 : O.take (full O hi) = []
  · rw [h0]; simp only [flat, List.nil_append, List.length_nil]
    rw [last_none hn]; rfl
  · obtain ⟨a, ha⟩ := flat_end h0
    rw [ha, List.append_assoc, List.singleton_append, last_at hn]
    simp
theorem cut_take (O : List Op) (hO : ∀ o ∈ O, Small o) (tail : List UInt8) (ht : (10 : UInt8) ∉ tail) (hi : Nat) : ((flat O ++ tail).take hi).take (flat (O.take (full O hi))).length = flat (O.take (full O hi)) := by
  obtain ⟨b, hb, _⟩ := cut_is O hO tail ht hi
  rw [hb, List.take_left']
  rfl
/-- what a line's words are -/
theorem fieldsGo_dig {x : Nat} (hx : x < 10) (l : List UInt8) : Lib.fieldsGo [] (dig x :: 32 :: l) = [dig x] :: Lib.fieldsGo [] (32 :: l) := by
  have h : Lib.isSp (dig x) = false := by
    have := dig_nat hx
    have hne : ∀ c : UInt8, c.toNat < 48 → (dig x == c) = false := fun c hc => beq_eq_false_iff_ne.2 (dig_ne hx hc)
    unfold Lib.isSp
    rw [hne 9 (by decide), hne 10 (by decide), hne 11 (by decide), hne 12 (by decide), hne 13 (by decide), hne 32 (by decide)]; rfl
  simp [Lib.fieldsGo, h, show Lib.isSp 32 = true by decide]
theorem fieldsGo_dig10 {x : Nat} (hx : x < 10) : Lib.fieldsGo [] [dig x, 10] = [[dig x]] := by
  have h : Lib.isSp (dig x) = false := by
    have hne : ∀ c : UInt8, c.toNat < 48 → (dig x == c) = false := fun c hc => beq_eq_false_iff_ne.2 (dig_ne hx hc)
    unfold Lib.isSp
    rw [hne 9 (by decide), hne 10 (by decide), hne 11 (by decide), hne 12 (by decide), hne 13 (by decide), hne 32 (by decide)]; rfl
  simp [Lib.fieldsGo, h, show Lib.isSp 10 = true by decide]
theorem fieldsGo_nums {p : List Nat} (h : ∀ x ∈ p, x < 10) : Lib.fieldsGo [] (nums p ++ [10]) = p.map fun x => [dig x] := by
  induction p with
  | nil => rfl
  | cons x p ih =>
    have hx := h x List.mem_cons_self
    have hp := ih fun y hy => h y (List.mem_cons_of_mem _ hy)
    have e32 : ∀ l, Lib.fieldsGo [] (32 :: l) = Lib.fieldsGo [] l := fun l => by simp [Lib.fieldsGo, show Lib.isSp 32 = true by decide]
    simp only [nums, List.cons_append, List.map_cons]
    rw [e32]
    cases p with
    | nil => simp only [nums, List.nil_append]; rw [fieldsGo_dig10 hx]; rfl
    | cons y q =>
      simp only [nums, List.cons_append] at hp ⊢
      rw [fieldsGo_dig hx, ← hp]
theorem fields_rec {o : Op} (h : Small o) : Lib.fields (recB o) = [word o.add] :: o.p.map fun x => [dig x] := by
  unfold Lib.fields recB
  have hw : Lib.isSp (word o.add) = false := by cases o.add <;> decide
  have e1 : ∀ l, Lib.fieldsGo [] (word o.add :: 32 :: l) = [word o.add] :: Lib.fieldsGo [] (32 :: l) := fun l => by simp [Lib.fieldsGo, hw, show Lib.isSp 32 = true by decide]
  cases hp : o.p with
  | nil => simp [nums, Lib.fieldsGo, hw, show Lib.isSp 10 = true by decide]
  | cons x p =>
    have := fieldsGo_nums (p := x :: p) (by rw [← hp]; exact h)
    simp only [nums, List.cons_append] at this ⊢
    rw [e1, this]
theorem atoi_dig {x : Nat} (h : x < 10) : Lib.atoiAll [dig x] = .ok (x : Int) := by
  have : x = 0 ∨ x = 1 ∨ x = 2 ∨ x = 3 ∨ x = 4 ∨ x = 5 ∨ x = 6 ∨ x = 7 ∨ x = 8 ∨ x = 9 := by omega
  rcases this with rfl | rfl | rfl | rfl | rfl | rfl | rfl | rfl | rfl | rfl <;> decide
theorem rec_ascii {o : Op} (h : Small o) : ∀ b ∈ recB o, b.toNat < 128 := by
  intro b hb
  simp only [recB, List.mem_cons, List.mem_append, List.not_mem_nil, or_false] at hb
  rcases hb with rfl | hb | rfl
  · cases o.add <;> decide
  · have : ∀ p : List Nat, (∀ x ∈ p, x < 10) → b ∈ nums p → b.toNat < 128 := by
      intro p
      induction p with
      | nil => intro _ hb; simp [nums] at hb
      | cons x p ih =>
        intro hp hb
        simp only [nums, List.mem_cons] at hb
        rcases hb with rfl | rfl | hb
        · decide
        · have h1 := dig_nat (hp x List.mem_cons_self); have h2 := hp x List.mem_cons_self; omega
        · exact ih (fun y hy => hp y (List.mem_cons_of_mem _ hy)) hb
    exact this _ h hb
  · decide
end Go.Proofs.YtaijpiebjhhkjaaGreatDoor.LG
