/- Several texts in one: PlLog, LogAt, LogKeep, LogAdd, LogKeep2, LogOps. -/
import Derived.Test.YtaijpiebjhhkjaaGreatDoorLibN
import Derived.Lib.ItoaNum
import Derived.Lib.Fields
import Derived.Lib.AtoiAll
import Derived.Lib.LastIndexLaws
import Derived.Test.YtaijpiebjhhkjaaGreatDoorLibM
import Derived.Test.YtaijpiebjhhkjaaGreatDoorLibR
import Derived.Deep.RegionLaw
import Derived.Deep.CutRange
import Derived.Deep.DeepCutAuto
import Derived.Test.YtaijpiebjhhkjaaGreatDoorLibK
/- The log's bytes, plain: records, what a cut leaves of them, what their lines say. -/
namespace Go.Proofs.YtaijpiebjhhkjaaGreatDoor.LG
/-- a record: a flow more, or one fewer -/
structure Op where
  add : Bool
  p : List Nat
def word (b : Bool) : UInt8 := if b then 43 else 45
def dig (x : Nat) : UInt8 := UInt8.ofNat (48 + x)
def nums : List Nat → List UInt8
  | [] => []
  | x :: p => 32 :: dig x :: nums p
def recB (o : Op) : List UInt8 := word o.add :: (nums o.p ++ [10])
def flat : List Op → List UInt8
  | [] => []
  | o :: O => recB o ++ flat O
/-- all numbers have one digit -/
def Small (o : Op) : Prop := ∀ x ∈ o.p, x < 10
def step1 (L : List (List Int)) (o : Op) : List (List Int) := if o.add then L ++ [o.p.map fun (x : Nat) => (x : Int)] else L.eraseIdx (o.p.headD 0)
def runs (O : List Op) : List (List Int) := O.foldl step1 []
theorem nums_snoc (p : List Nat) (x : Nat) : nums (p ++ [x]) = nums p ++ [32, dig x] := by
  induction p with
  | nil => rfl
  | cons y p ih => simp only [List.cons_append, nums, ih]
theorem nums_len (p : List Nat) : (nums p).length = 2 * p.length := by
  induction p with
  | nil => rfl
  | cons y p ih => simp only [nums, List.length_cons, ih]; omega
theorem recB_len (o : Op) : (recB o).length = 2 + 2 * o.p.length := by
  simp only [recB, List.length_cons, List.length_append, nums_len, List.length_nil]; omega
theorem flat_snoc (O : List Op) (o : Op) : flat (O ++ [o]) = flat O ++ recB o := by
  induction O with
  | nil => simp [flat]
  | cons y O ih => simp only [List.cons_append, flat, ih, List.append_assoc]
theorem runs_snoc (O : List Op) (o : Op) : runs (O ++ [o]) = step1 (runs O) o := by simp [runs]
theorem dig_nat {x : Nat} (h : x < 10) : (dig x).toNat = 48 + x := by
  unfold dig; rw [UInt8.toNat_ofNat']; omega
theorem dig_ne {x : Nat} (h : x < 10) {c : UInt8} (hc : c.toNat < 48) : dig x ≠ c := fun e => by
  have := dig_nat h; rw [e] at this; omega
theorem nums_no {p : List Nat} (h : ∀ x ∈ p, x < 10) : (10 : UInt8) ∉ nums p := by
  induction p with
  | nil => simp [nums]
  | cons y p ih =>
    simp only [nums, List.mem_cons, not_or]
    exact ⟨by decide, fun e => dig_ne (h y List.mem_cons_self) (c := 10) (by decide) e.symm, ih fun x hx => h x (List.mem_cons_of_mem _ hx)⟩
theorem word_no (b : Bool) : (10 : UInt8) ≠ word b := by cases b <;> decide
theorem runs_len (X : List Op) : (runs X).length ≤ X.length := by
  have h : ∀ (X : List Op) (L : List (List Int)), (X.foldl step1 L).length ≤ L.length + X.length := by
    intro X
    induction X with
    | nil => intro L; simp
    | cons o X ih =>
      intro L
      have h1 := ih (step1 L o)
      have h2 : (step1 L o).length ≤ L.length + 1 := by
        unfold step1
        split
        · simp
        · rw [List.length_eraseIdx]; split <;> omega
      simp only [List.foldl_cons, List.length_cons]; omega
  simpa [runs] using h X []
/-- how many records lie wholly in so many bytes -/
def full : List Op → Nat → Nat
  | [], _ => 0
  | o :: O, hi => if (recB o).length ≤ hi then full O (hi - (recB o).length) + 1 else 0
theorem full_le (O : List Op) (hi : Nat) : full O hi ≤ O.length := by
  induction O generalizing hi with
  | nil => simp [full]
  | cons o O ih => unfold full; split <;> simp <;> exact ih _
theorem cut_is (O : List Op) (hO : ∀ o ∈ O, Small o) (tail : List UInt8) (ht : (10 : UInt8) ∉ tail) (hi : Nat) : ∃ b, (flat O ++ tail).take hi = flat (O.take (full O hi)) ++ b ∧ (10 : UInt8) ∉ b := by
  induction O generalizing hi with
  | nil => exact ⟨tail.take hi, by simp [flat, full], fun h => ht (List.mem_of_mem_take h)⟩
  | cons o O ih =>
    unfold full
    split
    · rename_i hle
      obtain ⟨b, hb, hn⟩ := ih (fun x hx => hO x (List.mem_cons_of_mem _ hx)) (hi - (recB o).length)
      refine ⟨b, ?_, hn⟩
      simp only [flat, List.take_succ_cons, List.append_assoc]
      rw [List.take_append, List.take_of_length_le hle, hb]
    · rename_i hlt
      refine ⟨(flat (o :: O) ++ tail).take hi, by simp [flat], fun h => ?_⟩
      simp only [flat, List.append_assoc] at h
      rw [List.take_append_of_le_length (by omega)] at h
      have e : recB o = (word o.add :: nums o.p) ++ [10] := by simp [recB]
      rw [e, List.take_append_of_le_length (by rw [e] at hlt; simp at hlt ⊢; omega)] at h
      have h2 := List.mem_of_mem_take h
      rcases List.mem_cons.1 h2 with h3 | h3
      · exact word_no _ h3
      · exact nums_no (hO o List.mem_cons_self) h3
/-- where the last line ends -/
theorem occ_ten (l : List UInt8) (i : Nat) : Lib.occAt l [10] i = true ↔ l[i]? = some 10 := by
  unfold Lib.occAt
  rw [List.isPrefixOf_iff_prefix]
  constructor
  · rintro ⟨t, ht⟩
    have : (l.drop i)[0]? = some 10 := by rw [← ht]; rfl
    simpa using this
  · intro h
    obtain ⟨hi, e⟩ := List.getElem?_eq_some_iff.1 h
    exact ⟨l.drop (i + 1), by rw [List.drop_eq_getElem_cons hi, e]; rfl⟩
theorem last_none {l : List UInt8} (h : (10 : UInt8) ∉ l) : Lib.lastIndex l [10] = -1 := by
  unfold Lib.lastIndex
  split
  · rcases Lib.lastOcc_spec l [10] (l.length - [(10 : UInt8)].length + 1) with ⟨e, _⟩ | ⟨i, hi, e, hc, _⟩
    · exact e
    · exact absurd (List.mem_of_getElem? ((occ_ten l i).1 hc)) h
  · rfl
theorem last_at {a b : List UInt8} (h : (10 : UInt8) ∉ b) : Lib.lastIndex (a ++ 10 :: b) [10] = a.length := by
  unfold Lib.lastIndex
  rw [if_pos (by simp; omega)]
  have hat : Lib.occAt (a ++ 10 :: b) [10] a.length = true := (occ_ten _ _).2 (by simp)
  rcases Lib.lastOcc_spec (a ++ 10 :: b) [10] ((a ++ 10 :: b).length - [(10 : UInt8)].length + 1) with ⟨_, hn⟩ | ⟨i, hi, e, hc, hn⟩
  · exact absurd hat (by rw [hn a.length (by simp; omega)]; simp)
  · rw [e]
    have h1 := (occ_ten _ _).1 hc
    rcases Nat.lt_trichotomy i a.length with hlt | heq | hgt
    · have := hn a.length hlt (by simp; omega)
      rw [hat] at this; cases this
    · exact_mod_cast heq
    · rw [List.getElem?_append_right (by omega)] at h1
      obtain ⟨d, hd⟩ : ∃ d, i - a.length = d + 1 := ⟨i - a.length - 1, by omega⟩
      rw [hd] at h1
      exact absurd (List.mem_of_getElem? (by simpa using h1)) h
theorem flat_end {O : List Op} (h : O ≠ []) : ∃ a, flat O = a ++ [10] := by
  obtain ⟨O', o, rfl⟩ : ∃ O' o, O = O' ++ [o] := ⟨O.dropLast, O.getLast h, (List.dropLast_concat_getLast h).symm⟩
  exact ⟨flat O' ++ word o.add :: nums o.p, by rw [flat_snoc]; simp [recB]⟩
/-- what Crash cuts off: the index of the last newline, and one -/
theorem cut_last (O : List Op) (hO : ∀ o ∈ O, Small o) (tail : List UInt8) (ht : (10 : UInt8) ∉ tail) (hi : Nat) : Lib.lastIndex ((flat O ++ tail).take hi) [10] + 1 = ((flat (O.take (full O hi))).length : Int) := by
  obtain ⟨b, hb, hn⟩ := cut_is O hO tail ht hi
  rw [hb]
  by_cases h0 : O.take (full O hi) = []
  · rw [h0]; simp only [flat, List.nil_append, List.length_nil]
    rw [last_none hn]; rfl
  · obtain ⟨a, ha⟩ := flat_end h0
    rw [ha, List.append_assoc, List.singleton_append, last_at hn]
    simp
theorem cut_take (O : List Op) (hO : ∀ o ∈ O, Small o) (tail : List UInt8) (ht : (10 : UInt8) ∉ tail) (hi : Nat) : ((flat O ++ tail).take hi).take (flat (O.take (full O hi))).length = flat (O.take (full O hi)) := by
  obtain ⟨b, hb, _⟩ := cut_is O hO tail ht hi
  rw [hb, List.take_left']
  rfl
/-- what a line's words are -/
theorem fieldsGo_dig {x : Nat} (hx : x < 10) (l : List UInt8) : Lib.fieldsGo [] (dig x :: 32 :: l) = [dig x] :: Lib.fieldsGo [] (32 :: l) := by
  have h : Lib.isSp (dig x) = false := by
    have := dig_nat hx
    have hne : ∀ c : UInt8, c.toNat < 48 → (dig x == c) = false := fun c hc => beq_eq_false_iff_ne.2 (dig_ne hx hc)
    unfold Lib.isSp
    rw [hne 9 (by decide), hne 10 (by decide), hne 11 (by decide), hne 12 (by decide), hne 13 (by decide), hne 32 (by decide)]; rfl
  simp [Lib.fieldsGo, h, show Lib.isSp 32 = true by decide]
theorem fieldsGo_dig10 {x : Nat} (hx : x < 10) : Lib.fieldsGo [] [dig x, 10] = [[dig x]] := by
  have h : Lib.isSp (dig x) = false := by
    have hne : ∀ c : UInt8, c.toNat < 48 → (dig x == c) = false := fun c hc => beq_eq_false_iff_ne.2 (dig_ne hx hc)
    unfold Lib.isSp
    rw [hne 9 (by decide), hne 10 (by decide), hne 11 (by decide), hne 12 (by decide), hne 13 (by decide), hne 32 (by decide)]; rfl
  simp [Lib.fieldsGo, h, show Lib.isSp 10 = true by decide]
theorem fieldsGo_nums {p : List Nat} (h : ∀ x ∈ p, x < 10) : Lib.fieldsGo [] (nums p ++ [10]) = p.map fun x => [dig x] := by
  induction p with
  | nil => rfl
  | cons x p ih =>
    have hx := h x List.mem_cons_self
    have hp := ih fun y hy => h y (List.mem_cons_of_mem _ hy)
    have e32 : ∀ l, Lib.fieldsGo [] (32 :: l) = Lib.fieldsGo [] l := fun l => by simp [Lib.fieldsGo, show Lib.isSp 32 = true by decide]
    simp only [nums, List.cons_append, List.map_cons]
    rw [e32]
    cases p with
    | nil => simp only [nums, List.nil_append]; rw [fieldsGo_dig10 hx]; rfl
    | cons y q =>
      simp only [nums, List.cons_append] at hp ⊢
      rw [fieldsGo_dig hx, ← hp]
theorem fields_rec {o : Op} (h : Small o) : Lib.fields (recB o) = [word o.add] :: o.p.map fun x => [dig x] := by
  unfold Lib.fields recB
  have hw : Lib.isSp (word o.add) = false := by cases o.add <;> decide
  have e1 : ∀ l, Lib.fieldsGo [] (word o.add :: 32 :: l) = [word o.add] :: Lib.fieldsGo [] (32 :: l) := fun l => by simp [Lib.fieldsGo, hw, show Lib.isSp 32 = true by decide]
  cases hp : o.p with
  | nil => simp [nums, Lib.fieldsGo, hw, show Lib.isSp 10 = true by decide]
  | cons x p =>
    have := fieldsGo_nums (p := x :: p) (by rw [← hp]; exact h)
    simp only [nums, List.cons_append] at this ⊢
    rw [e1, this]
theorem atoi_dig {x : Nat} (h : x < 10) : Lib.atoiAll [dig x] = .ok (x : Int) := by
  have : x = 0 ∨ x = 1 ∨ x = 2 ∨ x = 3 ∨ x = 4 ∨ x = 5 ∨ x = 6 ∨ x = 7 ∨ x = 8 ∨ x = 9 := by omega
  rcases this with rfl | rfl | rfl | rfl | rfl | rfl | rfl | rfl | rfl | rfl <;> decide
theorem rec_ascii {o : Op} (h : Small o) : ∀ b ∈ recB o, b.toNat < 128 := by
  intro b hb
  simp only [recB, List.mem_cons, List.mem_append, List.not_mem_nil, or_false] at hb
  rcases hb with rfl | hb | rfl
  · cases o.add <;> decide
  · have : ∀ p : List Nat, (∀ x ∈ p, x < 10) → b ∈ nums p → b.toNat < 128 := by
      intro p
      induction p with
      | nil => intro _ hb; simp [nums] at hb
      | cons x p ih =>
        intro hp hb
        simp only [nums, List.mem_cons] at hb
        rcases hb with rfl | rfl | hb
        · decide
        · have h1 := dig_nat (hp x List.mem_cons_self); have h2 := hp x List.mem_cons_self; omega
        · exact ih (fun y hy => hp y (List.mem_cons_of_mem _ hy)) hb
    exact this _ h hb
  · decide
end Go.Proofs.YtaijpiebjhhkjaaGreatDoor.LG
/- A log in memory; its small functions. -/
namespace Go.Proofs.YtaijpiebjhhkjaaGreatDoor
open Go.RowKit
attribute [local go_sem ↓] run_min_mn run_max_mx
/-- what is neither block g nor block p stays -/
structure Stay (g : Nat) (p : Option Nat) (w w' : World) : Prop where
  size : w.heap.size ≤ w'.heap.size
  block : ∀ i, i < w.heap.size → i ≠ g → p ≠ some i → w'.heap[i]? = w.heap[i]?
section
variable {g : Nat} {p p' : Option Nat} {w w' w'' : World}
theorem Stay.refl (g : Nat) (p : Option Nat) (w : World) : Stay g p w w := ⟨Nat.le_refl _, fun _ _ _ _ => rfl⟩
theorem Stay.trans (h : Stay g p w w') (h' : Stay g p' w' w'') (hp : ∀ i, p' = some i → p = some i ∨ w.heap.size ≤ i) : Stay g p w w'' :=
  ⟨Nat.le_trans h.size h'.size, fun i hi h1 h2 => (h'.block i (Nat.lt_of_lt_of_le hi h.size) h1 (fun e => by rcases hp i e with e | e; exact h2 e; omega)).trans (h.block i hi h1 h2)⟩
theorem Stay.trans' (h : Stay g p w w') (h' : Stay g p w' w'') : Stay g p w w'' := h.trans h' fun _ e => .inl e
theorem Stay.of_below (g : Nat) (p : Option Nat) (h : Below w.heap.size w w') : Stay g p w w' := ⟨h.size, fun i hi _ _ => h.block i hi⟩
theorem Stay.below (h : Stay g p w w') (h' : Below w'.heap.size w' w'') : Stay g p w w'' := h.trans' (Stay.of_below g p h')
theorem Stay.set (h : Stay g p w w') (k : Nat) (u : Value) : Stay g p w (w'.setCell ⟨g, k, none⟩ u) :=
  ⟨by have := h.size; simpa [World.setCell] using this, fun i hi h1 h2 => (Below.heap_setCell w' ⟨g, k, none⟩ u i (fun e => h1 e)).trans (h.block i hi h1 h2)⟩
theorem Stay.grown (h : Stay g p w w') (hg : w'.grownBy w'' p) : Stay g p w w'' :=
  ⟨Nat.le_trans h.size hg.size, fun i hi h1 h2 => (hg.block i (Nat.lt_of_lt_of_le hi h.size) (fun e => h2 e.symm)).trans (h.block i hi h1 h2)⟩
theorem Blk.stay {i : Nat} {t : TypeId} {cs : Array Value} (h : Blk w i t cs) (hs : Stay g p w w') (h1 : i ≠ g) (h2 : p ≠ some i) : Blk w' i t cs := (hs.block i h.lt h1 h2).trans h
theorem Ints.stay {B : Nat} {A : Option Addr} {c : Nat} {l : List Int} (h : Ints w B A c l) (hB : B ≤ w.heap.size) (hs : Stay g p w w') (hA : ∀ b off, A = some ⟨b, off, none⟩ → b ≠ g ∧ p ≠ some b) : Ints w' B A c l :=
  ⟨⟨h.rd.1, fun hn => by
    obtain ⟨b, off, e, hb, hc⟩ := h.rd.2 hn
    obtain ⟨h1, h2⟩ := hA b off e
    exact ⟨b, off, e, hb, fun j u hu => (World.cell?_of_block (w := w) (a := ⟨b, off + j, none⟩) (hs.block b (Nat.lt_of_lt_of_le hb hB) h1 h2)).trans (hc j u hu)⟩⟩, h.le, h.cap⟩
end
structure LogAt (w : World) (base g : Nat) (cv pv : Value) (vs : List Value) (caps : List Int) (L : List (List Int)) (bs : ByteArray) (safe left : Int) (st : Bool) : Prop where
  blk : Blk w g 73 #[cv, pv, .string bs, .int .i64 safe, .int .i64 left, .bool st]
  net : NetOwn w base cv pv vs caps L
  lo : base ≤ g
section
variable {w w' : World} {base g : Nat} {cv pv : Value} {vs : List Value} {caps : List Int} {L : List (List Int)} {bs : ByteArray} {safe left : Int} {st : Bool}
theorem LogAt.below (h : LogAt w base g cv pv vs caps L bs safe left st) (hb : Below w.heap.size w w') : LogAt w' base g cv pv vs caps L bs safe left st :=
  ⟨h.blk.below hb h.blk.lt, h.net.below hb, h.lo⟩
theorem LogAt.cells (h : LogAt w base g cv pv vs caps L bs safe left st) : w.cell? ⟨g, 0, none⟩ = some cv ∧ w.cell? ⟨g, 1, none⟩ = some pv ∧ w.cell? ⟨g, 2, none⟩ = some (.string bs) ∧ w.cell? ⟨g, 3, none⟩ = some (.int .i64 safe) ∧ w.cell? ⟨g, 4, none⟩ = some (.int .i64 left) ∧ w.cell? ⟨g, 5, none⟩ = some (.bool st) ∧
    w.frozen? ⟨g, 0, none⟩ = false ∧ w.frozen? ⟨g, 1, none⟩ = false ∧ w.frozen? ⟨g, 2, none⟩ = false ∧ w.frozen? ⟨g, 3, none⟩ = false ∧ w.frozen? ⟨g, 4, none⟩ = false ∧ w.frozen? ⟨g, 5, none⟩ = false ∧ g < w.heap.size :=
  ⟨h.blk.cell 0, h.blk.cell 1, h.blk.cell 2, h.blk.cell 3, h.blk.cell 4, h.blk.cell 5, h.blk.frozen 0, h.blk.frozen 1, h.blk.frozen 2, h.blk.frozen 3, h.blk.frozen 4, h.blk.frozen 5, h.blk.lt⟩
theorem LogAt.s2 (h : LogAt w base g cv pv vs caps L bs safe left st) (b : ByteArray) : LogAt (w.setCell ⟨g, 2, none⟩ (.string b)) base g cv pv vs caps L b safe left st := ⟨h.blk.set_ 2 _, h.net.far h.blk (by decide) (by decide) 2 _, h.lo⟩
theorem LogAt.s3 (h : LogAt w base g cv pv vs caps L bs safe left st) (x : Int) : LogAt (w.setCell ⟨g, 3, none⟩ (.int .i64 x)) base g cv pv vs caps L bs x left st := ⟨h.blk.set_ 3 _, h.net.far h.blk (by decide) (by decide) 3 _, h.lo⟩
theorem LogAt.s4 (h : LogAt w base g cv pv vs caps L bs safe left st) (x : Int) : LogAt (w.setCell ⟨g, 4, none⟩ (.int .i64 x)) base g cv pv vs caps L bs safe x st := ⟨h.blk.set_ 4 _, h.net.far h.blk (by decide) (by decide) 4 _, h.lo⟩
theorem LogAt.s5 (h : LogAt w base g cv pv vs caps L bs safe left st) (x : Bool) : LogAt (w.setCell ⟨g, 5, none⟩ (.bool x)) base g cv pv vs caps L bs safe left x := ⟨h.blk.set_ 5 _, h.net.far h.blk (by decide) (by decide) 5 _, h.lo⟩
end
set_option maxHeartbeats 2000000 in
/-- a step: does it stop? -/
theorem step_log (w : World) (base g : Nat) (cv pv : Value) (vs : List Value) (caps : List Int) (L : List (List Int)) (bs : ByteArray) (safe left : Int) (st : Bool) (h : LogAt w base g cv pv vs caps L bs safe left st) (h1 : -1 ≤ left) (h2 : left ≤ 9223372036854775807) (_ : base ≤ w.heap.size) (sb : Bool) (hs : decide (left = 0) = sb) (nl : Int) (hn : max (-1) (left - 1) = nl) :
    Calls Tryz.prog 40 #[.pointer (some ⟨g, 0, none⟩)] w fun e w' => e = .returned (.bool sb) ∧ LogAt w' base g cv pv vs caps L bs safe nl sb ∧ Below base w w' ∧ ∀ p, Stay g p w w' := by
  obtain ⟨c0, c1, c2, c3, c4, c5, f0, f1, f2, f3, f4, f5, z⟩ := h.cells
  have hlo := h.lo
  have H := Lib.hid h
  have hsb : (left == 0) = sb := by rw [← hs]; rfl
  have HSB := Lib.hid hsb; have HN := Lib.hid hn
  clear h c0 c1 c2 c3 f0 f1 f2 f3 hs hn hsb
  go_enter Tryz.func40, Tryz.ntmps40
  go_wp2
  rw [HSB.out, HN.out]
  go_ret
  exact ⟨rfl, (H.out.s5 sb).s4 nl, ((Below.refl base w).setCell (p := ⟨g, 5, none⟩) hlo _).setCell (p := ⟨g, 4, none⟩) hlo _, fun p => ((Stay.refl g p w).set 5 _).set 4 _⟩
theorem netOwn_new {w : World} {base : Nat} {cv : Value} {caps : List Int} (h : w.ownsRow base 3 1 cv caps.length (caps.map (Value.int .i64))) : NetOwn w base cv (.slice none 0 0) [] caps [] :=
  ⟨h, World.ownsRow_nil _ _ _ _, fun i u l h1 _ => by simp at h1, fun i u h1 => by simp at h1, fun i j u u' h1 _ _ => by simp at h1⟩
set_option maxHeartbeats 2000000 in
theorem log_no (A : Option Addr) (c : Nat) (l : List Int) (B : Nat) (w : World) (h : Ints w B A c l) (er : Int) (he : linksErr l = er) (h0 : er ≠ 0) :
    Calls Tryz.prog 8 #[.slice A l.length c] w fun e w' => e = .returned (.tuple #[.pointer none, .iface 74 (.int .i64 er)]) ∧ Below w.heap.size w w' := by
  have hl := links_all A c l B w h
  rw [he, errVal_pos h0] at hl
  have HL := Lib.hid hl
  clear hl h he h0
  go_enter Tryz.func8, Tryz.ntmps8
  go_wp2_with fail
  refine HL.out.mono ?_; rintro e w' ⟨rfl, rfl⟩
  go_wp2
  go_ret2
  exact ⟨rfl, Below.refl _ _⟩
set_option maxHeartbeats 2000000 in
theorem log_yes (A : Option Addr) (c : Nat) (l : List Int) (B : Nat) (w : World) (h : Ints w B A c l) (hB : B ≤ w.heap.size) (he : linksErr l = 0) :
    Calls Tryz.prog 8 #[.slice A l.length c] w fun e w' => ∃ g cv, e = .returned (.tuple #[.pointer (some ⟨g, 0, none⟩), .nilIface]) ∧ LogAt w' w.heap.size g cv (.slice none 0 0) [] l [] ByteArray.empty 0 (-1) false ∧ Below w.heap.size w w' := by
  have hl := links_all A c l B w h
  rw [he, errVal_zero] at hl
  have HL := Lib.hid hl
  have H := Lib.hid h
  have h6 : l.length ≤ 6 := by
    unfold linksErr at he
    split at he
    · omega
    · split at he
      · omega
      · omega
  clear hl h he
  go_enter Tryz.func8, Tryz.ntmps8
  go_wp2_with fail
  refine HL.out.mono ?_; rintro e w' ⟨rfl, rfl⟩
  go_wp2_with fail
  refine (clone_any A c l B _ H.out (by omega) hB).mono ?_; rintro e w1 ⟨v, rfl, ho, hb⟩
  obtain ⟨C, cc, rfl, _, _⟩ := owns_ints ho
  have HO := Lib.hid ho
  have HB := Lib.hid hb
  clear ho hb
  go_wp2
  go_ret2
  exact ⟨w1.heap.size, .slice C l.length cc, rfl, ⟨Blk.new _ _ _, netOwn_new (own_below HO.out ((Below.refl _ _).alloc (Nat.le_refl _) _)), HB.out.size⟩, HB.out.alloc HB.out.size _⟩
set_option maxHeartbeats 4000000 in
/-- one path more -/
theorem do_add (w : World) (base g n cp : Nat) (t : TypeId) (cs : Array Value) (P : Option Addr) (vs : List Value) (U : Option Addr) (m cu : Nat) (hg : Blk w g t cs) (hc : cs[1]? = some (.slice P n cp)) (ht : 22 ≠ t) (hown : w.ownsRow base 22 1 (.slice P n cp) n vs) (hn : n ≤ 1000) (hb : base ≤ w.heap.size) :
    Calls Tryz.prog 74 #[.pointer (some ⟨g, 0, none⟩), .string ⟨#[43]⟩, .slice U m cu] w fun e w' => e = .returned (.tuple #[]) ∧ ∃ P' cp' w1, w1.ownsRow base 22 1 (.slice P' (n + 1) cp') (n + 1) (vs ++ [.slice U m cu]) ∧ w.grownBy w1 (Value.slice P n cp).ownBlock ∧ Blk w1 g t cs ∧ w' = w1.setCell ⟨g, 1, none⟩ (.slice P' (n + 1) cp') ∧ ((Value.slice P' (n + 1) cp').ownBlock = (Value.slice P n cp).ownBlock ∨ (Value.slice P' (n + 1) cp').ownBlock = some (w.heap.size + 1)) := by
  have c1 : w.cell? ⟨g, 1, none⟩ = some (.slice P n cp) := (hg.cell 1).trans hc
  have z := hg.lt
  have HG := Lib.hid hg; have HO := Lib.hid hown
  have hone : ∀ u ∈ #[Value.slice U m cu].toList, u.oneCell' = true := by simp [Value.oneCell']
  have HC := Lib.hid hc
  clear hg hown hc
  go_enter Tryz.func74, Tryz.ntmps74
  go_wp2_with (at_builtin; refine wpList_push2 w #[.slice U m cu] rfl (.tmp 12) (.tmp 14) 23 rfl base 22 (.slice none 0 0) 1 24 Tryz.underlying23 Tryz.info_row rfl (by omega) (.slice P n cp) n vs rfl HO.out rfl rfl hone (by omega) (by decide) hb ?_; intro v' w1 ho hgr hnb; obtain ⟨g2, cp2, hv, _, _, _, _⟩ := own_form ho (by omega); subst hv; have HNB := Lib.hid hnb; clear hnb; have HO1 := Lib.hid ho; have HG1 := Lib.hid (HG.out.grown hgr (fun e => own_blk_ne HO.out HG.out ht e.symm)); have HGR := Lib.hid hgr; clear ho hgr c1; have c1 := (HG1.out.cell 1).trans HC.out; have z1 := HG1.out.lt; have f1 := HG1.out.frozen 1)
  refine bodyPost_ret (results_none rfl _ _ _) rfl ?_
  exact ⟨rfl, _, _, w1, HO1.out, HGR.out, HG1.out, rfl, HNB.out⟩
end Go.Proofs.YtaijpiebjhhkjaaGreatDoor
/- (*Log).keep of a flow more. -/
namespace Go.Proofs.YtaijpiebjhhkjaaGreatDoor
open Go.RowKit
attribute [local go_sem ↓] run_min_mn run_max_mx
abbrev nints (q : List Nat) : List Int := q.map fun (x : Nat) => (x : Int)
theorem bytes_app (a b : ByteArray) : (a ++ b).data.toList = a.data.toList ++ b.data.toList := by simp [ByteArray.data_append]
theorem bytes_size (a b : ByteArray) : (a ++ b).size = a.size + b.size := by simp [ByteArray.size_append]
theorem ints_at {w : World} {B : Nat} {A : Option Addr} {c : Nat} {q : List Nat} (h : Ints w B A c (nints q)) {j : Nat} (hj : j < q.length) : ∃ b off, A = some ⟨b, off, none⟩ ∧ b < B ∧ w.cell? ⟨b, off + j, none⟩ = some (.int .i64 (q.getD j 0 : Nat)) := by
  obtain ⟨b, off, x, e, hb, hc, _, _, HX⟩ := h.elem (k := j) (by simpa using hj)
  have hx := HX.out
  refine ⟨b, off, e, hb, ?_⟩
  rw [hc, ← hx]
  simp [List.getD_eq_getElem?_getD, hj]
theorem clone_n (A : Option Addr) (c n : Nat) (l : List Int) (B : Nat) (w : World) (h : Ints w B A c l) (hn : n = l.length) (hl : n ≤ 1000000) (hB : B ≤ w.heap.size) :
    Calls Tryz.prog 37 #[.slice A n c] w fun e w' => ∃ U cu, e = .returned (.slice U n cu) ∧ w'.ownsRow w.heap.size 3 1 (.slice U n cu) n (l.map (Value.int .i64)) ∧ Below w.heap.size w w' := by
  subst hn
  refine (clone_any A c l B w h hl hB).mono ?_
  rintro e w' ⟨v, rfl, ho, hb⟩
  obtain ⟨U, cu, rfl, _, _⟩ := owns_ints ho
  exact ⟨U, cu, rfl, ho, hb⟩
theorem own_low {w : World} {base e size n : Nat} {v : Value} {xs : List Value} (h : w.ownsRow base e size v n xs) {b : Nat} (hb : v.ownBlock = some b) : base ≤ b := by
  obtain ⟨_, ⟨rfl, _⟩ | ⟨g, cap, cur, rfl, hg, _⟩⟩ := h
  · cases hb
  · cases hb; exact hg
set_option maxHeartbeats 8000000 in
set_option maxRecDepth 100000 in
theorem keep_add_go (w : World) (base g : Nat) (cv : Value) (P : Option Addr) (cp : Nat) (vs : List Value) (caps : List Int) (L : List (List Int)) (bs : ByteArray) (safe left : Int) (st : Bool) (h : LogAt w base g cv (.slice P L.length cp) vs caps L bs safe left st) (hl : base ≤ w.heap.size) (h1 : -1 ≤ left) (h2 : left ≤ 9223372036854775807) (h0 : left ≠ 0) (nl : Int) (hn : max (-1) (left - 1) = nl)
    (A : Option Addr) (c : Nat) (q : List Nat) (B : Nat) (hi : Ints w B A c (nints q)) (hB : B ≤ w.heap.size) (hA : ∀ b off, A = some ⟨b, off, none⟩ → b ≠ g) (hq : ∀ x ∈ q, x < 10) (h6 : q.length ≤ 6) (hL : L.length ≤ 6) (hbs : bs.size ≤ 1000000) :
    Calls Tryz.prog 39 #[.pointer (some ⟨g, 0, none⟩), .string ⟨#[43]⟩, .slice A q.length c] w fun e w' => e = .returned .nilIface ∧ ∃ P' cp' vs' bs', LogAt w' base g cv (.slice P' (L.length + 1) cp') vs' caps (L ++ [nints q]) bs' safe nl false ∧ bs'.data.toList = bs.data.toList ++ LG.recB ⟨true, q⟩ ∧ bs'.size ≤ bs.size + 14 ∧ Below base w w' ∧ Stay g (Value.slice P L.length cp).ownBlock w w' ∧ ((Value.slice P' (L.length + 1) cp').ownBlock = (Value.slice P L.length cp).ownBlock ∨ ∃ i, w.heap.size ≤ i ∧ (Value.slice P' (L.length + 1) cp').ownBlock = some i) ∧ ∀ u ∈ vs', u ∈ vs ∨ ∀ b, u.ownBlock = some b → w.heap.size ≤ b := by
  have H := Lib.hid h
  have HA := Lib.hid hA
  have HI := Lib.hid hi
  have HQ := Lib.hid hq
  have hm := hi.cap; have hc := hi.le
  unfold maxLen at hm
  clear h hi hq hA
  go_enter Tryz.func39, Tryz.ntmps39
  go_wp2
  go_loop [7, 13] (fun s i => ∃ (j : Nat) (sb : ByteArray), j ≤ q.length ∧ i = .int .i64 j ∧ s = .string sb ∧ Hid (sb.data.toList = 43 :: LG.nums (q.take j)) ∧ sb.size = 1 + 2 * j) (fun _ i => q.length - (intOf i).toNat)
  case atStart => exact ⟨0, ⟨#[43]⟩, Nat.zero_le _, rfl, rfl, Lib.hid rfl, rfl⟩
  case round =>
    obtain ⟨j, sb, hj, rfl, rfl, HD, hsz⟩ := hrel
    by_cases hlt : j < q.length
    · obtain ⟨b, off, rfl, hb, hcell⟩ := ints_at HI.out hlt
      have hx := HQ.out (q.getD j 0) (by rw [List.getD_eq_getElem?_getD, List.getElem?_eq_getElem hlt]; exact List.getElem_mem hlt)
      have htk : q.take (j + 1) = q.take j ++ [q.getD j 0] := by rw [List.take_add_one, List.getD_eq_getElem?_getD, List.getElem?_eq_getElem hlt]; rfl
      generalize q.getD j 0 = x at *
      have HTK := Lib.hid htk
      clear htk
      have hdd : Lib.decDigits x = [LG.dig x] := by rw [Lib.decDigits, dif_pos hx]; rfl
      go_wp2_with fail
      refine (Tryz.strconv_Itoa_small x (by omega) _).mono ?_; rintro e w' ⟨rfl, hw⟩; rw [hw]; clear hw w'
      rw [hdd]
      clear hdd
      go_wp2
      go_round
      case rel => exact ⟨j + 1, sb ++ (⟨#[32]⟩ ++ ⟨#[LG.dig x]⟩), by omega, by go_num, rfl, Lib.hid (by rw [bytes_app, bytes_app, HD.out, HTK.out, LG.nums_snoc]; simp), by rw [bytes_size, bytes_size, hsz]; show 1 + 2 * j + (1 + 1) = _; omega⟩
      case measure => (simp [intOf] <;> omega)
    · obtain rfl : j = q.length := by omega
      rw [List.take_length] at HD
      obtain ⟨sr, hsr⟩ : ∃ x, x = sb ++ ⟨#[10]⟩ := ⟨_, rfl⟩
      have hsd : sr.data.toList = LG.recB ⟨true, q⟩ := by rw [hsr, bytes_app, HD.out]; rfl
      have hss : sr.size = 2 + 2 * q.length := by rw [hsr, bytes_size, hsz]; show 1 + 2 * q.length + 1 = _; omega
      have HSD := Lib.hid hsd; have HSR := Lib.hid hsr
      clear hsd hsr
      go_wp2_with fail
      rw [← HSR.out]
      clear HD HSR
      refine (step_log _ base g cv _ vs caps L bs safe left st H.out h1 h2 hl false (decide_eq_false h0) nl hn).mono ?_; rintro e w1 ⟨rfl, hL1, hb1, hs1⟩
      have HS1 := Lib.hid (hs1 none)
      have HL1 := Lib.hid hL1; have HB1 := Lib.hid hb1
      obtain ⟨c0, c1, c2, c3, c4, c5, f0, f1, f2, f3, f4, f5, z⟩ := hL1.cells
      have hlo := hL1.lo
      clear hL1 hb1 hs1 c3 c4 c5 f0 f1 f3 f4 f5
      go_upto_region 12 with (fail)
      have HL2 := Lib.hid (HL1.out.s2 (bs ++ sr))
      have HB2 := Lib.hid (HB1.out.setCell (p := ⟨g, 2, none⟩) hlo (.string (bs ++ sr)))
      have HS2 := Lib.hid (HS1.out.set 2 (.string (bs ++ sr)))
      obtain ⟨w2, hw2⟩ : ∃ x, x = w1.setCell ⟨g, 2, none⟩ (.string (bs ++ sr)) := ⟨_, rfl⟩
      rw [← hw2] at HL2 HB2 HS2 ⊢
      clear hw2 c0 c1 c2 f2 z HL1 HB1 HS1
      have hz2 := HB2.out.size
      have hz2' : base ≤ w2.heap.size := Nat.le_trans hl hz2
      have HI2 := Lib.hid (HI.out.stay hB HS2.out fun b off e => ⟨HA.out b off e, by simp⟩)
      have hBz : B ≤ w2.heap.size := Nat.le_trans hB hz2
      have hnl : L.length ≤ 1000 := by omega
      go_region_law (first
        | (go_simp; go_at_call 37; refine (clone_n A c _ (nints q) B _ (by first | exact HI2.out | exact HI2.out.below (Below.refl _ _).drew hBz) (by simp) (by omega) (by first | omega | (simp; omega))).mono ?_; rintro e wz ⟨U, cu, rfl, hu, hbz⟩; have HBz : Hid (Below w2.heap.size w2 wz) := Lib.hid (by first | exact hbz | exact (Below.refl _ _).drew.trans hbz); have HU := Lib.hid hu; clear hu hbz; have HLz := Lib.hid (HL2.out.below HBz.out); have HLT := Lib.hid HL2.out.net.lt; have hbz2 : base ≤ wz.heap.size := Nat.le_trans hz2' HBz.out.size)
        | (go_simp; go_at_call 74; refine (do_add _ base g L.length cp 73 _ P vs U q.length cu HLz.out.blk rfl (by decide) HLz.out.net.own hnl hbz2).mono ?_; rintro e wd ⟨rfl, P', cp', w3, hown, hgr, hblk, rfl, hnb⟩; have HNB := Lib.hid hnb; have HS3 := Lib.hid (((Stay.of_below g (Value.slice P L.length cp).ownBlock HBz.out).grown hgr).set 1 (.slice P' (L.length + 1) cp')); have HN3 := Lib.hid (NetOwn.push (l := nints q) HLz.out.net HLT.out (by simpa using HU.out) hz2' hown hgr); have HK3 := Lib.hid hblk; have HB3 := Lib.hid (below_push ((HB2.out.trans (HBz.out.mono hz2')).mono (Nat.le_refl _)) HLz.out.net.own hgr (Nat.le_refl _) hbz2); clear hown hgr hblk))
      all_goals
        have HSW := Lib.hid (show Stay g (Value.slice P L.length cp).ownBlock w w2 from ⟨HS2.out.size, fun i hi h1 _ => HS2.out.block i hi h1 (by simp)⟩)
        clear hnb
        go_wp2
        go_ret
        exact ⟨rfl, P', cp', _, bs ++ sr, ⟨HK3.out.set_ 1 _, HN3.out.far HK3.out (by decide) (by decide) 1 _, hlo⟩, by rw [bytes_app, HSD.out], by rw [bytes_size]; omega, HB3.out.setCell (p := ⟨g, 1, none⟩) hlo _, HSW.out.trans' HS3.out, by rcases HNB.out with e | e; exact .inl e; exact .inr ⟨_, by have := HBz.out.size; omega, e⟩, fun u hu => by
            rcases List.mem_append.1 hu with hu | hu
            · exact .inl hu
            · rw [List.mem_singleton] at hu; subst hu; exact .inr fun b e => Nat.le_trans hz2 (own_low HU.out e)⟩
end Go.Proofs.YtaijpiebjhhkjaaGreatDoor
/- (*Log).Add. -/
namespace Go.Proofs.YtaijpiebjhhkjaaGreatDoor
open Go.RowKit
attribute [local go_sem ↓] run_min_mn run_max_mx
theorem NetOwn.bothL {w : World} {base n m cc cp : Nat} {C P : Option Addr} {vs : List Value} {caps : List Int} {L : List (List Int)} (h : NetOwn w base (.slice C n cc) (.slice P m cp) vs caps L) : Ints w w.heap.size C cc caps ∧ Rows2 w w.heap.size P cp L := by
  obtain ⟨A9, c9, hv9, _, hi9⟩ := owns_ints h.capO
  injection hv9 with e1 _ e3
  subst e1 e3
  obtain ⟨A8, c8, hv8, hr8⟩ := h.rows
  injection hv8 with e1 _ e3
  subst e1 e3
  exact ⟨hi9, hr8⟩
def addE (caps : List Int) (L : List (List Int)) (st : Bool) (path : List Int) : Int := if st = true then 6 else if L.length = 6 then 4 else pathErr caps.length path
set_option maxHeartbeats 4000000 in
theorem ladd_no (w : World) (base g cc : Nat) (C P : Option Addr) (cp : Nat) (vs : List Value) (caps : List Int) (L : List (List Int)) (bs : ByteArray) (safe left : Int) (st : Bool) (h : LogAt w base g (.slice C caps.length cc) (.slice P L.length cp) vs caps L bs safe left st)
    (A : Option Addr) (c : Nat) (path : List Int) (B : Nat) (hi : Ints w B A c path) (_ : L.length ≤ 6) (er : Int) (he : addE caps L st path = er) (h0 : er ≠ 0) :
    Calls Tryz.prog 9 #[.pointer (some ⟨g, 0, none⟩), .slice A path.length c] w fun e w' => e = .returned (.iface 74 (.int .i64 er)) ∧ Below w.heap.size w w' := by
  obtain ⟨c0, c1, c2, c3, c4, c5, f0, f1, f2, f3, f4, f5, z⟩ := h.cells
  unfold addE at he
  cases st with
  | true =>
    rw [if_pos rfl] at he
    subst he
    clear h hi h0
    go_enter Tryz.func9, Tryz.ntmps9
    go_wp2
    go_ret
    exact ⟨rfl, Below.refl _ _⟩
  | false =>
    rw [if_neg (by decide)] at he
    by_cases h6 : L.length = 6
    · rw [if_pos h6] at he
      subst he
      have h6' : ((L.length : Int) == 6) = true := by simp; omega
      clear h hi h0 h6
      go_enter Tryz.func9, Tryz.ntmps9
      go_wp2
      go_ret
      exact ⟨rfl, Below.refl _ _⟩
    · rw [if_neg h6] at he
      have h6' : ((L.length : Int) == 6) = false := beq_eq_false_iff_ne.2 (by omega)
      have hp := path_all caps.length A c path B w hi
      rw [he, errVal_pos h0] at hp
      have HP := Lib.hid hp
      clear h hi hp h0 he h6
      go_enter Tryz.func9, Tryz.ntmps9
      go_wp2_with fail
      refine HP.out.mono ?_; rintro e w' ⟨rfl, hw⟩; rw [← hw]; clear hw w'
      go_wp2
      go_ret
      exact ⟨rfl, Below.refl _ _⟩
set_option maxHeartbeats 4000000 in
theorem ladd_go (w : World) (base g cc : Nat) (C P : Option Addr) (cp : Nat) (vs : List Value) (caps : List Int) (L : List (List Int)) (bs : ByteArray) (safe left : Int) (h : LogAt w base g (.slice C caps.length cc) (.slice P L.length cp) vs caps L bs safe left false) (hl : base ≤ w.heap.size) (h1 : -1 ≤ left) (h2 : left ≤ 9223372036854775807) (h0 : left ≠ 0) (nl : Int) (hn : max (-1) (left - 1) = nl)
    (A : Option Addr) (c : Nat) (q : List Nat) (B : Nat) (hi : Ints w B A c (nints q)) (hB : B ≤ w.heap.size) (hA : ∀ b off, A = some ⟨b, off, none⟩ → b ≠ g) (hq : ∀ x ∈ q, x < 10) (hq6 : q.length ≤ 6) (hL : L.length ≤ 6) (hbs : bs.size ≤ 1000000) (he : addE caps L false (nints q) = 0) :
    Calls Tryz.prog 9 #[.pointer (some ⟨g, 0, none⟩), .slice A q.length c] w fun e w' => e = .returned .nilIface ∧ ∃ P' cp' vs' bs', LogAt w' base g (.slice C caps.length cc) (.slice P' (L.length + 1) cp') vs' caps (L ++ [nints q]) bs' safe nl false ∧ bs'.data.toList = bs.data.toList ++ LG.recB ⟨true, q⟩ ∧ bs'.size ≤ bs.size + 14 ∧ Below base w w' ∧ Stay g (Value.slice P L.length cp).ownBlock w w' ∧ ((Value.slice P' (L.length + 1) cp').ownBlock = (Value.slice P L.length cp).ownBlock ∨ ∃ i, w.heap.size ≤ i ∧ (Value.slice P' (L.length + 1) cp').ownBlock = some i) ∧ ∀ u ∈ vs', u ∈ vs ∨ ∀ b, u.ownBlock = some b → w.heap.size ≤ b := by
  obtain ⟨c0, c1, c2, c3, c4, c5, f0, f1, f2, f3, f4, f5, z⟩ := h.cells
  have H := Lib.hid (keep_add_go w base g _ P cp vs caps L bs safe left false h hl h1 h2 h0 nl hn A c q B hi hB hA hq hq6 hL hbs)
  unfold addE at he
  rw [if_neg (by decide)] at he
  have h6 : L.length ≠ 6 := by intro h6; rw [if_pos h6] at he; exact absurd he (by decide)
  rw [if_neg h6] at he
  have h6' : ((L.length : Int) == 6) = false := beq_eq_false_iff_ne.2 (by omega)
  have hp := path_all caps.length A c (nints q) B w hi
  rw [he, errVal_zero] at hp
  rw [show (nints q).length = q.length by simp] at hp
  have HP := Lib.hid hp
  clear h hi hp he h6
  go_enter Tryz.func9, Tryz.ntmps9
  go_wp2_with fail
  refine HP.out.mono ?_; rintro e w' ⟨rfl, hw⟩; rw [← hw]; clear hw w'
  go_wp2_with fail
  refine H.out.mono ?_; rintro e w' ⟨rfl, P', cp', vs', bs', h1, h2, h3, h4, h5, h6⟩
  have HR := Lib.hid (show ∃ P' cp' vs' bs', LogAt w' base g (.slice C caps.length cc) (.slice P' (L.length + 1) cp') vs' caps (L ++ [nints q]) bs' safe nl false ∧ bs'.data.toList = bs.data.toList ++ LG.recB ⟨true, q⟩ ∧ bs'.size ≤ bs.size + 14 ∧ Below base w w' ∧ Stay g (Value.slice P L.length cp).ownBlock w w' ∧ ((Value.slice P' (L.length + 1) cp').ownBlock = (Value.slice P L.length cp).ownBlock ∨ ∃ i, w.heap.size ≤ i ∧ (Value.slice P' (L.length + 1) cp').ownBlock = some i) ∧ ∀ u ∈ vs', u ∈ vs ∨ ∀ b, u.ownBlock = some b → w.heap.size ≤ b from ⟨P', cp', vs', bs', h1, h2, h3, h4, h5, h6⟩)
  clear h1 h2 h3 h4 h5 h6
  go_wp2
  go_ret
  exact ⟨rfl, HR.out⟩
set_option maxHeartbeats 2000000 in
theorem lbytes_any (w : World) (base g : Nat) (cv pv : Value) (vs : List Value) (caps : List Int) (L : List (List Int)) (bs : ByteArray) (safe left : Int) (st : Bool) (h : LogAt w base g cv pv vs caps L bs safe left st) :
    Calls Tryz.prog 14 #[.pointer (some ⟨g, 0, none⟩)] w fun e w' => e = .returned (.int .i64 bs.size) ∧ Below w.heap.size w w' := by
  obtain ⟨c0, c1, c2, c3, c4, c5, f0, f1, f2, f3, f4, f5, z⟩ := h.cells
  clear h
  go_enter Tryz.func14, Tryz.ntmps14
  go_wp2
  go_ret
  exact ⟨rfl, Below.refl _ _⟩
set_option maxHeartbeats 4000000 in
theorem lrates_no (w : World) (base g cc : Nat) (C P : Option Addr) (cp : Nat) (vs : List Value) (caps : List Int) (L : List (List Int)) (bs : ByteArray) (safe left : Int) (st : Bool) (h : LogAt w base g (.slice C caps.length cc) (.slice P L.length cp) vs caps L bs safe left st) (er : Int) (he : netErr caps L = er) (h0 : er ≠ 0) :
    Calls Tryz.prog 13 #[.pointer (some ⟨g, 0, none⟩)] w fun e w' => e = .returned (.tuple #[.slice none 0 0, .iface 74 (.int .i64 er)]) ∧ Below w.heap.size w w' := by
  obtain ⟨c0, c1, c2, c3, c4, c5, f0, f1, f2, f3, f4, f5, z⟩ := h.cells
  obtain ⟨hc, hp⟩ := h.net.bothL
  have H := Lib.hid (frates_no C cc caps P cp L.length L w.heap.size w er (Nat.le_refl _) hc hp rfl he h0)
  clear h hc hp he h0
  go_enter Tryz.func13, Tryz.ntmps13
  go_wp2_with fail
  refine H.out.mono ?_; rintro e w' ⟨rfl, hb⟩
  go_wp2
  go_ret2
  exact ⟨rfl, hb⟩
set_option maxHeartbeats 4000000 in
theorem lrates_yes (w : World) (base g cc : Nat) (C P : Option Addr) (cp : Nat) (vs : List Value) (caps : List Int) (L : List (List Int)) (bs : ByteArray) (safe left : Int) (st : Bool) (h : LogAt w base g (.slice C caps.length cc) (.slice P L.length cp) vs caps L bs safe left st) (he : netErr caps L = 0) (K : Nat) (R : List Rat) (hK : FillEnds caps L K R) :
    Calls Tryz.prog 13 #[.pointer (some ⟨g, 0, none⟩)] w fun e w' => ∃ A c, e = .returned (.tuple #[.slice A R.length c, .nilIface]) ∧ Frs w' w'.heap.size A c (R.map frQ) ∧ Below w.heap.size w w' := by
  obtain ⟨c0, c1, c2, c3, c4, c5, f0, f1, f2, f3, f4, f5, z⟩ := h.cells
  obtain ⟨hc, hp⟩ := h.net.bothL
  have H := Lib.hid (frates_yes C cc caps P cp L.length L w.heap.size w K R (Nat.le_refl _) hc hp rfl he hK)
  clear h hc hp he hK
  go_enter Tryz.func13, Tryz.ntmps13
  go_wp2_with fail
  refine H.out.mono ?_; rintro e w' ⟨A, c, rfl, hf, hb⟩
  have HF := Lib.hid hf
  clear hf
  go_wp2
  go_ret2
  exact ⟨A, c, rfl, HF.out, hb⟩
end Go.Proofs.YtaijpiebjhhkjaaGreatDoor
/- (*Log).keep when it stops. -/
namespace Go.Proofs.YtaijpiebjhhkjaaGreatDoor
open Go.RowKit
attribute [local go_sem ↓] run_min_mn run_max_mx
theorem bytes_take (s : ByteArray) (k : Nat) : (s.extract 0 k).data.toList = s.data.toList.take k := by
  simp [ByteArray.data_extract, Array.toList_extract]
theorem bytes_len (s : ByteArray) : s.data.toList.length = s.size := by simp
set_option maxHeartbeats 8000000 in
set_option maxRecDepth 100000 in
theorem keep_stop (wd : UInt8) (hwd : wd ≠ 10) (w : World) (base g : Nat) (cv pv : Value) (vs : List Value) (caps : List Int) (L : List (List Int)) (bs : ByteArray) (safe left : Int) (st : Bool) (h : LogAt w base g cv pv vs caps L bs safe left st) (hl : base ≤ w.heap.size) (h0 : left = 0)
    (A : Option Addr) (c : Nat) (q : List Nat) (B : Nat) (hi : Ints w B A c (nints q)) (_ : B ≤ w.heap.size) (hq : ∀ x ∈ q, x < 10) (h6 : q.length ≤ 6) (hbs : bs.size ≤ 1000000) :
    Calls Tryz.prog 39 #[.pointer (some ⟨g, 0, none⟩), .string ⟨#[wd]⟩, .slice A q.length c] w fun e w' => e = .returned (.iface 74 (.int .i64 6)) ∧ ∃ bs', LogAt w' base g cv pv vs caps L bs' safe (-1) true ∧ (∃ t, bs'.data.toList = bs.data.toList ++ t ∧ (10 : UInt8) ∉ t) ∧ bs'.size ≤ bs.size + 14 ∧ Below base w w' ∧ ∀ p, Stay g p w w' := by
  have H := Lib.hid h
  have HI := Lib.hid hi
  have HQ := Lib.hid hq
  have hm := hi.cap; have hc := hi.le
  unfold maxLen at hm
  clear h hi hq
  go_enter Tryz.func39, Tryz.ntmps39
  go_wp2
  go_loop [7, 13] (fun s i => ∃ (j : Nat) (sb : ByteArray), j ≤ q.length ∧ i = .int .i64 j ∧ s = .string sb ∧ Hid (sb.data.toList = wd :: LG.nums (q.take j)) ∧ sb.size = 1 + 2 * j) (fun _ i => q.length - (intOf i).toNat)
  case atStart => exact ⟨0, ⟨#[wd]⟩, Nat.zero_le _, rfl, rfl, Lib.hid rfl, rfl⟩
  case round =>
    obtain ⟨j, sb, hj, rfl, rfl, HD, hsz⟩ := hrel
    by_cases hlt : j < q.length
    · obtain ⟨b, off, rfl, hb, hcell⟩ := ints_at HI.out hlt
      have hx := HQ.out (q.getD j 0) (by rw [List.getD_eq_getElem?_getD, List.getElem?_eq_getElem hlt]; exact List.getElem_mem hlt)
      have htk : q.take (j + 1) = q.take j ++ [q.getD j 0] := by rw [List.take_add_one, List.getD_eq_getElem?_getD, List.getElem?_eq_getElem hlt]; rfl
      generalize q.getD j 0 = x at *
      have HTK := Lib.hid htk
      clear htk
      have hdd : Lib.decDigits x = [LG.dig x] := by rw [Lib.decDigits, dif_pos hx]; rfl
      go_wp2_with fail
      refine (Tryz.strconv_Itoa_small x (by omega) _).mono ?_; rintro e w' ⟨rfl, hw⟩; rw [hw]; clear hw w'
      rw [hdd]
      clear hdd
      go_wp2
      go_round
      case rel => exact ⟨j + 1, sb ++ (⟨#[32]⟩ ++ ⟨#[LG.dig x]⟩), by omega, by go_num, rfl, Lib.hid (by rw [bytes_app, bytes_app, HD.out, HTK.out, LG.nums_snoc]; simp), by rw [bytes_size, bytes_size, hsz]; show 1 + 2 * j + (1 + 1) = _; omega⟩
      case measure => (simp [intOf] <;> omega)
    · obtain rfl : j = q.length := by omega
      rw [List.take_length] at HD
      obtain ⟨sr, hsr⟩ : ∃ x, x = sb ++ ⟨#[10]⟩ := ⟨_, rfl⟩
      have hsd : sr.data.toList = wd :: (LG.nums q ++ [10]) := by rw [hsr, bytes_app, HD.out]; rfl
      have hss : sr.size = 2 + 2 * q.length := by rw [hsr, bytes_size, hsz]; show 1 + 2 * q.length + 1 = _; omega
      have HSD := Lib.hid hsd; have HSR := Lib.hid hsr
      clear hsd hsr
      go_wp2_with fail
      rw [← HSR.out]
      clear HD HSR
      subst h0
      refine (step_log _ base g cv _ vs caps L bs safe 0 st H.out (by decide) (by decide) hl true (by decide) (-1) (by decide)).mono ?_; rintro e w1 ⟨rfl, hL1, hb1, hs1⟩
      have HL1 := Lib.hid hL1; have HB1 := Lib.hid hb1; have HS1 := Lib.hid hs1
      obtain ⟨c0, c1, c2, c3, c4, c5, f0, f1, f2, f3, f4, f5, z⟩ := hL1.cells
      have hlo := hL1.lo
      clear hL1 hb1 hs1 c3 c4 c5 f0 f1 f3 f4 f5
      have hq1 : (sr.size : Int).tdiv 2 = ((1 + q.length : Nat) : Int) := by rw [hss, Int.tdiv_eq_ediv_of_nonneg (by omega)]; omega
      have hq2 : IntKind.i64.wrap ((sr.size : Int).tdiv 2) = ((1 + q.length : Nat) : Int) := by rw [hq1]; exact IntWalk.i64_in _ (by omega)
      have hq3 : 1 + q.length ≤ sr.size := by omega
      go_upto_region 9 with (fail)
      go_region
      clear hq1 hq2 hq3
      have hnt : (10 : UInt8) ∉ (wd :: (LG.nums q ++ [10])).take (q.length + 1) := by
        rw [List.take_succ_cons, List.take_append_of_le_length (by rw [LG.nums_len]; omega)]
        intro h
        rcases List.mem_cons.1 h with e | e
        · exact hwd e.symm
        · exact LG.nums_no HQ.out (List.mem_of_mem_take e)
      go_wp2
      go_ret
      exact ⟨rfl, _, (HL1.out.s2 _).below (Below.refl _ _).drew, ⟨_, by rw [bytes_app, bytes_take, HSD.out], hnt⟩, by rw [bytes_size, ← bytes_len (sr.extract 0 (q.length + 1)), bytes_take, List.length_take]; omega, (HB1.out.setCell (p := ⟨g, 2, none⟩) hlo _).drew, fun p => ((HS1.out p).set 2 _).below (Below.refl _ _).drew⟩
end Go.Proofs.YtaijpiebjhhkjaaGreatDoor
/- The log: Add that stops, Sync, Fail, Drop of what has stopped, Safe, Paths. -/
namespace Go.Proofs.YtaijpiebjhhkjaaGreatDoor
open Go.RowKit
attribute [local go_sem ↓] run_min_mn run_max_mx
set_option maxHeartbeats 4000000 in
theorem ladd_stop (w : World) (base g cc : Nat) (C P : Option Addr) (cp : Nat) (vs : List Value) (caps : List Int) (L : List (List Int)) (bs : ByteArray) (safe : Int) (h : LogAt w base g (.slice C caps.length cc) (.slice P L.length cp) vs caps L bs safe 0 false) (hl : base ≤ w.heap.size)
    (A : Option Addr) (c : Nat) (q : List Nat) (B : Nat) (hi : Ints w B A c (nints q)) (hB : B ≤ w.heap.size) (hq : ∀ x ∈ q, x < 10) (hq6 : q.length ≤ 6) (_ : L.length ≤ 6) (hbs : bs.size ≤ 1000000) (he : addE caps L false (nints q) = 0) :
    Calls Tryz.prog 9 #[.pointer (some ⟨g, 0, none⟩), .slice A q.length c] w fun e w' => e = .returned (.iface 74 (.int .i64 6)) ∧ ∃ bs', LogAt w' base g (.slice C caps.length cc) (.slice P L.length cp) vs caps L bs' safe (-1) true ∧ (∃ t, bs'.data.toList = bs.data.toList ++ t ∧ (10 : UInt8) ∉ t) ∧ bs'.size ≤ bs.size + 14 ∧ Below base w w' ∧ ∀ p, Stay g p w w' := by
  obtain ⟨c0, c1, c2, c3, c4, c5, f0, f1, f2, f3, f4, f5, z⟩ := h.cells
  have H := Lib.hid (keep_stop 43 (by decide) w base g _ _ vs caps L bs safe 0 false h hl rfl A c q B hi hB hq hq6 hbs)
  unfold addE at he
  rw [if_neg (by decide)] at he
  have h6 : L.length ≠ 6 := by intro h6; rw [if_pos h6] at he; exact absurd he (by decide)
  rw [if_neg h6] at he
  have h6' : ((L.length : Int) == 6) = false := beq_eq_false_iff_ne.2 (by omega)
  have hp := path_all caps.length A c (nints q) B w hi
  rw [he, errVal_zero] at hp
  rw [show (nints q).length = q.length by simp] at hp
  have HP := Lib.hid hp
  clear h hi hp he h6
  go_enter Tryz.func9, Tryz.ntmps9
  go_wp2_with fail
  refine HP.out.mono ?_; rintro e w' ⟨rfl, hw⟩; rw [← hw]; clear hw w'
  go_wp2_with fail
  refine H.out.mono ?_; rintro e w' ⟨rfl, bs', h1⟩
  have HR := Lib.hid h1
  clear h1
  go_wp2
  go_ret
  exact ⟨rfl, bs', HR.out⟩
set_option maxHeartbeats 2000000 in
theorem lsync_no (w : World) (base g : Nat) (cv pv : Value) (vs : List Value) (caps : List Int) (L : List (List Int)) (bs : ByteArray) (safe left : Int) (h : LogAt w base g cv pv vs caps L bs safe left true) :
    Calls Tryz.prog 10 #[.pointer (some ⟨g, 0, none⟩)] w fun e w' => e = .returned (.iface 74 (.int .i64 6)) ∧ Below w.heap.size w w' := by
  obtain ⟨c0, c1, c2, c3, c4, c5, f0, f1, f2, f3, f4, f5, z⟩ := h.cells
  clear h
  go_enter Tryz.func10, Tryz.ntmps10
  go_wp2
  go_ret
  exact ⟨rfl, Below.refl _ _⟩
set_option maxHeartbeats 2000000 in
theorem lsync_stop (w : World) (base g : Nat) (cv pv : Value) (vs : List Value) (caps : List Int) (L : List (List Int)) (bs : ByteArray) (safe : Int) (h : LogAt w base g cv pv vs caps L bs safe 0 false) (hl : base ≤ w.heap.size) :
    Calls Tryz.prog 10 #[.pointer (some ⟨g, 0, none⟩)] w fun e w' => e = .returned (.iface 74 (.int .i64 6)) ∧ LogAt w' base g cv pv vs caps L bs safe (-1) true ∧ Below base w w' ∧ ∀ p, Stay g p w w' := by
  obtain ⟨c0, c1, c2, c3, c4, c5, f0, f1, f2, f3, f4, f5, z⟩ := h.cells
  have H := Lib.hid (step_log w base g cv pv vs caps L bs safe 0 false h (by decide) (by decide) hl true (by decide) (-1) (by decide))
  clear h
  go_enter Tryz.func10, Tryz.ntmps10
  go_wp2_with fail
  refine H.out.mono ?_; rintro e w' ⟨rfl, h1⟩
  have HR := Lib.hid h1
  clear h1
  go_wp2
  go_ret
  exact ⟨rfl, HR.out⟩
set_option maxHeartbeats 2000000 in
theorem lsync_go (w : World) (base g : Nat) (cv pv : Value) (vs : List Value) (caps : List Int) (L : List (List Int)) (bs : ByteArray) (safe left : Int) (h : LogAt w base g cv pv vs caps L bs safe left false) (hl : base ≤ w.heap.size) (h1 : -1 ≤ left) (h2 : left ≤ 9223372036854775807) (h0 : left ≠ 0) (nl : Int) (hn : max (-1) (left - 1) = nl) (_ : bs.size ≤ 2000000) :
    Calls Tryz.prog 10 #[.pointer (some ⟨g, 0, none⟩)] w fun e w' => e = .returned .nilIface ∧ LogAt w' base g cv pv vs caps L bs bs.size nl false ∧ Below base w w' ∧ ∀ p, Stay g p w w' := by
  obtain ⟨c0, c1, c2, c3, c4, c5, f0, f1, f2, f3, f4, f5, z⟩ := h.cells
  have H := Lib.hid (step_log w base g cv pv vs caps L bs safe left false h h1 h2 hl false (decide_eq_false h0) nl hn)
  clear h c0 c1 c2 c3 c4 f0 f1 f2 f3 f4
  go_enter Tryz.func10, Tryz.ntmps10
  go_wp2_with fail
  refine H.out.mono ?_; rintro e w1 ⟨rfl, hL, hb, hs⟩
  have hlo := hL.lo
  have HL := Lib.hid hL; have HB := Lib.hid hb; have HS := Lib.hid hs
  obtain ⟨c0, c1, c2, c3, c4, c5', f0, f1, f2, f3, f4, f5', z'⟩ := hL.cells
  clear hL hb hs c5 f5 z c0 c1 c4 c5' f0 f1 f4 f5'
  go_wp2
  go_ret
  exact ⟨rfl, HL.out.s3 _, HB.out.setCell (p := ⟨g, 3, none⟩) hlo _, fun p => (HS.out p).set 3 _⟩
set_option maxHeartbeats 2000000 in
theorem lfail_any (w : World) (base g : Nat) (cv pv : Value) (vs : List Value) (caps : List Int) (L : List (List Int)) (bs : ByteArray) (safe left : Int) (st : Bool) (h : LogAt w base g cv pv vs caps L bs safe left st) (n : Int) :
    Calls Tryz.prog 18 #[.pointer (some ⟨g, 0, none⟩), .int .i64 n] w fun e w' => e = .returned (.tuple #[]) ∧ LogAt w' base g cv pv vs caps L bs safe (max (-1) n) st ∧ Below base w w' ∧ ∀ p, Stay g p w w' := by
  obtain ⟨c0, c1, c2, c3, c4, c5, f0, f1, f2, f3, f4, f5, z⟩ := h.cells
  have hlo := h.lo
  have H := Lib.hid h
  clear h
  go_enter Tryz.func18, Tryz.ntmps18
  go_wp2
  go_end0
  exact ⟨rfl, H.out.s4 _, (Below.refl base w).setCell (p := ⟨g, 4, none⟩) hlo _, fun p => (Stay.refl g p w).set 4 _⟩
set_option maxHeartbeats 2000000 in
theorem ldrop_stopped (w : World) (base g : Nat) (cv pv : Value) (vs : List Value) (caps : List Int) (L : List (List Int)) (bs : ByteArray) (safe left : Int) (h : LogAt w base g cv pv vs caps L bs safe left true) (f : Int) :
    Calls Tryz.prog 20 #[.pointer (some ⟨g, 0, none⟩), .int .i64 f] w fun e w' => e = .returned (.iface 74 (.int .i64 6)) ∧ Below w.heap.size w w' := by
  obtain ⟨c0, c1, c2, c3, c4, c5, f0, f1, f2, f3, f4, f5, z⟩ := h.cells
  clear h
  go_enter Tryz.func20, Tryz.ntmps20
  go_wp2
  go_ret
  exact ⟨rfl, Below.refl _ _⟩
set_option maxHeartbeats 2000000 in
theorem lsafe_any (w : World) (base g : Nat) (cv pv : Value) (vs : List Value) (caps : List Int) (L : List (List Int)) (bs : ByteArray) (safe left : Int) (st : Bool) (h : LogAt w base g cv pv vs caps L bs safe left st) :
    Calls Tryz.prog 15 #[.pointer (some ⟨g, 0, none⟩)] w fun e w' => e = .returned (.int .i64 safe) ∧ Below w.heap.size w w' := by
  obtain ⟨c0, c1, c2, c3, c4, c5, f0, f1, f2, f3, f4, f5, z⟩ := h.cells
  clear h
  go_enter Tryz.func15, Tryz.ntmps15
  go_wp2
  go_ret
  exact ⟨rfl, Below.refl _ _⟩
theorem field_net1 (C P : Option Addr) (n m c d : Nat) (W : World) : (Instr.field 42 (.agg #[.slice C n c, .slice P m d]) 1).run Tryz.prog W = .ok (.slice P m d) W := by kernel_rfl
set_option maxHeartbeats 4000000 in
set_option maxRecDepth 100000 in
theorem lpaths_any (w : World) (base g cc : Nat) (C P : Option Addr) (cp : Nat) (vs : List Value) (caps : List Int) (L : List (List Int)) (bs : ByteArray) (safe left : Int) (st : Bool) (h : LogAt w base g (.slice C caps.length cc) (.slice P L.length cp) vs caps L bs safe left st) (hc6 : caps.length ≤ 1000) (hL : L.length ≤ 1000) (hl : ∀ l ∈ L, l.length ≤ 1000) :
    Calls Tryz.prog 12 #[.pointer (some ⟨g, 0, none⟩)] w fun e w' => ∃ P' cp', e = .returned (.slice P' L.length cp') ∧ Rows2 w' w'.heap.size P' cp' L ∧ Below w.heap.size w w' := by
  obtain ⟨c0, c1, c2, c3, c4, c5, f0, f1, f2, f3, f4, f5, z⟩ := h.cells
  obtain ⟨hc, hp⟩ := h.net.bothL
  have H := Lib.hid (own_any C cc caps P cp L w.heap.size w (Nat.le_refl _) hc hp hc6 hL hl)
  clear h hc hp
  go_enter Tryz.func12, Tryz.ntmps12
  go_wp2_with fail
  refine H.out.mono ?_; rintro e w1 ⟨cv, pv, vs1, rfl, hn, hb⟩
  obtain ⟨P', cp', rfl, hr⟩ := hn.rows
  obtain ⟨C', cc', rfl, _, _⟩ := owns_ints hn.capO
  have HR := Lib.hid hr; have HB := Lib.hid hb
  clear hn hr hb
  have hfd := field_net1 C' P' caps.length L.length cc' cp'
  go_wp2
  go_ret
  exact ⟨P', cp', rfl, HR.out, HB.out⟩
end Go.Proofs.YtaijpiebjhhkjaaGreatDoor
