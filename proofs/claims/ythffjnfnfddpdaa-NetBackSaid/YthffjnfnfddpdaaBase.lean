/- Words and small facts that all walks use. -/
import Derived.Test.YthffjnfnfddpdaaProg
import Derived.WalkKit
import Derived.Outline
import Derived.Lib.Hide
import Derived.Deep.QuietTactic
import Derived.BigQuiet
import Derived.Deep.AppendLies
import Derived.Deep.Draws
import Derived.Deep.Slices
import Derived.Maps.AppendAt
namespace Go.Proofs.Ythffjnfnfddpdaa
open Go.RowKit

theorem run_min_mn {P : Program} (w : World) (ts : Array TypeId) (t : TypeId) (k k' : IntKind) (x y : Int) : (Builtin.min_ ts t #[.int k x, .int k' y]).run P w = .ok (.int k (min x y)) w := by
  rw [run_min_int2]; congr 2; omega
theorem run_max_mx {P : Program} (w : World) (ts : Array TypeId) (t : TypeId) (k k' : IntKind) (x y : Int) : (Builtin.max_ ts t #[.int k x, .int k' y]).run P w = .ok (.int k (max x y)) w := by
  rw [run_max_int2]; congr 2; omega

theorem quiet_left {P : Program} {f : FuncId} {args : Array Value} {w : World} {n : Nat} {v : Value}
    (h : Calls P f args (w.drewN n) fun e w' => e = .returned v ∧ w.drewN n = w') : Calls P f args (w.drewN n) fun e w'' => e = .returned v ∧ ∃ m, w'' = w.drewN m :=
  h.mono fun _ _ ⟨he, hm⟩ => ⟨he, n, hm.symm⟩
theorem quiet_add_left {P : Program} {f : FuncId} {args : Array Value} {w : World} {a n : Nat} {v : Value}
    (h : Calls P f args (w.drewN (a + n)) fun e w' => e = .returned v ∧ w.drewN (a + n) = w') :
    Calls P f args (w.drewN (a + n)) fun e w'' => e = .returned v ∧ ∃ m, w'' = w.drewN (a + m) :=
  h.mono fun _ _ ⟨he, hm⟩ => ⟨he, n, hm.symm⟩
theorem below_drewN {B : Nat} {a w : World} (h : Below B a w) (n : Nat) : Below B a (w.drewN n) := ⟨h.os, h.tape, h.output, h.size, h.block⟩
theorem block_of_add (a : Addr) (n : Nat) : (a.add n).block = a.block := by unfold Addr.add; split <;> rfl
theorem add_of_add (a : Addr) (i j : Nat) : (a.add i).add j = a.add (i + j) := by
  unfold Addr.add
  by_cases hi : i = 0 <;> by_cases hj : j = 0 <;> simp [hi, hj, Nat.add_assoc]

/-- the slice value at A, of n elements of so many cells each, holds the cells xs, below block B -/
def Reads (w : World) (B size : Nat) (A : Option Addr) (n : Nat) (xs : List Value) : Prop :=
  xs.length = n * size ∧ (0 < n → ∃ b off, A = some ⟨b, off, none⟩ ∧ b < B ∧ ∀ j u, xs[j]? = some u → w.cell? ⟨b, off + j, none⟩ = some u)
section
variable {w w' : World} {B B' size n : Nat} {A : Option Addr} {xs : List Value}
theorem Reads.none_ : Reads w B size A 0 [] := ⟨by simp, fun h => absurd h (by omega)⟩
theorem Reads.at_ {k : Nat} (h : Reads w B size A n xs) (hk : k < n) : ∃ b off, A = some ⟨b, off, none⟩ ∧ b < B ∧ ∀ j u, xs[j]? = some u → w.cell? ⟨b, off + j, none⟩ = some u := h.2 (by omega)
theorem Reads.keep (h : Reads w B size A n xs) (hk : ∀ p : Addr, p.block < B → w'.cell? p = w.cell? p) : Reads w' B size A n xs :=
  ⟨h.1, fun hn => by
    obtain ⟨b, off, e, hb, hc⟩ := h.2 hn
    exact ⟨b, off, e, hb, fun j u hu => (hk _ hb).trans (hc j u hu)⟩⟩
theorem Reads.more (h : Reads w B size A n xs) (hB : B ≤ B') : Reads w B' size A n xs :=
  ⟨h.1, fun hn => by
    obtain ⟨b, off, e, hb, hc⟩ := h.2 hn
    exact ⟨b, off, e, by omega, hc⟩⟩
theorem Reads.below (h : Reads w B size A n xs) (hb : Below B w w') : Reads w' B size A n xs := h.keep fun _ hp => hb.cell hp
theorem Reads.below' {C : Nat} (h : Reads w B size A n xs) (hb : Below C w w') (hC : B ≤ C) : Reads w' B size A n xs := h.keep fun _ hp => hb.cell (Nat.lt_of_lt_of_le hp hC)
end
/-- a slice of ints that reads as the list l -/
structure Ints (w : World) (B : Nat) (A : Option Addr) (c : Nat) (l : List Int) : Prop where
  rd : Reads w B 1 A l.length (l.map (Value.int .i64))
  le : l.length ≤ c
  cap : c ≤ maxLen
theorem Ints.at_ {w : World} {B : Nat} {A : Option Addr} {c : Nat} {l : List Int} (h : Ints w B A c l) {k : Nat} (hk : k < l.length) :
    ∃ b off, A = some ⟨b, off, none⟩ ∧ b < B ∧ ∀ j, j < l.length → w.cell? ⟨b, off + j, none⟩ = some (.int .i64 (l.getD j 0)) := by
  obtain ⟨b, off, e, hb, hc⟩ := h.rd.2 (by omega)
  exact ⟨b, off, e, hb, fun j hj => hc j _ (by simp [hj])⟩
theorem take_snoc' {α : Type} (l : List α) (k : Nat) (x : α) (h : l[k]? = some x) : l.take (k + 1) = l.take k ++ [x] := by
  rw [List.take_add_one, h]; rfl
theorem Ints.elem {w : World} {B : Nat} {A : Option Addr} {c : Nat} {l : List Int} (h : Ints w B A c l) {k : Nat} (hk : k < l.length) :
    ∃ b off x, A = some ⟨b, off, none⟩ ∧ b < B ∧ w.cell? ⟨b, off + k, none⟩ = some (.int .i64 x) ∧ x ∈ l ∧ Hid (l.take (k + 1) = l.take k ++ [x]) ∧ Hid (l.getD k 0 = x) := by
  obtain ⟨b, off, e, hb, hc⟩ := h.at_ hk
  refine ⟨b, off, l[k], e, hb, ?_, List.getElem_mem hk, ?_, ?_⟩
  · have := hc k hk
    simpa [hk] using this
  · exact take_snoc' l k _ (List.getElem?_eq_getElem hk)
  · show l.getD k 0 = l[k]
    simp [hk]
theorem Ints.here {w : World} {B b off : Nat} {c : Nat} {l : List Int} (h : Ints w B (some ⟨b, off, none⟩) c l) {k : Nat} (hk : k < l.length) :
    ∃ x, w.cell? ⟨b, off + k, none⟩ = some (.int .i64 x) ∧ x ∈ l ∧ Hid (l[k]? = some x) := by
  obtain ⟨b', off', e, _, hc⟩ := h.at_ hk
  injection e with e
  injection e with e1 e2
  subst e1 e2
  refine ⟨l[k], ?_, List.getElem_mem hk, List.getElem?_eq_getElem hk⟩
  have := hc k hk
  simpa [hk] using this
theorem Ints.one {w : World} {g : Nat} {B : Nat} {x : Int} (h : w.cell? ⟨g, 0, none⟩ = some (.int .i64 x)) (hB : g < B) : Ints w B (some ⟨g, 0, none⟩) 1 [x] :=
  ⟨⟨rfl, fun _ => ⟨g, 0, rfl, hB, fun j u hu => by
    cases j with
    | zero => simp at hu; subst hu; exact h
    | succ j => simp at hu⟩⟩, Nat.le_refl _, by simp [maxLen]⟩
theorem Ints.more {w : World} {B C : Nat} {A : Option Addr} {c : Nat} {l : List Int} (h : Ints w B A c l) (hC : B ≤ C) : Ints w C A c l := ⟨h.rd.more hC, h.le, h.cap⟩
theorem Ints.below {w w' : World} {B C : Nat} {A : Option Addr} {c : Nat} {l : List Int} (h : Ints w B A c l) (hb : Below C w w') (hC : B ≤ C) : Ints w' B A c l := ⟨h.rd.below' hb hC, h.le, h.cap⟩

def tot : List Int → Int
  | [] => 0
  | a :: l => a + tot l
theorem tot_take (l : List Int) (k : Nat) (hk : k < l.length) : tot (l.take (k + 1)) = tot (l.take k) + l.getD k 0 := by
  induction l generalizing k with
  | nil => simp at hk
  | cons a l ih =>
    cases k with
    | zero => simp [tot]
    | succ k =>
      simp only [List.take_succ_cons, tot, List.getD_cons_succ]
      rw [ih k (by simpa using hk)]; omega
theorem tot_append (l m : List Int) : tot (l ++ m) = tot l + tot m := by
  induction l with
  | nil => simp [tot]
  | cons a l ih => simp only [List.cons_append, tot, ih]; omega
theorem tot_snoc (l : List Int) (x : Int) : tot (l ++ [x]) = tot l + x := by rw [tot_append]; simp [tot]
theorem tot_bound (l : List Int) (b : Int) (h : ∀ a ∈ l, 0 ≤ a ∧ a ≤ b) : 0 ≤ tot l ∧ tot l ≤ l.length * b := by
  induction l with
  | nil => simp [tot]
  | cons a l ih =>
    have h1 := h a List.mem_cons_self
    have h2 := ih fun b hb => h b (List.mem_cons_of_mem _ hb)
    simp only [tot, List.length_cons, Int.natCast_add, Int.add_mul]
    simp; omega
theorem tot_bound_take (l : List Int) (b : Int) (h : ∀ a ∈ l, 0 ≤ a ∧ a ≤ b) (k : Nat) : 0 ≤ tot (l.take k) ∧ tot (l.take k) ≤ (l.take k).length * b := tot_bound _ b fun a ha => h a (List.mem_of_mem_take ha)
theorem tot_range (l : List Int) (b : Int) (h : ∀ a ∈ l, -b ≤ a ∧ a ≤ b) : -(l.length * b) ≤ tot l ∧ tot l ≤ l.length * b := by
  induction l with
  | nil => simp [tot]
  | cons a l ih =>
    have h1 := h a List.mem_cons_self
    have h2 := ih fun b hb => h b (List.mem_cons_of_mem _ hb)
    simp only [tot, List.length_cons, Int.natCast_add, Int.add_mul]
    simp; omega
theorem tot_range_take (l : List Int) (b : Int) (h : ∀ a ∈ l, -b ≤ a ∧ a ≤ b) (k : Nat) : -((l.take k).length * b) ≤ tot (l.take k) ∧ tot (l.take k) ≤ (l.take k).length * b := tot_range _ b fun a ha => h a (List.mem_of_mem_take ha)
theorem getD_some (l : List Int) (k : Nat) (hk : k < l.length) : l[k]? = some (l.getD k 0) := by simp [hk]
theorem getD_mem (l : List Int) (k : Nat) (hk : k < l.length) : l.getD k 0 ∈ l := by simp [hk]
end Go.Proofs.Ythffjnfnfddpdaa
