/- Several texts in one: Base, Err, Push, Blk, Own, Cmp, Find, PlRank, Sort, Rows2, Few, Clone, Push2, Make. -/
import Derived.Test.YtbojccikmpbpbaaProg
import Derived.WalkKit
import Derived.Outline
import Derived.Lib.Hide
import Derived.Deep.QuietTactic
import Derived.BigQuiet
import Derived.Deep.AppendLies
import Derived.Deep.Draws
import Derived.Deep.Slices
import Derived.Maps.AppendAt
import Derived.Deep.LoopGhost
import Derived.BigRegion
import Derived.WalkSpells
import Derived.Laws.OwnMore
/- Words and small facts that all walks use. -/
namespace Go.Proofs.Ytbojccikmpbpbaa
open Go.RowKit

theorem run_min_mn {P : Program} (w : World) (ts : Array TypeId) (t : TypeId) (k k' : IntKind) (x y : Int) : (Builtin.min_ ts t #[.int k x, .int k' y]).run P w = .ok (.int k (min x y)) w := by
  rw [run_min_int2]; congr 2; omega
theorem run_max_mx {P : Program} (w : World) (ts : Array TypeId) (t : TypeId) (k k' : IntKind) (x y : Int) : (Builtin.max_ ts t #[.int k x, .int k' y]).run P w = .ok (.int k (max x y)) w := by
  rw [run_max_int2]; congr 2; omega

theorem quiet_left {P : Program} {f : FuncId} {args : Array Value} {w : World} {n : Nat} {v : Value}
    (h : Calls P f args (w.drewN n) fun e w' => e = .returned v ∧ w.drewN n = w') : Calls P f args (w.drewN n) fun e w'' => e = .returned v ∧ ∃ m, w'' = w.drewN m :=
  h.mono fun _ _ ⟨he, hm⟩ => ⟨he, n, hm.symm⟩
theorem quiet_add_left {P : Program} {f : FuncId} {args : Array Value} {w : World} {a n : Nat} {v : Value}
    (h : Calls P f args (w.drewN (a + n)) fun e w' => e = .returned v ∧ w.drewN (a + n) = w') :
    Calls P f args (w.drewN (a + n)) fun e w'' => e = .returned v ∧ ∃ m, w'' = w.drewN (a + m) :=
  h.mono fun _ _ ⟨he, hm⟩ => ⟨he, n, hm.symm⟩
theorem below_drewN {B : Nat} {a w : World} (h : Below B a w) (n : Nat) : Below B a (w.drewN n) := ⟨h.os, h.tape, h.output, h.size, h.block⟩
theorem block_of_add (a : Addr) (n : Nat) : (a.add n).block = a.block := by unfold Addr.add; split <;> rfl
theorem add_of_add (a : Addr) (i j : Nat) : (a.add i).add j = a.add (i + j) := by
  unfold Addr.add
  by_cases hi : i = 0 <;> by_cases hj : j = 0 <;> simp [hi, hj, Nat.add_assoc]

/-- the slice value at A, of n elements of so many cells each, holds the cells xs, below block B -/
def Reads (w : World) (B size : Nat) (A : Option Addr) (n : Nat) (xs : List Value) : Prop :=
  xs.length = n * size ∧ (0 < n → ∃ b off, A = some ⟨b, off, none⟩ ∧ b < B ∧ ∀ j u, xs[j]? = some u → w.cell? ⟨b, off + j, none⟩ = some u)
section
variable {w w' : World} {B B' size n : Nat} {A : Option Addr} {xs : List Value}
theorem Reads.none_ : Reads w B size A 0 [] := ⟨by simp, fun h => absurd h (by omega)⟩
theorem Reads.at_ {k : Nat} (h : Reads w B size A n xs) (hk : k < n) : ∃ b off, A = some ⟨b, off, none⟩ ∧ b < B ∧ ∀ j u, xs[j]? = some u → w.cell? ⟨b, off + j, none⟩ = some u := h.2 (by omega)
theorem Reads.keep (h : Reads w B size A n xs) (hk : ∀ p : Addr, p.block < B → w'.cell? p = w.cell? p) : Reads w' B size A n xs :=
  ⟨h.1, fun hn => by
    obtain ⟨b, off, e, hb, hc⟩ := h.2 hn
    exact ⟨b, off, e, hb, fun j u hu => (hk _ hb).trans (hc j u hu)⟩⟩
theorem Reads.more (h : Reads w B size A n xs) (hB : B ≤ B') : Reads w B' size A n xs :=
  ⟨h.1, fun hn => by
    obtain ⟨b, off, e, hb, hc⟩ := h.2 hn
    exact ⟨b, off, e, by omega, hc⟩⟩
theorem Reads.below (h : Reads w B size A n xs) (hb : Below B w w') : Reads w' B size A n xs := h.keep fun _ hp => hb.cell hp
theorem Reads.below' {C : Nat} (h : Reads w B size A n xs) (hb : Below C w w') (hC : B ≤ C) : Reads w' B size A n xs := h.keep fun _ hp => hb.cell (Nat.lt_of_lt_of_le hp hC)
end
/-- a slice of ints that reads as the list l -/
structure Ints (w : World) (B : Nat) (A : Option Addr) (c : Nat) (l : List Int) : Prop where
  rd : Reads w B 1 A l.length (l.map (Value.int .i64))
  le : l.length ≤ c
  cap : c ≤ maxLen
theorem Ints.at_ {w : World} {B : Nat} {A : Option Addr} {c : Nat} {l : List Int} (h : Ints w B A c l) {k : Nat} (hk : k < l.length) :
    ∃ b off, A = some ⟨b, off, none⟩ ∧ b < B ∧ ∀ j, j < l.length → w.cell? ⟨b, off + j, none⟩ = some (.int .i64 (l.getD j 0)) := by
  obtain ⟨b, off, e, hb, hc⟩ := h.rd.2 (by omega)
  exact ⟨b, off, e, hb, fun j hj => hc j _ (by simp [hj])⟩
theorem take_snoc' {α : Type} (l : List α) (k : Nat) (x : α) (h : l[k]? = some x) : l.take (k + 1) = l.take k ++ [x] := by
  rw [List.take_add_one, h]; rfl
theorem Ints.elem {w : World} {B : Nat} {A : Option Addr} {c : Nat} {l : List Int} (h : Ints w B A c l) {k : Nat} (hk : k < l.length) :
    ∃ b off x, A = some ⟨b, off, none⟩ ∧ b < B ∧ w.cell? ⟨b, off + k, none⟩ = some (.int .i64 x) ∧ x ∈ l ∧ Hid (l.take (k + 1) = l.take k ++ [x]) ∧ Hid (l.getD k 0 = x) := by
  obtain ⟨b, off, e, hb, hc⟩ := h.at_ hk
  refine ⟨b, off, l[k], e, hb, ?_, List.getElem_mem hk, ?_, ?_⟩
  · have := hc k hk
    simpa [hk] using this
  · exact take_snoc' l k _ (List.getElem?_eq_getElem hk)
  · show l.getD k 0 = l[k]
    simp [hk]
theorem Ints.here {w : World} {B b off : Nat} {c : Nat} {l : List Int} (h : Ints w B (some ⟨b, off, none⟩) c l) {k : Nat} (hk : k < l.length) :
    ∃ x, w.cell? ⟨b, off + k, none⟩ = some (.int .i64 x) ∧ x ∈ l ∧ Hid (l[k]? = some x) := by
  obtain ⟨b', off', e, _, hc⟩ := h.at_ hk
  injection e with e
  injection e with e1 e2
  subst e1 e2
  refine ⟨l[k], ?_, List.getElem_mem hk, List.getElem?_eq_getElem hk⟩
  have := hc k hk
  simpa [hk] using this
theorem Ints.one {w : World} {g : Nat} {B : Nat} {x : Int} (h : w.cell? ⟨g, 0, none⟩ = some (.int .i64 x)) (hB : g < B) : Ints w B (some ⟨g, 0, none⟩) 1 [x] :=
  ⟨⟨rfl, fun _ => ⟨g, 0, rfl, hB, fun j u hu => by
    cases j with
    | zero => simp at hu; subst hu; exact h
    | succ j => simp at hu⟩⟩, Nat.le_refl _, by simp [maxLen]⟩
theorem Ints.more {w : World} {B C : Nat} {A : Option Addr} {c : Nat} {l : List Int} (h : Ints w B A c l) (hC : B ≤ C) : Ints w C A c l := ⟨h.rd.more hC, h.le, h.cap⟩
theorem Ints.below {w w' : World} {B C : Nat} {A : Option Addr} {c : Nat} {l : List Int} (h : Ints w B A c l) (hb : Below C w w') (hC : B ≤ C) : Ints w' B A c l := ⟨h.rd.below' hb hC, h.le, h.cap⟩

def tot : List Int → Int
  | [] => 0
  | a :: l => a + tot l
theorem tot_take (l : List Int) (k : Nat) (hk : k < l.length) : tot (l.take (k + 1)) = tot (l.take k) + l.getD k 0 := by
  induction l generalizing k with
  | nil => simp at hk
  | cons a l ih =>
    cases k with
    | zero => simp [tot]
    | succ k =>
      simp only [List.take_succ_cons, tot, List.getD_cons_succ]
      rw [ih k (by simpa using hk)]; omega
theorem tot_append (l m : List Int) : tot (l ++ m) = tot l + tot m := by
  induction l with
  | nil => simp [tot]
  | cons a l ih => simp only [List.cons_append, tot, ih]; omega
theorem tot_snoc (l : List Int) (x : Int) : tot (l ++ [x]) = tot l + x := by rw [tot_append]; simp [tot]
theorem tot_bound (l : List Int) (b : Int) (h : ∀ a ∈ l, 0 ≤ a ∧ a ≤ b) : 0 ≤ tot l ∧ tot l ≤ l.length * b := by
  induction l with
  | nil => simp [tot]
  | cons a l ih =>
    have h1 := h a List.mem_cons_self
    have h2 := ih fun b hb => h b (List.mem_cons_of_mem _ hb)
    simp only [tot, List.length_cons, Int.natCast_add, Int.add_mul]
    simp; omega
theorem tot_bound_take (l : List Int) (b : Int) (h : ∀ a ∈ l, 0 ≤ a ∧ a ≤ b) (k : Nat) : 0 ≤ tot (l.take k) ∧ tot (l.take k) ≤ (l.take k).length * b := tot_bound _ b fun a ha => h a (List.mem_of_mem_take ha)
theorem tot_range (l : List Int) (b : Int) (h : ∀ a ∈ l, -b ≤ a ∧ a ≤ b) : -(l.length * b) ≤ tot l ∧ tot l ≤ l.length * b := by
  induction l with
  | nil => simp [tot]
  | cons a l ih =>
    have h1 := h a List.mem_cons_self
    have h2 := ih fun b hb => h b (List.mem_cons_of_mem _ hb)
    simp only [tot, List.length_cons, Int.natCast_add, Int.add_mul]
    simp; omega
theorem tot_range_take (l : List Int) (b : Int) (h : ∀ a ∈ l, -b ≤ a ∧ a ≤ b) (k : Nat) : -((l.take k).length * b) ≤ tot (l.take k) ∧ tot (l.take k) ≤ (l.take k).length * b := tot_range _ b fun a ha => h a (List.mem_of_mem_take ha)
theorem getD_some (l : List Int) (k : Nat) (hk : k < l.length) : l[k]? = some (l.getD k 0) := by simp [hk]
theorem getD_mem (l : List Int) (k : Nat) (hk : k < l.length) : l.getD k 0 ∈ l := by simp [hk]
end Go.Proofs.Ytbojccikmpbpbaa
/- An error as a number. -/
namespace Go.Proofs.Ytbojccikmpbpbaa
open Go.RowKit
/-- an error as a number -/
def errVal (n : Int) : Value := if n = 0 then .nilIface else .iface 33 (.int .i64 n)
theorem errVal_zero : errVal 0 = .nilIface := rfl
theorem errVal_pos {n : Int} (h : n ≠ 0) : errVal n = .iface 33 (.int .i64 n) := if_neg h
end Go.Proofs.Ytbojccikmpbpbaa
/- append of one element onto a row that the call itself made. -/
namespace Go.Proofs.Ytbojccikmpbpbaa
open Go.RowKit
/-- append of one element, in a block of its own, onto a row of the call's own -/
theorem wpList_push {P : Program} {ops : Array Oper} {rest : List Oper} {o : Oper} {a : Act} {Q : Exit → Act → World → Prop} (wr : World) (cs : Array Value) (hgd : o.guard = none) (s x : Operand) (t : TypeId)
    (ho : o.op = .call { callee := .builtin .append, args := #[s, x], argTypes := #[t, t] })
    (base : Nat) (e : TypeId) (z : Value) (size bytes : Nat) (ht : P.underlying t = some (.slice e)) (hinfo : (P.info? e).map (fun i => (i.zero, i.size, i.bytes)) = some (some z, size, bytes))
    (hzs : z.cells.size = size) (hsz : 0 < size) (v : Value) (n : Nat) (xs : List Value) (hs : a.eval s = v) (hown : wr.ownsRow base e size v n xs)
    (hx : a.eval x = .slice (some ⟨wr.heap.size, 0, none⟩) 1 1) (hl : cs.size = size) (h1 : ∀ u ∈ cs.toList, u.oneCell' = true) (hn : n ≤ 1000000) (hb : bytes ≤ 64) (hbase : base ≤ wr.heap.size)
    (h : ∀ v' w', w'.ownsRow base e size v' (n + 1) (xs ++ cs.toList) → wr.grownBy w' v.ownBlock → wpList P ops Q rest (a.put o.dst v') w') : wpList P ops Q (o :: rest) a (wr.alloc (.cells cs e)) := by
  obtain ⟨i, hi, hz, h2, h3⟩ := info_parts hinfo
  refine wpList_append_own _ hgd s x t ho base e i z size bytes ht hi hz h2 h3 hzs hsz v n xs hs (hown.alloc _) ⟨wr.heap.size, 0, none⟩ 1 1 cs.toList hx (by simpa using hl) ?_ h1 (by simp only [maxLen]; omega) ?_ (by simp; omega) ?_
  · intro j u hu
    have hadd : (⟨wr.heap.size, 0, none⟩ : Addr).add j = ⟨wr.heap.size, j, none⟩ := by unfold Addr.add; split <;> simp_all
    rw [hadd, cell_of_row _ wr.heap.size j cs e (0, 0) (heap_alloc_new wr _)]
    simpa using hu
  · have : (n + 1) * bytes ≤ 1000001 * 64 := Nat.mul_le_mul (by omega) hb
    omega
  · intro v' w' h5 h6 _
    refine h v' w' h5 ⟨h6.os, h6.tape, h6.output, Nat.le_trans (by simp) h6.size, fun k hk hne => ?_⟩
    rw [h6.block k (by simp; omega) hne]
    exact Below.heap_alloc wr _ k hk
theorem below_push {B : Nat} {w wr w' : World} {base e size : Nat} {v : Value} {n : Nat} {xs : List Value} (h : Below B w wr) (hown : wr.ownsRow base e size v n xs) (hg : wr.grownBy w' v.ownBlock) (hB : B ≤ base) (hw : B ≤ wr.heap.size) : Below B w w' :=
  h.grown hg hw fun k hk => Nat.le_trans hB (hown.lt k hk).1
theorem owns_reads {w : World} {base e size : Nat} {v : Value} {n : Nat} {xs : List Value} (h : w.ownsRow base e size v n xs) : ∃ A c, v = .slice A n c ∧ n ≤ c ∧ c ≤ maxLen ∧ Reads w w.heap.size size A n xs := by
  rcases h.2 with ⟨rfl, rfl⟩ | ⟨g, cap, cur, rfl, hb, hg, hn, hm, _⟩
  · exact ⟨none, 0, rfl, Nat.le_refl _, by simp [maxLen], h.1, fun h => absurd h (by omega)⟩
  · refine ⟨some ⟨g, 0, none⟩, cap, rfl, hn, hm, h.1, fun _ => ⟨g, 0, rfl, (Array.getElem?_eq_some_iff.1 hg).1, fun j u hu => ?_⟩⟩
    have := h.cells (g := g) rfl j u hu
    have hadd : (⟨g, 0, none⟩ : Addr).add j = ⟨g, 0 + j, none⟩ := by unfold Addr.add; split <;> simp_all
    rw [← hadd]; exact this
end Go.Proofs.Ytbojccikmpbpbaa
/- A block that is known whole, and what becomes of it. -/
namespace Go.Proofs.Ytbojccikmpbpbaa
open Go.RowKit
def Blk (w : World) (g : Nat) (t : TypeId) (cs : Array Value) : Prop := w.heap[g]? = some (.cells cs t (0, 0))
section
variable {w w' : World} {g : Nat} {t : TypeId} {cs : Array Value}
theorem Blk.lt (h : Blk w g t cs) : g < w.heap.size := by
  rcases Nat.lt_or_ge g w.heap.size with hlt | hge
  · exact hlt
  · unfold Blk at h; rw [Array.getElem?_eq_none hge] at h; cases h
theorem Blk.cell (h : Blk w g t cs) (i : Nat) : w.cell? ⟨g, i, none⟩ = cs[i]? := cell_of_row w g i cs t (0, 0) h
theorem Blk.frozen (h : Blk w g t cs) (i : Nat) : w.frozen? ⟨g, i, none⟩ = false := by
  unfold Blk at h
  simp [World.frozen?, h]
theorem Blk.new (w : World) (t : TypeId) (cs : Array Value) : Blk (w.alloc (.cells cs t)) w.heap.size t cs := heap_alloc_new w _
theorem Blk.new' (w : World) (t : TypeId) (cs : Array Value) {g : Nat} (h : g = w.heap.size) : Blk (w.alloc (.cells cs t)) g t cs := by subst h; exact heap_alloc_new w _
theorem Blk.drew (h : Blk w g t cs) : Blk w.drew g t cs := h
theorem Blk.drewN (h : Blk w g t cs) (n : Nat) : Blk (w.drewN n) g t cs := h
theorem Blk.alloc (h : Blk w g t cs) (o : Obj) : Blk (w.alloc o) g t cs := (Below.heap_alloc w o g h.lt).trans h
theorem Blk.set_ (h : Blk w g t cs) (i : Nat) (u : Value) : Blk (w.setCell ⟨g, i, none⟩ u) g t (cs.setIfInBounds i u) := by
  unfold Blk at h ⊢
  simp [World.setCell, Array.getElem?_modify, h]
theorem Blk.far (h : Blk w g t cs) {p : Addr} (hp : g ≠ p.block) (u : Value) : Blk (w.setCell p u) g t cs := (Below.heap_setCell w p u g hp).trans h
theorem Blk.below {B : Nat} (h : Blk w g t cs) (hb : Below B w w') (hg : g < B) : Blk w' g t cs := (hb.block g hg).trans h
theorem Blk.grown {row : Option Nat} (h : Blk w g t cs) (hb : w.grownBy w' row) (hg : some g ≠ row) : Blk w' g t cs := (hb.block g h.lt hg).trans h
theorem Blk.ne_ {g' : Nat} {t' : TypeId} {cs' : Array Value} (h : Blk w g t cs) (h' : Blk w g' t' cs') (hne : t ≠ t') : g ≠ g' := by
  rintro rfl
  unfold Blk at h h'
  rw [h] at h'
  injection h' with h'
  injection h' with _ ht
  exact hne ht
theorem Blk.val {cs' : Array Value} (h : Blk w g t cs) (e : cs = cs') : Blk w g t cs' := e ▸ h
theorem own_blk_ne {base : Nat} {e : TypeId} {size n : Nat} {v : Value} {xs : List Value} (h : w.ownsRow base e size v n xs) (hg : Blk w g t cs) (hne : e ≠ t) : v.ownBlock ≠ some g := by
  rcases h.2 with ⟨rfl, _⟩ | ⟨g', cap, cur, rfl, _, hh, _⟩
  · simp [Value.ownBlock]
  · intro he
    have : g' = g := by simpa [Value.ownBlock] using he
    subst this
    exact Blk.ne_ (t := e) hh hg hne rfl
theorem Blk.s1_0 {a : Value} (h : Blk w g t #[a]) (u : Value) : Blk (w.setCell ⟨g, 0, none⟩ u) g t #[u] := h.set_ 0 u
theorem Blk.s2_0 {a b : Value} (h : Blk w g t #[a, b]) (u : Value) : Blk (w.setCell ⟨g, 0, none⟩ u) g t #[u, b] := h.set_ 0 u
theorem Blk.s2_1 {a b : Value} (h : Blk w g t #[a, b]) (u : Value) : Blk (w.setCell ⟨g, 1, none⟩ u) g t #[a, u] := h.set_ 1 u
theorem Blk.s3_0 {a b c : Value} (h : Blk w g t #[a, b, c]) (u : Value) : Blk (w.setCell ⟨g, 0, none⟩ u) g t #[u, b, c] := h.set_ 0 u
theorem Blk.s3_1 {a b c : Value} (h : Blk w g t #[a, b, c]) (u : Value) : Blk (w.setCell ⟨g, 1, none⟩ u) g t #[a, u, c] := h.set_ 1 u
theorem Blk.s3_2 {a b c : Value} (h : Blk w g t #[a, b, c]) (u : Value) : Blk (w.setCell ⟨g, 2, none⟩ u) g t #[a, b, u] := h.set_ 2 u
theorem Blk.s4_0 {a b c d : Value} (h : Blk w g t #[a, b, c, d]) (u : Value) : Blk (w.setCell ⟨g, 0, none⟩ u) g t #[u, b, c, d] := h.set_ 0 u
theorem Blk.s4_1 {a b c d : Value} (h : Blk w g t #[a, b, c, d]) (u : Value) : Blk (w.setCell ⟨g, 1, none⟩ u) g t #[a, u, c, d] := h.set_ 1 u
theorem Blk.s4_2 {a b c d : Value} (h : Blk w g t #[a, b, c, d]) (u : Value) : Blk (w.setCell ⟨g, 2, none⟩ u) g t #[a, b, u, d] := h.set_ 2 u
theorem Blk.s4_3 {a b c d : Value} (h : Blk w g t #[a, b, c, d]) (u : Value) : Blk (w.setCell ⟨g, 3, none⟩ u) g t #[a, b, c, u] := h.set_ 3 u
theorem Blk.one {a : Value} (h : Blk w g t #[a]) : w.cell? ⟨g, 0, none⟩ = some a ∧ w.frozen? ⟨g, 0, none⟩ = false ∧ g < w.heap.size :=
  ⟨h.cell 0, h.frozen 0, h.lt⟩
theorem Blk.two {a b : Value} (h : Blk w g t #[a, b]) : w.cell? ⟨g, 0, none⟩ = some a ∧ w.cell? ⟨g, 1, none⟩ = some b ∧ w.frozen? ⟨g, 0, none⟩ = false ∧ w.frozen? ⟨g, 1, none⟩ = false ∧ g < w.heap.size :=
  ⟨h.cell 0, h.cell 1, h.frozen 0, h.frozen 1, h.lt⟩
theorem Blk.three {a b c : Value} (h : Blk w g t #[a, b, c]) : w.cell? ⟨g, 0, none⟩ = some a ∧ w.cell? ⟨g, 1, none⟩ = some b ∧ w.cell? ⟨g, 2, none⟩ = some c ∧ w.frozen? ⟨g, 0, none⟩ = false ∧ w.frozen? ⟨g, 1, none⟩ = false ∧ w.frozen? ⟨g, 2, none⟩ = false ∧ g < w.heap.size :=
  ⟨h.cell 0, h.cell 1, h.cell 2, h.frozen 0, h.frozen 1, h.frozen 2, h.lt⟩
theorem Blk.four {a b c d : Value} (h : Blk w g t #[a, b, c, d]) : w.cell? ⟨g, 0, none⟩ = some a ∧ w.cell? ⟨g, 1, none⟩ = some b ∧ w.cell? ⟨g, 2, none⟩ = some c ∧ w.cell? ⟨g, 3, none⟩ = some d ∧ w.frozen? ⟨g, 0, none⟩ = false ∧ w.frozen? ⟨g, 1, none⟩ = false ∧ w.frozen? ⟨g, 2, none⟩ = false ∧ w.frozen? ⟨g, 3, none⟩ = false ∧ g < w.heap.size :=
  ⟨h.cell 0, h.cell 1, h.cell 2, h.cell 3, h.frozen 0, h.frozen 1, h.frozen 2, h.frozen 3, h.lt⟩
end
theorem Blk.one' {w : World} {g : Nat} {t : TypeId} {a : Value} (h : Blk w g t #[a]) : w.cell? ⟨g, 0, none⟩ = some a ∧ w.frozen? ⟨g, 0, none⟩ = false ∧ g < w.heap.size ∧ g < w.heap.size + 1 ∧ g < w.heap.size + 1 + 1 ∧ g < w.heap.size + 1 + 1 + 1 :=
  ⟨h.cell 0, h.frozen 0, h.lt, by have := h.lt; omega, by have := h.lt; omega, by have := h.lt; omega⟩
theorem Blk.two' {w : World} {g : Nat} {t : TypeId} {a b : Value} (h : Blk w g t #[a, b]) : w.cell? ⟨g, 0, none⟩ = some a ∧ w.cell? ⟨g, 1, none⟩ = some b ∧ w.frozen? ⟨g, 0, none⟩ = false ∧ w.frozen? ⟨g, 1, none⟩ = false ∧ g < w.heap.size ∧ g < w.heap.size + 1 ∧ g < w.heap.size + 1 + 1 ∧ g < w.heap.size + 1 + 1 + 1 :=
  ⟨h.cell 0, h.cell 1, h.frozen 0, h.frozen 1, h.lt, by have := h.lt; omega, by have := h.lt; omega, by have := h.lt; omega⟩
theorem Blk.three' {w : World} {g : Nat} {t : TypeId} {a b c : Value} (h : Blk w g t #[a, b, c]) : w.cell? ⟨g, 0, none⟩ = some a ∧ w.cell? ⟨g, 1, none⟩ = some b ∧ w.cell? ⟨g, 2, none⟩ = some c ∧ w.frozen? ⟨g, 0, none⟩ = false ∧ w.frozen? ⟨g, 1, none⟩ = false ∧ w.frozen? ⟨g, 2, none⟩ = false ∧ g < w.heap.size ∧ g < w.heap.size + 1 ∧ g < w.heap.size + 1 + 1 ∧ g < w.heap.size + 1 + 1 + 1 :=
  ⟨h.cell 0, h.cell 1, h.cell 2, h.frozen 0, h.frozen 1, h.frozen 2, h.lt, by have := h.lt; omega, by have := h.lt; omega, by have := h.lt; omega⟩
theorem Blk.four' {w : World} {g : Nat} {t : TypeId} {a b c d : Value} (h : Blk w g t #[a, b, c, d]) : w.cell? ⟨g, 0, none⟩ = some a ∧ w.cell? ⟨g, 1, none⟩ = some b ∧ w.cell? ⟨g, 2, none⟩ = some c ∧ w.cell? ⟨g, 3, none⟩ = some d ∧ w.frozen? ⟨g, 0, none⟩ = false ∧ w.frozen? ⟨g, 1, none⟩ = false ∧ w.frozen? ⟨g, 2, none⟩ = false ∧ w.frozen? ⟨g, 3, none⟩ = false ∧ g < w.heap.size ∧ g < w.heap.size + 1 ∧ g < w.heap.size + 1 + 1 ∧ g < w.heap.size + 1 + 1 + 1 :=
  ⟨h.cell 0, h.cell 1, h.cell 2, h.cell 3, h.frozen 0, h.frozen 1, h.frozen 2, h.frozen 3, h.lt, by have := h.lt; omega, by have := h.lt; omega, by have := h.lt; omega⟩
theorem Blk.go {W w1 : World} {g : Nat} {t : TypeId} {cs : Array Value} (h : Blk W g t cs) (hb : Below W.heap.size W w1) : Blk w1 g t cs := h.below hb h.lt
theorem bcell {W w1 : World} (hb : Below W.heap.size W w1) : (∀ b o, b < W.heap.size → w1.cell? ⟨b, o, none⟩ = W.cell? ⟨b, o, none⟩) ∧ (∀ b o, b < W.heap.size → w1.frozen? ⟨b, o, none⟩ = W.frozen? ⟨b, o, none⟩) :=
  ⟨fun b o h => hb.cell (p := ⟨b, o, none⟩) h, fun b o h => hb.frozen (p := ⟨b, o, none⟩) h⟩
theorem keep3 {W w2 : World} (hb : Below W.heap.size W w2) (b : Nat) (h : b < W.heap.size) {v0 v1 v2 : Value} (h0 : W.cell? ⟨b, 0, none⟩ = some v0) (h1 : W.cell? ⟨b, 1, none⟩ = some v1) (h2 : W.cell? ⟨b, 2, none⟩ = some v2) :
    w2.cell? ⟨b, 0, none⟩ = some v0 ∧ w2.cell? ⟨b, 1, none⟩ = some v1 ∧ w2.cell? ⟨b, 2, none⟩ = some v2 ∧ b < w2.heap.size ∧ b < w2.heap.size + 1 ∧ b < w2.heap.size + 1 + 1 ∧ b < w2.heap.size + 1 + 1 + 1 := by
  have hs := hb.size
  exact ⟨(hb.cell (p := ⟨b, 0, none⟩) h).trans h0, (hb.cell (p := ⟨b, 1, none⟩) h).trans h1, (hb.cell (p := ⟨b, 2, none⟩) h).trans h2, by omega, by omega, by omega, by omega⟩
end Go.Proofs.Ytbojccikmpbpbaa
/- Rows of ints that the call itself made. -/
namespace Go.Proofs.Ytbojccikmpbpbaa
open Go.RowKit
theorem Try.info_int : (Try.prog.info? 3).map (fun i => (i.zero, i.size, i.bytes)) = some (some (.int .i64 0), 1, 8) := by kernel_rfl
theorem own_below {w w' : World} {base e size : Nat} {v : Value} {n : Nat} {xs : List Value} (h : w.ownsRow base e size v n xs) (hb : Below w.heap.size w w') : w'.ownsRow base e size v n xs :=
  h.kept (row := none) ⟨hb.os, hb.tape, hb.output, hb.size, fun i hi _ => hb.block i hi⟩ (by cases v.ownBlock <;> simp)
theorem own_set {w : World} {base e size : Nat} {v : Value} {n : Nat} {xs : List Value} (h : w.ownsRow base e size v n xs) {g i : Nat} (hg : g < base) (u : Value) : (w.setCell ⟨g, i, none⟩ u).ownsRow base e size v n xs := ownsRow_setCell_below h hg u
theorem owns_ints {w : World} {base n : Nat} {v : Value} {l : List Int} (h : w.ownsRow base 3 1 v n (l.map (Value.int .i64))) : ∃ A c, v = .slice A l.length c ∧ n = l.length ∧ Ints w w.heap.size A c l := by
  obtain ⟨A, c, rfl, h1, h2, h3⟩ := owns_reads h
  have hn : n = l.length := by have := h3.1; simpa using this.symm
  subst hn
  exact ⟨A, c, rfl, rfl, ⟨h3, h1, h2⟩⟩
theorem own_form {w : World} {base e size n : Nat} {v : Value} {xs : List Value} (h : w.ownsRow base e size v n xs) (hn : 0 < n) : ∃ g cap, v = .slice (some ⟨g, 0, none⟩) n cap ∧ base ≤ g ∧ g < w.heap.size ∧ n ≤ cap ∧ cap ≤ maxLen := by
  rcases h.2 with ⟨_, h0⟩ | ⟨g, cap, cur, rfl, hb, hg, h1, h2, _⟩
  · omega
  · exact ⟨g, cap, rfl, hb, (Array.getElem?_eq_some_iff.1 hg).1, h1, h2⟩
/-- f done to the first so many -/
def upd (f : Int → Int) (l : List Int) (k : Nat) : List Int := (l.take k).map f ++ l.drop k
theorem upd_len (f : Int → Int) (l : List Int) (k : Nat) : (upd f l k).length = l.length := by simp [upd]; omega
theorem upd_zero (f : Int → Int) (l : List Int) : upd f l 0 = l := by simp [upd]
theorem upd_all (f : Int → Int) (l : List Int) : upd f l l.length = l.map f := by simp [upd]
theorem upd_get (f : Int → Int) (l : List Int) (k : Nat) (x : Int) (h : l[k]? = some x) : (upd f l k)[k]? = some x := by
  have hk : k < l.length := (List.getElem?_eq_some_iff.1 h).1
  unfold upd
  rw [List.getElem?_append_right (by simp; omega)]
  simp only [List.length_map, List.length_take]
  rw [List.getElem?_drop, ← h]
  congr 1; omega
theorem upd_set (f : Int → Int) (l : List Int) (k : Nat) (x : Int) (h : l[k]? = some x) : (upd f l k).set k (f x) = upd f l (k + 1) := by
  have hk : k < l.length := (List.getElem?_eq_some_iff.1 h).1
  have hx : l[k] = x := by rw [List.getElem?_eq_getElem hk] at h; exact Option.some.inj h
  unfold upd
  rw [List.set_append_right _ _ (by simp; omega), List.take_add_one, h]
  simp only [List.length_map, List.length_take, Option.toList_some, List.map_append, List.map_cons, List.map_nil, List.append_assoc]
  congr 1
  rw [show k - min k l.length = 0 by omega, List.drop_eq_getElem_cons hk]
  rfl
theorem upd_cells (f : Int → Int) (l : List Int) (k : Nat) (x : Int) (h : l[k]? = some x) : ((upd f l k).map (Value.int .i64)).set k (.int .i64 (f x)) = (upd f l (k + 1)).map (Value.int .i64) := by
  rw [← upd_set f l k x h, List.map_set]
/-- the cell of such a row -/
theorem own_cell {w : World} {base n g cap : Nat} {l : List Int} (h : w.ownsRow base 3 1 (.slice (some ⟨g, 0, none⟩) n cap) n (l.map (Value.int .i64))) {k : Nat} {x : Int} (hx : l[k]? = some x) (hk : k < n) : w.cell? ⟨g, k, none⟩ = some (.int .i64 x) := by
  rw [h.cellAt k (by omega), List.getElem?_map, hx]; rfl
end Go.Proofs.Ytbojccikmpbpbaa
/- cmp.Compare over ints. -/
namespace Go.Proofs.Ytbojccikmpbpbaa
open Go.RowKit
attribute [local go_sem ↓] run_min_mn run_max_mx
/-- less, alike, more -/
def cmpI (x y : Int) : Int := if x < y then -1 else if y < x then 1 else 0
end Go.Proofs.Ytbojccikmpbpbaa
/- slices.ContainsFunc over ints, at whatever predicate that only computes. -/
namespace Go.Proofs.Ytbojccikmpbpbaa
open Go.RowKit
theorem any_take_succ (l : List Int) (p : Int → Bool) (k : Nat) (x : Int) (ht : l.take (k + 1) = l.take k ++ [x]) : (l.take (k + 1)).any p = ((l.take k).any p || p x) := by rw [ht]; simp
theorem any_of_take (l : List Int) (p : Int → Bool) (k : Nat) (h : (l.take k).any p = true) : l.any p = true := by
  rw [List.any_eq_true] at *
  obtain ⟨x, hx, hp⟩ := h
  exact ⟨x, List.mem_of_mem_take hx, hp⟩
set_option maxHeartbeats 400000 in
set_option maxRecDepth 100000 in
theorem idx_any (A : Option Addr) (c : Nat) (l : List Int) (B : Nat) (w : World) (h : Ints w B A c l) (g : FuncId) (cap : Array Value) (p : Int → Bool) (hcf : ∀ (a : Array Value) (W : World), (callFunc g a).run Try.prog W = .ok (.enter g a) W)
    (hg : ∀ x ∈ l, Calls Try.prog g (#[.int .i64 x] ++ cap) w fun e w' => e = .returned (.bool (p x)) ∧ w = w') :
    Calls Try.prog 11 #[.slice A l.length c, .func (Fn.func g) #[] cap] w fun e w' => ∃ j : Int, e = .returned (.int .i64 j) ∧ Hid (decide (0 ≤ j) = l.any p) ∧ w = w' := by
  have H := Lib.hid h
  have hm := h.cap
  have hl := h.le
  clear h
  unfold maxLen at hm
  have HG := Lib.hid hg; clear hg
  go_enter Try.func11, Try.ntmps11
  go_wp2
  go_loop [8] (fun i => ∃ k : Nat, k ≤ l.length ∧ i = .int .i64 k ∧ Hid ((l.take k).any p = false)) (fun i => l.length - (intOf i).toNat)
  case atStart => exact ⟨0, Nat.zero_le _, rfl, Lib.hid (by simp)⟩
  case round =>
    obtain ⟨k, hk, rfl, HN⟩ := hrel
    by_cases hlt : k < l.length
    · obtain ⟨b, off, x, rfl, _, hc, hx, HT, HX⟩ := H.out.elem hlt
      go_wp2_with fail
      refine (HG.out x hx).mono ?_; rintro e w' ⟨rfl, rfl⟩
      have HP := any_take_succ l p k x HT.out
      rw [HN.out] at HP
      have HP := Lib.hid HP
      clear HT HX
      cases hpx : p x
      · have HQ : Hid ((l.take (k + 1)).any p = false) := Lib.hid (by rw [HP.out, hpx]; rfl)
        clear HP hpx
        go_wp2
        go_round
        case rel => exact ⟨k + 1, by omega, by go_num, HQ⟩
        case measure => simp [intOf]; omega
      · have HQ : Hid (l.any p = true) := Lib.hid (any_of_take l p (k + 1) (by rw [HP.out, hpx]; rfl))
        clear HP hpx
        go_wp2
        go_ret
        exact ⟨_, rfl, Lib.hid (by rw [HQ.out]; simp), rfl⟩
    · have HQ : Hid (l.any p = false) := Lib.hid (by have := HN.out; rwa [List.take_of_length_le (by omega)] at this)
      go_wp2
      go_ret
      exact ⟨_, rfl, Lib.hid (by rw [HQ.out]; rfl), rfl⟩
theorem contains_any (A : Option Addr) (c : Nat) (l : List Int) (B : Nat) (w : World) (h : Ints w B A c l) (g : FuncId) (cap : Array Value) (p : Int → Bool) (hcf : ∀ (a : Array Value) (W : World), (callFunc g a).run Try.prog W = .ok (.enter g a) W)
    (hg : ∀ x ∈ l, Calls Try.prog g (#[.int .i64 x] ++ cap) w fun e w' => e = .returned (.bool (p x)) ∧ w = w') :
    Calls Try.prog 8 #[.slice A l.length c, .func (Fn.func g) #[] cap] w fun e w' => e = .returned (.bool (l.any p)) ∧ w = w' := by
  have HI := Lib.hid (idx_any A c l B w h g cap p hcf hg)
  clear h hg hcf
  go_enter Try.func8, Try.ntmps8
  go_wp2_with fail
  refine HI.out.mono ?_; rintro e w' ⟨j, rfl, hj, rfl⟩
  go_wp2
  go_ret
  exact ⟨by rw [← hj.out]; rfl, rfl⟩
end Go.Proofs.Ytbojccikmpbpbaa
/- Ranks in plain words: who is ahead of whom, the best of those not taken, an insertion sort. -/
namespace Go.Proofs.Ytbojccikmpbpbaa
namespace PR
/-- is j ahead of i: it has the greater key, or as great a one and stands first -/
def ahead (key : Nat → Int) (j i : Nat) : Bool := decide (key i < key j) || (decide (key j = key i) && decide (j < i))
/-- how many of the first n are ahead of i -/
def rank (key : Nat → Int) (n i : Nat) : Nat := (List.range n).countP fun j => ahead key j i

theorem ahead_irr (key : Nat → Int) (i : Nat) : ahead key i i = false := by simp [ahead]
theorem ahead_asymm {key : Nat → Int} {i j : Nat} (h : ahead key i j = true) : ahead key j i = false := by
  simp only [ahead, Bool.or_eq_true, Bool.and_eq_true, decide_eq_true_eq, Bool.or_eq_false_iff, Bool.and_eq_false_imp, decide_eq_false_iff_not] at *; omega
theorem ahead_total {key : Nat → Int} {i j : Nat} (h : i ≠ j) : ahead key i j = true ∨ ahead key j i = true := by
  simp only [ahead, Bool.or_eq_true, Bool.and_eq_true, decide_eq_true_eq]; omega
theorem ahead_trans {key : Nat → Int} {i j k : Nat} (h : ahead key i j = true) (h' : ahead key j k = true) : ahead key i k = true := by
  simp only [ahead, Bool.or_eq_true, Bool.and_eq_true, decide_eq_true_eq] at *; omega

/-- a list of the first n, each once, those ahead first: each stands at its rank -/
theorem rank_of_sorted {key : Nat → Int} {n : Nat} {o : List Nat} (hp : o.Perm (List.range n)) (hs : o.Pairwise fun a b => ahead key a b = true) {A B : List Nat} {i : Nat} (he : o = A ++ i :: B) : rank key n i = A.length := by
  unfold rank
  rw [← hp.countP_eq, he, List.countP_append, List.countP_cons]
  rw [he, List.pairwise_append, List.pairwise_cons] at hs
  have h1 : A.countP (fun j => ahead key j i) = A.length := List.countP_eq_length.2 fun a ha => hs.2.2 a ha i List.mem_cons_self
  have h2 : B.countP (fun j => ahead key j i) = 0 := List.countP_eq_zero.2 fun b hb => by
    have := ahead_asymm (hs.2.1.1 b hb); simp [this]
  rw [h1, h2, ahead_irr]; simp

theorem mem_take_iff {key : Nat → Int} {n : Nat} {o : List Nat} (hp : o.Perm (List.range n)) (hs : o.Pairwise fun a b => ahead key a b = true) (m : Nat) {i : Nat} (hi : i < n) : i ∈ o.take m ↔ rank key n i < m := by
  have hm : i ∈ o := hp.mem_iff.2 (List.mem_range.2 hi)
  obtain ⟨A, B, he⟩ := List.append_of_mem hm
  rw [rank_of_sorted hp hs he]
  have hnd : o.Nodup := hp.nodup_iff.2 List.nodup_range
  constructor
  · intro h
    apply Classical.byContradiction
    intro hc
    rw [he, List.take_append_of_le_length (by omega)] at h
    have hA : i ∈ A := List.mem_of_mem_take h
    rw [he, List.nodup_append] at hnd
    exact hnd.2.2 i hA i List.mem_cons_self rfl
  · intro h
    rw [he, List.take_append, List.mem_append]
    right
    obtain ⟨k, hk⟩ : ∃ k, m - A.length = k + 1 := ⟨m - A.length - 1, by omega⟩
    rw [hk, List.take_succ_cons]
    exact List.mem_cons_self

/-- insert an index behind all that are ahead of it -/
def ins (key : Nat → Int) (x : Nat) : List Nat → List Nat
  | [] => [x]
  | a :: l => if ahead key a x then a :: ins key x l else x :: a :: l
def srt (key : Nat → Int) : Nat → List Nat
  | 0 => []
  | n + 1 => ins key n (srt key n)
theorem ins_perm (key : Nat → Int) (x : Nat) (l : List Nat) : (ins key x l).Perm (x :: l) := by
  induction l with
  | nil => exact List.Perm.refl _
  | cons a l ih =>
    unfold ins; split
    · exact (List.Perm.cons a ih).trans (List.Perm.swap x a l)
    · exact List.Perm.refl _
theorem srt_perm (key : Nat → Int) (n : Nat) : (srt key n).Perm (List.range n) := by
  induction n with
  | zero => exact List.Perm.refl _
  | succ n ih =>
    rw [List.range_succ]
    exact (ins_perm key n _).trans ((List.Perm.cons n ih).trans (List.perm_append_singleton n _).symm)
theorem ins_up {key : Nat → Int} {x : Nat} {l : List Nat} (hx : x ∉ l) (h : l.Pairwise fun a b => ahead key a b = true) : (ins key x l).Pairwise fun a b => ahead key a b = true := by
  induction l with
  | nil => unfold ins; simp
  | cons a l ih =>
    rw [List.pairwise_cons] at h
    simp only [List.mem_cons, not_or] at hx
    unfold ins; split
    · rename_i hax
      rw [List.pairwise_cons]
      refine ⟨fun b hb => ?_, ih hx.2 h.2⟩
      rcases List.mem_cons.1 ((ins_perm key x l).mem_iff.1 hb) with e | e
      · subst e; exact hax
      · exact h.1 b e
    · rename_i hax
      have hxa : ahead key x a = true := by
        rcases ahead_total (key := key) hx.1 with e | e
        · exact e
        · exact absurd e hax
      rw [List.pairwise_cons]
      refine ⟨fun b hb => ?_, List.pairwise_cons.2 h⟩
      rcases List.mem_cons.1 hb with e | e
      · subst e; exact hxa
      · exact ahead_trans hxa (h.1 b e)
theorem srt_up (key : Nat → Int) (n : Nat) : (srt key n).Pairwise fun a b => ahead key a b = true := by
  induction n with
  | zero => exact List.Pairwise.nil
  | succ n ih =>
    refine ins_up (fun h => ?_) ih
    have := List.mem_range.1 ((srt_perm key n).mem_iff.1 h)
    omega
theorem srt_len (key : Nat → Int) (n : Nat) : (srt key n).length = n := by rw [(srt_perm key n).length_eq]; simp

/-- there is one at each place -/
theorem at_rank (key : Nat → Int) {n t : Nat} (ht : t < n) : ∃ i, i < n ∧ rank key n i = t := by
  have hl : t < (srt key n).length := by rw [srt_len]; exact ht
  refine ⟨(srt key n)[t], List.mem_range.1 ((srt_perm key n).mem_iff.1 (List.getElem_mem hl)), ?_⟩
  have he : srt key n = (srt key n).take t ++ (srt key n)[t] :: (srt key n).drop (t + 1) := by
    rw [List.getElem_cons_drop, List.take_append_drop]
  rw [rank_of_sorted (srt_perm key n) (srt_up key n) he]
  simp; omega
theorem rank_lt (key : Nat → Int) {n i : Nat} (hi : i < n) : rank key n i < n := by
  have hm : i ∈ srt key n := (srt_perm key n).mem_iff.2 (List.mem_range.2 hi)
  obtain ⟨A, B, he⟩ := List.append_of_mem hm
  rw [rank_of_sorted (srt_perm key n) (srt_up key n) he]
  have := srt_len key n
  rw [he, List.length_append, List.length_cons] at this
  omega
theorem rank_mono {key : Nat → Int} {n i j : Nat} (hi : i < n) (h : ahead key i j = true) : rank key n i < rank key n j := by
  unfold rank
  have hsub : ∀ k, ahead key k i = true → ahead key k j = true := fun k hk => ahead_trans hk h
  have : (List.range n).countP (fun k => ahead key k i) + 1 ≤ (List.range n).countP (fun k => ahead key k j) := by
    obtain ⟨A, B, he⟩ := List.append_of_mem (List.mem_range.2 hi)
    rw [he, List.countP_append, List.countP_append, List.countP_cons, List.countP_cons, ahead_irr, h]
    have a := List.countP_mono_left (l := A) (p := fun k => ahead key k i) (q := fun k => ahead key k j) fun k _ hk => hsub k hk
    have b := List.countP_mono_left (l := B) (p := fun k => ahead key k i) (q := fun k => ahead key k j) fun k _ hk => hsub k hk
    simp; omega
  omega
theorem rank_inj {key : Nat → Int} {n i j : Nat} (hi : i < n) (hj : j < n) (h : rank key n i = rank key n j) : i = j := by
  apply Classical.byContradiction
  intro hne
  rcases ahead_total (key := key) hne with e | e
  · have := rank_mono hi e; omega
  · have := rank_mono hj e; omega
/-- the sum of ones at ranks below m is m -/
theorem ones (key : Nat → Int) (n m : Nat) (hm : m ≤ n) : (List.range n).countP (fun i => decide (rank key n i < m)) = m := by
  rw [← (srt_perm key n).countP_eq]
  have hsplit := List.take_append_drop m (srt key n)
  rw [← hsplit, List.countP_append]
  have h1 : ((srt key n).take m).countP (fun i => decide (rank key n i < m)) = m := by
    rw [List.countP_eq_length.2, List.length_take, srt_len]
    · omega
    · intro i hi
      have hin : i < n := List.mem_range.1 ((srt_perm key n).mem_iff.1 (List.mem_of_mem_take hi))
      simpa using (mem_take_iff (srt_perm key n) (srt_up key n) m hin).1 hi
  have h2 : ((srt key n).drop m).countP (fun i => decide (rank key n i < m)) = 0 := by
    rw [List.countP_eq_zero]
    intro i hi hlt
    have hin : i < n := List.mem_range.1 ((srt_perm key n).mem_iff.1 (List.mem_of_mem_drop hi))
    have ht := (mem_take_iff (srt_perm key n) (srt_up key n) m hin).2 (by simpa using hlt)
    have hnd : (srt key n).Nodup := (srt_perm key n).nodup_iff.2 List.nodup_range
    rw [← hsplit, List.nodup_append] at hnd
    exact hnd.2.2 i ht i hi rfl
  omega
/-- the best of the first k that are not taken -/
def Best (key : Nat → Int) (got : Nat → Bool) (k b : Nat) : Prop := b < k ∧ got b = false ∧ ∀ j, j < k → got j = false → j = b ∨ ahead key b j = true
theorem Best.skip {key : Nat → Int} {got : Nat → Bool} {k b : Nat} (h : Best key got k b) (hg : got k = true) : Best key got (k + 1) b :=
  ⟨Nat.lt_succ_of_lt h.1, h.2.1, fun j hj hjg => by
    rcases Nat.lt_or_ge j k with hlt | hge
    · exact h.2.2 j hlt hjg
    · obtain rfl : j = k := by omega
      rw [hg] at hjg; cases hjg⟩
theorem Best.stay {key : Nat → Int} {got : Nat → Bool} {k b : Nat} (h : Best key got k b) (hk : ¬ key b < key k) : Best key got (k + 1) b :=
  ⟨Nat.lt_succ_of_lt h.1, h.2.1, fun j hj hjg => by
    rcases Nat.lt_or_ge j k with hlt | hge
    · exact h.2.2 j hlt hjg
    · obtain rfl : j = k := by omega
      have := h.1
      right
      simp only [ahead, Bool.or_eq_true, Bool.and_eq_true, decide_eq_true_eq]; omega⟩
theorem Best.turn {key : Nat → Int} {got : Nat → Bool} {k b : Nat} (h : Best key got k b) (hg : got k = false) (hk : key b < key k) : Best key got (k + 1) k :=
  ⟨Nat.lt_succ_self k, hg, fun j hj hjg => by
    rcases Nat.lt_or_ge j k with hlt | hge
    · right
      have hkb : ahead key k b = true := by simp only [ahead, Bool.or_eq_true, decide_eq_true_eq]; left; exact hk
      rcases h.2.2 j hlt hjg with rfl | h'
      · exact hkb
      · exact ahead_trans hkb h'
    · left; omega⟩
theorem Best.first {key : Nat → Int} {got : Nat → Bool} {k : Nat} (hall : ∀ j, j < k → got j = true) (hg : got k = false) : Best key got (k + 1) k :=
  ⟨Nat.lt_succ_self k, hg, fun j hj hjg => by
    rcases Nat.lt_or_ge j k with hlt | hge
    · rw [hall j hlt] at hjg; cases hjg
    · left; omega⟩
/-- those of a rank below t are taken -/
def taken (key : Nat → Int) (n t i : Nat) : Bool := decide (rank key n i < t)
theorem Best.rank {key : Nat → Int} {n t b : Nat} (ht : t < n) (h : Best key (taken key n t) n b) : rank key n b = t := by
  obtain ⟨i, hi, hr⟩ := at_rank key ht
  rcases h.2.2 i hi (by simp [taken, hr]) with rfl | ha
  · exact hr
  · have h1 := rank_mono h.1 ha
    have h2 := h.2.1
    simp only [taken, decide_eq_false_iff_not] at h2
    omega
theorem some_free {key : Nat → Int} {n t : Nat} (ht : t < n) : ¬ ∀ j, j < n → taken key n t j = true := fun h => by
  obtain ⟨i, hi, hr⟩ := at_rank key ht
  have := h i hi
  simp [taken, hr] at this
theorem taken_succ {key : Nat → Int} {n t b : Nat} (hb : b < n) (hr : rank key n b = t) {i : Nat} (hi : i < n) : taken key n (t + 1) i = (taken key n t i || decide (i = b)) := by
  rw [Bool.eq_iff_iff]
  simp only [taken, Bool.or_eq_true, decide_eq_true_eq]
  constructor
  · intro h
    rcases Nat.lt_or_ge (rank key n i) t with h1 | h1
    · exact .inl h1
    · exact .inr (rank_inj (key := key) hi hb (by omega))
  · rintro (h | rfl)
    · omega
    · omega
/-- one more for each of a rank below t -/
def incs (f : Nat → Int) (key : Nat → Int) (n t : Nat) : List Int := (List.range n).map fun i => f i + if rank key n i < t then 1 else 0
def takens (key : Nat → Int) (n t : Nat) : List Bool := (List.range n).map (taken key n t)
theorem incs_len (f : Nat → Int) (key : Nat → Int) (n t : Nat) : (incs f key n t).length = n := by simp [incs]
theorem takens_len (key : Nat → Int) (n t : Nat) : (takens key n t).length = n := by simp [takens]
theorem incs_at {f : Nat → Int} {key : Nat → Int} {n t b : Nat} (hb : b < n) (hr : rank key n b = t) : (incs f key n t)[b]? = some (f b) := by
  simp [incs, hb, hr]
theorem takens_at {key : Nat → Int} {n t i : Nat} (hi : i < n) : (takens key n t)[i]? = some (taken key n t i) := by simp [takens, hi]
theorem incs_set {f : Nat → Int} {key : Nat → Int} {n t b : Nat} (hb : b < n) (hr : rank key n b = t) : (incs f key n t).set b (f b + 1) = incs f key n (t + 1) := by
  apply List.ext_getElem
  · simp [incs]
  · intro i h1 h2
    have hi : i < n := by simpa [incs] using h2
    rw [List.getElem_set]
    by_cases e : b = i
    · subst e; rw [if_pos rfl]; simp [incs, hr]
    · rw [if_neg e]
      have : taken key n (t + 1) i = taken key n t i := by rw [taken_succ hb hr hi]; simp [show ¬ i = b from fun h => e h.symm]
      simp only [taken, decide_eq_decide] at this
      simp [incs, this]
theorem takens_set {key : Nat → Int} {n t b : Nat} (hb : b < n) (hr : rank key n b = t) : (takens key n t).set b true = takens key n (t + 1) := by
  apply List.ext_getElem
  · simp [takens]
  · intro i h1 h2
    have hi : i < n := by simpa [takens] using h2
    rw [List.getElem_set]
    by_cases e : b = i
    · subst e; rw [if_pos rfl]; simp [takens, taken, hr]
    · rw [if_neg e]
      simp [takens, taken_succ hb hr hi, show ¬ i = b from fun h => e h.symm]
theorem incs_zero (f : Nat → Int) (key : Nat → Int) (n : Nat) : incs f key n 0 = (List.range n).map f := by simp [incs]
theorem takens_zero (key : Nat → Int) (n : Nat) : takens key n 0 = List.replicate n false := by
  apply List.ext_getElem
  · simp [takens]
  · intro i h1 h2; simp [takens, taken]
/-- an order: each once, those ahead first -/
def Ord (key : Nat → Int) (n : Nat) (o : List Nat) : Prop := o.Perm (List.range n) ∧ o.Pairwise fun a b => ahead key a b = true
theorem Ord.len {key : Nat → Int} {n : Nat} {o : List Nat} (h : Ord key n o) : o.length = n := by rw [h.1.length_eq]; simp
theorem Ord.at_ {key : Nat → Int} {n : Nat} {o : List Nat} (h : Ord key n o) {k : Nat} (hk : k < n) : ∃ i, o[k]? = some i ∧ i < n ∧ rank key n i = k := by
  have hl : k < o.length := by rw [h.len]; exact hk
  refine ⟨o[k], List.getElem?_eq_getElem hl, List.mem_range.1 (h.1.mem_iff.1 (List.getElem_mem hl)), ?_⟩
  have he : o = o.take k ++ o[k] :: o.drop (k + 1) := by rw [List.getElem_cons_drop, List.take_append_drop]
  rw [rank_of_sorted h.1 h.2 he]
  simp; omega
/-- an insertion under way: x stands behind A, ahead of B, of which all are behind it -/
structure Ins (key : Nat → Int) (i j : Nat) (o : List Nat) : Prop where
  len : i < o.length
  le : j ≤ i
  here : o[j]? = some i
  perm : (o.take (i + 1)).Perm (List.range (i + 1))
  rest : ∀ k, i < k → k < o.length → o[k]? = some k
  left : (o.take j).Pairwise fun a b => ahead key a b = true
  right : ((o.take (i + 1)).drop (j + 1)).Pairwise fun a b => ahead key a b = true
  less : ∀ b, b ∈ (o.take (i + 1)).drop (j + 1) → ahead key i b = true
  over : ∀ a b, a ∈ o.take j → b ∈ (o.take (i + 1)).drop (j + 1) → ahead key a b = true
/-- the first i are in order -/
structure Upto (key : Nat → Int) (i : Nat) (o : List Nat) : Prop where
  le : i ≤ o.length
  ord : Ord key i (o.take i)
  rest : ∀ k, i ≤ k → k < o.length → o[k]? = some k
theorem Upto.start (key : Nat → Int) (n : Nat) (h : 0 < n) : Upto key 1 (List.range n) :=
  ⟨by simp; omega, by
    have : (List.range n).take 1 = [0] := by
      cases n with
      | zero => omega
      | succ n => rw [List.range_succ_eq_map]; rfl
    rw [this]
    exact ⟨List.Perm.refl _, List.pairwise_singleton _ _⟩, fun k _ hk => by simp at hk; simp [hk]⟩
theorem Upto.none (key : Nat → Int) (o : List Nat) (h : o = []) : Ord key 0 o := by subst h; exact ⟨List.Perm.refl _, List.Pairwise.nil⟩
theorem Upto.ins {key : Nat → Int} {i : Nat} {o : List Nat} (h : Upto key i o) (hi : i < o.length) : Ins key i i o := by
  have hx := h.rest i (Nat.le_refl _) hi
  have hd : (o.take (i + 1)).drop (i + 1) = [] := List.drop_of_length_le (by simp; omega)
  refine ⟨hi, Nat.le_refl _, hx, ?_, fun k hk hl => h.rest k (by omega) hl, h.ord.2, by rw [hd]; exact List.Pairwise.nil, by rw [hd]; simp, by rw [hd]; simp⟩
  rw [List.take_add_one, hx, List.range_succ]
  exact h.ord.1.append_right _
theorem Ins.done {key : Nat → Int} {i j : Nat} {o : List Nat} (h : Ins key i j o) (hs : j = 0 ∨ ∃ a, o[j - 1]? = some a ∧ ¬ key a < key i) : Upto key (i + 1) o := by
  have hl := h.len
  have hle := h.le
  have hj : o[j] = i := by have := h.here; rw [List.getElem?_eq_getElem (by omega)] at this; exact Option.some.inj this
  have he : o.take (i + 1) = o.take j ++ i :: (o.take (i + 1)).drop (j + 1) := by
    have h1 : o.take (i + 1) = (o.take (i + 1)).take j ++ (o.take (i + 1)).drop j := (List.take_append_drop _ _).symm
    rw [List.take_take, Nat.min_eq_left (by omega)] at h1
    rw [List.drop_eq_getElem_cons (by simp; omega)] at h1
    rw [List.getElem_take, hj] at h1
    exact h1
  have hai : ∀ a ∈ o.take j, ahead key a i = true := by
    intro a ha
    rcases hs with rfl | ⟨c, hc, hn⟩
    · simp at ha
    · by_cases hj0 : j = 0
      · subst hj0; simp at ha
      · -- c is the last of them
        have hcl : o.take j = o.take (j - 1) ++ [c] := by
          have := List.take_add_one (l := o) (i := j - 1)
          rw [hc, show j - 1 + 1 = j by omega] at this
          simpa using this
        have hci : c < i := by
          have hm : c ∈ o.take (i + 1) := by rw [he]; exact List.mem_append_left _ (by rw [hcl]; simp)
          have h2 := List.mem_range.1 (h.perm.mem_iff.1 hm)
          have hnd : (o.take (i + 1)).Nodup := h.perm.nodup_iff.2 List.nodup_range
          rw [he, List.nodup_append] at hnd
          have := hnd.2.2 c (by rw [hcl]; simp) i List.mem_cons_self
          omega
        have hca : ahead key c i = true := by simp only [ahead, Bool.or_eq_true, Bool.and_eq_true, decide_eq_true_eq]; omega
        rw [hcl] at ha
        rcases List.mem_append.1 ha with ha | ha
        · have hp := h.left
          rw [hcl, List.pairwise_append] at hp
          exact ahead_trans (hp.2.2 a ha c (by simp)) hca
        · simp at ha; subst ha; exact hca
  refine ⟨hl, ⟨h.perm, ?_⟩, fun k hk hkl => h.rest k (by omega) hkl⟩
  rw [he, List.pairwise_append, List.pairwise_cons]
  refine ⟨h.left, ⟨h.less, h.right⟩, fun a ha b hb => ?_⟩
  rcases List.mem_cons.1 hb with rfl | hb
  · exact hai a ha
  · exact h.over a b ha hb
def swap (o : List Nat) (j : Nat) (x a : Nat) : List Nat := (o.set j a).set (j - 1) x
theorem swap_len (o : List Nat) (j x a : Nat) : (swap o j x a).length = o.length := by simp [swap]
theorem Ins.swap {key : Nat → Int} {i j a : Nat} {o : List Nat} (h : Ins key i j o) (hj : 0 < j) (ha : o[j - 1]? = some a) (hk : key a < key i) : Ins key i (j - 1) (swap o j i a) := by
  have hl := h.len
  have hle := h.le
  obtain ⟨p, rfl⟩ : ∃ p, j = p + 1 := ⟨j - 1, by omega⟩
  simp only [Nat.add_sub_cancel] at *
  have hia : ahead key i a = true := by simp only [ahead, Bool.or_eq_true, decide_eq_true_eq]; left; exact hk
  have hjx : o[p + 1] = i := by have := h.here; rw [List.getElem?_eq_getElem (by omega)] at this; exact Option.some.inj this
  have hax : o[p] = a := by rw [List.getElem?_eq_getElem (by omega)] at ha; exact Option.some.inj ha
  -- the parts
  obtain ⟨A, hA⟩ : ∃ A, A = o.take p := ⟨_, rfl⟩
  obtain ⟨B, hB⟩ : ∃ B, B = (o.take (i + 1)).drop (p + 1 + 1) := ⟨_, rfl⟩
  obtain ⟨C, hC⟩ : ∃ C, C = o.drop (i + 1) := ⟨_, rfl⟩
  have hAl : A.length = p := by rw [hA]; simp; omega
  have hBl : B.length = i - (p + 1) := by rw [hB]; simp; omega
  have htj : o.take (p + 1) = A ++ [a] := by rw [List.take_add_one, ha, hA]; rfl
  have he1 : o.take (i + 1) = A ++ a :: i :: B := by
    have h1 : o.take (i + 1) = (o.take (i + 1)).take p ++ (o.take (i + 1)).drop p := (List.take_append_drop _ _).symm
    rw [List.take_take, Nat.min_eq_left (by omega)] at h1
    rw [List.drop_eq_getElem_cons (by simp; omega), List.drop_eq_getElem_cons (by simp; omega)] at h1
    rw [List.getElem_take, List.getElem_take, hax, hjx, ← hA, ← hB] at h1
    exact h1
  have he : o = A ++ a :: i :: (B ++ C) := by
    have : o = o.take (i + 1) ++ o.drop (i + 1) := (List.take_append_drop _ _).symm
    rw [he1, ← hC] at this
    simpa using this
  have hs : PR.swap o (p + 1) i a = A ++ i :: a :: (B ++ C) := by
    unfold PR.swap
    rw [he]
    simp only [Nat.add_sub_cancel]
    rw [List.set_append_right _ _ (by omega), hAl, show p + 1 - p = 1 by omega]
    simp only [List.set_cons_succ, List.set_cons_zero]
    rw [List.set_append_right _ _ (by omega), hAl, Nat.sub_self]
    simp
  have hst : (PR.swap o (p + 1) i a).take (i + 1) = A ++ i :: a :: B := by
    rw [hs, show A ++ i :: a :: (B ++ C) = (A ++ i :: a :: B) ++ C by simp]
    rw [List.take_append_of_le_length (by simp; omega)]
    exact List.take_of_length_le (by simp; omega)
  have hsd : ((PR.swap o (p + 1) i a).take (i + 1)).drop (p + 1) = a :: B := by
    rw [hst, show A ++ i :: a :: B = (A ++ [i]) ++ a :: B by simp]
    rw [List.drop_append_of_le_length (by simp; omega), List.drop_of_length_le (by simp; omega)]; rfl
  have hstp : (PR.swap o (p + 1) i a).take p = A := by
    rw [hs, List.take_append_of_le_length (by omega)]
    exact List.take_of_length_le (by omega)
  have hleft := h.left
  rw [htj, List.pairwise_append] at hleft
  have hover : ∀ x b, x ∈ A ++ [a] → b ∈ B → ahead key x b = true := fun x b hx hb => h.over x b (by rw [htj]; exact hx) (by rw [← hB]; exact hb)
  have hless : ∀ b ∈ B, ahead key i b = true := fun b hb => h.less b (by rw [← hB]; exact hb)
  refine ⟨by rw [swap_len]; exact hl, by omega, ?_, ?_, ?_, ?_, ?_, ?_, ?_⟩
  · rw [hs, List.getElem?_append_right (by omega), hAl, Nat.sub_self]; rfl
  · have hp := h.perm
    rw [he1] at hp
    rw [hst]
    exact (List.Perm.append_left A (List.Perm.swap a i B)).trans hp
  · intro k hk hkl
    rw [swap_len] at hkl
    unfold PR.swap
    simp only [Nat.add_sub_cancel]
    rw [List.getElem?_set_ne (by omega), List.getElem?_set_ne (by omega)]
    exact h.rest k hk hkl
  · rw [hstp]; exact hleft.1
  · rw [hsd, List.pairwise_cons]
    refine ⟨fun b hb => hover a b (by simp) hb, ?_⟩
    have := h.right
    rw [← hB] at this; exact this
  · rw [hsd]; intro b hb
    rcases List.mem_cons.1 hb with rfl | hb
    · exact hia
    · exact hless b hb
  · rw [hsd, hstp]; intro x b hx hb
    rcases List.mem_cons.1 hb with rfl | hb
    · exact hleft.2.2 x hx b (by simp)
    · exact hover x b (List.mem_append_left _ hx) hb
theorem Upto.ord_all {key : Nat → Int} {n : Nat} {o : List Nat} (h : Upto key n o) (hl : o.length = n) : Ord key n o := by
  have := h.ord
  rwa [List.take_of_length_le (by omega)] at this
end PR
end Go.Proofs.Ytbojccikmpbpbaa
/- slices.SortStableFunc over a row of indexes that the call itself made, at most twenty. -/
namespace Go.Proofs.Ytbojccikmpbpbaa
open Go.RowKit
def idxs (o : List Nat) : List Value := o.map fun (i : Nat) => Value.int .i64 (i : Int)
theorem idxs_len (o : List Nat) : (idxs o).length = o.length := by simp [idxs]
theorem idxs_at {o : List Nat} {k i : Nat} (h : o[k]? = some i) : (idxs o)[k]? = some (.int .i64 (i : Int)) := by simp [idxs, h]
theorem idxs_set (o : List Nat) (k i : Nat) : (idxs o).set k (.int .i64 (i : Int)) = idxs (o.set k i) := by simp [idxs]
/-- what is asked of the function that compares -/
structure Compares (key : Nat → Int) (cf : Nat → Nat → Int) (n base : Nat) (g : FuncId) (cb : Array Value) (w : World) : Prop where
  less : ∀ x y : Nat, cf x y < 0 ↔ key y < key x
  calls : ∀ (W : World) (x y : Nat), x < n → y < n → Below base w W → Calls Try.prog g (#[.int .i64 x, .int .i64 y] ++ cb) W fun e w' => e = .returned (.int .i64 (cf x y)) ∧ ∃ q, w' = W.drewN q
def Row (base n g cap : Nat) (o : List Nat) (w : World) : Prop := w.ownsRow base 3 1 (.slice (some ⟨g, 0, none⟩) n cap) n (idxs o)
theorem Row.cell {base n g cap : Nat} {o : List Nat} {w : World} (h : Row base n g cap o w) {k i : Nat} (hk : o[k]? = some i) (hn : o.length = n) : w.cell? ⟨g, k, none⟩ = some (.int .i64 (i : Int)) ∧ w.frozen? ⟨g, k, none⟩ = false := by
  have hkl : k < o.length := (List.getElem?_eq_some_iff.1 hk).1
  have h1 := h.cellAt k (by omega)
  rw [idxs_at hk] at h1
  exact ⟨h1, h.frozenAt k⟩
theorem Row.set {base n g cap : Nat} {o : List Nat} {w : World} (h : Row base n g cap o w) (k i : Nat) : Row base n g cap (o.set k i) (w.setCell ⟨g, k, none⟩ (.int .i64 (i : Int))) := by
  have := (h.stored k (.int .i64 (i : Int))).1
  rw [idxs_set] at this
  exact this
theorem Row.drewN {base n g cap : Nat} {o : List Nat} {w : World} (h : Row base n g cap o w) (d : Nat) : Row base n g cap o (w.drewN d) := own_below h (below_drewN (Below.refl _ _) d)
theorem grown_drewN {w wr : World} {row : Option Nat} (h : w.grownBy wr row) (d : Nat) : w.grownBy (wr.drewN d) row := ⟨h.os, h.tape, h.output, h.size, h.block⟩
theorem grown_set {w wr : World} {g k : Nat} {u : Value} (h : w.grownBy wr (some g)) : w.grownBy (wr.setCell ⟨g, k, none⟩ u) (some g) :=
  ⟨h.os, h.tape, h.output, by have := h.size; simpa [World.setCell] using this, fun i hi hne => (Below.heap_setCell wr _ u i (fun e => hne (by rw [e]))).trans (h.block i hi hne)⟩
theorem grown_refl (w : World) (row : Option Nat) : w.grownBy w row := ⟨rfl, rfl, rfl, Nat.le_refl _, fun _ _ _ => rfl⟩
theorem below_of_grown {base : Nat} {w wr : World} {g : Nat} (h : w.grownBy wr (some g)) (hb : base ≤ g) (hw : base ≤ w.heap.size) : Below base w wr :=
  (Below.refl _ _).grown h hw fun k hk => by
    obtain rfl : g = k := Option.some.inj hk
    exact hb
end Go.Proofs.Ytbojccikmpbpbaa
/- Slices of slices of ints: how they lie. -/
namespace Go.Proofs.Ytbojccikmpbpbaa
open Go.RowKit
/-- a slice of slices of ints that reads as the list of lists -/
structure Rows2 (w : World) (B : Nat) (A : Option Addr) (c : Nat) (L : List (List Int)) : Prop where
  rd : 0 < L.length → ∃ b off, A = some ⟨b, off, none⟩ ∧ b < B ∧ ∀ j l, L[j]? = some l → ∃ A' c', w.cell? ⟨b, off + j, none⟩ = some (.slice A' l.length c') ∧ Ints w B A' c' l
  le : L.length ≤ c
  cap : c ≤ maxLen
section
variable {w w' : World} {B C : Nat} {A : Option Addr} {c : Nat} {L : List (List Int)}
theorem Rows2.more (h : Rows2 w B A c L) (hC : B ≤ C) : Rows2 w C A c L :=
  ⟨fun hn => by
    obtain ⟨b, off, e, hb, hc⟩ := h.rd hn
    exact ⟨b, off, e, by omega, fun j l hl => by obtain ⟨A', c', h1, h2⟩ := hc j l hl; exact ⟨A', c', h1, h2.more hC⟩⟩, h.le, h.cap⟩
theorem Rows2.below (h : Rows2 w B A c L) (hb : Below C w w') (hC : B ≤ C) : Rows2 w' B A c L :=
  ⟨fun hn => by
    obtain ⟨b, off, e, hbb, hc⟩ := h.rd hn
    exact ⟨b, off, e, hbb, fun j l hl => by
      obtain ⟨A', c', h1, h2⟩ := hc j l hl
      exact ⟨A', c', (hb.cell (p := ⟨b, off + j, none⟩) (Nat.lt_of_lt_of_le hbb hC)).trans h1, h2.below hb hC⟩⟩, h.le, h.cap⟩
theorem Rows2.at' (h : Rows2 w w.heap.size A c L) (hb : Below w.heap.size w w') : Rows2 w' w'.heap.size A c L := (h.below hb (Nat.le_refl _)).more hb.size
theorem Rows2.elem (h : Rows2 w B A c L) {k : Nat} (hk : k < L.length) :
    ∃ b off A' c' l, A = some ⟨b, off, none⟩ ∧ b < B ∧ w.cell? ⟨b, off + k, none⟩ = some (.slice A' l.length c') ∧ Ints w B A' c' l ∧ Hid (L[k]? = some l) := by
  obtain ⟨b, off, e, hb, hc⟩ := h.rd (by omega)
  have hs := List.getElem?_eq_getElem hk
  obtain ⟨A', c', h1, h2⟩ := hc k _ hs
  exact ⟨b, off, A', c', L[k], e, hb, h1, h2, hs⟩
end
theorem Ints.at' {w w' : World} {A : Option Addr} {c : Nat} {l : List Int} (h : Ints w w.heap.size A c l) (hb : Below w.heap.size w w') : Ints w' w'.heap.size A c l := (h.below hb (Nat.le_refl _)).more hb.size
end Go.Proofs.Ytbojccikmpbpbaa
/- The fault of shares, up to a bound. -/
namespace Go.Proofs.Ytbojccikmpbpbaa
open Go.RowKit
def badTo (most n : Int) : Bool := decide (n < 0) || decide (most < n)
theorem badTo_iff (most n : Int) : badTo most n = false ↔ 0 ≤ n ∧ n ≤ most := by
  simp only [badTo, Bool.or_eq_false_iff, decide_eq_false_iff_not]; omega
theorem badTo_true {most n : Int} (h : badTo most n = true) : n < 0 ∨ most < n := by
  simp only [badTo, Bool.or_eq_true, decide_eq_true_eq] at h; exact h
theorem badTo_in {most : Int} {l : List Int} (h : l.any (badTo most) = false) : ∀ n ∈ l, 0 ≤ n ∧ n ≤ most := fun n hn => by
  rw [← badTo_iff]
  cases e : badTo most n
  · rfl
  · rw [List.any_eq_true.2 ⟨n, hn, e⟩] at h; cases h
def fewErr (l : List Int) (most : Int) : Int := if l.length = 0 then 5 else if 6 < l.length then 4 else if l.any (badTo most) then 1 else 0
end Go.Proofs.Ytbojccikmpbpbaa
/- slices.Clone over ints. -/
namespace Go.Proofs.Ytbojccikmpbpbaa
open Go.RowKit
end Go.Proofs.Ytbojccikmpbpbaa
/- append onto one of several rows of the call's own: where the new row lies. -/
namespace Go.Proofs.Ytbojccikmpbpbaa
open Go.RowKit
theorem push_block {P : Program} {W w' : World} {t ty e : TypeId} {i : TypeInfo} {z : Value} {size bytes : Nat} (ht : P.underlying t = some (.slice e)) (hi : P.info? e = some i) (hz : i.zero = some z)
    (hsize : i.size = size) (hby : i.bytes = bytes) {base : Nat} {v v' : Value} {n : Nat} {xs : List Value} (hown : W.ownsRow base e size v n xs)
    {a : Addr} {c : Nat} {news : List Value} (hl : news.length = 1 * size) (hnews : ∀ j u, news[j]? = some u → W.cell? (a.add j) = some u) (h1 : ∀ u ∈ news, u.oneCell' = true)
    (hn : n ≤ 1000000) (hb : bytes ≤ 64) (hr : (Builtin.append_ #[t, t] ty #[v, .slice (some a) 1 c]).run P W = .ok v' w') : v'.ownBlock = v.ownBlock ∨ v'.ownBlock = some W.heap.size := by
  subst hsize hby
  have hbb : (n + 1) * i.bytes ≤ 1000001 * 64 := Nat.mul_le_mul (by omega) hb
  rcases hown.2 with ⟨rfl, rfl⟩ | ⟨g, cap, cur, rfl, _, hg, _, _, hcs, _⟩
  · rw [run_append_nil (P := P) W t ty e i z ht hi hz a 1 c news hl hnews (by omega) (by omega) (by omega)] at hr
    injection hr with hr _
    subst hr
    right; rfl
  · by_cases hroom : n + 1 ≤ cap
    · have hfit : n * i.size + news.length ≤ cur.size := by rw [hl, hcs, ← Nat.add_mul]; exact Nat.mul_le_mul_right _ hroom
      rw [run_append_room (P := P) W t ty e i ht hi g n cap cur hg a 1 c news hl hnews h1 hroom hfit] at hr
      injection hr with hr _
      subst hr
      left; rfl
    · rw [run_append_grow (P := P) W t ty e i z ht hi hz ⟨g, 0, none⟩ n cap xs hown.1 (hown.cells (g := g) rfl) a 1 c news hl hnews (by omega) (by omega) (growslice_fits (by omega) (by omega))] at hr
      injection hr with hr _
      subst hr
      right; rfl
/-- append of one element, in a block of its own, onto a row of the call's own; where the row lies then -/
theorem wpList_push2 {P : Program} {ops : Array Oper} {rest : List Oper} {o : Oper} {a : Act} {Q : Exit → Act → World → Prop} (wr : World) (cs : Array Value) (hgd : o.guard = none) (s x : Operand) (t : TypeId)
    (ho : o.op = .call { callee := .builtin .append, args := #[s, x], argTypes := #[t, t] })
    (base : Nat) (e : TypeId) (z : Value) (size bytes : Nat) (ht : P.underlying t = some (.slice e)) (hinfo : (P.info? e).map (fun i => (i.zero, i.size, i.bytes)) = some (some z, size, bytes))
    (hzs : z.cells.size = size) (hsz : 0 < size) (v : Value) (n : Nat) (xs : List Value) (hs : a.eval s = v) (hown : wr.ownsRow base e size v n xs)
    (hx : a.eval x = .slice (some ⟨wr.heap.size, 0, none⟩) 1 1) (hl : cs.size = size) (h1 : ∀ u ∈ cs.toList, u.oneCell' = true) (hn : n ≤ 1000000) (hb : bytes ≤ 64) (hbase : base ≤ wr.heap.size)
    (h : ∀ v' w', w'.ownsRow base e size v' (n + 1) (xs ++ cs.toList) → wr.grownBy w' v.ownBlock → (v'.ownBlock = v.ownBlock ∨ v'.ownBlock = some (wr.heap.size + 1)) → wpList P ops Q rest (a.put o.dst v') w') : wpList P ops Q (o :: rest) a (wr.alloc (.cells cs e)) := by
  obtain ⟨i, hi, hz, h2, h3⟩ := info_parts hinfo
  have hnews : ∀ j u, cs.toList[j]? = some u → (wr.alloc (.cells cs e)).cell? ((⟨wr.heap.size, 0, none⟩ : Addr).add j) = some u := by
    intro j u hu
    have hadd : (⟨wr.heap.size, 0, none⟩ : Addr).add j = ⟨wr.heap.size, j, none⟩ := by unfold Addr.add; split <;> simp_all
    rw [hadd, cell_of_row _ wr.heap.size j cs e (0, 0) (heap_alloc_new wr _)]
    simpa using hu
  have hbb : (n + 1) * bytes ≤ 1000001 * 64 := Nat.mul_le_mul (by omega) hb
  have hoa := hown.alloc (.cells cs e)
  refine wpList_plain hgd fun K hK => ?_
  obtain ⟨v', w', hr, p1, p2, _⟩ := run_append_own (P := P) (wr.alloc (.cells cs e)) base t o.type e i z size bytes ht hi hz h2 h3 hzs hsz v n xs hoa ⟨wr.heap.size, 0, none⟩ 1 1 cs.toList (by simpa using hl) hnews h1 (by simp only [maxLen]; omega) (by omega) (by simp; omega)
  have hblk := push_block ht hi hz h2 h3 hoa (by simpa using hl) hnews h1 hn hb hr
  unfold Oper.wp execOp
  simp only [ho, resolve, invoke, builtin, Sem.run_bind, Sem.run_pure, Result.andThen_ok, List.map_toArray, List.map_cons, List.map_nil, hs, hx, hr]
  refine hK _ _ (h v' w' p1 ⟨p2.os, p2.tape, p2.output, Nat.le_trans (by simp) p2.size, fun k hk hne => ?_⟩ ?_)
  · rw [p2.block k (by simp; omega) hne]
    exact Below.heap_alloc wr _ k hk
  · simpa using hblk
/-- the same at a step of a region that draws its order -/
theorem step_push {P : Program} {ops : Array Oper} {o : Oper} {a : Act} {K : Act → World → Prop} {Q : Exit → Act → World → Prop} {E : Prop} {W : World} (hgd : o.guard = none) (s x : Operand) (t : TypeId)
    (ho : o.op = .call { callee := .builtin .append, args := #[s, x], argTypes := #[t, t] })
    (base : Nat) (e : TypeId) (z : Value) (size bytes : Nat) (ht : P.underlying t = some (.slice e)) (hinfo : (P.info? e).map (fun i => (i.zero, i.size, i.bytes)) = some (some z, size, bytes))
    (hzs : z.cells.size = size) (hsz : 0 < size) (v : Value) (n : Nat) (xs : List Value) (hs : a.eval s = v) (hown : W.ownsRow base e size v n xs) (g : Nat) (cs : Array Value)
    (hx : a.eval x = .slice (some ⟨g, 0, none⟩) 1 1) (hg : W.heap[g]? = some (.cells cs e (0, 0))) (hl : cs.size = size) (h1 : ∀ u ∈ cs.toList, u.oneCell' = true) (hn : n ≤ 1000000) (hb : bytes ≤ 64) (hbase : base ≤ W.heap.size)
    (h : ∀ v' w', w'.ownsRow base e size v' (n + 1) (xs ++ cs.toList) → W.grownBy w' v.ownBlock → (v'.ownBlock = v.ownBlock ∨ v'.ownBlock = some W.heap.size) → K (a.put o.dst v') w') :
    if Region.wanted o (yielded ops a.tmps) = true then Oper.wp P o a W K Q else E := by
  obtain ⟨i, hi, hz, h2, h3⟩ := info_parts hinfo
  have hbb : (n + 1) * bytes ≤ 1000001 * 64 := Nat.mul_le_mul (by omega) hb
  refine step_append_lies W hgd s x t ho base e i z size bytes ht hi hz h2 h3 hzs hsz v n xs hs hown ⟨g, 0, none⟩ 1 1 cs.toList hx (by simpa using hl) (World.news_of_block hg) h1 (by omega) (by simp only [maxLen]; omega) (by omega) hbase W.heap.size rfl ?_
  intro g' cap w' p1 p2 p3 _
  refine h _ w' p1 p2 ?_
  rcases p3 with p3 | rfl
  · left; rw [p3]; rfl
  · right; rfl
/-- append of so many cells that lie in a block of their own, at a step of a region that draws its order -/
theorem step_pushN {P : Program} {ops : Array Oper} {o : Oper} {a : Act} {K : Act → World → Prop} {Q : Exit → Act → World → Prop} {E : Prop} {W : World} (hgd : o.guard = none) (s x : Operand) (t : TypeId)
    (ho : o.op = .call { callee := .builtin .append, args := #[s, x], argTypes := #[t, t] })
    (base : Nat) (e : TypeId) (z : Value) (bytes : Nat) (ht : P.underlying t = some (.slice e)) (hinfo : (P.info? e).map (fun i => (i.zero, i.size, i.bytes)) = some (some z, 1, bytes))
    (hzs : z.cells.size = 1) (v : Value) (n : Nat) (xs : List Value) (hs : a.eval s = v) (hown : W.ownsRow base e 1 v n xs) (g m c : Nat) (news : List Value)
    (hx : a.eval x = .slice (some ⟨g, 0, none⟩) m c) (hg : W.heap[g]? = some (.cells news.toArray e (0, 0))) (hl : news.length = m) (h1 : ∀ u ∈ news, u.oneCell' = true) (hn : n + m ≤ 1000000) (hb : bytes ≤ 64) (hbase : base ≤ W.heap.size)
    (h : ∀ v' w', w'.ownsRow base e 1 v' (n + m) (xs ++ news) → W.grownBy w' v.ownBlock → K (a.put o.dst v') w') :
    if Region.wanted o (yielded ops a.tmps) = true then Oper.wp P o a W K Q else E := by
  obtain ⟨i, hi, hz, h2, h3⟩ := info_parts hinfo
  have hbb : (n + m) * bytes ≤ 1000000 * 64 := Nat.mul_le_mul hn hb
  have hw : Region.wanted o (yielded ops a.tmps) = true := by simp [Region.wanted, hgd]
  rw [if_pos hw]
  refine wp_append_own W s x t ho base e i z 1 bytes ht hi hz h2 h3 hzs Nat.one_pos v n xs hs hown ⟨g, 0, none⟩ m c news hx (by rw [hl, Nat.mul_one]) (fun j u hj => World.news_of_block hg j u (by simpa using hj)) h1 (by simp only [maxLen]; omega) (by omega) hbase ?_
  intro v' w' p1 p2 _
  exact h v' w' p1 p2
/-- two rows beside one another -/
def Apart (v v' : Value) : Prop := v.ownBlock = none ∨ v.ownBlock ≠ v'.ownBlock
theorem Apart.symm {v v' : Value} (h : Apart v v') : Apart v' v := by
  unfold Apart at *
  rcases h with h | h
  · by_cases e : v'.ownBlock = none
    · exact .inl e
    · exact .inr (by rw [h]; exact e)
  · exact .inr fun e => h e.symm
theorem Apart.push {w : World} {base e size n : Nat} {v u v' : Value} {xs : List Value} {N : Nat} (h : Apart v u) (hu : w.ownsRow base e size u n xs) (hN : w.heap.size ≤ N) (hv : v'.ownBlock = v.ownBlock ∨ v'.ownBlock = some N) : Apart v' u := by
  unfold Apart at *
  rcases hv with e | e
  · rw [e]; exact h
  · right
    intro e2
    rw [e] at e2
    have := (hu.lt N e2.symm).2
    omega
end Go.Proofs.Ytbojccikmpbpbaa
/- make of a row of so many zeros. -/
namespace Go.Proofs.Ytbojccikmpbpbaa
open Go.RowKit
theorem wpList_makeN {P : Program} (w : World) {ops : Array Oper} {rest : List Oper} {o : Oper} {a : Act} {Q : Exit → Act → World → Prop}
    (hg : o.guard = none) (l c : Operand) (t : TypeId) (hop : o.op = Op.makeSlice t l c)
    (base : Nat) (e : TypeId) (z : Value) (bytes : Nat) (ht : P.underlying t = some (.slice e)) (hinfo : (P.info? e).map (fun i => (i.zero, i.size, i.bytes)) = some (some z, 1, bytes)) (hz : z.cells = #[z])
    (n : Nat) (hl : a.eval l = .int .i64 n) (hc : a.eval c = .int .i64 n) (hn : n ≤ 1000000) (hb : bytes ≤ 64) (hbase : base ≤ w.heap.size)
    (hK : ∀ w', w'.ownsRow base e 1 (.slice (some ⟨w.heap.size, 0, none⟩) n n) n (List.replicate n z) → w.grownBy w' none → w.heap.size < w'.heap.size → wpList P ops Q rest (a.put o.dst (.slice (some ⟨w.heap.size, 0, none⟩) n n)) w') :
    wpList P ops Q (o :: rest) a w := by
  obtain ⟨i, hi, h2, h3, h4⟩ := info_parts hinfo
  have hbb : i.bytes * n ≤ 64 * 1000000 := Nat.mul_le_mul (by omega) hn
  refine wpList_make_full w hg l c t hop base e i z 1 ht hi h2 h3 .i64 .i64 n n n hl hc rfl rfl (by omega) (by simp only [maxLen]; omega) hbase ?_
  intro w' r1 r2
  rw [hz, Nat.mul_one, toList_madeCells_one] at r1
  refine hK w' r1 r2 ?_
  rcases r1.2 with ⟨h, _⟩ | ⟨g, cap, cur, h, _, hg', _⟩
  · cases h
  · injection h with h _ _
    injection h with h
    injection h with h _
    subst h
    exact (Array.getElem?_eq_some_iff.1 hg').1
theorem below_none {B : Nat} {w wr w' : World} (h : Below B w wr) (hg : wr.grownBy w' none) (hw : B ≤ wr.heap.size) : Below B w w' := h.grown hg hw fun k hk => by cases hk
/-- the first k filled -/
def fillTo (f : Nat → Int) (n k : Nat) : List Int := (List.range n).map fun i => if i < k then f i else 0
theorem fillTo_zero (f : Nat → Int) (n : Nat) : (fillTo f n 0).map (Value.int .i64) = List.replicate n (Value.int .i64 0) := by
  apply List.ext_getElem
  · simp [fillTo]
  · intro i h1 h2; simp [fillTo]
theorem fillTo_len (f : Nat → Int) (n k : Nat) : (fillTo f n k).length = n := by simp [fillTo]
theorem fillTo_at (f : Nat → Int) (n k : Nat) (h : k < n) : (fillTo f n k)[k]? = some 0 := by simp [fillTo, h]
theorem fillTo_set (f : Nat → Int) (n k : Nat) (_ : k < n) : (fillTo f n k).set k (f k) = fillTo f n (k + 1) := by
  apply List.ext_getElem
  · simp [fillTo]
  · intro i h1 h2
    rw [List.getElem_set]
    by_cases e : k = i
    · subst e; rw [if_pos rfl]; simp [fillTo]
    · rw [if_neg e]
      simp only [fillTo, List.getElem_map, List.getElem_range]
      by_cases h3 : i < k
      · rw [if_pos h3, if_pos (by omega)]
      · rw [if_neg h3, if_neg (by omega)]
theorem fillTo_all (f : Nat → Int) (n : Nat) : fillTo f n n = (List.range n).map f := by
  apply List.ext_getElem
  · simp [fillTo]
  · intro i h1 h2
    have : i < n := by simpa [fillTo] using h1
    simp [fillTo, this]
theorem fill_cell {w : World} {base g cap n k : Nat} {f : Nat → Int} (h : w.ownsRow base 3 1 (.slice (some ⟨g, 0, none⟩) n cap) n ((fillTo f n k).map (Value.int .i64))) (hk : k < n) :
    w.cell? ⟨g, k, none⟩ = some (.int .i64 0) ∧ w.frozen? ⟨g, k, none⟩ = false ∧ (w.setCell ⟨g, k, none⟩ (.int .i64 (f k))).ownsRow base 3 1 (.slice (some ⟨g, 0, none⟩) n cap) n ((fillTo f n (k + 1)).map (Value.int .i64)) := by
  have h1 := h.cellAt k (by omega)
  rw [List.getElem?_map, fillTo_at f n k hk] at h1
  have h2 := (h.stored k (.int .i64 (f k))).1
  rw [← List.map_set, fillTo_set f n k hk] at h2
  exact ⟨h1, h.frozenAt k, h2⟩
theorem own_far {w : World} {base e size n : Nat} {v : Value} {xs : List Value} (h : w.ownsRow base e size v n xs) {g k : Nat} (hg : v.ownBlock ≠ some g) (u : Value) : (w.setCell ⟨g, k, none⟩ u).ownsRow base e size v n xs :=
  h.kept (row := some g) ⟨rfl, rfl, rfl, by simp [World.setCell], fun i hi hne => Below.heap_setCell w _ u i (fun e => hne (by rw [e]))⟩ (.inr hg)
end Go.Proofs.Ytbojccikmpbpbaa
