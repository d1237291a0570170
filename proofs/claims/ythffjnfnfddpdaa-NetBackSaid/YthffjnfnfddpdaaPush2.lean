/- append onto one of several rows of the call's own: where the new row lies. -/
import Derived.Test.YthffjnfnfddpdaaOwn
namespace Go.Proofs.Ythffjnfnfddpdaa
open Go.RowKit
theorem push_block {P : Program} {W w' : World} {t ty e : TypeId} {i : TypeInfo} {z : Value} {size bytes : Nat} (ht : P.underlying t = some (.slice e)) (hi : P.info? e = some i) (hz : i.zero = some z)
    (hsize : i.size = size) (hby : i.bytes = bytes) {base : Nat} {v v' : Value} {n : Nat} {xs : List Value} (hown : W.ownsRow base e size v n xs)
    {a : Addr} {c : Nat} {news : List Value} (hl : news.length = 1 * size) (hnews : ∀ j u, news[j]? = some u → W.cell? (a.add j) = some u) (h1 : ∀ u ∈ news, u.oneCell' = true)
    (hn : n ≤ 1000000) (hb : bytes ≤ 64) (hr : (Builtin.append_ #[t, t] ty #[v, .slice (some a) 1 c]).run P W = .ok v' w') : v'.ownBlock = v.ownBlock ∨ v'.ownBlock = some W.heap.size := by
  subst hsize hby
  have hbb : (n + 1) * i.bytes ≤ 1000001 * 64 := Nat.mul_le_mul (by omega) hb
  rcases hown.2 with ⟨rfl, rfl⟩ | ⟨g, cap, cur, rfl, _, hg, _, _, hcs, _⟩
  · rw [run_append_nil (P := P) W t ty e i z ht hi hz a 1 c news hl hnews (by omega) (by omega) (by omega)] at hr
    injection hr with hr _
    subst hr
    right; rfl
  · by_cases hroom : n + 1 ≤ cap
    · have hfit : n * i.size + news.length ≤ cur.size := by rw [hl, hcs, ← Nat.add_mul]; exact Nat.mul_le_mul_right _ hroom
      rw [run_append_room (P := P) W t ty e i ht hi g n cap cur hg a 1 c news hl hnews h1 hroom hfit] at hr
      injection hr with hr _
      subst hr
      left; rfl
    · rw [run_append_grow (P := P) W t ty e i z ht hi hz ⟨g, 0, none⟩ n cap xs hown.1 (hown.cells (g := g) rfl) a 1 c news hl hnews (by omega) (by omega) (growslice_fits (by omega) (by omega))] at hr
      injection hr with hr _
      subst hr
      right; rfl
/-- append of one element, in a block of its own, onto a row of the call's own; where the row lies then -/
theorem wpList_push2 {P : Program} {ops : Array Oper} {rest : List Oper} {o : Oper} {a : Act} {Q : Exit → Act → World → Prop} (wr : World) (cs : Array Value) (hgd : o.guard = none) (s x : Operand) (t : TypeId)
    (ho : o.op = .call { callee := .builtin .append, args := #[s, x], argTypes := #[t, t] })
    (base : Nat) (e : TypeId) (z : Value) (size bytes : Nat) (ht : P.underlying t = some (.slice e)) (hinfo : (P.info? e).map (fun i => (i.zero, i.size, i.bytes)) = some (some z, size, bytes))
    (hzs : z.cells.size = size) (hsz : 0 < size) (v : Value) (n : Nat) (xs : List Value) (hs : a.eval s = v) (hown : wr.ownsRow base e size v n xs)
    (hx : a.eval x = .slice (some ⟨wr.heap.size, 0, none⟩) 1 1) (hl : cs.size = size) (h1 : ∀ u ∈ cs.toList, u.oneCell' = true) (hn : n ≤ 1000000) (hb : bytes ≤ 64) (hbase : base ≤ wr.heap.size)
    (h : ∀ v' w', w'.ownsRow base e size v' (n + 1) (xs ++ cs.toList) → wr.grownBy w' v.ownBlock → (v'.ownBlock = v.ownBlock ∨ v'.ownBlock = some (wr.heap.size + 1)) → wpList P ops Q rest (a.put o.dst v') w') : wpList P ops Q (o :: rest) a (wr.alloc (.cells cs e)) := by
  obtain ⟨i, hi, hz, h2, h3⟩ := info_parts hinfo
  have hnews : ∀ j u, cs.toList[j]? = some u → (wr.alloc (.cells cs e)).cell? ((⟨wr.heap.size, 0, none⟩ : Addr).add j) = some u := by
    intro j u hu
    have hadd : (⟨wr.heap.size, 0, none⟩ : Addr).add j = ⟨wr.heap.size, j, none⟩ := by unfold Addr.add; split <;> simp_all
    rw [hadd, cell_of_row _ wr.heap.size j cs e (0, 0) (heap_alloc_new wr _)]
    simpa using hu
  have hbb : (n + 1) * bytes ≤ 1000001 * 64 := Nat.mul_le_mul (by omega) hb
  have hoa := hown.alloc (.cells cs e)
  refine wpList_plain hgd fun K hK => ?_
  obtain ⟨v', w', hr, p1, p2, _⟩ := run_append_own (P := P) (wr.alloc (.cells cs e)) base t o.type e i z size bytes ht hi hz h2 h3 hzs hsz v n xs hoa ⟨wr.heap.size, 0, none⟩ 1 1 cs.toList (by simpa using hl) hnews h1 (by simp only [maxLen]; omega) (by omega) (by simp; omega)
  have hblk := push_block ht hi hz h2 h3 hoa (by simpa using hl) hnews h1 hn hb hr
  unfold Oper.wp execOp
  simp only [ho, resolve, invoke, builtin, Sem.run_bind, Sem.run_pure, Result.andThen_ok, List.map_toArray, List.map_cons, List.map_nil, hs, hx, hr]
  refine hK _ _ (h v' w' p1 ⟨p2.os, p2.tape, p2.output, Nat.le_trans (by simp) p2.size, fun k hk hne => ?_⟩ ?_)
  · rw [p2.block k (by simp; omega) hne]
    exact Below.heap_alloc wr _ k hk
  · simpa using hblk
/-- the same at a step of a region that draws its order -/
theorem step_push {P : Program} {ops : Array Oper} {o : Oper} {a : Act} {K : Act → World → Prop} {Q : Exit → Act → World → Prop} {E : Prop} {W : World} (hgd : o.guard = none) (s x : Operand) (t : TypeId)
    (ho : o.op = .call { callee := .builtin .append, args := #[s, x], argTypes := #[t, t] })
    (base : Nat) (e : TypeId) (z : Value) (size bytes : Nat) (ht : P.underlying t = some (.slice e)) (hinfo : (P.info? e).map (fun i => (i.zero, i.size, i.bytes)) = some (some z, size, bytes))
    (hzs : z.cells.size = size) (hsz : 0 < size) (v : Value) (n : Nat) (xs : List Value) (hs : a.eval s = v) (hown : W.ownsRow base e size v n xs) (g : Nat) (cs : Array Value)
    (hx : a.eval x = .slice (some ⟨g, 0, none⟩) 1 1) (hg : W.heap[g]? = some (.cells cs e (0, 0))) (hl : cs.size = size) (h1 : ∀ u ∈ cs.toList, u.oneCell' = true) (hn : n ≤ 1000000) (hb : bytes ≤ 64) (hbase : base ≤ W.heap.size)
    (h : ∀ v' w', w'.ownsRow base e size v' (n + 1) (xs ++ cs.toList) → W.grownBy w' v.ownBlock → (v'.ownBlock = v.ownBlock ∨ v'.ownBlock = some W.heap.size) → K (a.put o.dst v') w') :
    if Region.wanted o (yielded ops a.tmps) = true then Oper.wp P o a W K Q else E := by
  obtain ⟨i, hi, hz, h2, h3⟩ := info_parts hinfo
  have hbb : (n + 1) * bytes ≤ 1000001 * 64 := Nat.mul_le_mul (by omega) hb
  refine step_append_lies W hgd s x t ho base e i z size bytes ht hi hz h2 h3 hzs hsz v n xs hs hown ⟨g, 0, none⟩ 1 1 cs.toList hx (by simpa using hl) (World.news_of_block hg) h1 (by omega) (by simp only [maxLen]; omega) (by omega) hbase W.heap.size rfl ?_
  intro g' cap w' p1 p2 p3 _
  refine h _ w' p1 p2 ?_
  rcases p3 with p3 | rfl
  · left; rw [p3]; rfl
  · right; rfl
/-- append of so many cells that lie in a block of their own, at a step of a region that draws its order -/
theorem step_pushN {P : Program} {ops : Array Oper} {o : Oper} {a : Act} {K : Act → World → Prop} {Q : Exit → Act → World → Prop} {E : Prop} {W : World} (hgd : o.guard = none) (s x : Operand) (t : TypeId)
    (ho : o.op = .call { callee := .builtin .append, args := #[s, x], argTypes := #[t, t] })
    (base : Nat) (e : TypeId) (z : Value) (bytes : Nat) (ht : P.underlying t = some (.slice e)) (hinfo : (P.info? e).map (fun i => (i.zero, i.size, i.bytes)) = some (some z, 1, bytes))
    (hzs : z.cells.size = 1) (v : Value) (n : Nat) (xs : List Value) (hs : a.eval s = v) (hown : W.ownsRow base e 1 v n xs) (g m c : Nat) (news : List Value)
    (hx : a.eval x = .slice (some ⟨g, 0, none⟩) m c) (hg : W.heap[g]? = some (.cells news.toArray e (0, 0))) (hl : news.length = m) (h1 : ∀ u ∈ news, u.oneCell' = true) (hn : n + m ≤ 1000000) (hb : bytes ≤ 64) (hbase : base ≤ W.heap.size)
    (h : ∀ v' w', w'.ownsRow base e 1 v' (n + m) (xs ++ news) → W.grownBy w' v.ownBlock → K (a.put o.dst v') w') :
    if Region.wanted o (yielded ops a.tmps) = true then Oper.wp P o a W K Q else E := by
  obtain ⟨i, hi, hz, h2, h3⟩ := info_parts hinfo
  have hbb : (n + m) * bytes ≤ 1000000 * 64 := Nat.mul_le_mul hn hb
  have hw : Region.wanted o (yielded ops a.tmps) = true := by simp [Region.wanted, hgd]
  rw [if_pos hw]
  refine wp_append_own W s x t ho base e i z 1 bytes ht hi hz h2 h3 hzs Nat.one_pos v n xs hs hown ⟨g, 0, none⟩ m c news hx (by rw [hl, Nat.mul_one]) (fun j u hj => World.news_of_block hg j u (by simpa using hj)) h1 (by simp only [maxLen]; omega) (by omega) hbase ?_
  intro v' w' p1 p2 _
  exact h v' w' p1 p2
/-- two rows beside one another -/
def Apart (v v' : Value) : Prop := v.ownBlock = none ∨ v.ownBlock ≠ v'.ownBlock
theorem Apart.symm {v v' : Value} (h : Apart v v') : Apart v' v := by
  unfold Apart at *
  rcases h with h | h
  · by_cases e : v'.ownBlock = none
    · exact .inl e
    · exact .inr (by rw [h]; exact e)
  · exact .inr fun e => h e.symm
theorem Apart.push {w : World} {base e size n : Nat} {v u v' : Value} {xs : List Value} {N : Nat} (h : Apart v u) (hu : w.ownsRow base e size u n xs) (hN : w.heap.size ≤ N) (hv : v'.ownBlock = v.ownBlock ∨ v'.ownBlock = some N) : Apart v' u := by
  unfold Apart at *
  rcases hv with e | e
  · rw [e]; exact h
  · right
    intro e2
    rw [e] at e2
    have := (hu.lt N e2.symm).2
    omega
end Go.Proofs.Ythffjnfnfddpdaa
