/- A road in memory, of either type (T), and blocks (F) that are not its own and stay as they are. -/
import Derived.Test.YtblanfaghnflkaaDoorRoadAt
import Derived.Test.YtblanfaghnflkaaDoorLibA
import Derived.Deep.DeepAppendRoom
namespace Go.Proofs.YtblanfaghnflkaaDoor.RF
open Go.RowKit
theorem step_pushN {P : Program} {ops : Array Oper} {o : Oper} {a : Act} {K : Act → World → Prop} {Q : Exit → Act → World → Prop} {E : Prop} {W : World} (hgd : o.guard = none) (s x : Operand) (t : TypeId)
    (ho : o.op = .call { callee := .builtin .append, args := #[s, x], argTypes := #[t, t] })
    (base : Nat) (e : TypeId) (z : Value) (bytes : Nat) (ht : P.underlying t = some (.slice e)) (hinfo : (P.info? e).map (fun i => (i.zero, i.size, i.bytes)) = some (some z, 1, bytes))
    (hzs : z.cells.size = 1) (v : Value) (n : Nat) (xs : List Value) (hs : a.eval s = v) (hown : W.ownsRow base e 1 v n xs) (g m c : Nat) (news : List Value)
    (hx : a.eval x = .slice (some ⟨g, 0, none⟩) m c) (hg : W.heap[g]? = some (.cells news.toArray e (0, 0))) (hl : news.length = m) (h1 : ∀ u ∈ news, u.oneCell' = true) (hn : n + m ≤ 1000000) (hb : bytes ≤ 64) (hbase : base ≤ W.heap.size)
    (h : ∀ v' w', w'.ownsRow base e 1 v' (n + m) (xs ++ news) → W.grownBy w' v.ownBlock → (v'.ownBlock = v.ownBlock ∨ v'.ownBlock = some W.heap.size) → K (a.put o.dst v') w') :
    if Region.wanted o (yielded ops a.tmps) = true then Oper.wp P o a W K Q else E := by
  obtain ⟨i, hi, hz, h2, h3⟩ := info_parts hinfo
  have hbb : (n + m) * bytes ≤ 1000000 * 64 := Nat.mul_le_mul hn hb
  have hw : Region.wanted o (yielded ops a.tmps) = true := by simp [Region.wanted, hgd]
  by_cases hm : m = 0
  · rw [if_pos hw]
    rcases hown.2 with ⟨rfl, rfl⟩ | ⟨g', cap, cur, rfl, _, _, hle, _⟩
    · refine wp_append_own W s x t ho base e i z 1 bytes ht hi hz h2 h3 hzs Nat.one_pos _ _ xs hs hown ⟨g, 0, none⟩ m c news hx (by rw [hl, Nat.mul_one]) (fun j u hj => World.news_of_block hg j u (by simpa using hj)) h1 (by simp only [maxLen]; omega) (by omega) hbase ?_
      intro v' w' p1 p2 p3
      exact h v' w' p1 p2 (.inl (by rw [p3.2 ⟨rfl, hm⟩]))
    · refine wp_append_own_spare W s x t ho base e i 1 ht hi h2 g' n cap xs hs hown ⟨g, 0, none⟩ m c news hx (by rw [hl, Nat.mul_one]) (fun j u hj => World.news_of_block hg j u (by simpa using hj)) h1 (by omega) ?_
      intro w' p1 p2
      exact h _ w' p1 p2 (.inl rfl)
  · refine step_append_lies W hgd s x t ho base e i z 1 bytes ht hi hz h2 h3 hzs Nat.one_pos v n xs hs hown ⟨g, 0, none⟩ m c news hx (by rw [hl, Nat.mul_one]) (fun j u hj => World.news_of_block hg j u (by simpa using hj)) h1 (by omega) (by simp only [maxLen]; omega) (by omega) hbase W.heap.size rfl ?_
    intro g' cap w' p1 p2 p3 _
    refine h _ w' p1 p2 ?_
    rcases p3 with p3 | rfl
    · left; rw [p3]; rfl
    · right; rfl
structure RoadAt (T : TypeId) (F : Nat → Prop) (w : World) (base g gs cs n : Nat) (vr : Value) (S : List Src) (r p k : Int) (row : List Nat) : Prop where
  blk : Blk w g T #[.slice (some ⟨gs, 0, none⟩) n cs, .int .i64 r, .int .i64 p, .int .i64 k, vr]
  srcs : w.ownsRow base 74 4 (.slice (some ⟨gs, 0, none⟩) n cs) n (srcCells S)
  row : w.ownsRow base 3 1 vr row.length (idxs row)
  lo : base ≤ g
  len : S.length = n
  ng : ¬ F g
  ngs : ¬ F gs
  nrow : ∀ i, vr.ownBlock = some i → ¬ F i
  fr : ∀ i, F i → i < w.heap.size
  tS : 74 ≠ T
  tI : 3 ≠ T
section
variable {T : TypeId} {F : Nat → Prop} {w w' : World} {base g gs cs n : Nat} {vr : Value} {S : List Src} {r p k : Int} {row : List Nat}
theorem RoadAt.plain (h : RoadAt 136 F w base g gs cs n vr S r p k row) : Go.Proofs.YtblanfaghnflkaaDoor.RoadAt w base g gs cs n vr S r p k row := ⟨h.blk, h.srcs, h.row, h.lo, h.len⟩
theorem RoadAt.below (h : RoadAt T F w base g gs cs n vr S r p k row) (hb : Below w.heap.size w w') : RoadAt T F w' base g gs cs n vr S r p k row :=
  ⟨h.blk.below hb h.blk.lt, own_below h.srcs hb, own_below h.row hb, h.lo, h.len, h.ng, h.ngs, h.nrow, fun i hi => Nat.lt_of_lt_of_le (h.fr i hi) hb.size, h.tS, h.tI⟩
theorem RoadAt.gs_lo (h : RoadAt T F w base g gs cs n vr S r p k row) : base ≤ gs ∧ gs < w.heap.size := h.srcs.lt gs rfl
theorem RoadAt.ne_gs (h : RoadAt T F w base g gs cs n vr S r p k row) : gs ≠ g := by
  have := own_blk_ne h.srcs h.blk h.tS
  simpa [Value.ownBlock] using this
theorem RoadAt.ne_row (h : RoadAt T F w base g gs cs n vr S r p k row) : vr.ownBlock ≠ some g := own_blk_ne h.row h.blk h.tI
theorem RoadAt.apart (h : RoadAt T F w base g gs cs n vr S r p k row) : vr.ownBlock ≠ some gs := by
  rcases h.srcs.2 with ⟨h1, _⟩ | ⟨g', cap, cur, he, _, hh, _⟩
  · cases h1
  · injection he with he _ _
    injection he with he
    injection he with he _
    subst he
    exact own_blk_ne (t := 74) (cs := cur) h.row hh (by decide)
theorem RoadAt.cells (h : RoadAt T F w base g gs cs n vr S r p k row) : w.cell? ⟨g, 0, none⟩ = some (.slice (some ⟨gs, 0, none⟩) n cs) ∧ w.cell? ⟨g, 1, none⟩ = some (.int .i64 r) ∧ w.cell? ⟨g, 2, none⟩ = some (.int .i64 p) ∧ w.cell? ⟨g, 3, none⟩ = some (.int .i64 k) ∧ w.cell? ⟨g, 4, none⟩ = some vr ∧
    w.frozen? ⟨g, 0, none⟩ = false ∧ w.frozen? ⟨g, 1, none⟩ = false ∧ w.frozen? ⟨g, 2, none⟩ = false ∧ w.frozen? ⟨g, 3, none⟩ = false ∧ w.frozen? ⟨g, 4, none⟩ = false ∧ g < w.heap.size :=
  ⟨h.blk.cell 0, h.blk.cell 1, h.blk.cell 2, h.blk.cell 3, h.blk.cell 4, h.blk.frozen 0, h.blk.frozen 1, h.blk.frozen 2, h.blk.frozen 3, h.blk.frozen 4, h.blk.lt⟩
theorem RoadAt.src (h : RoadAt T F w base g gs cs n vr S r p k row) {i : Nat} {s : Src} (hi : S[i]? = some s) :
    w.cell? ⟨gs, i * 4, none⟩ = some (.int .i64 s.W) ∧ w.cell? ⟨gs, i * 4 + 1, none⟩ = some (.int .i64 s.a) ∧ w.cell? ⟨gs, i * 4 + 2, none⟩ = some (.int .i64 s.l) ∧ w.cell? ⟨gs, i * 4 + 3, none⟩ = some (.int .i64 s.c) ∧
    (∀ j, w.frozen? ⟨gs, j, none⟩ = false) := by
  have hl : i < S.length := (List.getElem?_eq_some_iff.1 hi).1
  obtain ⟨h0, h1, h2, h3⟩ := srcCells_at S i s hi
  have hc := fun j (hj : j < n * 4) => h.srcs.cellAt j hj
  have hl : i < n := by rw [← h.len]; exact hl
  exact ⟨(hc _ (by omega)).trans h0, (hc _ (by omega)).trans h1, (hc _ (by omega)).trans h2, (hc _ (by omega)).trans h3, fun j => h.srcs.frozenAt j⟩
theorem RoadAt.gsBlk (h : RoadAt T F w base g gs cs n vr S r p k row) : ∃ c, Blk w gs 74 c := own_kind h.srcs rfl
end
/-- blocks of other types than a road's, its sources', its row's are as they were; and those of F -/
structure Others (T : TypeId) (F : Nat → Prop) (w w' : World) : Prop where
  sz : w.heap.size ≤ w'.heap.size
  oth : ∀ i t cs, Blk w i t cs → t ≠ T → t ≠ 74 → t ≠ 3 → Blk w' i t cs
  far : ∀ i t cs, Blk w i t cs → F i → Blk w' i t cs
section
variable {T : TypeId} {F : Nat → Prop}
theorem Others.refl (w : World) : Others T F w w := ⟨Nat.le_refl _, fun _ _ _ h _ _ _ => h, fun _ _ _ h _ => h⟩
theorem Others.trans {w w' w'' : World} (h : Others T F w w') (h' : Others T F w' w'') : Others T F w w'' :=
  ⟨Nat.le_trans h.1 h'.1, fun i t cs hb a b c => h'.2 i t cs (h.2 i t cs hb a b c) a b c, fun i t cs hb a => h'.3 i t cs (h.3 i t cs hb a) a⟩
theorem Others.of_below {w w' : World} (h : Below w.heap.size w w') : Others T F w w' := ⟨h.size, fun _ _ _ hb _ _ _ => hb.below h hb.lt, fun _ _ _ hb _ => hb.below h hb.lt⟩
theorem Others.below {w w' w'' : World} (h : Others T F w w') (hb : Below w'.heap.size w' w'') : Others T F w w'' := h.trans (Others.of_below hb)
theorem Others.alloc {w w' : World} (h : Others T F w w') (o : Obj) : Others T F w (w'.alloc o) := h.below ((Below.refl _ _).alloc (Nat.le_refl _) o)
theorem Others.drew {w w' : World} (h : Others T F w w') : Others T F w w'.drew := h.below (Below.refl _ _).drew
theorem Others.drewN {w w' : World} (h : Others T F w w') (n : Nat) : Others T F w (w'.drewN n) := h.below (below_drewN (Below.refl _ _) n)
theorem Others.set {w w' : World} (h : Others T F w w') {g : Nat} {t : TypeId} {cs : Array Value} (hg : Blk w' g t cs) (ht : t = T ∨ t = 74 ∨ t = 3) (hn : ¬ F g) (k : Nat) (u : Value) : Others T F w (w'.setCell ⟨g, k, none⟩ u) :=
  ⟨by have := h.1; simpa [World.setCell] using this, fun i t' cs' hb a b c => by
    have hb' := h.2 i t' cs' hb a b c
    refine hb'.far (fun e => ?_) u
    have hb2 : Blk w' g t' cs' := by have e' : i = g := e; rw [← e']; exact hb'
    by_cases ett : t' = t
    · subst ett
      rcases ht with h1 | h1 | h1
      · exact a h1
      · exact b h1
      · exact c h1
    · exact Blk.ne_ hb2 hg ett rfl,
    fun i t' cs' hb a => (h.3 i t' cs' hb a).far (fun e => hn (by have e' : i = g := e; rw [← e']; exact a)) u⟩
theorem Others.grown {w w' w'' : World} (h : Others T F w w') {base size n : Nat} {v : Value} {xs : List Value} (ho : w'.ownsRow base 3 size v n xs) (hnr : ∀ i, v.ownBlock = some i → ¬ F i) (hg : w'.grownBy w'' v.ownBlock) : Others T F w w'' :=
  ⟨Nat.le_trans h.1 hg.size, fun i t' cs' hb a b c => by
    have hb' := h.2 i t' cs' hb a b c
    refine hb'.grown hg fun e => ?_
    obtain ⟨cs, hk⟩ := own_kind ho e.symm
    exact Blk.ne_ hb' hk c rfl,
    fun i t' cs' hb a => (h.3 i t' cs' hb a).grown hg fun e => hnr i e.symm a⟩
theorem Others.store {w w' : World} (ho : Others T F w w') {base g gs cs n : Nat} {vr : Value} {S : List Src} {r p k : Int} {row : List Nat} (h : RoadAt T F w' base g gs cs n vr S r p k row) (k0 k1 k2 k3 : Nat) (u0 u1 u2 u3 : Value) :
    Others T F w ((((w'.setCell ⟨gs, k0, none⟩ u0).setCell ⟨gs, k1, none⟩ u1).setCell ⟨gs, k2, none⟩ u2).setCell ⟨gs, k3, none⟩ u3) := by
  obtain ⟨c, hc⟩ := h.gsBlk
  have h1 := hc.set_ k0 u0
  have h2 := h1.set_ k1 u1
  have h3 := h2.set_ k2 u2
  exact (((ho.set hc (.inr (.inl rfl)) h.ngs k0 u0).set h1 (.inr (.inl rfl)) h.ngs k1 u1).set h2 (.inr (.inl rfl)) h.ngs k2 u2).set h3 (.inr (.inl rfl)) h.ngs k3 u3
theorem Others.setNew {w w' : World} (h : Others T F w w') {g : Nat} (hg : w.heap.size ≤ g) (k : Nat) (u : Value) : Others T F w (w'.setCell ⟨g, k, none⟩ u) :=
  ⟨by have := h.1; simpa [World.setCell] using this, fun i t cs hb a b c => (h.2 i t cs hb a b c).far (fun e => by have := hb.lt; have e' : i = g := e; omega) u,
    fun i t cs hb a => (h.3 i t cs hb a).far (fun e => by have := hb.lt; have e' : i = g := e; omega) u⟩
theorem Others.setOwn {w w' : World} (h : Others T F w w') {g : Nat} {t : TypeId} {cs : Array Value} (hg : Blk w g t cs) (ht : t = T ∨ t = 74 ∨ t = 3) (hn : ¬ F g) (k : Nat) (u : Value) : Others T F w (w'.setCell ⟨g, k, none⟩ u) :=
  ⟨by have := h.1; simpa [World.setCell] using this, fun i t' cs' hb a b c => by
    refine (h.2 i t' cs' hb a b c).far (fun e => ?_) u
    have e' : i = g := e
    refine Blk.ne_ hb hg (fun ett => ?_) e'
    subst ett
    rcases ht with h1 | h1 | h1
    · exact a h1
    · exact b h1
    · exact c h1,
    fun i t' cs' hb a => (h.3 i t' cs' hb a).far (fun e => hn (by have e' : i = g := e; rw [← e']; exact a)) u⟩
end
section
variable {T : TypeId} {F : Nat → Prop} {w w' : World} {base g gs cs n : Nat} {vr : Value} {S : List Src} {r p k : Int} {row : List Nat}
/-- a source stored -/
theorem RoadAt.store (h : RoadAt T F w base g gs cs n vr S r p k row) {i : Nat} (s : Src) (hi : i < S.length) :
    RoadAt T F ((((w.setCell ⟨gs, i * 4, none⟩ (.int .i64 s.W)).setCell ⟨gs, i * 4 + 1, none⟩ (.int .i64 s.a)).setCell ⟨gs, i * 4 + 2, none⟩ (.int .i64 s.l)).setCell ⟨gs, i * 4 + 3, none⟩ (.int .i64 s.c)) base g gs cs n vr (S.set i s) r p k row := by
  have hne := h.ne_gs
  have hap := h.apart
  refine ⟨?_, ?_, ?_, h.lo, by simpa using h.len, h.ng, h.ngs, h.nrow, fun i hi => by simpa [World.setCell] using h.fr i hi, h.tS, h.tI⟩
  · exact (((h.blk.far (p := ⟨gs, _, none⟩) (fun e => hne e.symm) _).far (p := ⟨gs, _, none⟩) (fun e => hne e.symm) _).far (p := ⟨gs, _, none⟩) (fun e => hne e.symm) _).far (p := ⟨gs, _, none⟩) (fun e => hne e.symm) _
  · rw [← srcCells_set S i s hi]
    exact ((((h.srcs.stored _ _).1.stored _ _).1.stored _ _).1.stored _ _).1
  · exact own_far' (own_far' (own_far' (own_far' h.row hap _) hap _) hap _) hap _
/-- behind an append to the row: all that stands, the row's own cell not yet turned -/
structure RoadMid (T : TypeId) (F : Nat → Prop) (w : World) (base g gs cs n : Nat) (vr vr' : Value) (S : List Src) (r p k : Int) (row : List Nat) : Prop where
  blk : Blk w g T #[.slice (some ⟨gs, 0, none⟩) n cs, .int .i64 r, .int .i64 p, .int .i64 k, vr]
  srcs : w.ownsRow base 74 4 (.slice (some ⟨gs, 0, none⟩) n cs) n (srcCells S)
  row : w.ownsRow base 3 1 vr' row.length (idxs row)
  lo : base ≤ g
  len : S.length = n
  ng : ¬ F g
  ngs : ¬ F gs
  nrow : ∀ i, vr'.ownBlock = some i → ¬ F i
  fr : ∀ i, F i → i < w.heap.size
  tS : 74 ≠ T
  tI : 3 ≠ T
theorem RoadAt.push {m : Nat} {v' : Value} {i : Nat} (h : RoadAt T F w base g gs cs n vr S r p k row)
    (ho : w'.ownsRow base 3 1 v' (row.length + m) (idxs row ++ List.replicate m (.int .i64 (i : Int)))) (hg : w.grownBy w' vr.ownBlock) (hv : v'.ownBlock = vr.ownBlock ∨ v'.ownBlock = some w.heap.size) :
    RoadMid T F w' base g gs cs n vr v' S r p k (row ++ List.replicate m i) ∧ w'.cell? ⟨g, 4, none⟩ = some vr ∧ w'.frozen? ⟨g, 4, none⟩ = false ∧ g < w'.heap.size := by
  have hb := h.blk.grown hg (fun e => h.ne_row e.symm)
  refine ⟨⟨hb, h.srcs.kept hg (.inr fun e => h.apart e.symm), ?_, h.lo, h.len, h.ng, h.ngs, fun i hi hF => ?_, fun i hi => Nat.lt_of_lt_of_le (h.fr i hi) hg.size, h.tS, h.tI⟩, hb.cell 4, hb.frozen 4, hb.lt⟩
  · have e : idxs (row ++ List.replicate m i) = idxs row ++ List.replicate m (.int .i64 (i : Int)) := by simp [idxs]
    rw [e, List.length_append, List.length_replicate]
    exact ho
  · rcases hv with hv | hv
    · exact h.nrow i (by rw [← hv, hi]) hF
    · have e : w.heap.size = i := by rw [hv] at hi; exact Option.some.inj hi
      have := h.fr i hF
      omega
theorem RoadMid.store {vr' : Value} (h : RoadMid T F w base g gs cs n vr vr' S r p k row) : RoadAt T F (w.setCell ⟨g, 4, none⟩ vr') base g gs cs n vr' S r p k row :=
  ⟨h.blk.set_ 4 vr', own_far' h.srcs (fun e => own_blk_ne h.srcs h.blk h.tS e) _, own_far' h.row (fun e => own_blk_ne h.row h.blk h.tI e) _, h.lo, h.len, h.ng, h.ngs, h.nrow, fun i hi => by simpa [World.setCell] using h.fr i hi, h.tS, h.tI⟩
theorem RoadAt.drew (h : RoadAt T F w base g gs cs n vr S r p k row) : RoadAt T F w.drew base g gs cs n vr S r p k row := h.below (Below.refl _ _).drew
theorem RoadAt.alloc (h : RoadAt T F w base g gs cs n vr S r p k row) (o : Obj) : RoadAt T F (w.alloc o) base g gs cs n vr S r p k row := h.below ((Below.refl _ _).alloc (Nat.le_refl _) o)
theorem RoadAt.far (h : RoadAt T F w base g gs cs n vr S r p k row) {g' : Nat} {t : TypeId} {c : Array Value} (hb : Blk w g' t c)
    (h1 : t ≠ T) (h2 : t ≠ 74) (h3 : t ≠ 3) (j : Nat) (u : Value) : RoadAt T F (w.setCell ⟨g', j, none⟩ u) base g gs cs n vr S r p k row :=
  ⟨h.blk.far (p := ⟨g', j, none⟩) (fun e => Blk.ne_ hb h.blk h1 e.symm) u, own_far' h.srcs (fun e => own_blk_ne h.srcs hb (fun e => h2 e.symm) e) u, own_far' h.row (fun e => own_blk_ne h.row hb (fun e => h3 e.symm) e) u, h.lo, h.len, h.ng, h.ngs, h.nrow, fun i hi => by simpa [World.setCell] using h.fr i hi, h.tS, h.tI⟩
end
end Go.Proofs.YtblanfaghnflkaaDoor.RF
