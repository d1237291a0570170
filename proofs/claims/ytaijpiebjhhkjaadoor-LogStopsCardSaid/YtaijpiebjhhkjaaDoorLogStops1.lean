/- LogStops: what the log does step by step. -/
import Derived.Test.YtaijpiebjhhkjaaDoorLogCrash
import Derived.Test.YtaijpiebjhhkjaaDoorLibM
import Derived.Test.YtaijpiebjhhkjaaDoorTold
namespace Go.Proofs.YtaijpiebjhhkjaaDoor
open Go.RowKit
def opA : LG.Op := ⟨true, [0, 1]⟩
def opsA (m : Nat) : List LG.Op := List.replicate m opA
abbrev repA (m : Nat) : List (List Int) := List.replicate m [0, 1]
theorem opsA_succ (m : Nat) : opsA (m + 1) = opsA m ++ [opA] := List.replicate_succ'
theorem runsA (m : Nat) : LG.runs (opsA m) = repA m := by
  induction m with
  | zero => rfl
  | succ m ih => rw [opsA_succ, LG.runs_snoc, ih]; show repA m ++ [[0, 1]] = _; exact List.replicate_succ'.symm
theorem opsA_ok (m : Nat) : ∀ o ∈ opsA m, LG.Small o ∧ o.add = true ∧ 0 < o.p.length ∧ o.p.length ≤ 6 := fun o ho => by
  obtain ⟨_, rfl⟩ := List.mem_replicate.1 ho
  refine ⟨fun x hx => ?_, rfl, by decide, by decide⟩
  simp [opA] at hx; omega
structure StopI (w : World) (b0 g : Nat) (C : Option Addr) (cc m s a : Nat) (wr : World) : Prop where
  log : ∃ (P : Option Addr) (cp : Nat) (vs : List Value) (bs : ByteArray) (tail : List UInt8) (safe : Nat) (st : Bool) (left : Int), LogAt wr b0 g (.slice C 2 cc) (.slice P (repA m).length cp) vs [5, 7] (repA m) bs (safe : Int) left st ∧ bs.data.toList = LG.flat (opsA m) ++ tail ∧ (10 : UInt8) ∉ tail ∧ safe ≤ bs.size ∧ bs.size ≤ 14 * (m + 1) ∧ ((s ≤ a ∧ st = false ∧ left = (a : Int) - s ∧ tail = [] ∧ bs.size ≤ 14 * m) ∨ (a < s ∧ st = true))
  bel : Below w.heap.size w wr
  sz : b0 ≤ wr.heap.size
section
variable {w wr w' : World} {b0 g cc m s a : Nat} {C : Option Addr}
theorem StopI.below (h : StopI w b0 g C cc m s a wr) (hb : Below wr.heap.size wr w') : StopI w b0 g C cc m s a w' := by
  obtain ⟨P, cp, vs, bs, tail, safe, st, left, h1, h2⟩ := h.log
  exact ⟨⟨P, cp, vs, bs, tail, safe, st, left, h1.below hb, h2⟩, h.bel.trans (hb.mono h.bel.size), Nat.le_trans h.sz hb.size⟩
theorem repA_len (m : Nat) : (repA m).length = m := by simp
theorem stop_nil5 (h : StopI w b0 g C cc m s a wr) (hm : m ≤ 5) (hs : s ≤ a) :
    Calls Tryd.prog 6 #[.pointer (some ⟨g, 0, none⟩), .slice none 0 0] wr fun e w' => e = .returned (.iface 50 (.int .i64 5)) ∧ Below wr.heap.size wr w' := by
  obtain ⟨P, cp, vs, bs, tail, safe, st, left, h1, _, _, _, _, h5⟩ := h.log
  have hst : st = false := by rcases h5 with ⟨_, e, _⟩ | ⟨e, _⟩; exact e; omega
  subst hst
  exact ladd_no wr b0 g cc C P cp vs [5, 7] (repA m) bs safe left false h1 none 0 [] wr.heap.size ⟨Reads.none_, Nat.le_refl _, by simp [maxLen]⟩ (by rw [repA_len]; omega) 5 (by unfold addE; rw [if_neg (by decide), if_neg (by rw [repA_len]; omega)]; decide) (by decide)
theorem stop_nil6 (h : StopI w b0 g C cc m s a wr) (hm : m ≤ 5) (hs : a < s) :
    Calls Tryd.prog 6 #[.pointer (some ⟨g, 0, none⟩), .slice none 0 0] wr fun e w' => e = .returned (.iface 50 (.int .i64 6)) ∧ Below wr.heap.size wr w' := by
  obtain ⟨P, cp, vs, bs, tail, safe, st, left, h1, _, _, _, _, h5⟩ := h.log
  have hst : st = true := by rcases h5 with ⟨e, _⟩ | ⟨_, e⟩; omega; exact e
  subst hst
  exact ladd_no wr b0 g cc C P cp vs [5, 7] (repA m) bs safe left true h1 none 0 [] wr.heap.size ⟨Reads.none_, Nat.le_refl _, by simp [maxLen]⟩ (by rw [repA_len]; omega) 6 (by unfold addE; rw [if_pos rfl]) (by decide)
theorem addE_A (hm : m ≤ 5) : addE [5, 7] (repA m) false (nints [0, 1]) = 0 := by unfold addE; rw [if_neg (by decide), if_neg (by rw [repA_len]; omega)]; decide
theorem stop_go (h : StopI w b0 g C cc m s a wr) (hm : m ≤ 4) (hs : s < a) (ha : a ≤ 5) (hw : w.heap.size ≤ b0) (gp : Nat) (hp : Blk wr gp 3 #[.int .i64 0, .int .i64 1]) :
    Calls Tryd.prog 6 #[.pointer (some ⟨g, 0, none⟩), .slice (some ⟨gp, 0, none⟩) 2 2] wr fun e w' => e = .returned .nilIface ∧ StopI w b0 g C cc (m + 1) (s + 1) a w' := by
  obtain ⟨P, cp, vs, bs, tail, safe, st, left, h1, h2, h3, h4, h6, h5⟩ := h.log
  obtain ⟨_, rfl, hle, rfl, hbz⟩ : s ≤ a ∧ st = false ∧ left = (a : Int) - s ∧ tail = [] ∧ bs.size ≤ 14 * m := by rcases h5 with e | ⟨e, _⟩; exact e; omega
  have hne : gp ≠ g := Blk.ne_ hp h1.blk (by decide)
  refine (ladd_go wr b0 g cc C P cp vs [5, 7] (repA m) bs safe left h1 h.sz (by omega) (by omega) (by omega) (left - 1) (by omega) (some ⟨gp, 0, none⟩) 2 [0, 1] wr.heap.size (Ints.blk (l := [0, 1]) hp hp.lt (by decide)) (Nat.le_refl _) (fun b off e => by injection e with e; injection e with e _; omega) (by intro x hx; simp at hx; omega) (by decide) (by rw [repA_len]; omega) (by omega) (addE_A (by omega))).mono ?_
  rintro e w' ⟨rfl, P', cp', vs', bs', hL, hd, hz, hb, _, _⟩
  have e1 : repA m ++ [nints [0, 1]] = repA (m + 1) := List.replicate_succ'.symm
  rw [e1] at hL
  refine ⟨rfl, ⟨⟨P', cp', vs', bs', [], safe, false, left - 1, by rw [repA_len]; rw [repA_len] at hL; exact hL, by rw [hd, h2, opsA_succ, LG.flat_snoc]; simp; rfl, by simp, ?_, by omega, .inl ⟨by omega, rfl, by omega, rfl, by omega⟩⟩, h.bel.trans (hb.mono hw), Nat.le_trans h.sz hb.size⟩⟩
  have : bs.size ≤ bs'.size := by rw [← bytes_len, ← bytes_len, hd]; simp
  omega
theorem stop_at (h : StopI w b0 g C cc m s a wr) (hm : m ≤ 5) (hs : s = a) (hw : w.heap.size ≤ b0) (gp : Nat) (hp : Blk wr gp 3 #[.int .i64 0, .int .i64 1]) :
    Calls Tryd.prog 6 #[.pointer (some ⟨g, 0, none⟩), .slice (some ⟨gp, 0, none⟩) 2 2] wr fun e w' => e = .returned (.iface 50 (.int .i64 6)) ∧ StopI w b0 g C cc m (s + 1) a w' := by
  obtain ⟨P, cp, vs, bs, tail, safe, st, left, h1, h2, h3, h4, h6, h5⟩ := h.log
  obtain ⟨_, rfl, hle, rfl, hbz⟩ : s ≤ a ∧ st = false ∧ left = (a : Int) - s ∧ tail = [] ∧ bs.size ≤ 14 * m := by rcases h5 with e | ⟨e, _⟩; exact e; omega
  obtain rfl : left = 0 := by omega
  refine (ladd_stop wr b0 g cc C P cp vs [5, 7] (repA m) bs safe h1 h.sz (some ⟨gp, 0, none⟩) 2 [0, 1] wr.heap.size (Ints.blk (l := [0, 1]) hp hp.lt (by decide)) (Nat.le_refl _) (by intro x hx; simp at hx; omega) (by decide) (by rw [repA_len]; omega) (by omega) (addE_A (by omega))).mono ?_
  rintro e w' ⟨rfl, bs', hL, ⟨t, hd, ht⟩, hz, hb, _⟩
  refine ⟨rfl, ⟨⟨P, cp, vs, bs', t, safe, true, -1, hL, by rw [hd, h2]; simp, ht, ?_, by omega, .inr ⟨by omega, rfl⟩⟩, h.bel.trans (hb.mono hw), Nat.le_trans h.sz hb.size⟩⟩
  have : bs.size ≤ bs'.size := by rw [← bytes_len, ← bytes_len, hd]; simp
  omega
theorem stop_past (h : StopI w b0 g C cc m s a wr) (hm : m ≤ 5) (hs : a < s) (gp : Nat) (hp : Blk wr gp 3 #[.int .i64 0, .int .i64 1]) :
    Calls Tryd.prog 6 #[.pointer (some ⟨g, 0, none⟩), .slice (some ⟨gp, 0, none⟩) 2 2] wr fun e w' => e = .returned (.iface 50 (.int .i64 6)) ∧ StopI w b0 g C cc m (s + 1) a w' := by
  obtain ⟨P, cp, vs, bs, tail, safe, st, left, h1, h2, h3, h4, h6, h5⟩ := h.log
  have hst : st = true := by rcases h5 with ⟨e, _⟩ | ⟨_, e⟩; omega; exact e
  subst hst
  refine (ladd_no wr b0 g cc C P cp vs [5, 7] (repA m) bs safe left true h1 (some ⟨gp, 0, none⟩) 2 [0, 1] wr.heap.size (Ints.blk (l := [0, 1]) hp hp.lt (by decide)) (by rw [repA_len]; omega) 6 (by unfold addE; rw [if_pos rfl]) (by decide)).mono ?_
  rintro e w' ⟨rfl, hb⟩
  have h' := h.below hb
  obtain ⟨P, cp, vs, bs, tail, safe, st, left, k1, k2, k3, k4, k6, k5⟩ := h'.log
  exact ⟨rfl, ⟨⟨P, cp, vs, bs, tail, safe, st, left, k1, k2, k3, k4, k6, by rcases k5 with ⟨e, _⟩ | ⟨_, e⟩; omega; exact .inr ⟨by omega, e⟩⟩, h'.bel, h'.sz⟩⟩
theorem sync_go (h : StopI w b0 g C cc m s a wr) (hm : m ≤ 5) (hs : s < a) (ha : a ≤ 5) (hw : w.heap.size ≤ b0) :
    Calls Tryd.prog 12 #[.pointer (some ⟨g, 0, none⟩)] wr fun e w' => e = .returned .nilIface ∧ StopI w b0 g C cc m (s + 1) a w' := by
  obtain ⟨P, cp, vs, bs, tail, safe, st, left, h1, h2, h3, h4, h6, h5⟩ := h.log
  obtain ⟨_, rfl, hle, rfl, hbz⟩ : s ≤ a ∧ st = false ∧ left = (a : Int) - s ∧ tail = [] ∧ bs.size ≤ 14 * m := by rcases h5 with e | ⟨e, _⟩; exact e; omega
  refine (lsync_go wr b0 g _ _ vs [5, 7] (repA m) bs safe left h1 h.sz (by omega) (by omega) (by omega) (left - 1) (by omega) (by omega)).mono ?_
  rintro e w' ⟨rfl, hL, hb, _⟩
  exact ⟨rfl, ⟨⟨P, cp, vs, bs, [], bs.size, false, left - 1, hL, h2, by simp, Nat.le_refl _, h6, .inl ⟨by omega, rfl, by omega, rfl, hbz⟩⟩, h.bel.trans (hb.mono hw), Nat.le_trans h.sz hb.size⟩⟩
theorem sync_at (h : StopI w b0 g C cc m s a wr) (hs : s = a) (hw : w.heap.size ≤ b0) :
    Calls Tryd.prog 12 #[.pointer (some ⟨g, 0, none⟩)] wr fun e w' => e = .returned (.iface 50 (.int .i64 6)) ∧ StopI w b0 g C cc m (s + 1) a w' := by
  obtain ⟨P, cp, vs, bs, tail, safe, st, left, h1, h2, h3, h4, h6, h5⟩ := h.log
  obtain ⟨_, rfl, hle, rfl, hbz⟩ : s ≤ a ∧ st = false ∧ left = (a : Int) - s ∧ tail = [] ∧ bs.size ≤ 14 * m := by rcases h5 with e | ⟨e, _⟩; exact e; omega
  obtain rfl : left = 0 := by omega
  refine (lsync_stop wr b0 g _ _ vs [5, 7] (repA m) bs safe h1 h.sz).mono ?_
  rintro e w' ⟨rfl, hL, hb, _⟩
  exact ⟨rfl, ⟨⟨P, cp, vs, bs, [], safe, true, -1, hL, h2, by simp, h4, h6, .inr ⟨by omega, rfl⟩⟩, h.bel.trans (hb.mono hw), Nat.le_trans h.sz hb.size⟩⟩
theorem sync_past (h : StopI w b0 g C cc m s a wr) (hs : a < s) :
    Calls Tryd.prog 12 #[.pointer (some ⟨g, 0, none⟩)] wr fun e w' => e = .returned (.iface 50 (.int .i64 6)) ∧ StopI w b0 g C cc m s a w' := by
  obtain ⟨P, cp, vs, bs, tail, safe, st, left, h1, _, _, _, _, h5⟩ := h.log
  have hst : st = true := by rcases h5 with ⟨e, _⟩ | ⟨_, e⟩; omega; exact e
  subst hst
  exact (lsync_no wr b0 g _ _ vs [5, 7] (repA m) bs safe left h1).mono fun e w' hh => ⟨hh.1, h.below hh.2⟩
theorem drop_past (h : StopI w b0 g C cc m s a wr) (hs : a < s) :
    Calls Tryd.prog 13 #[.pointer (some ⟨g, 0, none⟩), .int .i64 0] wr fun e w' => e = .returned (.iface 50 (.int .i64 6)) ∧ StopI w b0 g C cc m s a w' := by
  obtain ⟨P, cp, vs, bs, tail, safe, st, left, h1, _, _, _, _, h5⟩ := h.log
  have hst : st = true := by rcases h5 with ⟨e, _⟩ | ⟨_, e⟩; omega; exact e
  subst hst
  exact (ldrop_stopped wr b0 g _ _ vs [5, 7] (repA m) bs safe left h1 0).mono fun e w' hh => ⟨hh.1, h.below hh.2⟩
/-- behind the crash -/
structure KeptA (w : World) (b0 g : Nat) (C : Option Addr) (cc : Nat) (L : List (List Int)) (wr : World) : Prop where
  log : ∃ (P : Option Addr) (cp : Nat) (vs : List Value) (bs : ByteArray) (safe : Int), LogAt wr b0 g (.slice C 2 cc) (.slice P L.length cp) vs [5, 7] L bs safe (-1) false ∧ bs.size ≤ 100 * (L.length + 1)
  bel : Below w.heap.size w wr
  sz : b0 ≤ wr.heap.size
theorem KeptA.below {L : List (List Int)} (h : KeptA w b0 g C cc L wr) (hb : Below wr.heap.size wr w') : KeptA w b0 g C cc L w' := by
  obtain ⟨P, cp, vs, bs, safe, h1, h2⟩ := h.log
  exact ⟨⟨P, cp, vs, bs, safe, h1.below hb, h2⟩, h.bel.trans (hb.mono h.bel.size), Nat.le_trans h.sz hb.size⟩
theorem crash_past (h : StopI w b0 g C cc m s a wr) (hm : m ≤ 5) (hw : w.heap.size ≤ b0) (hT : Lib.TabIs Tryd.prog w "strings.asciiSpace" .u8 Lib.asciiSpaceTab) (hv : 2 < w.heap.size) (keep : Int) :
    Calls Tryd.prog 14 #[.pointer (some ⟨g, 0, none⟩), .int .i64 keep] wr fun e w' => e = .returned (.tuple #[]) ∧ ∃ k, k ≤ 5 ∧ KeptA w b0 g C cc (repA k) w' := by
  obtain ⟨P, cp, vs, bs, tail, safe, st, left, h1, h2, h3, h4, h6, h5⟩ := h.log
  have h0 : 0 ≤ (safe : Int) + max 0 (min keep ((bs.size : Int) - safe)) := by omega
  obtain ⟨hi, hhi⟩ := Int.eq_ofNat_of_zero_le h0
  rw [← runsA] at h1
  refine (lcrash_any wr b0 g cc C P cp vs [5, 7] (LG.runs (opsA m)) bs safe left st h1 h.sz (var?_below (g := 2) h.bel (by kernel_rfl) hv hT) (Nat.lt_of_lt_of_le hv h.bel.size) (opsA m) (opsA_ok m) (by unfold opsA; rw [List.length_replicate]; omega) tail h3 h2 (by omega) h4 keep hi hhi).mono ?_
  rintro e w' ⟨rfl, P', cp', vs', bs', hL, hd, hz, hb, _⟩
  have e1 : (opsA m).take (LG.full (opsA m) hi) = opsA (min (LG.full (opsA m) hi) m) := List.take_replicate
  rw [e1, runsA] at hL
  exact ⟨rfl, _, by omega, ⟨P', cp', vs', bs', _, hL, by rw [repA_len]; omega⟩, h.bel.trans (hb.mono hw), Nat.le_trans h.sz hb.size⟩
/-- synced -/
structure KeptB (w : World) (b0 g : Nat) (C : Option Addr) (cc : Nat) (L : List (List Int)) (n : Nat) (wr : World) : Prop where
  log : ∃ (P : Option Addr) (cp : Nat) (vs : List Value) (bs : ByteArray), LogAt wr b0 g (.slice C 2 cc) (.slice P L.length cp) vs [5, 7] L bs (n : Int) (-1) false ∧ bs.size = n
  bel : Below w.heap.size w wr
theorem KeptB.below {L : List (List Int)} {n : Nat} (h : KeptB w b0 g C cc L n wr) (hb : Below wr.heap.size wr w') : KeptB w b0 g C cc L n w' := by
  obtain ⟨P, cp, vs, bs, h1, h2⟩ := h.log
  exact ⟨⟨P, cp, vs, bs, h1.below hb, h2⟩, h.bel.trans (hb.mono h.bel.size)⟩
theorem kept_paths {L : List (List Int)} (h : KeptA w b0 g C cc L wr) (hL : L.length ≤ 1000) (hl : ∀ l ∈ L, l.length ≤ 1000) :
    Calls Tryd.prog 15 #[.pointer (some ⟨g, 0, none⟩)] wr fun e w' => ∃ P' cp', e = .returned (.slice P' L.length cp') ∧ Rows2 w' w'.heap.size P' cp' L ∧ Below wr.heap.size wr w' := by
  obtain ⟨P, cp, vs, bs, safe, h1, _⟩ := h.log
  exact lpaths_any wr b0 g cc C P cp vs [5, 7] L bs safe (-1) false h1 (by decide) hL hl
theorem kept_paths2 {L : List (List Int)} {n : Nat} (h : KeptB w b0 g C cc L n wr) (hL : L.length ≤ 1000) (hl : ∀ l ∈ L, l.length ≤ 1000) :
    Calls Tryd.prog 15 #[.pointer (some ⟨g, 0, none⟩)] wr fun e w' => ∃ P' cp', e = .returned (.slice P' L.length cp') ∧ Rows2 w' w'.heap.size P' cp' L ∧ Below wr.heap.size wr w' := by
  obtain ⟨P, cp, vs, bs, h1, _⟩ := h.log
  exact lpaths_any wr b0 g cc C P cp vs [5, 7] L bs n (-1) false h1 (by decide) hL hl
theorem kept_add {k : Nat} (h : KeptA w b0 g C cc (repA k) wr) (hk : k ≤ 5) (hw : w.heap.size ≤ b0) (gp : Nat) (hp : Blk wr gp 3 #[.int .i64 1]) :
    Calls Tryd.prog 6 #[.pointer (some ⟨g, 0, none⟩), .slice (some ⟨gp, 0, none⟩) 1 1] wr fun e w' => e = .returned .nilIface ∧ KeptA w b0 g C cc (repA k ++ [[1]]) w' := by
  obtain ⟨P, cp, vs, bs, safe, h1, hbz⟩ := h.log
  have hne : gp ≠ g := Blk.ne_ hp h1.blk (by decide)
  refine (ladd_go wr b0 g cc C P cp vs [5, 7] (repA k) bs safe (-1) h1 h.sz (by decide) (by decide) (by decide) (-1) (by decide) (some ⟨gp, 0, none⟩) 1 [1] wr.heap.size (Ints.blk (l := [1]) hp hp.lt (by decide)) (Nat.le_refl _) (fun b off e => by injection e with e; injection e with e _; omega) (by intro x hx; simp at hx; omega) (by decide) (by rw [repA_len]; omega) (by rw [repA_len] at hbz; omega) (by unfold addE; rw [if_neg (by decide), if_neg (by rw [repA_len]; omega)]; decide)).mono ?_
  rintro e w' ⟨rfl, P', cp', vs', bs', hL, hd, hz, hb, _, _⟩
  exact ⟨rfl, ⟨P', cp', vs', bs', safe, by rw [List.length_append]; exact hL, by rw [List.length_append, repA_len]; rw [repA_len] at hbz; show _ ≤ 100 * (k + 1 + 1); omega⟩, h.bel.trans (hb.mono hw), Nat.le_trans h.sz hb.size⟩
theorem kept_sync {L : List (List Int)} (hL : L.length ≤ 1000) (h : KeptA w b0 g C cc L wr) (hw : w.heap.size ≤ b0) :
    Calls Tryd.prog 12 #[.pointer (some ⟨g, 0, none⟩)] wr fun e w' => e = .returned .nilIface ∧ ∃ n, KeptB w b0 g C cc L n w' := by
  obtain ⟨P, cp, vs, bs, safe, h1, hbz⟩ := h.log
  refine (lsync_go wr b0 g _ _ vs [5, 7] L bs safe (-1) h1 h.sz (by decide) (by decide) (by decide) (-1) (by decide) (by omega)).mono ?_
  rintro e w' ⟨rfl, hL, hb, _⟩
  exact ⟨rfl, bs.size, ⟨P, cp, vs, bs, hL, rfl⟩, h.bel.trans (hb.mono hw)⟩
theorem kept_safe {L : List (List Int)} {n : Nat} (h : KeptB w b0 g C cc L n wr) :
    Calls Tryd.prog 16 #[.pointer (some ⟨g, 0, none⟩)] wr fun e w' => e = .returned (.int .i64 n) ∧ Below wr.heap.size wr w' := by
  obtain ⟨P, cp, vs, bs, h1, _⟩ := h.log
  exact lsafe_any wr b0 g _ _ vs [5, 7] L bs n (-1) false h1
theorem kept_bytes {L : List (List Int)} {n : Nat} (h : KeptB w b0 g C cc L n wr) :
    Calls Tryd.prog 9 #[.pointer (some ⟨g, 0, none⟩)] wr fun e w' => e = .returned (.int .i64 n) ∧ Below wr.heap.size wr w' := by
  obtain ⟨P, cp, vs, bs, h1, h2⟩ := h.log
  have := lbytes_any wr b0 g _ _ vs [5, 7] L bs n (-1) false h1
  rwa [h2] at this
end
theorem stops_new (w : World) : ∃ b0, b0 = (w.alloc (.cells #[.int .i64 5, .int .i64 7] 3)).heap.size ∧
    Calls Tryd.prog 5 #[.slice (some ⟨w.heap.size, 0, none⟩) 2 2] (w.alloc (.cells #[.int .i64 5, .int .i64 7] 3)) fun e w' => ∃ g C cc, e = .returned (.tuple #[.pointer (some ⟨g, 0, none⟩), .nilIface]) ∧ LogAt w' b0 g (.slice C 2 cc) (.slice none 0 0) [] [5, 7] [] ByteArray.empty 0 (-1) false ∧ Below b0 (w.alloc (.cells #[.int .i64 5, .int .i64 7] 3)) w' := by
  refine ⟨_, rfl, ?_⟩
  have hI : Ints (w.alloc (.cells #[.int .i64 5, .int .i64 7] 3)) (w.alloc (.cells #[.int .i64 5, .int .i64 7] 3)).heap.size (some ⟨w.heap.size, 0, none⟩) 2 [5, 7] := Ints.blk (l := [5, 7]) (Blk.new w 3 #[.int .i64 5, .int .i64 7]) (by simp) (by simp)
  refine (log_yes (some ⟨w.heap.size, 0, none⟩) 2 [5, 7] _ _ hI (Nat.le_refl _) (by decide)).mono ?_
  rintro e w' ⟨g, cv, rfl, h, hb⟩
  obtain ⟨C, cc, rfl, _, _⟩ := owns_ints h.net.capO
  exact ⟨g, C, cc, rfl, h, hb⟩
theorem stops_fail (w wr : World) (b0 g cc : Nat) (C : Option Addr) (h : LogAt wr b0 g (.slice C 2 cc) (.slice none 0 0) [] [5, 7] [] ByteArray.empty 0 (-1) false) (hb : Below w.heap.size w wr) (hw : w.heap.size ≤ b0) (hz : b0 ≤ wr.heap.size) (a : Nat) :
    Calls Tryd.prog 11 #[.pointer (some ⟨g, 0, none⟩), .int .i64 a] wr fun e w' => e = .returned (.tuple #[]) ∧ StopI w b0 g C cc 0 0 a w' := by
  refine (lfail_any wr b0 g _ _ [] [5, 7] [] ByteArray.empty 0 (-1) false h a).mono ?_
  rintro e w' ⟨rfl, hL, hb2, _⟩
  rw [show max (-1) (a : Int) = (a : Int) - (0 : Nat) by omega] at hL
  exact ⟨rfl, ⟨⟨none, 0, [], ByteArray.empty, [], 0, false, _, hL, rfl, by simp, Nat.le_refl _, by show 0 ≤ _; omega, .inl ⟨Nat.zero_le _, rfl, rfl, rfl, by show 0 ≤ _; omega⟩⟩, hb.trans (hb2.mono hw), Nat.le_trans hz hb2.size⟩⟩
theorem err56 (w : World) (hg : Laid w) : Calls Tryd.prog 7 #[.iface 50 (.int .i64 5), .int .i64 6] w fun e w' => e = .returned (.bool false) ∧ Below w.heap.size w w' := (same_err 5 6 w hg).mono fun _ _ h => ⟨h.1.trans rfl, h.2⟩
theorem err65 (w : World) (hg : Laid w) : Calls Tryd.prog 7 #[.iface 50 (.int .i64 6), .int .i64 5] w fun e w' => e = .returned (.bool false) ∧ Below w.heap.size w w' := (same_err 6 5 w hg).mono fun _ _ h => ⟨h.1.trans rfl, h.2⟩
theorem errn6 (w : World) : Calls Tryd.prog 7 #[.nilIface, .int .i64 6] w fun e w' => e = .returned (.bool false) ∧ Below w.heap.size w w' := (same_nil 6 w).mono fun _ _ h => ⟨h.1.trans rfl, h.2⟩
end Go.Proofs.YtaijpiebjhhkjaaDoor
