/- Several texts in one: KeepsOps, KeepsFact, KeepsMem, KeepsWalk, KeepsCode. -/
import Derived.Test.YtaijpiebjhhkjaaGreatDoorKeptOps
import Derived.Test.YtaijpiebjhhkjaaGreatDoorRefWith
import Derived.Test.YtaijpiebjhhkjaaGreatDoorPlKeeps
import Derived.Test.YtaijpiebjhhkjaaGreatDoorLogLaidS
import Derived.Test.YtaijpiebjhhkjaaGreatDoorCarve
import Derived.Deep.DeepCutAuto
/- The log's functions over a log that may have stopped: what is returned, what it is behind it. -/
namespace Go.Proofs.YtaijpiebjhhkjaaGreatDoor
open Go.RowKit
structure LogT (W : World) (b0 g m : Nat) (C : Option Addr) (cc : Nat) (caps : List Int) (i : Nat) (O : List LG.Op) (p : Option Nat) (bs : ByteArray) (safe : Nat) (left : Int) (st : Bool) : Prop where
  log : ∃ (P : Option Addr) (cp : Nat) (vs : List Value), LogAt W b0 g (.slice C caps.length cc) (.slice P (LG.runs O).length cp) vs caps (LG.runs O) bs (safe : Int) left st ∧ (Value.slice P (LG.runs O).length cp).ownBlock = p ∧ (Value.slice C caps.length cc).ownBlock ≠ some m ∧ ∀ u ∈ vs, u.ownBlock ≠ some m
  ml : m < W.heap.size
  bytes : ∃ tail, bs.data.toList = LG.flat O ++ tail ∧ (10 : UInt8) ∉ tail ∧ (st = false → tail = [])
  ok : LG.Ok caps.length O
  num : O.length ≤ i
  len : bs.size ≤ 14 * i
  sf : safe ≤ bs.size
  l1 : -1 ≤ left
  l2 : left ≤ 9223372036854775807
  sz : b0 ≤ W.heap.size
/-- a new own block, or the old one -/
def NewOwn (W : World) (p p' : Option Nat) : Prop := p' = p ∨ ∃ i, W.heap.size ≤ i ∧ p' = some i
section
variable {W W' : World} {b0 g m : Nat} {C : Option Addr} {cc : Nat} {caps : List Int} {i : Nat} {O : List LG.Op} {p : Option Nat} {bs : ByteArray} {safe : Nat} {left : Int} {st : Bool}
theorem LogT.below (h : LogT W b0 g m C cc caps i O p bs safe left st) (hb : Below W.heap.size W W') : LogT W' b0 g m C cc caps i O p bs safe left st := by
  obtain ⟨P, cp, vs, h1, h2⟩ := h.log
  exact ⟨⟨P, cp, vs, h1.below hb, h2⟩, Nat.lt_of_lt_of_le h.ml hb.size, h.bytes, h.ok, h.num, h.len, h.sf, h.l1, h.l2, Nat.le_trans h.sz hb.size⟩
theorem LogT.more (h : LogT W b0 g m C cc caps i O p bs safe left st) {j : Nat} (hj : i ≤ j) : LogT W b0 g m C cc caps j O p bs safe left st :=
  ⟨h.log, h.ml, h.bytes, h.ok, Nat.le_trans h.num hj, by have := h.len; omega, h.sf, h.l1, h.l2, h.sz⟩
end
theorem tadd_any (W : World) (b0 g m : Nat) (C : Option Addr) (cc : Nat) (caps : List Int) (i : Nat) (O : List LG.Op) (p : Option Nat) (bs : ByteArray) (safe : Nat) (left : Int) (st : Bool) (h : LogT W b0 g m C cc caps i O p bs safe left st) (hi : i ≤ 1000) (hc : caps.length ≤ 6) (A : Option Addr) (c : Nat) (path : List Int) (B : Nat) (hp : Ints W B A c path) (hB : B ≤ b0) (er : Int) (he : addE caps (LG.runs O) false path = er) :
    Calls Tryz.prog 9 #[.pointer (some ⟨g, 0, none⟩), .slice A path.length c] W fun e w' => ∃ r O' p' bs' left' st', e = .returned (errVal r) ∧ LogT w' b0 g m C cc caps (i + 1) O' p' bs' safe left' st' ∧ Below b0 W w' ∧ Stay g p W w' ∧ NewOwn W p p' ∧ ((r = 0 ∧ er = 0 ∧ LG.runs O' = LG.runs O ++ [path] ∧ (∃ q, O' = O ++ [⟨true, q⟩]) ∧ bs'.data.toList = LG.flat O' ∧ bs.size + 2 ≤ bs'.size) ∨ (r ≠ 0 ∧ O' = O ∧ (r = 6 ∨ r = er))) := by
  obtain ⟨P, cp, vs, hL, rfl, hmc, hmv⟩ := h.log
  obtain ⟨tail, hf, ht, hts⟩ := h.bytes
  have hlen := h.len
  cases st with
  | true =>
    refine (ladd_no W b0 g cc C P cp vs caps (LG.runs O) bs (safe : Int) left true hL A c path B hp h.ok.all 6 (by unfold addE; rw [if_pos rfl]) (by decide)).mono ?_
    rintro e w' ⟨rfl, hb⟩
    exact ⟨6, O, _, bs, left, true, by rw [errVal_pos (by decide)], (h.below hb).more (Nat.le_succ i), hb.mono h.sz, Stay.of_below _ _ hb, .inl rfl, .inr ⟨by decide, rfl, .inl rfl⟩⟩
  | false =>
    by_cases h0 : er = 0
    · subst h0
      have he' := he
      unfold addE at he'
      rw [if_neg (by decide)] at he'
      have hl6 : (LG.runs O).length ≠ 6 := fun e => by rw [if_pos e] at he'; exact absurd he' (by decide)
      rw [if_neg hl6] at he'
      obtain ⟨q, hq, hq10, hq0, hq6⟩ := LG.path_nat hc he'
      have h6 := h.ok.all
      subst hq
      obtain ⟨ho, hr⟩ := h.ok.add q hq10 hq0 hq6 he' (by omega)
      obtain rfl := hts rfl
      have hln : (LG.ints q).length = q.length := by simp [LG.ints]
      have hA : ∀ b off, A = some ⟨b, off, none⟩ → b ≠ g := fun b off e => by obtain ⟨b', off', e', hb', _⟩ := hp.rd.2 (by simp [LG.ints]; omega); rw [e] at e'; cases e'; have := hL.lo; omega
      by_cases hl0 : left = 0
      · subst hl0
        rw [hln]
        refine (ladd_stop W b0 g cc C P cp vs caps (LG.runs O) bs (safe : Int) hL h.sz A c q B hp (Nat.le_trans hB h.sz) hq10 hq6 h6 (by omega) he).mono ?_
        rintro e w' ⟨rfl, bs', h1, ⟨t, ht1, ht2⟩, h3, h4, h5⟩
        have hbl : bs.size ≤ bs'.size := by
          have := congrArg List.length ht1
          rw [List.length_append, bytes_len, bytes_len] at this; omega
        refine ⟨6, O, _, bs', -1, true, by rw [errVal_pos (by decide)], ⟨⟨P, cp, vs, h1, rfl, hmc, hmv⟩, Nat.lt_of_lt_of_le h.ml h4.size, ⟨t, by rw [ht1, hf, List.append_nil], ht2, fun x => by cases x⟩, h.ok, by have := h.num; omega, by omega, by have := h.sf; omega, by decide, by decide, Nat.le_trans h.sz h4.size⟩, h4, h5 _, .inl rfl, .inr ⟨by decide, rfl, .inl rfl⟩⟩
      · have hl1 := h.l1; have hl2 := h.l2
        rw [hln]
        refine (ladd_go W b0 g cc C P cp vs caps (LG.runs O) bs (safe : Int) left hL h.sz h.l1 h.l2 hl0 _ rfl A c q B hp (Nat.le_trans hB h.sz) hA hq10 hq6 h6 (by omega) he).mono ?_
        rintro e w' ⟨rfl, P', cp', vs', bs', h1, h2, h3, h4, h5, h7⟩
        have hbl : bs.size ≤ bs'.size := by
          have := congrArg List.length h2
          rw [List.length_append, bytes_len, bytes_len] at this; omega
        have hbl2 : bs.size + 2 ≤ bs'.size := by
          have := congrArg List.length h2
          rw [List.length_append, bytes_len, bytes_len, LG.recB_len] at this; omega
        have HMV : ∀ u ∈ vs', u.ownBlock ≠ some m := fun u hu e => by
          rcases h7.2 u hu with hu | hu
          · exact hmv u hu e
          · have := hu m e; have := h.ml; omega
        have e1 : (LG.runs (O ++ [⟨true, q⟩])).length = (LG.runs O).length + 1 := by rw [hr]; simp
        refine ⟨0, O ++ [⟨true, q⟩], _, bs', max (-1) (left - 1), false, by rw [errVal_zero], ⟨⟨P', cp', vs', by rw [e1, hr]; exact h1, rfl, hmc, HMV⟩, Nat.lt_of_lt_of_le h.ml h4.size, ⟨[], by rw [LG.flat_snoc, h2, hf, List.append_nil, List.append_nil], by simp, fun _ => rfl⟩, ho, by simp; have := h.num; omega, by omega, by have := h.sf; omega, by omega, by omega, Nat.le_trans h.sz h4.size⟩, h4, h5, ?_, .inl ⟨rfl, rfl, hr, ⟨q, rfl⟩, by rw [LG.flat_snoc, h2, hf, List.append_nil], hbl2⟩⟩
        rw [e1]; exact h7.1
    · refine (ladd_no W b0 g cc C P cp vs caps (LG.runs O) bs (safe : Int) left false hL A c path B hp h.ok.all er he h0).mono ?_
      rintro e w' ⟨rfl, hb⟩
      exact ⟨er, O, _, bs, left, false, by rw [errVal_pos h0], (h.below hb).more (Nat.le_succ i), hb.mono h.sz, Stay.of_below _ _ hb, .inl rfl, .inr ⟨h0, rfl, .inr rfl⟩⟩
theorem tdrop_any (W : World) (b0 g m : Nat) (C : Option Addr) (cc : Nat) (caps : List Int) (i : Nat) (O : List LG.Op) (p : Option Nat) (bs : ByteArray) (safe : Nat) (left : Int) (st : Bool) (h : LogT W b0 g m C cc caps i O p bs safe left st) (hi : i ≤ 1000) (f : Nat) (er : Int) (he : (if (LG.runs O).length ≤ f then 1 else 0) = er) :
    Calls Tryz.prog 20 #[.pointer (some ⟨g, 0, none⟩), .int .i64 f] W fun e w' => ∃ r O' p' bs' left' st', e = .returned (errVal r) ∧ LogT w' b0 g m C cc caps (i + 1) O' p' bs' safe left' st' ∧ Below b0 W w' ∧ Stay g p W w' ∧ NewOwn W p p' ∧ ((r = 0 ∧ er = 0 ∧ LG.runs O' = (LG.runs O).eraseIdx f ∧ O' = O ++ [⟨false, [f]⟩] ∧ bs'.data.toList = LG.flat O' ∧ bs.size + 2 ≤ bs'.size) ∨ (r ≠ 0 ∧ O' = O ∧ (r = 6 ∨ r = er))) := by
  obtain ⟨P, cp, vs, hL, rfl, hmc, hmv⟩ := h.log
  obtain ⟨tail, hf, ht, hts⟩ := h.bytes
  have hlen := h.len
  cases st with
  | true =>
    refine (ldrop_stopped W b0 g _ _ vs caps (LG.runs O) bs (safe : Int) left hL f).mono ?_
    rintro e w' ⟨rfl, hb⟩
    exact ⟨6, O, _, bs, left, true, by rw [errVal_pos (by decide)], (h.below hb).more (Nat.le_succ i), hb.mono h.sz, Stay.of_below _ _ hb, .inl rfl, .inr ⟨by decide, rfl, .inl rfl⟩⟩
  | false =>
    by_cases h0 : (LG.runs O).length ≤ f
    · rw [if_pos h0] at he
      subst he
      refine (ldrop_bad W b0 g _ P cp vs caps (LG.runs O) bs (safe : Int) left hL f (.inr (by omega))).mono ?_
      rintro e w' ⟨rfl, hb⟩
      exact ⟨1, O, _, bs, left, false, by rw [errVal_pos (by decide)], (h.below hb).more (Nat.le_succ i), hb.mono h.sz, Stay.of_below _ _ hb, .inl rfl, .inr ⟨by decide, rfl, .inr rfl⟩⟩
    · rw [if_neg h0] at he
      subst he
      have h6 := h.ok.all
      obtain ⟨ho, hr⟩ := h.ok.drop f (by omega)
      obtain rfl := hts rfl
      by_cases hl0 : left = 0
      · subst hl0
        refine (ldrop_stop W b0 g _ P cp vs caps (LG.runs O) bs (safe : Int) hL h.sz f (by omega) h6 (by omega)).mono ?_
        rintro e w' ⟨rfl, bs', h1, ⟨t, ht1, ht2⟩, h3, h4, h5⟩
        have hbl : bs.size ≤ bs'.size := by
          have := congrArg List.length ht1
          rw [List.length_append, bytes_len, bytes_len] at this; omega
        refine ⟨6, O, _, bs', -1, true, by rw [errVal_pos (by decide)], ⟨⟨P, cp, vs, h1, rfl, hmc, hmv⟩, Nat.lt_of_lt_of_le h.ml h4.size, ⟨t, by rw [ht1, hf, List.append_nil], ht2, fun x => by cases x⟩, h.ok, by have := h.num; omega, by omega, by have := h.sf; omega, by decide, by decide, Nat.le_trans h.sz h4.size⟩, h4, h5 _, .inl rfl, .inr ⟨by decide, rfl, .inl rfl⟩⟩
      · have hl1 := h.l1; have hl2 := h.l2
        refine (ldrop_go W b0 g _ P cp vs caps (LG.runs O) bs (safe : Int) left hL h.sz h.l1 h.l2 hl0 _ rfl f (by omega) h6 (by omega)).mono ?_
        rintro e w' ⟨rfl, P', cp', vs', bs', h1, h2, h3, h4, h5, h7⟩
        have hbl : bs.size ≤ bs'.size := by
          have := congrArg List.length h2
          rw [List.length_append, bytes_len, bytes_len] at this; omega
        have hbl2 : bs.size + 2 ≤ bs'.size := by
          have := congrArg List.length h2
          rw [List.length_append, bytes_len, bytes_len, LG.recB_len] at this; omega
        have HMV : ∀ u ∈ vs', u.ownBlock ≠ some m := fun u hu => hmv u (h7.2 u hu)
        have e1 : (LG.runs (O ++ [⟨false, [f]⟩])).length = (LG.runs O).length - 1 := by rw [hr, List.length_eraseIdx_of_lt (by omega)]
        refine ⟨0, O ++ [⟨false, [f]⟩], _, bs', max (-1) (left - 1), false, by rw [errVal_zero], ⟨⟨P', cp', vs', by rw [e1, hr]; exact h1, rfl, hmc, HMV⟩, Nat.lt_of_lt_of_le h.ml h4.size, ⟨[], by rw [LG.flat_snoc, h2, hf, List.append_nil, List.append_nil], by simp, fun _ => rfl⟩, ho, by simp; have := h.num; omega, by omega, by have := h.sf; omega, by omega, by omega, Nat.le_trans h.sz h4.size⟩, h4, h5, ?_, .inl ⟨rfl, rfl, hr, rfl, by rw [LG.flat_snoc, h2, hf, List.append_nil], hbl2⟩⟩
        rw [e1]; exact .inl h7.1
/-- Sync: nil says that all is safe -/
theorem tsync_any (W : World) (b0 g m : Nat) (C : Option Addr) (cc : Nat) (caps : List Int) (i : Nat) (O : List LG.Op) (p : Option Nat) (bs : ByteArray) (safe : Nat) (left : Int) (st : Bool) (h : LogT W b0 g m C cc caps i O p bs safe left st) (hi : i ≤ 1000) :
    Calls Tryz.prog 10 #[.pointer (some ⟨g, 0, none⟩)] W fun e w' => ∃ r safe' left' st', e = .returned (errVal r) ∧ LogT w' b0 g m C cc caps i O p bs safe' left' st' ∧ Below b0 W w' ∧ Stay g p W w' ∧ ((r = 0 ∧ safe' = bs.size) ∨ (r = 6 ∧ safe' = safe)) := by
  obtain ⟨P, cp, vs, hL, hp⟩ := h.log
  have hlen := h.len
  cases st with
  | true =>
    refine (lsync_no W b0 g _ _ vs caps (LG.runs O) bs (safe : Int) left hL).mono ?_
    rintro e w' ⟨rfl, hb⟩
    exact ⟨6, safe, left, true, by rw [errVal_pos (by decide)], h.below hb, hb.mono h.sz, Stay.of_below _ _ hb, .inr ⟨rfl, rfl⟩⟩
  | false =>
    obtain ⟨tail, hf, ht, hts⟩ := h.bytes
    by_cases hl0 : left = 0
    · subst hl0
      refine (lsync_stop W b0 g _ _ vs caps (LG.runs O) bs (safe : Int) hL h.sz).mono ?_
      rintro e w' ⟨rfl, h1, h2, h3⟩
      exact ⟨6, safe, -1, true, by rw [errVal_pos (by decide)], ⟨⟨P, cp, vs, h1, hp⟩, Nat.lt_of_lt_of_le h.ml h2.size, ⟨tail, hf, ht, fun x => by cases x⟩, h.ok, h.num, h.len, h.sf, by decide, by decide, Nat.le_trans h.sz h2.size⟩, h2, h3 _, .inr ⟨rfl, rfl⟩⟩
    · have hl1 := h.l1; have hl2 := h.l2
      refine (lsync_go W b0 g _ _ vs caps (LG.runs O) bs (safe : Int) left hL h.sz h.l1 h.l2 hl0 _ rfl (by omega)).mono ?_
      rintro e w' ⟨rfl, h1, h2, h3⟩
      exact ⟨0, bs.size, max (-1) (left - 1), false, by rw [errVal_zero], ⟨⟨P, cp, vs, h1, hp⟩, Nat.lt_of_lt_of_le h.ml h2.size, ⟨tail, hf, ht, hts⟩, h.ok, h.num, h.len, Nat.le_refl _, by omega, by omega, Nat.le_trans h.sz h2.size⟩, h2, h3 _, .inl ⟨rfl, rfl⟩⟩
theorem tfail_any (W : World) (b0 g m : Nat) (C : Option Addr) (cc : Nat) (caps : List Int) (i : Nat) (O : List LG.Op) (p : Option Nat) (bs : ByteArray) (safe : Nat) (left : Int) (st : Bool) (h : LogT W b0 g m C cc caps i O p bs safe left st) (n : Int) (hn : n ≤ 9223372036854775807) :
    Calls Tryz.prog 18 #[.pointer (some ⟨g, 0, none⟩), .int .i64 n] W fun e w' => e = .returned (.tuple #[]) ∧ (∃ left', LogT w' b0 g m C cc caps i O p bs safe left' st) ∧ Below b0 W w' ∧ Stay g p W w' := by
  obtain ⟨P, cp, vs, hL, hp⟩ := h.log
  refine (lfail_any W b0 g _ _ vs caps (LG.runs O) bs (safe : Int) left st hL n).mono ?_
  rintro e w' ⟨rfl, h1, h2, h3⟩
  exact ⟨rfl, ⟨_, ⟨P, cp, vs, h1, hp⟩, Nat.lt_of_lt_of_le h.ml h2.size, h.bytes, h.ok, h.num, h.len, h.sf, by omega, by omega, Nat.le_trans h.sz h2.size⟩, h2, h3 _⟩
/-- Crash: what is left is of the records that lie wholly in what is kept -/
theorem tcrash_any (W : World) (b0 g m : Nat) (C : Option Addr) (cc : Nat) (caps : List Int) (i : Nat) (O : List LG.Op) (p : Option Nat) (bs : ByteArray) (safe : Nat) (left : Int) (st : Bool) (h : LogT W b0 g m C cc caps i O p bs safe left st) (hi : i ≤ 1000) (hT : Lib.TabIs Tryz.prog W "strings.asciiSpace" .u8 Lib.asciiSpaceTab) (hv : 2 < W.heap.size) (keep : Int) (high : Nat) (hh : (safe : Int) + max 0 (min keep ((bs.size : Int) - safe)) = high) :
    Calls Tryz.prog 11 #[.pointer (some ⟨g, 0, none⟩), .int .i64 keep] W fun e w' => ∃ p' bs', e = .returned (.tuple #[]) ∧ LogT w' b0 g m C cc caps i (O.take (LG.full O high)) p' bs' bs'.size (-1) false ∧ bs'.data.toList = LG.flat (O.take (LG.full O high)) ∧ Below b0 W w' ∧ (∀ q, Stay g q W w') ∧ ∀ b, p' = some b → W.heap.size ≤ b := by
  obtain ⟨P, cp, vs, hL, hp⟩ := h.log
  obtain ⟨tail, hf, ht, _⟩ := h.bytes
  have hlen := h.len
  refine (lcrash_all W b0 g cc C P cp vs caps (LG.runs O) bs safe left st hL h.sz hT hv O h.ok.sm h.ok.dr (by have := h.num; omega) tail ht hf (by omega) h.sf keep high hh).mono ?_
  rintro e w' ⟨rfl, P', cp', vs', bs', h1, h2, h3, h4, h5, h6, h7⟩
  exact ⟨_, bs', rfl, ⟨⟨P', cp', vs', h1, rfl, hp.2.1, fun u hu e => by have := h7 u hu m e; have := h.ml; omega⟩, Nat.lt_of_lt_of_le h.ml h4.size, ⟨[], by rw [h2, List.append_nil], by simp, fun _ => rfl⟩, h.ok.take _, by rw [List.length_take]; have := h.num; omega, by omega, Nat.le_refl _, by decide, by decide, Nat.le_trans h.sz h4.size⟩, h2, h4, h5, h6⟩
end Go.Proofs.YtaijpiebjhhkjaaGreatDoor
/- The fact ahead of LogKeeps: one link, a flow that is safe, one that is not. -/
namespace Go.Proofs.YtaijpiebjhhkjaaGreatDoor
open Go.RowKit
theorem fact_new (w : World) : ∃ b0, b0 = (w.alloc (.cells #[.int .i64 8] 3)).heap.size ∧
    Calls Tryz.prog 8 #[.slice (some ⟨w.heap.size, 0, none⟩) 1 1] (w.alloc (.cells #[.int .i64 8] 3)) fun e w' => ∃ g C cc, e = .returned (.tuple #[.pointer (some ⟨g, 0, none⟩), .nilIface]) ∧ LogAt w' b0 g (.slice C 1 cc) (.slice none 0 0) [] [8] [] ByteArray.empty 0 (-1) false ∧ Below b0 (w.alloc (.cells #[.int .i64 8] 3)) w' := by
  refine ⟨_, rfl, ?_⟩
  have hI : Ints (w.alloc (.cells #[.int .i64 8] 3)) (w.alloc (.cells #[.int .i64 8] 3)).heap.size (some ⟨w.heap.size, 0, none⟩) 1 [8] := Ints.blk (l := [8]) (Blk.new w 3 #[.int .i64 8]) (by simp) (by simp)
  refine (log_yes (some ⟨w.heap.size, 0, none⟩) 1 [8] _ _ hI (Nat.le_refl _) (by decide)).mono ?_
  rintro e w' ⟨g, cv, rfl, h, hb⟩
  obtain ⟨C, cc, rfl, _, _⟩ := owns_ints h.net.capO
  exact ⟨g, C, cc, rfl, h, hb⟩
/-- so many flows over the one link -/
abbrev oneL (k : Nat) : List (List Int) := List.replicate k [0]
theorem fact_add (w : World) (b0 g cc : Nat) (C P : Option Addr) (cp : Nat) (vs : List Value) (k : Nat) (hk : k ≤ 1) (bs : ByteArray) (safe : Int) (h : LogAt w b0 g (.slice C 1 cc) (.slice P k cp) vs [8] (oneL k) bs safe (-1) false) (hl : b0 ≤ w.heap.size) (hbs : bs.size ≤ 100) :
    Calls Tryz.prog 9 #[.pointer (some ⟨g, 0, none⟩), .slice (some ⟨w.heap.size, 0, none⟩) 1 1] (w.alloc (.cells #[.int .i64 0] 3)) fun e w' => e = .returned .nilIface ∧ ∃ P' cp' vs' bs', LogAt w' b0 g (.slice C 1 cc) (.slice P' (k + 1) cp') vs' [8] (oneL (k + 1)) bs' safe (-1) false ∧ bs'.data.toList = bs.data.toList ++ LG.recB ⟨true, [0]⟩ ∧ Below b0 w w' := by
  have hba := (Below.refl w.heap.size w).alloc (Nat.le_refl _) (.cells #[.int .i64 0] 3)
  have hz : b0 ≤ (w.alloc (.cells #[.int .i64 0] 3)).heap.size := Nat.le_trans hl hba.size
  have hln : (oneL k).length = k := List.length_replicate
  have hI : Ints (w.alloc (.cells #[.int .i64 0] 3)) (w.alloc (.cells #[.int .i64 0] 3)).heap.size (some ⟨w.heap.size, 0, none⟩) 1 (nints [0]) := Ints.blk (l := [0]) (Blk.new w 3 #[.int .i64 0]) (by simp) (by simp)
  have hgl := h.blk.lt
  have := ladd_go (w.alloc (.cells #[.int .i64 0] 3)) b0 g cc C P cp vs [8] (oneL k) bs safe (-1) (by rw [hln]; exact h.below hba) hz (by decide) (by decide) (by decide) (-1) (by decide) (some ⟨w.heap.size, 0, none⟩) 1 [0] _ hI (Nat.le_refl _) (fun b off e => by injection e with e; injection e with e _; omega) (by simp) (by decide) (by rw [hln]; omega) (by omega) (by unfold addE; rw [if_neg (by decide), if_neg (by rw [hln]; omega)]; decide)
  rw [hln] at this
  refine this.mono ?_
  rintro e w' ⟨rfl, P', cp', vs', bs', h1, h2, _, h4, _⟩
  exact ⟨rfl, P', cp', vs', bs', by rw [show oneL (k + 1) = oneL k ++ [nints [0]] from List.replicate_succ']; exact h1, h2, ((Below.refl b0 w).alloc hl _).trans h4⟩
theorem fact_crash (w : World) (b0 g cc : Nat) (C P : Option Addr) (cp : Nat) (vs : List Value) (bs : ByteArray) (h : LogAt w b0 g (.slice C 1 cc) (.slice P 2 cp) vs [8] (oneL 2) bs 4 (-1) false) (hl : b0 ≤ w.heap.size) (hf : bs.data.toList = LG.flat [⟨true, [0]⟩, ⟨true, [0]⟩]) (hT : Lib.TabIs Tryz.prog w "strings.asciiSpace" .u8 Lib.asciiSpaceTab) (hv : 2 < w.heap.size) :
    Calls Tryz.prog 11 #[.pointer (some ⟨g, 0, none⟩), .int .i64 0] w fun e w' => e = .returned (.tuple #[]) ∧ ∃ P' cp' vs' bs', LogAt w' b0 g (.slice C 1 cc) (.slice P' 1 cp') vs' [8] (oneL 1) bs' (bs'.size : Int) (-1) false ∧ Below b0 w w' := by
  have hs : bs.size = 8 := by rw [← bytes_len, hf]; decide
  refine (lcrash_all w b0 g cc C P cp vs [8] (oneL 2) bs 4 (-1) false h hl hT hv [⟨true, [0]⟩, ⟨true, [0]⟩] (by simp [LG.Small]) (fun k o hk ha => by
    have := List.mem_of_getElem? hk
    simp at this
    subst this; cases ha) (by decide) [] (by simp) (by rw [hf, List.append_nil]) (by omega) (by omega) 0 4 (by rw [hs]; decide)).mono ?_
  rintro e w' ⟨rfl, P', cp', vs', bs', h1, _, _, h4, _⟩
  exact ⟨rfl, P', cp', vs', bs', h1, h4⟩
end Go.Proofs.YtaijpiebjhhkjaaGreatDoor
/- LogKeeps: how the law's own lists (the nets, the marks) lie beside the log. -/
namespace Go.Proofs.YtaijpiebjhhkjaaGreatDoor
open Go.RowKit
theorem own_stay {w w' : World} {g : Nat} {p : Option Nat} {base e size n : Nat} {v : Value} {xs : List Value} (h : w.ownsRow base e size v n xs) (hs : Stay g p w w') (hne : ∀ b, v.ownBlock = some b → b ≠ g ∧ p ≠ some b) : w'.ownsRow base e size v n xs := by
  refine ⟨h.1, ?_⟩
  rcases h.2 with hn | ⟨g', cap, cur, rfl, hb, hgg, rest⟩
  · exact .inl hn
  · obtain ⟨h1, h2⟩ := hne g' rfl
    exact .inr ⟨g', cap, cur, rfl, hb, (hs.block g' (Array.getElem?_eq_some_iff.1 hgg).1 h1 h2).trans hgg, rest⟩
theorem own_cut {w : World} {base e size n c k : Nat} {a : Addr} {xs : List Value} (h : w.ownsRow base e size (.slice (some a) n c) n xs) (hk : k ≤ n) : w.ownsRow base e size (.slice (some a) k c) k (xs.take (k * size)) := by
  have hm : k * size ≤ n * size := Nat.mul_le_mul_right _ hk
  refine ⟨by rw [List.length_take, h.1]; omega, ?_⟩
  rcases h.2 with ⟨hv, _⟩ | ⟨g, cap, cur, hv, hb, hh, hn, hmx, hs, ht⟩
  · cases hv
  · injection hv with e1 _ e3
    injection e1 with e1
    subst e1 e3
    exact .inr ⟨g, c, cur, rfl, hb, hh, Nat.le_trans hk hn, hmx, hs, by rw [← ht, List.take_take, Nat.min_eq_left hm]⟩
theorem grown_below {W W' : World} {b0 k : Nat} (hg : W.grownBy W' (some k)) (hk : b0 ≤ k) (hz : b0 ≤ W.heap.size) : Below b0 W W' :=
  (Below.refl b0 W).grown hg hz fun i hi => by injection hi with hi; omega
/-- append of one element, in a block of its own, onto a row of the call's own: and where it lies behind it -/
theorem wpList_pushL {P : Program} {ops : Array Oper} {rest : List Oper} {o : Oper} {a : Act} {Q : Exit → Act → World → Prop} (wr : World) (cs : Array Value) (hgd : o.guard = none) (s x : Operand) (t : TypeId)
    (ho : o.op = .call { callee := .builtin .append, args := #[s, x], argTypes := #[t, t] })
    (base : Nat) (e : TypeId) (z : Value) (size bytes : Nat) (ht : P.underlying t = some (.slice e)) (hinfo : (P.info? e).map (fun i => (i.zero, i.size, i.bytes)) = some (some z, size, bytes))
    (hzs : z.cells.size = size) (hsz : 0 < size) (v : Value) (n : Nat) (xs : List Value) (hs : a.eval s = v) (hown : wr.ownsRow base e size v n xs)
    (hx : a.eval x = .slice (some ⟨wr.heap.size, 0, none⟩) 1 1) (hl : cs.size = size) (h1 : ∀ u ∈ cs.toList, u.oneCell' = true) (hn : n ≤ 1000000) (hb : bytes ≤ 64) (hbase : base ≤ wr.heap.size)
    (h : ∀ g cap w', w'.ownsRow base e size (.slice (some ⟨g, 0, none⟩) (n + 1) cap) (n + 1) (xs ++ cs.toList) → wr.grownBy w' v.ownBlock → (v.ownBlock = some g ∨ wr.heap.size ≤ g) → g < w'.heap.size → wpList P ops Q rest (a.put o.dst (.slice (some ⟨g, 0, none⟩) (n + 1) cap)) w') : wpList P ops Q (o :: rest) a (wr.alloc (.cells cs e)) := by
  obtain ⟨i, hi, hz, h2, h3⟩ := info_parts hinfo
  have hbb : (n + 1) * bytes ≤ 1000001 * 64 := Nat.mul_le_mul (by omega) hb
  refine wpList_append_lies _ hgd s x t ho base e i z size bytes ht hi hz h2 h3 hzs hsz v n xs hs (hown.alloc _) ⟨wr.heap.size, 0, none⟩ 1 1 cs.toList hx (by simpa using hl) (World.news_of_block (heap_alloc_new wr _)) h1 (by omega) (by simp only [maxLen]; omega) (by omega) (by simp; omega) _ rfl ?_
  intro g cap w' p1 p2 p3 p4
  refine h g cap w' p1 ⟨p2.os, p2.tape, p2.output, Nat.le_trans (by simp) p2.size, fun k hk hne => ?_⟩ ?_ p4
  · rw [p2.block k (by simp; omega) hne]
    exact Below.heap_alloc wr _ k hk
  · rcases p3 with p3 | p3
    · exact .inl p3
    · right; rw [p3]; simp
def NewP (W : World) (p p' : Option Nat) : Prop := ∀ b, p' = some b → p = some b ∨ W.heap.size ≤ b
theorem NewOwn.newP {W : World} {p p' : Option Nat} (h : NewOwn W p p') : NewP W p p' := fun b e => by
  rcases h with rfl | ⟨i, hi, rfl⟩
  · exact .inl e
  · injection e with e
    exact .inr (e ▸ hi)
/-- a net's rows, of their own -/
def RowsK (W : World) (b0 : Nat) (p : Option Nat) (P : Option Addr) (cp : Nat) (L : List (List Int)) : Prop :=
  ∃ vs, W.ownsRow b0 22 1 (.slice P L.length cp) L.length vs ∧ RowsAt W b0 vs L ∧ ∀ b, (Value.slice P L.length cp).ownBlock = some b → p ≠ some b
section
variable {W W' : World} {b0 g : Nat} {p p' : Option Nat} {P : Option Addr} {cp : Nat} {L : List (List Int)}
theorem RowsK.nil (W : World) (b0 : Nat) (p : Option Nat) : RowsK W b0 p none 0 [] := ⟨[], World.ownsRow_nil _ _ _ _, RowsAt.nil _ _, fun b h => by cases h⟩
theorem RowsK.below (h : RowsK W b0 p P cp L) (hb : Below W.heap.size W W') (hz : b0 ≤ W.heap.size) : RowsK W' b0 p P cp L := by
  obtain ⟨vs, h1, h2, h3⟩ := h
  exact ⟨vs, own_below h1 hb, h2.below hb hz, h3⟩
theorem RowsK.lt (h : RowsK W b0 p P cp L) : ∀ b, (Value.slice P L.length cp).ownBlock = some b → b < W.heap.size := by
  obtain ⟨vs, h1, _⟩ := h
  exact fun b hb => (h1.lt b hb).2
theorem RowsK.op (h : RowsK W b0 p P cp L) {cs : Array Value} (hg : Blk W g 73 cs) (hs : Stay g p W W') (hb : Below b0 W W') (hn : NewP W p p') : RowsK W' b0 p' P cp L := by
  have hl := h.lt
  obtain ⟨vs, h1, h2, h3⟩ := h
  refine ⟨vs, own_stay h1 hs fun b e => ⟨fun e2 => own_blk_ne h1 hg (by decide) (e2 ▸ e), h3 b e⟩, h2.below hb (Nat.le_refl _), fun b e => ?_⟩
  intro e2
  rcases hn b e2 with e3 | e3
  · exact h3 b e e3
  · have := hl b e
    omega
theorem RowsK.grown (h : RowsK W b0 p P cp L) {k : Nat} {t : TypeId} {cs : Array Value} (hk : Blk W k t cs) (ht : 22 ≠ t) (hg : W.grownBy W' (some k)) (hk0 : b0 ≤ k) : RowsK W' b0 p P cp L := by
  obtain ⟨vs, h1, h2, h3⟩ := h
  have := hk.lt
  exact ⟨vs, own_grown h1 hg (.inr (own_blk_ne h1 hk ht)), h2.below (grown_below hg hk0 (by omega)) (Nat.le_refl _), h3⟩
theorem RowsK.rows (h : RowsK W b0 p P cp L) (hz : b0 ≤ W.heap.size) : Rows2 W W.heap.size P cp L := by
  obtain ⟨vs, h1, h2, _⟩ := h
  obtain ⟨A, c, e, h⟩ := rows_own h1 h2 hz
  injection e with e1 _ e3
  subst e1 e3
  exact h
theorem RowsK.fresh {W' : World} {A : Option Addr} {c : Nat} {L : List (List Int)} {vs : List Value} (h : W'.ownsRow W.heap.size 22 1 (.slice A L.length c) L.length vs) (h2 : RowsAt W' b0 vs L) (hz : b0 ≤ W.heap.size) (hp : ∀ b, p = some b → b < W.heap.size) : RowsK W' b0 p A c L :=
  ⟨vs, own_baseB h hz, h2, fun b e e2 => by have := (h.lt b e).1; have := hp b e2; omega⟩
end
/-- the nets, one more than there are records -/
structure DoneAt (W : World) (b0 : Nat) (p : Option Nat) (d : Nat) (A : Option Addr) (c n : Nat) (O : List LG.Op) (cd : Nat) (dv : List Value) : Prop where
  own : W.ownsRow b0 42 2 (.slice (some ⟨d, 0, none⟩) (O.length + 1) cd) (O.length + 1) dv
  net : ∀ k, k ≤ O.length → dv[k * 2]? = some (.slice A n c) ∧ ∃ P cp, dv[k * 2 + 1]? = some (.slice P (LG.runs (O.take k)).length cp) ∧ RowsK W b0 p P cp (LG.runs (O.take k))
/-- the marks -/
def MarksAt (W : World) (b0 m : Nat) (O : List LG.Op) (cm : Nat) : Prop :=
  W.ownsRow b0 3 1 (.slice (some ⟨m, 0, none⟩) (O.length + 1) cm) (O.length + 1) ((LG.marks O).map (Value.int .i64))
section
variable {W W' : World} {b0 g m d : Nat} {p p' : Option Nat} {A : Option Addr} {c n : Nat} {O : List LG.Op} {cd cm : Nat} {dv : List Value}
theorem DoneAt.blk (h : DoneAt W b0 p d A c n O cd dv) : ∃ cs, Blk W d 42 cs := own_kindB h.own rfl
theorem DoneAt.base (h : DoneAt W b0 p d A c n O cd dv) : b0 ≤ d := (h.own.lt d rfl).1
theorem DoneAt.len (h : DoneAt W b0 p d A c n O cd dv) : dv.length = (O.length + 1) * 2 := h.own.1
theorem MarksAt.blk (h : MarksAt W b0 m O cm) : ∃ cs, Blk W m 3 cs := own_kindB h rfl
theorem MarksAt.base (h : MarksAt W b0 m O cm) : b0 ≤ m := (World.ownsRow.lt h m rfl).1
theorem DoneAt.below (h : DoneAt W b0 p d A c n O cd dv) (hb : Below W.heap.size W W') (hz : b0 ≤ W.heap.size) : DoneAt W' b0 p d A c n O cd dv :=
  ⟨own_below h.own hb, fun k hk => by obtain ⟨h1, P, cp, h2, h3⟩ := h.net k hk; exact ⟨h1, P, cp, h2, h3.below hb hz⟩⟩
theorem MarksAt.below (h : MarksAt W b0 m O cm) (hb : Below W.heap.size W W') : MarksAt W' b0 m O cm := own_below h hb
theorem DoneAt.op (h : DoneAt W b0 p d A c n O cd dv) {cs : Array Value} (hg : Blk W g 73 cs) (hp : ∀ b, p = some b → ∃ cs, Blk W b 22 cs) (hs : Stay g p W W') (hb : Below b0 W W') (hn : NewP W p p') : DoneAt W' b0 p' d A c n O cd dv :=
  ⟨own_stay h.own hs fun b e => ⟨fun e2 => own_blk_ne h.own hg (by decide) (e2 ▸ e), fun e2 => by obtain ⟨cs', hc⟩ := hp b e2; exact own_blk_ne h.own hc (by decide) e⟩,
    fun k hk => by obtain ⟨h1, P, cp, h2, h3⟩ := h.net k hk; exact ⟨h1, P, cp, h2, h3.op hg hs hb hn⟩⟩
theorem MarksAt.op (h : MarksAt W b0 m O cm) {cs : Array Value} (hg : Blk W g 73 cs) (hp : ∀ b, p = some b → ∃ cs, Blk W b 22 cs) (hs : Stay g p W W') : MarksAt W' b0 m O cm :=
  own_stay h hs fun b e => ⟨fun e2 => own_blk_ne h hg (by decide) (e2 ▸ e), fun e2 => by obtain ⟨cs', hc⟩ := hp b e2; exact own_blk_ne h hc (by decide) e⟩
theorem DoneAt.grown (h : DoneAt W b0 p d A c n O cd dv) {k : Nat} {t : TypeId} {cs : Array Value} (hk : Blk W k t cs) (h1 : 22 ≠ t) (h2 : 42 ≠ t) (hg : W.grownBy W' (some k)) (hk0 : b0 ≤ k) : DoneAt W' b0 p d A c n O cd dv :=
  ⟨own_grown h.own hg (.inr (own_blk_ne h.own hk h2)), fun j hj => by obtain ⟨x1, P, cp, x2, x3⟩ := h.net j hj; exact ⟨x1, P, cp, x2, x3.grown hk h1 hg hk0⟩⟩
theorem MarksAt.grown (h : MarksAt W b0 m O cm) {k : Nat} {t : TypeId} {cs : Array Value} (hk : Blk W k t cs) (h1 : 3 ≠ t) (hg : W.grownBy W' (some k)) : MarksAt W' b0 m O cm := own_grown h hg (.inr (own_blk_ne h hk h1))
theorem DoneAt.take (h : DoneAt W b0 p d A c n O cd dv) {k : Nat} (hk : k ≤ O.length) : DoneAt W b0 p d A c n (O.take k) cd (dv.take ((k + 1) * 2)) := by
  have e : (O.take k).length = k := by rw [List.length_take]; omega
  refine ⟨by rw [e]; exact own_cut h.own (by omega), fun j hj => ?_⟩
  rw [e] at hj
  obtain ⟨h1, P, cp, h2, h3⟩ := h.net j (by omega)
  have e2 : (O.take k).take j = O.take j := by rw [List.take_take, Nat.min_eq_left hj]
  rw [e2]
  exact ⟨by rw [List.getElem?_take_of_lt (by omega)]; exact h1, P, cp, by rw [List.getElem?_take_of_lt (by omega)]; exact h2, h3⟩
theorem MarksAt.take (h : MarksAt W b0 m O cm) {k : Nat} (hk : k ≤ O.length) : MarksAt W b0 m (O.take k) cm := by
  have e : (O.take k).length = k := by rw [List.length_take]; omega
  unfold MarksAt
  rw [← LG.marks_take hk, List.map_take, e]
  have := own_cut (k := k + 1) (show W.ownsRow b0 3 1 (.slice (some ⟨m, 0, none⟩) (O.length + 1) cm) (O.length + 1) ((LG.marks O).map (Value.int .i64)) from h) (by omega)
  rw [Nat.mul_one] at this
  exact this
/-- one net more -/
theorem DoneAt.push (h : DoneAt W b0 p d A c n O cd dv) (o : LG.Op) {P : Option Addr} {cp : Nat} (hr : RowsK W b0 p P cp (LG.runs (O ++ [o]))) {d' cd' : Nat} (hown : W'.ownsRow b0 42 2 (.slice (some ⟨d', 0, none⟩) (O.length + 1 + 1) cd') (O.length + 1 + 1) (dv ++ [.slice A n c, .slice P (LG.runs (O ++ [o])).length cp])) (hg : W.grownBy W' (some d)) :
    DoneAt W' b0 p d' A c n (O ++ [o]) cd' (dv ++ [.slice A n c, .slice P (LG.runs (O ++ [o])).length cp]) := by
  obtain ⟨cs, hk⟩ := h.blk
  have hb := h.base
  have hl := h.len
  have e : (O ++ [o]).length = O.length + 1 := by simp
  refine ⟨by rw [e]; exact hown, fun k hk' => ?_⟩
  by_cases hk2 : k ≤ O.length
  · obtain ⟨h1, P', cp', h2, h3⟩ := h.net k hk2
    have e2 : (O ++ [o]).take k = O.take k := List.take_append_of_le_length hk2
    rw [e2]
    exact ⟨by rw [List.getElem?_append_left (by omega)]; exact h1, P', cp', by rw [List.getElem?_append_left (by omega)]; exact h2, h3.grown hk (by decide) hg hb⟩
  · have hkk : k = O.length + 1 := by omega
    have e2 : (O ++ [o]).take k = O ++ [o] := List.take_of_length_le (by omega)
    rw [e2]
    exact ⟨by rw [List.getElem?_append_right (by omega), show k * 2 - dv.length = 0 by omega]; rfl, P, cp, by rw [List.getElem?_append_right (by omega), show k * 2 + 1 - dv.length = 1 by omega]; rfl, hr.grown hk (by decide) hg hb⟩
theorem MarksAt.push (o : LG.Op) {m' cm' : Nat} (hown : W'.ownsRow b0 3 1 (.slice (some ⟨m', 0, none⟩) (O.length + 1 + 1) cm') (O.length + 1 + 1) ((LG.marks O).map (Value.int .i64) ++ [.int .i64 ((LG.flat (O ++ [o])).length : Int)])) :
    MarksAt W' b0 m' (O ++ [o]) cm' := by
  have e : (O ++ [o]).length = O.length + 1 := by simp
  unfold MarksAt
  rw [LG.marks_snoc, List.map_append, e]
  exact hown
theorem own_cellK {w : World} {base e size n m c b : Nat} {xs : List Value} (h : w.ownsRow base e size (.slice (some ⟨b, 0, none⟩) m c) n xs) {j : Nat} {u : Value} (hu : xs[j]? = some u) : w.cell? ⟨b, j, none⟩ = some u := by
  have := h.cells (g := b) rfl j u hu
  rw [show (⟨b, 0, none⟩ : Addr).add j = ⟨b, j, none⟩ by unfold Addr.add; split <;> simp_all] at this
  exact this
/-- the net behind so many records -/
theorem DoneAt.at_ (h : DoneAt W b0 p d A c n O cd dv) {k : Nat} (hk : k ≤ O.length) : ∃ P cp, W.cell? ⟨d, k * 2, none⟩ = some (.slice A n c) ∧ W.cell? ⟨d, k * 2 + 1, none⟩ = some (.slice P (LG.runs (O.take k)).length cp) ∧ RowsK W b0 p P cp (LG.runs (O.take k)) := by
  obtain ⟨h1, P, cp, h2, h3⟩ := h.net k hk
  exact ⟨P, cp, own_cellK h.own h1, own_cellK h.own h2, h3⟩
theorem DoneAt.last (h : DoneAt W b0 p d A c n O cd dv) : ∃ P cp, W.cell? ⟨d, O.length * 2, none⟩ = some (.slice A n c) ∧ W.cell? ⟨d, O.length * 2 + 1, none⟩ = some (.slice P (LG.runs O).length cp) ∧ RowsK W b0 p P cp (LG.runs O) := by
  have := h.at_ (Nat.le_refl O.length)
  rwa [List.take_length] at this
theorem MarksAt.at_ (h : MarksAt W b0 m O cm) {k : Nat} (hk : k ≤ O.length) : W.cell? ⟨m, k, none⟩ = some (.int .i64 ((LG.flat (O.take k)).length : Int)) :=
  own_cellK h (by rw [List.getElem?_map, LG.marks_at hk]; rfl)
theorem DoneAt.room (h : DoneAt W b0 p d A c n O cd dv) : O.length + 1 ≤ cd ∧ cd ≤ maxLen ∧ d < W.heap.size := by
  obtain ⟨A', c', e, h1, h2, _⟩ := owns_reads h.own
  injection e with _ _ e
  subst e
  exact ⟨h1, h2, (h.own.lt d rfl).2⟩
theorem MarksAt.room (h : MarksAt W b0 m O cm) : O.length + 1 ≤ cm ∧ cm ≤ maxLen ∧ m < W.heap.size := by
  obtain ⟨A', c', e, h1, h2, _⟩ := owns_reads h
  injection e with _ _ e
  subst e
  exact ⟨h1, h2, (World.ownsRow.lt h m rfl).2⟩
end
theorem NetOwn.grownB {W W' : World} {base k : Nat} {cv pv : Value} {vs : List Value} {caps : List Int} {L : List (List Int)} (h : NetOwn W base cv pv vs caps L) (hg : W.grownBy W' (some k)) (h1 : cv.ownBlock ≠ some k) (h2 : pv.ownBlock ≠ some k) (h3 : ∀ u ∈ vs, u.ownBlock ≠ some k) : NetOwn W' base cv pv vs caps L :=
  ⟨own_grown h.capO hg (.inr h1), own_grown h.own hg (.inr h2), fun i u l a b => own_grown (h.row i u l a b) hg (.inr (h3 u (List.mem_of_getElem? a))), h.apC, h.apR⟩
section
variable {W W' : World} {b0 g m d : Nat} {C : Option Addr} {cc : Nat} {caps : List Int} {i : Nat} {O : List LG.Op} {p : Option Nat} {bs : ByteArray} {safe : Nat} {left : Int} {st : Bool}
theorem LogT.blk (h : LogT W b0 g m C cc caps i O p bs safe left st) : ∃ cs, Blk W g 73 cs := by
  obtain ⟨P, cp, vs, h1, _⟩ := h.log
  exact ⟨_, h1.blk⟩
theorem LogT.own (h : LogT W b0 g m C cc caps i O p bs safe left st) : ∀ b, p = some b → ∃ cs, Blk W b 22 cs := by
  obtain ⟨P, cp, vs, h1, h2, _⟩ := h.log
  exact fun b e => own_kindB h1.net.own (h2.trans e)
theorem LogT.grownD (h : LogT W b0 g m C cc caps i O p bs safe left st) {cs : Array Value} (hk : Blk W d 42 cs) (hg : W.grownBy W' (some d)) : LogT W' b0 g m C cc caps i O p bs safe left st := by
  obtain ⟨P, cp, vs, h1, h2, h3, h4⟩ := h.log
  have hne : g ≠ d := Blk.ne_ h1.blk hk (by decide)
  refine ⟨⟨P, cp, vs, ⟨h1.blk.grown hg (fun e => hne (by injection e)), h1.net.grownB hg (own_blk_ne h1.net.capO hk (by decide)) (own_blk_ne h1.net.own hk (by decide)) (fun u hu => ?_), h1.lo⟩, h2, h3, h4⟩, Nat.lt_of_lt_of_le h.ml hg.size, h.bytes, h.ok, h.num, h.len, h.sf, h.l1, h.l2, Nat.le_trans h.sz hg.size⟩
  obtain ⟨j, hj, e⟩ := List.getElem_of_mem hu
  have hl : j < (LG.runs O).length := by rw [← h1.net.len]; exact hj
  exact own_blk_ne (h1.net.row j u _ (by rw [← e]; exact List.getElem?_eq_getElem hj) (List.getElem?_eq_getElem hl)) hk (by decide)
theorem LogT.grownM (h : LogT W b0 g m C cc caps i O p bs safe left st) {cs : Array Value} (hk : Blk W m 3 cs) (hg : W.grownBy W' (some m)) {m' : Nat} (hm : m' = m ∨ W.heap.size ≤ m') (hl : m' < W'.heap.size) : LogT W' b0 g m' C cc caps i O p bs safe left st := by
  obtain ⟨P, cp, vs, h1, h2, h3, h4⟩ := h.log
  have hne : g ≠ m := Blk.ne_ h1.blk hk (by decide)
  have hlt := h1.net.lt
  refine ⟨⟨P, cp, vs, ⟨h1.blk.grown hg (fun e => hne (by injection e)), h1.net.grownB hg h3 (own_blk_ne h1.net.own hk (by decide)) h4, h1.lo⟩, h2, ?_, ?_⟩, hl, h.bytes, h.ok, h.num, h.len, h.sf, h.l1, h.l2, Nat.le_trans h.sz hg.size⟩
  · rcases hm with rfl | hm
    · exact h3
    · intro e
      have := hlt m' (.inl e)
      omega
  · rcases hm with rfl | hm
    · exact h4
    · intro u hu e
      obtain ⟨j, hj, e2⟩ := List.getElem_of_mem hu
      have := hlt m' (.inr ⟨j, u, by rw [← e2]; exact List.getElem?_eq_getElem hj, e⟩)
      omega
end
/-- the log's questions -/
theorem tbytes_any (W : World) (b0 g m : Nat) (C : Option Addr) (cc : Nat) (caps : List Int) (i : Nat) (O : List LG.Op) (p : Option Nat) (bs : ByteArray) (safe : Nat) (left : Int) (st : Bool) (h : LogT W b0 g m C cc caps i O p bs safe left st) :
    Calls Tryz.prog 14 #[.pointer (some ⟨g, 0, none⟩)] W fun e w' => e = .returned (.int .i64 bs.size) ∧ Below W.heap.size W w' := by
  obtain ⟨P, cp, vs, hL, _⟩ := h.log
  exact lbytes_any W b0 g _ _ vs caps _ bs safe left st hL
theorem tsafe_any (W : World) (b0 g m : Nat) (C : Option Addr) (cc : Nat) (caps : List Int) (i : Nat) (O : List LG.Op) (p : Option Nat) (bs : ByteArray) (safe : Nat) (left : Int) (st : Bool) (h : LogT W b0 g m C cc caps i O p bs safe left st) :
    Calls Tryz.prog 15 #[.pointer (some ⟨g, 0, none⟩)] W fun e w' => e = .returned (.int .i64 safe) ∧ Below W.heap.size W w' := by
  obtain ⟨P, cp, vs, hL, _⟩ := h.log
  exact lsafe_any W b0 g _ _ vs caps _ bs safe left st hL
theorem tpaths_any (W : World) (b0 g m : Nat) (C : Option Addr) (cc : Nat) (caps : List Int) (i : Nat) (O : List LG.Op) (p : Option Nat) (bs : ByteArray) (safe : Nat) (left : Int) (st : Bool) (h : LogT W b0 g m C cc caps i O p bs safe left st) (hc : caps.length ≤ 6) :
    Calls Tryz.prog 12 #[.pointer (some ⟨g, 0, none⟩)] W fun e w' => ∃ P' cp', e = .returned (.slice P' (LG.runs O).length cp') ∧ Rows2 w' w'.heap.size P' cp' (LG.runs O) ∧ Below W.heap.size W w' := by
  obtain ⟨P, cp, vs, hL, _⟩ := h.log
  have h6 := h.ok.all
  exact lpaths_any W b0 g cc C P cp vs caps _ bs safe left st hL (by omega) (by omega) fun l hl => by have := path_short (h.ok.paths l hl); omega
theorem trates_no (W : World) (b0 g m : Nat) (C : Option Addr) (cc : Nat) (caps : List Int) (i : Nat) (O : List LG.Op) (p : Option Nat) (bs : ByteArray) (safe : Nat) (left : Int) (st : Bool) (h : LogT W b0 g m C cc caps i O p bs safe left st) (er : Int) (he : netErr caps (LG.runs O) = er) (h0 : er ≠ 0) :
    Calls Tryz.prog 13 #[.pointer (some ⟨g, 0, none⟩)] W fun e w' => e = .returned (.tuple #[.slice none 0 0, .iface 74 (.int .i64 er)]) ∧ Below W.heap.size W w' := by
  obtain ⟨P, cp, vs, hL, _⟩ := h.log
  exact lrates_no W b0 g cc C P cp vs caps _ bs safe left st hL er he h0
theorem trates_yes (W : World) (b0 g m : Nat) (C : Option Addr) (cc : Nat) (caps : List Int) (i : Nat) (O : List LG.Op) (p : Option Nat) (bs : ByteArray) (safe : Nat) (left : Int) (st : Bool) (h : LogT W b0 g m C cc caps i O p bs safe left st) (he : netErr caps (LG.runs O) = 0) (K : Nat) (R : List Rat) (hK : FillEnds caps (LG.runs O) K R) :
    Calls Tryz.prog 13 #[.pointer (some ⟨g, 0, none⟩)] W fun e w' => ∃ A c, e = .returned (.tuple #[.slice A R.length c, .nilIface]) ∧ Frs w' w'.heap.size A c (R.map frQ) ∧ Below W.heap.size W w' := by
  obtain ⟨P, cp, vs, hL, _⟩ := h.log
  exact lrates_yes W b0 g cc C P cp vs caps _ bs safe left st hL he K R hK
/-- the reference's net with a flow more, at a net of the law's own -/
theorem kwith_any (W : World) (b0 : Nat) (p : Option Nat) (A : Option Addr) (c n : Nat) (P : Option Addr) (cp : Nat) (L : List (List Int)) (h : RowsK W b0 p P cp L) (hz : b0 ≤ W.heap.size) (hp : ∀ b, p = some b → b < W.heap.size) (h6 : L.length ≤ 1000) (A' : Option Addr) (c' : Nat) (path : List Int) (hi : Ints W b0 A' c' path) :
    Calls Tryz.prog 22 #[.agg #[.slice A n c, .slice P L.length cp], .slice A' path.length c'] W fun e w' => ∃ P1 cp1, e = .returned (.agg #[.slice A n c, .slice P1 (L ++ [path]).length cp1]) ∧ RowsK w' b0 p P1 cp1 (L ++ [path]) ∧ Below W.heap.size W w' := by
  obtain ⟨vs, h1, h2, h3⟩ := h
  rcases h1.2 with ⟨e, h0⟩ | ⟨g, cap, cur, e, hb, hh, hn, hm, _⟩
  · injection e with e1 e2 e3
    subst e1 e3
    obtain rfl := List.length_eq_zero_iff.1 h0
    refine (refWith_none A c n A' c' _ path b0 W hz hi rfl).mono ?_
    rintro e w' ⟨P1, cp1, rfl, ⟨us, k1, k2⟩, hb⟩
    exact ⟨P1, cp1, rfl, RowsK.fresh k1 k2 hz hp, hb⟩
  · injection e with e1 _ e3
    subst e1 e3
    refine (refWith_g A c n g 0 cp _ L vs A' c' _ path b0 W hz h2 (fun j u hu => by rw [Nat.zero_add]; exact own_cellK h1 hu) (Array.getElem?_eq_some_iff.1 hh).1 hn hm hi h6 rfl rfl).mono ?_
    rintro e w' ⟨P1, cp1, rfl, ⟨us, k1, k2⟩, hb⟩
    exact ⟨P1, cp1, rfl, RowsK.fresh k1 k2 hz hp, hb⟩
theorem kwithout_any (W : World) (b0 : Nat) (p : Option Nat) (A : Option Addr) (c n : Nat) (P : Option Addr) (cp : Nat) (L : List (List Int)) (h : RowsK W b0 p P cp L) (hz : b0 ≤ W.heap.size) (hp : ∀ b, p = some b → b < W.heap.size) (h6 : L.length ≤ 1000) (f : Nat) (hf : f < L.length) :
    Calls Tryz.prog 19 #[.agg #[.slice A n c, .slice P L.length cp], .int .i64 f] W fun e w' => ∃ P1 cp1, e = .returned (.agg #[.slice A n c, .slice P1 (L.eraseIdx f).length cp1]) ∧ RowsK w' b0 p P1 cp1 (L.eraseIdx f) ∧ Below W.heap.size W w' := by
  obtain ⟨vs, h1, h2, h3⟩ := h
  rcases h1.2 with ⟨e, h0⟩ | ⟨g, cap, cur, e, hb, hh, hn, hm, _⟩
  · omega
  · injection e with e1 _ e3
    subst e1 e3
    refine (refWithout_g A c n g 0 cp _ L vs f b0 W hz h2 (fun j u hu => by rw [Nat.zero_add]; exact own_cellK h1 hu) (Array.getElem?_eq_some_iff.1 hh).1 hn hm hf h6 rfl).mono ?_
    rintro e w' ⟨P1, cp1, rfl, ⟨us, k1, k2⟩, hb⟩
    exact ⟨P1, cp1, rfl, RowsK.fresh k1 k2 hz hp, hb⟩
/-- a new log, the first net, the first mark -/
theorem keeps_start (W : World) (b0 g : Nat) (C' : Option Addr) (cc' : Nat) (caps : List Int) (h : LogAt W b0 g (.slice C' caps.length cc') (.slice none 0 0) [] caps [] ByteArray.empty 0 (-1) false) (hz : b0 ≤ W.heap.size) (A : Option Addr) (c n : Nat) (w2 : World) (hw2 : w2 = (W.alloc (.cells #[.slice A n c, .slice none 0 0] 42)).alloc (.cells #[.int .i64 0] 3)) :
    LogT w2 b0 g (W.heap.size + 1) C' cc' caps 0 [] none ByteArray.empty 0 (-1) false ∧ DoneAt w2 b0 none W.heap.size A c n [] 1 [.slice A n c, .slice none 0 0] ∧ MarksAt w2 b0 (W.heap.size + 1) [] 1 ∧ Below W.heap.size W w2 := by
  have hb : Below W.heap.size W w2 := by
    rw [hw2]
    exact ((Below.refl _ _).alloc (Nat.le_refl _) _).alloc (by simp) _
  have hd : Blk w2 W.heap.size 42 #[.slice A n c, .slice none 0 0] := by rw [hw2]; exact (Blk.new _ _ _).alloc _
  have hm : Blk w2 (W.heap.size + 1) 3 #[.int .i64 0] := by rw [hw2]; exact Blk.new' _ _ _ (by simp)
  refine ⟨⟨⟨none, 0, [], h.below hb, rfl, fun e => ?_, by simp⟩, hm.lt, ⟨[], by simp [LG.flat], by simp, fun _ => rfl⟩, LG.Ok.nil _, Nat.le_refl _, by simp, Nat.le_refl _, by decide, by decide, Nat.le_trans hz hb.size⟩, ⟨⟨rfl, .inr ⟨_, 1, _, rfl, hz, hd, Nat.le_refl _, by simp [maxLen], rfl, rfl⟩⟩, fun k hk => ?_⟩, ⟨rfl, .inr ⟨_, 1, _, rfl, by omega, hm, Nat.le_refl _, by simp [maxLen], rfl, rfl⟩⟩, hb⟩
  · have := h.net.lt _ (.inl e)
    omega
  · have : k = 0 := by simpa using hk
    subst this
    exact ⟨rfl, none, 0, rfl, RowsK.nil _ _ _⟩
end Go.Proofs.YtaijpiebjhhkjaaGreatDoor
/- LogKeeps: the log, the nets and the marks as one state, and what each call does to it. -/
namespace Go.Proofs.YtaijpiebjhhkjaaGreatDoor
open Go.RowKit
theorem ints_cell {w : World} {B : Nat} {A : Option Addr} {c : Nat} {l : List Int} (h : Ints w B A c l) {k : Nat} (hk : k < l.length) : ∃ b off, A = some ⟨b, off, none⟩ ∧ b < B ∧ w.cell? ⟨b, off + k, none⟩ = some (.int .i64 l[k]) := by
  obtain ⟨b, off, e, hb, hc⟩ := h.rd.2 (by omega)
  exact ⟨b, off, e, hb, hc k _ (by simp [hk])⟩
structure Keeps (W w : World) (bl gl m d : Nat) (C' : Option Addr) (cc' : Nat) (caps : List Int) (C : Option Addr) (cc : Nat) (i : Nat) (OL OD OM : List LG.Op) (p : Option Nat) (bs : ByteArray) (safe : Nat) (left : Int) (st : Bool) (cn cm : Nat) (dv : List Value) : Prop where
  T : LogT W bl gl m C' cc' caps i OL p bs safe left st
  D : DoneAt W bl p d C cc caps.length OD cn dv
  M : MarksAt W bl m OM cm
  B : Below w.heap.size w W
  z : w.heap.size ≤ bl
section
variable {W W' w : World} {bl gl m d : Nat} {C' : Option Addr} {cc' : Nat} {caps : List Int} {C : Option Addr} {cc : Nat} {i : Nat} {OL OD OM : List LG.Op} {p p' : Option Nat} {bs bs' : ByteArray} {safe safe' : Nat} {left left' : Int} {st st' : Bool} {cn cm : Nat} {dv : List Value}
theorem Keeps.bz (h : Keeps W w bl gl m d C' cc' caps C cc i OL OD OM p bs safe left st cn cm dv) : w.heap.size ≤ W.heap.size := h.B.size
theorem Keeps.lz (h : Keeps W w bl gl m d C' cc' caps C cc i OL OD OM p bs safe left st cn cm dv) : bl ≤ W.heap.size := h.T.sz
theorem Keeps.below (h : Keeps W w bl gl m d C' cc' caps C cc i OL OD OM p bs safe left st cn cm dv) (hb : Below W.heap.size W W') : Keeps W' w bl gl m d C' cc' caps C cc i OL OD OM p bs safe left st cn cm dv :=
  ⟨h.T.below hb, h.D.below hb h.T.sz, h.M.below hb, h.B.trans (hb.mono h.B.size), h.z⟩
theorem Keeps.own (h : Keeps W w bl gl m d C' cc' caps C cc i OL OD OM p bs safe left st cn cm dv) : ∀ b, p = some b → b < W.heap.size := fun b e => by
  obtain ⟨cs, hk⟩ := h.T.own b e
  exact hk.lt
theorem Keeps.op (h : Keeps W w bl gl m d C' cc' caps C cc i OL OD OM p bs safe left st cn cm dv) {i' : Nat} {OL' : List LG.Op} (hT : LogT W' bl gl m C' cc' caps i' OL' p' bs' safe' left' st') (hb : Below bl W W') (hs : Stay gl p W W') (hn : NewP W p p') : Keeps W' w bl gl m d C' cc' caps C cc i' OL' OD OM p' bs' safe' left' st' cn cm dv := by
  obtain ⟨cs, hk⟩ := h.T.blk
  exact ⟨hT, h.D.op hk h.T.own hs hb hn, h.M.op hk h.T.own hs, h.B.trans (hb.mono h.z), h.z⟩
/-- what a call of the log leaves of others -/
def Leaves (W W' : World) (bl : Nat) (p p' : Option Nat) : Prop :=
  (∀ k t cs, Blk W k t cs → t ≠ 73 → t ≠ 22 → Blk W' k t cs) ∧ ∀ P cp L, RowsK W bl p P cp L → RowsK W' bl p' P cp L
theorem Keeps.leaves (h : Keeps W w bl gl m d C' cc' caps C cc i OL OD OM p bs safe left st cn cm dv) (hb : Below bl W W') (hs : Stay gl p W W') (hn : NewP W p p') : Leaves W W' bl p p' := by
  obtain ⟨cs, hk⟩ := h.T.blk
  refine ⟨fun k t cs' hb' h1 h2 => hb'.stay hs (Blk.ne_ hb' hk h1) fun e => ?_, fun P cp L hr => hr.op hk hs hb hn⟩
  obtain ⟨cs2, hk2⟩ := h.T.own k e
  exact Blk.ne_ hb' hk2 h2 rfl
theorem Keeps.pushD (h : Keeps W w bl gl m d C' cc' caps C cc i OL OD OM p bs safe left st cn cm dv) (o : LG.Op) {P : Option Addr} {cp n1 : Nat} (hr : RowsK W bl p P cp (LG.runs (OD ++ [o]))) (hn1 : n1 = (LG.runs (OD ++ [o])).length) {d' cd' : Nat} (hown : W'.ownsRow bl 42 2 (.slice (some ⟨d', 0, none⟩) (OD.length + 1 + 1) cd') (OD.length + 1 + 1) (dv ++ [.slice C caps.length cc, .slice P n1 cp])) (hg : W.grownBy W' (some d)) :
    Keeps W' w bl gl m d' C' cc' caps C cc i OL (OD ++ [o]) OM p bs safe left st cd' cm (dv ++ [.slice C caps.length cc, .slice P n1 cp]) := by
  subst hn1
  obtain ⟨cs, hk⟩ := h.D.blk
  exact ⟨h.T.grownD hk hg, h.D.push o hr hown hg, h.M.grown hk (by decide) hg, h.B.trans ((grown_below hg h.D.base h.T.sz).mono h.z), h.z⟩
theorem Keeps.pushM (h : Keeps W w bl gl m d C' cc' caps C cc i OL OD OM p bs safe left st cn cm dv) (o : LG.Op) {x : Int} (hx : x = ((LG.flat (OM ++ [o])).length : Int)) {m' cm' : Nat} (hown : W'.ownsRow bl 3 1 (.slice (some ⟨m', 0, none⟩) (OM.length + 1 + 1) cm') (OM.length + 1 + 1) ((LG.marks OM).map (Value.int .i64) ++ [.int .i64 x])) (hg : W.grownBy W' (some m)) (hm : some m = some m' ∨ W.heap.size ≤ m') (hl : m' < W'.heap.size) :
    Keeps W' w bl gl m' d C' cc' caps C cc i OL OD (OM ++ [o]) p bs safe left st cn cm' dv := by
  subst hx
  obtain ⟨cs, hk⟩ := h.M.blk
  exact ⟨h.T.grownM hk hg (hm.imp (fun e => by injection e with e; exact e.symm) id) hl, h.D.grown hk (by decide) (by decide) hg h.M.base, MarksAt.push o hown, h.B.trans ((grown_below hg h.M.base h.T.sz).mono h.z), h.z⟩
theorem Keeps.take (h : Keeps W w bl gl m d C' cc' caps C cc i OL OD OM p bs safe left st cn cm dv) {k : Nat} (h1 : k ≤ OD.length) (h2 : k ≤ OM.length) : Keeps W w bl gl m d C' cc' caps C cc i OL (OD.take k) (OM.take k) p bs safe left st cn cm (dv.take ((k + 1) * 2)) :=
  ⟨h.T, h.D.take h1, h.M.take h2, h.B, h.z⟩
end
theorem Keeps.drew {W w : World} {bl gl m d : Nat} {C' : Option Addr} {cc' : Nat} {caps : List Int} {C : Option Addr} {cc : Nat} {i : Nat} {OL OD OM : List LG.Op} {p : Option Nat} {bs : ByteArray} {safe : Nat} {left : Int} {st : Bool} {cn cm : Nat} {dv : List Value} (h : Keeps W w bl gl m d C' cc' caps C cc i OL OD OM p bs safe left st cn cm dv) : Keeps W.drew w bl gl m d C' cc' caps C cc i OL OD OM p bs safe left st cn cm dv := h.below (Below.refl _ _).drew
theorem RowsK.drew {W : World} {b0 : Nat} {p : Option Nat} {P : Option Addr} {cp : Nat} {L : List (List Int)} (h : RowsK W b0 p P cp L) (hz : b0 ≤ W.heap.size) : RowsK W.drew b0 p P cp L := h.below (Below.refl _ _).drew hz
/-- what an asked record comes to: one record more, or an error -/
def LkOut (W' : World) (bl gn : Nat) (C : Option Addr) (nc cc : Nat) (O O' : List LG.Op) (p' : Option Nat) (bs bs' : ByteArray) (r e : Int) : Prop :=
  (r = 0 ∧ e = 0 ∧ (∃ o, O' = O ++ [o]) ∧ bs'.data.toList = LG.flat O' ∧ bs.size + 2 ≤ bs'.size ∧ ∃ P1 cp1, Blk W' (gn + 1) 42 #[.slice C nc cc, .slice P1 (LG.runs O').length cp1] ∧ RowsK W' bl p' P1 cp1 (LG.runs O')) ∨ (r ≠ 0 ∧ O' = O ∧ (r = 6 ∨ r = e))
/-- a store into a box of the walk's own -/
theorem set_grown (W : World) (k j : Nat) (u : Value) : W.grownBy (W.setCell ⟨k, j, none⟩ u) (some k) :=
  ⟨rfl, rfl, rfl, by simp [World.setCell], fun i hi hne => Below.heap_setCell W ⟨k, j, none⟩ u i fun e => hne (by rw [e])⟩
theorem Keeps.box {W w : World} {bl gl m d : Nat} {C' : Option Addr} {cc' : Nat} {caps : List Int} {C : Option Addr} {cc : Nat} {i : Nat} {OL OD OM : List LG.Op} {p : Option Nat} {bs : ByteArray} {safe : Nat} {left : Int} {st : Bool} {cn cm : Nat} {dv : List Value} (h : Keeps W w bl gl m d C' cc' caps C cc i OL OD OM p bs safe left st cn cm dv) {k : Nat} {cs : Array Value} (hk : Blk W k 42 cs) (hd : k ≠ d) (hb : bl ≤ k) (j : Nat) (u : Value) : Keeps (W.setCell ⟨k, j, none⟩ u) w bl gl m d C' cc' caps C cc i OL OD OM p bs safe left st cn cm dv := by
  have hg := set_grown W k j u
  refine ⟨h.T.grownD hk hg, ⟨own_grown h.D.own hg (.inr fun e => hd (by injection e with e; exact e.symm)), fun q hq => ?_⟩, h.M.grown hk (by decide) hg, h.B.trans ((grown_below hg hb h.T.sz).mono h.z), h.z⟩
  obtain ⟨x1, P, cp, x2, x3⟩ := h.D.net q hq
  exact ⟨x1, P, cp, x2, x3.grown hk (by decide) hg hb⟩
theorem RowsK.box {W : World} {bl : Nat} {p : Option Nat} {P : Option Addr} {cp : Nat} {L : List (List Int)} (h : RowsK W bl p P cp L) {k : Nat} {cs : Array Value} (hk : Blk W k 42 cs) (hb : bl ≤ k) (j : Nat) (u : Value) : RowsK (W.setCell ⟨k, j, none⟩ u) bl p P cp L := h.grown hk (by decide) (set_grown W k j u) hb
/-- an error, asked for -/
theorem same_rx (r x : Int) (w : World) (hg : Laid w) : Calls Tryz.prog 17 #[errVal r, .int .i64 x] w fun e w' => e = .returned (.bool (r == x)) ∧ Below w.heap.size w w' := by
  by_cases h : r = 0
  · subst h; exact (same_nil x w).mono fun _ _ h => h
  · rw [errVal_pos h]
    exact same_err r x w hg
theorem Tryz.info_net : (Tryz.prog.info? 42).map (fun i => (i.zero, i.size, i.bytes)) = some (some (.agg #[.slice none 0 0, .slice none 0 0]), 2, 48) := by kernel_rfl
section
variable (W w : World) (bl gl m d : Nat) (C' : Option Addr) (cc' : Nat) (caps : List Int) (C : Option Addr) (cc : Nat) (i : Nat) (OL OD OM : List LG.Op) (p : Option Nat) (bs : ByteArray) (safe : Nat) (left : Int) (st : Bool) (cn cm : Nat) (dv : List Value)
theorem keeps_bytes (h : Keeps W w bl gl m d C' cc' caps C cc i OL OD OM p bs safe left st cn cm dv) :
    Calls Tryz.prog 14 #[.pointer (some ⟨gl, 0, none⟩)] W fun e w' => e = .returned (.int .i64 bs.size) ∧ Keeps w' w bl gl m d C' cc' caps C cc i OL OD OM p bs safe left st cn cm dv ∧ Below W.heap.size W w' :=
  (tbytes_any W bl gl m C' cc' caps i OL p bs safe left st h.T).mono fun _ _ ⟨h1, h2⟩ => ⟨h1, h.below h2, h2⟩
theorem keeps_safe (h : Keeps W w bl gl m d C' cc' caps C cc i OL OD OM p bs safe left st cn cm dv) :
    Calls Tryz.prog 15 #[.pointer (some ⟨gl, 0, none⟩)] W fun e w' => e = .returned (.int .i64 safe) ∧ Keeps w' w bl gl m d C' cc' caps C cc i OL OD OM p bs safe left st cn cm dv ∧ Below W.heap.size W w' :=
  (tsafe_any W bl gl m C' cc' caps i OL p bs safe left st h.T).mono fun _ _ ⟨h1, h2⟩ => ⟨h1, h.below h2, h2⟩
theorem keeps_paths (h : Keeps W w bl gl m d C' cc' caps C cc i OL OD OM p bs safe left st cn cm dv) (hc : caps.length ≤ 6) :
    Calls Tryz.prog 12 #[.pointer (some ⟨gl, 0, none⟩)] W fun e w' => ∃ P' cp', e = .returned (.slice P' (LG.runs OL).length cp') ∧ Rows2 w' w'.heap.size P' cp' (LG.runs OL) ∧ Keeps w' w bl gl m d C' cc' caps C cc i OL OD OM p bs safe left st cn cm dv ∧ Below W.heap.size W w' :=
  (tpaths_any W bl gl m C' cc' caps i OL p bs safe left st h.T hc).mono fun _ _ ⟨P', cp', h1, h2, h3⟩ => ⟨P', cp', h1, h2, h.below h3, h3⟩
theorem keeps_sync (h : Keeps W w bl gl m d C' cc' caps C cc i OL OD OM p bs safe left st cn cm dv) (hi : i ≤ 1000) :
    Calls Tryz.prog 10 #[.pointer (some ⟨gl, 0, none⟩)] W fun e w' => ∃ r safe' left' st', e = .returned (errVal r) ∧ Keeps w' w bl gl m d C' cc' caps C cc i OL OD OM p bs safe' left' st' cn cm dv ∧ ((r = 0 ∧ safe' = bs.size) ∨ (r = 6 ∧ safe' = safe)) := by
  refine (tsync_any W bl gl m C' cc' caps i OL p bs safe left st h.T hi).mono ?_
  rintro e w' ⟨r, safe', left', st', rfl, hT, hb, hs, hr⟩
  exact ⟨r, safe', left', st', rfl, h.op hT hb hs fun _ e => .inl e, hr⟩
theorem keeps_fail (h : Keeps W w bl gl m d C' cc' caps C cc i OL OD OM p bs safe left st cn cm dv) (n : Int) (hn : n ≤ 9223372036854775807) :
    Calls Tryz.prog 18 #[.pointer (some ⟨gl, 0, none⟩), .int .i64 n] W fun e w' => e = .returned (.tuple #[]) ∧ ∃ left', Keeps w' w bl gl m d C' cc' caps C cc i OL OD OM p bs safe left' st cn cm dv := by
  refine (tfail_any W bl gl m C' cc' caps i OL p bs safe left st h.T n hn).mono ?_
  rintro e w' ⟨rfl, ⟨left', hT⟩, hb, hs⟩
  exact ⟨rfl, left', h.op hT hb hs fun _ e => .inl e⟩
theorem keeps_crash (h : Keeps W w bl gl m d C' cc' caps C cc i OL OD OM p bs safe left st cn cm dv) (hi : i ≤ 1000) (hg : LaidLog w) (keep : Int) (high : Nat) (hh : (safe : Int) + max 0 (min keep ((bs.size : Int) - safe)) = high) :
    Calls Tryz.prog 11 #[.pointer (some ⟨gl, 0, none⟩), .int .i64 keep] W fun e w' => e = .returned (.tuple #[]) ∧ ∃ p' bs', bs'.data.toList = LG.flat (OL.take (LG.full OL high)) ∧ Keeps w' w bl gl m d C' cc' caps C cc i (OL.take (LG.full OL high)) OD OM p' bs' bs'.size (-1) false cn cm dv := by
  refine (tcrash_any W bl gl m C' cc' caps i OL p bs safe left st h.T hi (var?_below (g := 2) h.B (by kernel_rfl) hg.lt hg.tab) (Nat.lt_of_lt_of_le hg.lt h.B.size) keep high hh).mono ?_
  rintro e w' ⟨p', bs', rfl, hT, hf, hb, hs, hn⟩
  exact ⟨rfl, p', bs', hf, h.op hT hb (hs p) fun b e => .inr (hn b e)⟩
theorem keeps_add (h : Keeps W w bl gl m d C' cc' caps C cc i OL OD OM p bs safe left st cn cm dv) (hi : i ≤ 1000) (hc : caps.length ≤ 6) (A : Option Addr) (c : Nat) (path : List Int) (hp : Ints W w.heap.size A c path) (er : Int) (he : addE caps (LG.runs OL) false path = er) :
    Calls Tryz.prog 9 #[.pointer (some ⟨gl, 0, none⟩), .slice A path.length c] W fun e w' => ∃ r O' p' bs' left' st', e = .returned (errVal r) ∧ Keeps w' w bl gl m d C' cc' caps C cc (i + 1) O' OD OM p' bs' safe left' st' cn cm dv ∧ Leaves W w' bl p p' ∧ ((r = 0 ∧ er = 0 ∧ LG.runs O' = LG.runs OL ++ [path] ∧ (∃ o, O' = OL ++ [o]) ∧ bs'.data.toList = LG.flat O' ∧ bs.size + 2 ≤ bs'.size) ∨ (r ≠ 0 ∧ O' = OL ∧ (r = 6 ∨ r = er))) := by
  refine (tadd_any W bl gl m C' cc' caps i OL p bs safe left st h.T hi hc A c path w.heap.size hp h.z er he).mono ?_
  rintro e w' ⟨r, O', p', bs', left', st', rfl, hT, hb, hs, hn0, hr⟩
  have hn := hn0.newP
  refine ⟨r, O', p', bs', left', st', rfl, h.op hT hb hs hn, h.leaves hb hs hn, ?_⟩
  rcases hr with ⟨h1, h2, h3, ⟨q, h4⟩, h5⟩ | h1
  · exact .inl ⟨h1, h2, h3, ⟨_, h4⟩, h5⟩
  · exact .inr h1
theorem keeps_drop (h : Keeps W w bl gl m d C' cc' caps C cc i OL OD OM p bs safe left st cn cm dv) (hi : i ≤ 1000) (f : Nat) (er : Int) (he : (if (LG.runs OL).length ≤ f then 1 else 0) = er) :
    Calls Tryz.prog 20 #[.pointer (some ⟨gl, 0, none⟩), .int .i64 f] W fun e w' => ∃ r O' p' bs' left' st', e = .returned (errVal r) ∧ Keeps w' w bl gl m d C' cc' caps C cc (i + 1) O' OD OM p' bs' safe left' st' cn cm dv ∧ Leaves W w' bl p p' ∧ ((r = 0 ∧ er = 0 ∧ LG.runs O' = (LG.runs OL).eraseIdx f ∧ (∃ o, O' = OL ++ [o]) ∧ bs'.data.toList = LG.flat O' ∧ bs.size + 2 ≤ bs'.size) ∨ (r ≠ 0 ∧ O' = OL ∧ (r = 6 ∨ r = er))) := by
  refine (tdrop_any W bl gl m C' cc' caps i OL p bs safe left st h.T hi f er he).mono ?_
  rintro e w' ⟨r, O', p', bs', left', st', rfl, hT, hb, hs, hn0, hr⟩
  have hn := hn0.newP
  refine ⟨r, O', p', bs', left', st', rfl, h.op hT hb hs hn, h.leaves hb hs hn, ?_⟩
  rcases hr with ⟨h1, h2, h3, h4, h5⟩ | h1
  · exact .inl ⟨h1, h2, h3, ⟨_, h4⟩, h5⟩
  · exact .inr h1
theorem keeps_with (h : Keeps W w bl gl m d C' cc' caps C cc i OL OD OM p bs safe left st cn cm dv) (P : Option Addr) (cp : Nat) (L : List (List Int)) (hr : RowsK W bl p P cp L) (h6 : L.length ≤ 1000) (A' : Option Addr) (c' : Nat) (path : List Int) (hi : Ints W w.heap.size A' c' path) :
    Calls Tryz.prog 22 #[.agg #[.slice C caps.length cc, .slice P L.length cp], .slice A' path.length c'] W fun e w' => ∃ P1 cp1, e = .returned (.agg #[.slice C caps.length cc, .slice P1 (L ++ [path]).length cp1]) ∧ RowsK w' bl p P1 cp1 (L ++ [path]) ∧ Below W.heap.size W w' :=
  kwith_any W bl p C cc caps.length P cp L hr h.T.sz h.own h6 A' c' path (hi.more h.z)
theorem keeps_without (h : Keeps W w bl gl m d C' cc' caps C cc i OL OD OM p bs safe left st cn cm dv) (P : Option Addr) (cp : Nat) (L : List (List Int)) (hr : RowsK W bl p P cp L) (h6 : L.length ≤ 1000) (f : Nat) (hf : f < L.length) :
    Calls Tryz.prog 19 #[.agg #[.slice C caps.length cc, .slice P L.length cp], .int .i64 f] W fun e w' => ∃ P1 cp1, e = .returned (.agg #[.slice C caps.length cc, .slice P1 (L.eraseIdx f).length cp1]) ∧ RowsK w' bl p P1 cp1 (L.eraseIdx f) ∧ Below W.heap.size W w' :=
  kwithout_any W bl p C cc caps.length P cp L hr h.T.sz h.own h6 f hf
end
end Go.Proofs.YtaijpiebjhhkjaaGreatDoor
/- LogKeeps' code in pieces, and its frame. -/
namespace Go.Proofs.YtaijpiebjhhkjaaGreatDoor
open Go.RowKit
set_option maxRecDepth 100000 in
theorem lk_open {a : Act} {l : List (Nat × Value)} (h : FrS a 397 l) : ∃ x : Nat → Value, a = ⟨#[x 0, x 1, x 2, x 3, x 4, x 5, x 6, x 7, x 8, x 9, x 10, x 11, x 12, x 13, x 14, x 15, x 16, x 17, x 18, x 19, x 20, x 21, x 22, x 23, x 24, x 25, x 26, x 27, x 28, x 29, x 30, x 31, x 32, x 33, x 34, x 35, x 36, x 37, x 38, x 39, x 40, x 41, x 42, x 43, x 44, x 45, x 46, x 47, x 48, x 49, x 50, x 51, x 52, x 53, x 54, x 55, x 56, x 57, x 58, x 59, x 60, x 61, x 62, x 63, x 64, x 65, x 66, x 67, x 68, x 69, x 70, x 71, x 72, x 73, x 74, x 75, x 76, x 77, x 78, x 79, x 80, x 81, x 82, x 83, x 84, x 85, x 86, x 87, x 88, x 89, x 90, x 91, x 92, x 93, x 94, x 95, x 96, x 97, x 98, x 99, x 100, x 101, x 102, x 103, x 104, x 105, x 106, x 107, x 108, x 109, x 110, x 111, x 112, x 113, x 114, x 115, x 116, x 117, x 118, x 119, x 120, x 121, x 122, x 123, x 124, x 125, x 126, x 127, x 128, x 129, x 130, x 131, x 132, x 133, x 134, x 135, x 136, x 137, x 138, x 139, x 140, x 141, x 142, x 143, x 144, x 145, x 146, x 147, x 148, x 149, x 150, x 151, x 152, x 153, x 154, x 155, x 156, x 157, x 158, x 159, x 160, x 161, x 162, x 163, x 164, x 165, x 166, x 167, x 168, x 169, x 170, x 171, x 172, x 173, x 174, x 175, x 176, x 177, x 178, x 179, x 180, x 181, x 182, x 183, x 184, x 185, x 186, x 187, x 188, x 189, x 190, x 191, x 192, x 193, x 194, x 195, x 196, x 197, x 198, x 199, x 200, x 201, x 202, x 203, x 204, x 205, x 206, x 207, x 208, x 209, x 210, x 211, x 212, x 213, x 214, x 215, x 216, x 217, x 218, x 219, x 220, x 221, x 222, x 223, x 224, x 225, x 226, x 227, x 228, x 229, x 230, x 231, x 232, x 233, x 234, x 235, x 236, x 237, x 238, x 239, x 240, x 241, x 242, x 243, x 244, x 245, x 246, x 247, x 248, x 249, x 250, x 251, x 252, x 253, x 254, x 255, x 256, x 257, x 258, x 259, x 260, x 261, x 262, x 263, x 264, x 265, x 266, x 267, x 268, x 269, x 270, x 271, x 272, x 273, x 274, x 275, x 276, x 277, x 278, x 279, x 280, x 281, x 282, x 283, x 284, x 285, x 286, x 287, x 288, x 289, x 290, x 291, x 292, x 293, x 294, x 295, x 296, x 297, x 298, x 299, x 300, x 301, x 302, x 303, x 304, x 305, x 306, x 307, x 308, x 309, x 310, x 311, x 312, x 313, x 314, x 315, x 316, x 317, x 318, x 319, x 320, x 321, x 322, x 323, x 324, x 325, x 326, x 327, x 328, x 329, x 330, x 331, x 332, x 333, x 334, x 335, x 336, x 337, x 338, x 339, x 340, x 341, x 342, x 343, x 344, x 345, x 346, x 347, x 348, x 349, x 350, x 351, x 352, x 353, x 354, x 355, x 356, x 357, x 358, x 359, x 360, x 361, x 362, x 363, x 364, x 365, x 366, x 367, x 368, x 369, x 370, x 371, x 372, x 373, x 374, x 375, x 376, x 377, x 378, x 379, x 380, x 381, x 382, x 383, x 384, x 385, x 386, x 387, x 388, x 389, x 390, x 391, x 392, x 393, x 394, x 395, x 396], []⟩ ∧ Slx x l := by
  obtain ⟨x, h1, h2⟩ := st_open h
  refine ⟨x, h1.trans ?_, h2⟩
  kernel_rfl
/-- the body of the outer loop, of the inner one; what stands in them -/
noncomputable def lk1 : Code := Code.at' [1, 1, 1, 1, 1, 1, 1, 1, 1, 1, 1, 1, 1, 1, 1, 1, 1, 0, 1, 1, 1] (Tryz.f3.body.getD .skip)
noncomputable def lkX1 : Code := Code.at' [1, 0, 1] lk1
noncomputable def lk2 : Code := Code.at' [1, 0, 1, 1, 1] lkX1
noncomputable def lkX2 : Code := Code.at' [1, 0, 1] lk2
noncomputable def lkY1 : Code := Code.dr 0 lkX2
noncomputable def lkY2 : Code := Code.dr 4 lkY1
noncomputable def lkY3 : Code := Code.dr 0 lkY2
noncomputable def lkZ1 : Code := Code.dr 1 lkX1
/-- what stays in the frame -/
def lkS (C : Option Addr) (nc cc : Nat) (P : Option Addr) (np cp : Nat) (D : Option Addr) (nd cd : Nat) (Y : Option Addr) (ny cy : Nat) (F : Option Addr) (nf cf : Nat) (K : Option Addr) (nk ck : Nat) (gl : Nat) : List (Nat × Value) :=
  [(0, .slice C nc cc), (1, .slice P np cp), (2, .slice D nd cd), (3, .slice Y ny cy), (4, .slice F nf cf), (5, .slice K nk ck), (22, .pointer (some ⟨gl, 0, none⟩))]
/-- and what the rounds turn -/
def lkR (d m n cn cm a2 ro : Nat) (l : List (Nat × Value)) : List (Nat × Value) :=
  (25, .slice (some ⟨d, 0, none⟩) (n + 1) cn) :: (26, .slice (some ⟨m, 0, none⟩) (n + 1) cm) :: (27, .int .i64 a2) :: (28, .int .i64 ro) :: l
end Go.Proofs.YtaijpiebjhhkjaaGreatDoor
