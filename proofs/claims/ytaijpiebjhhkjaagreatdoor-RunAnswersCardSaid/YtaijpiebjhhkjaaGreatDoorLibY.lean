/- Several texts in one: RunLog, RunDesk, RunSplit, RunWants, PlRun2. -/
import Derived.Test.YtaijpiebjhhkjaaGreatDoorLibU
import Derived.Test.YtaijpiebjhhkjaaGreatDoorLibO
import Derived.Test.YtaijpiebjhhkjaaGreatDoorLibX
import Derived.Test.YtaijpiebjhhkjaaGreatDoorLibT
import Derived.Test.YtaijpiebjhhkjaaGreatDoorLibQ
import Derived.Test.YtaijpiebjhhkjaaGreatDoorLibR
import Derived.Lib.SplitLaws
import Derived.Lib.IndexBytes
import Derived.MapKept
import Derived.Test.YtaijpiebjhhkjaaGreatDoorLibE
import Derived.Test.YtaijpiebjhhkjaaGreatDoorLibG
/- The log as run has it: it never stops. -/
namespace Go.Proofs.YtaijpiebjhhkjaaGreatDoor
open Go.RowKit
structure LogR (W : World) (b0 g : Nat) (C : Option Addr) (cc : Nat) (caps : List Int) (i : Nat) (O : List LG.Op) (p : Option Nat) : Prop where
  log : ∃ (P : Option Addr) (cp : Nat) (vs : List Value) (bs : ByteArray) (safe : Nat), LogAt W b0 g (.slice C caps.length cc) (.slice P (LG.runs O).length cp) vs caps (LG.runs O) bs (safe : Int) (-1) false ∧ (Value.slice P (LG.runs O).length cp).ownBlock = p ∧ bs.data.toList = LG.flat O ∧ bs.size ≤ 14 * i
  ok : LG.Ok caps.length O
  num : O.length ≤ i
  sz : b0 ≤ W.heap.size
def NewR (W : World) (p p' : Option Nat) : Prop := ∀ b, p' = some b → p = some b ∨ W.heap.size ≤ b
theorem newR_of {W : World} {p p' : Option Nat} (h : p' = p ∨ ∃ i, W.heap.size ≤ i ∧ p' = some i) : NewR W p p' := fun b e => by
  rcases h with rfl | ⟨i, hi, rfl⟩
  · exact .inl e
  · injection e with e
    exact .inr (e ▸ hi)
section
variable {W W' : World} {b0 g : Nat} {C : Option Addr} {cc : Nat} {caps : List Int} {i : Nat} {O : List LG.Op} {p : Option Nat}
theorem LogR.below (h : LogR W b0 g C cc caps i O p) (hb : Below W.heap.size W W') : LogR W' b0 g C cc caps i O p := by
  obtain ⟨P, cp, vs, bs, safe, h1, h2⟩ := h.log
  exact ⟨⟨P, cp, vs, bs, safe, h1.below hb, h2⟩, h.ok, h.num, Nat.le_trans h.sz hb.size⟩
theorem LogR.more (h : LogR W b0 g C cc caps i O p) {j : Nat} (hj : i ≤ j) : LogR W b0 g C cc caps j O p := by
  obtain ⟨P, cp, vs, bs, safe, h1, h2, h3, h4⟩ := h.log
  exact ⟨⟨P, cp, vs, bs, safe, h1, h2, h3, by omega⟩, h.ok, Nat.le_trans h.num hj, h.sz⟩
theorem LogR.blk (h : LogR W b0 g C cc caps i O p) : ∃ cs, Blk W g 73 cs := by
  obtain ⟨P, cp, vs, bs, safe, h1, _⟩ := h.log
  exact ⟨_, h1.blk⟩
theorem LogR.own (h : LogR W b0 g C cc caps i O p) : ∀ b, p = some b → ∃ cs, Blk W b 22 cs := by
  obtain ⟨P, cp, vs, bs, safe, h1, h2, _⟩ := h.log
  exact fun b e => own_kindB h1.net.own (h2.trans e)
end
theorem rlog_new (W : World) (b0 g : Nat) (C : Option Addr) (cc : Nat) (caps : List Int) (h : LogAt W b0 g (.slice C caps.length cc) (.slice none 0 0) [] caps [] ByteArray.empty 0 (-1) false) (hz : b0 ≤ W.heap.size) : LogR W b0 g C cc caps 0 [] none :=
  ⟨⟨none, 0, [], ByteArray.empty, 0, h, rfl, rfl, by simp⟩, LG.Ok.nil _, Nat.le_refl _, hz⟩
theorem radd_any (W : World) (b0 g : Nat) (C : Option Addr) (cc : Nat) (caps : List Int) (i : Nat) (O : List LG.Op) (p : Option Nat) (h : LogR W b0 g C cc caps i O p) (hi : i ≤ 5000) (hc : caps.length ≤ 6) (A : Option Addr) (c : Nat) (path : List Int) (hp : Ints W W.heap.size A c path) (hA : ∀ b off, A = some ⟨b, off, none⟩ → b ≠ g) (er : Int) (he : addE caps (LG.runs O) false path = er) :
    Calls Tryz.prog 9 #[.pointer (some ⟨g, 0, none⟩), .slice A path.length c] W fun e w' => ∃ O' p', e = .returned (errVal er) ∧ LogR w' b0 g C cc caps (i + 1) O' p' ∧ LG.runs O' = (if er = 0 then LG.runs O ++ [path] else LG.runs O) ∧ Below b0 W w' ∧ Stay g p W w' ∧ NewR W p p' := by
  obtain ⟨P, cp, vs, bs, safe, hL, rfl, hf, hs⟩ := h.log
  by_cases h0 : er = 0
  · subst h0
    have he' := he
    unfold addE at he'
    rw [if_neg (by decide)] at he'
    have hl6 : (LG.runs O).length ≠ 6 := fun e => by rw [if_pos e] at he'; exact absurd he' (by decide)
    rw [if_neg hl6] at he'
    obtain ⟨q, hq, hq10, hq0, hq6⟩ := LG.path_nat hc he'
    have h6 := h.ok.all
    subst hq
    obtain ⟨ho, hr⟩ := h.ok.add q hq10 hq0 hq6 he' (by omega)
    rw [show (LG.ints q).length = q.length by simp [LG.ints]]
    refine (ladd_go W b0 g cc C P cp vs caps (LG.runs O) bs (safe : Int) (-1) hL h.sz (by decide) (by decide) (by decide) (-1) (by decide) A c q _ hp (Nat.le_refl _) hA hq10 hq6 h6 (by omega) he).mono ?_
    rintro e w' ⟨rfl, P', cp', vs', bs', h1, h2, h3, h4, h5, h7⟩
    have e1 : (LG.runs O ++ [LG.ints q]).length = (LG.runs O).length + 1 := by simp
    refine ⟨O ++ [⟨true, q⟩], _, by rw [errVal_zero], ⟨⟨P', cp', vs', bs', safe, by rw [hr, e1]; exact h1, rfl, by rw [LG.flat_snoc, h2, hf], ?_⟩, ho, by simp; have := h.num; omega, Nat.le_trans h.sz h4.size⟩, by rw [if_pos rfl, hr], h4, h5, newR_of (by rw [hr, e1]; exact h7.1)⟩
    have := congrArg List.length h2
    rw [List.length_append, bytes_len, bytes_len] at this; omega
  · refine (ladd_no W b0 g cc C P cp vs caps (LG.runs O) bs (safe : Int) (-1) false hL A c path _ hp h.ok.all er he h0).mono ?_
    rintro e w' ⟨rfl, hb⟩
    exact ⟨O, _, by rw [errVal_pos h0], (h.below hb).more (Nat.le_succ i), by rw [if_neg h0], hb.mono h.sz, Stay.of_below _ _ hb, fun b e => .inl e⟩
theorem rdrop_any (W : World) (b0 g : Nat) (C : Option Addr) (cc : Nat) (caps : List Int) (i : Nat) (O : List LG.Op) (p : Option Nat) (h : LogR W b0 g C cc caps i O p) (hi : i ≤ 5000) (f : Nat) :
    Calls Tryz.prog 20 #[.pointer (some ⟨g, 0, none⟩), .int .i64 f] W fun e w' => ∃ O' p', e = .returned (errVal (if (LG.runs O).length ≤ f then 1 else 0)) ∧ LogR w' b0 g C cc caps (i + 1) O' p' ∧ LG.runs O' = (if (LG.runs O).length ≤ f then LG.runs O else (LG.runs O).eraseIdx f) ∧ Below b0 W w' ∧ Stay g p W w' ∧ NewR W p p' := by
  obtain ⟨P, cp, vs, bs, safe, hL, rfl, hf, hs⟩ := h.log
  by_cases h0 : (LG.runs O).length ≤ f
  · refine (ldrop_bad W b0 g _ P cp vs caps (LG.runs O) bs (safe : Int) (-1) hL f (.inr (by omega))).mono ?_
    rintro e w' ⟨rfl, hb⟩
    exact ⟨O, _, by rw [if_pos h0, errVal_pos (by decide)], (h.below hb).more (Nat.le_succ i), by rw [if_pos h0], hb.mono h.sz, Stay.of_below _ _ hb, fun b e => .inl e⟩
  · obtain ⟨ho, hr⟩ := h.ok.drop f (by omega)
    refine (ldrop_go W b0 g _ P cp vs caps (LG.runs O) bs (safe : Int) (-1) hL h.sz (by decide) (by decide) (by decide) (-1) (by decide) f (by omega) h.ok.all (by omega)).mono ?_
    rintro e w' ⟨rfl, P', cp', vs', bs', h1, h2, h3, h4, h5, h7⟩
    have e1 : (LG.runs (O ++ [⟨false, [f]⟩])).length = (LG.runs O).length - 1 := by rw [hr, List.length_eraseIdx_of_lt (by omega)]
    refine ⟨O ++ [⟨false, [f]⟩], _, by rw [if_neg h0, errVal_zero], ⟨⟨P', cp', vs', bs', safe, by rw [e1, hr]; exact h1, rfl, by rw [LG.flat_snoc, h2, hf], ?_⟩, ho, by simp; have := h.num; omega, Nat.le_trans h.sz h4.size⟩, by rw [if_neg h0, hr], h4, h5, newR_of (by rw [e1]; exact .inl h7.1)⟩
    have := congrArg List.length h2
    rw [List.length_append, bytes_len, bytes_len] at this; omega
section
variable (W : World) (b0 g : Nat) (C : Option Addr) (cc : Nat) (caps : List Int) (i : Nat) (O : List LG.Op) (p : Option Nat)
theorem rpaths_any (h : LogR W b0 g C cc caps i O p) (hc : caps.length ≤ 6) :
    Calls Tryz.prog 12 #[.pointer (some ⟨g, 0, none⟩)] W fun e w' => ∃ P' cp', e = .returned (.slice P' (LG.runs O).length cp') ∧ Below W.heap.size W w' := by
  obtain ⟨P, cp, vs, bs, safe, hL, _⟩ := h.log
  have h6 := h.ok.all
  exact (lpaths_any W b0 g cc C P cp vs caps (LG.runs O) bs _ _ _ hL (by omega) (by omega) fun l hl => by have := path_short (h.ok.paths l hl); omega).mono fun _ _ ⟨P', cp', h1, _, h3⟩ => ⟨P', cp', h1, h3⟩
theorem rrates_yes (h : LogR W b0 g C cc caps i O p) (he : netErr caps (LG.runs O) = 0) (K : Nat) (R : List Rat) (hK : FillEnds caps (LG.runs O) K R) :
    Calls Tryz.prog 13 #[.pointer (some ⟨g, 0, none⟩)] W fun e w' => ∃ A c, e = .returned (.tuple #[.slice A R.length c, .nilIface]) ∧ Frs w' w'.heap.size A c (R.map frQ) ∧ Below W.heap.size W w' := by
  obtain ⟨P, cp, vs, bs, safe, hL, _⟩ := h.log
  exact lrates_yes W b0 g cc C P cp vs caps (LG.runs O) bs _ _ _ hL he K R hK
end
end Go.Proofs.YtaijpiebjhhkjaaGreatDoor
/- run's desk: its rates, the least of them. -/
namespace Go.Proofs.YtaijpiebjhhkjaaGreatDoor
open Go.RowKit
open Classical in
/-- the rates of a net, as numbers -/
noncomputable def fillR (caps : List Int) (L : List (List Int)) : List Rat := if h : ∃ R K, FillEnds caps L K R then h.choose else []
theorem fillR_is {caps : List Int} {L : List (List Int)} (ok : NetOk caps L) : ∃ K, FillEnds caps L K (fillR caps L) := by
  obtain ⟨K, R, hK⟩ := fill_ends ok
  have h : ∃ R K, FillEnds caps L K R := ⟨R, K, hK⟩
  unfold fillR
  rw [dif_pos h]
  exact h.choose_spec
/-- .. none at first -/
noncomputable def ratesOf (caps : List Int) (L : List (List Int)) : List Rat := if L = [] then [] else fillR caps L
theorem ratesOf_some {caps : List Int} {L : List (List Int)} (h : L ≠ []) : ratesOf caps L = fillR caps L := if_neg h
section
variable {W : World} {b0 g : Nat} {C : Option Addr} {cc : Nat} {caps : List Int} {i : Nat} {O : List LG.Op} {p : Option Nat}
theorem LogR.net (h : LogR W b0 g C cc caps i O p) (hf : linksErr caps = 0) (hn : LG.runs O ≠ []) : netErr caps (LG.runs O) = 0 := by rw [h.ok.net hf, if_neg hn]
theorem LogR.rin (h : LogR W b0 g C cc caps i O p) (hf : linksErr caps = 0) : ∀ q ∈ ratesOf caps (LG.runs O), QIn q := by
  by_cases hn : LG.runs O = []
  · unfold ratesOf; rw [if_pos hn]; simp
  · have ok := netOk_of (h.net hf hn)
    obtain ⟨K, hK⟩ := fillR_is ok
    rw [ratesOf_some hn]
    exact fun q hq => (hK.rates ok q hq).1
theorem LogR.rlen (h : LogR W b0 g C cc caps i O p) (hf : linksErr caps = 0) : (ratesOf caps (LG.runs O)).length = (LG.runs O).length := by
  by_cases hn : LG.runs O = []
  · unfold ratesOf; rw [if_pos hn, hn]; rfl
  · have ok := netOk_of (h.net hf hn)
    obtain ⟨K, hK⟩ := fillR_is ok
    rw [ratesOf_some hn]
    exact hK.len ok
end
theorem frs_nilR (w : World) (B : Nat) : Frs w B none 0 [] := ⟨⟨by simp [frCells], fun h => absurd h (by simp)⟩, Nat.le_refl _, by simp [maxLen]⟩
abbrev deskV (g : Nat) : Value := .agg #[.pointer (some ⟨g, 0, none⟩)]
set_option maxHeartbeats 2000000 in
set_option maxRecDepth 100000 in
theorem drates_any (W : World) (b0 g : Nat) (C : Option Addr) (cc : Nat) (caps : List Int) (i : Nat) (O : List LG.Op) (p : Option Nat) (h : LogR W b0 g C cc caps i O p) (hf : linksErr caps = 0) (hc : caps.length ≤ 6) :
    Calls Tryz.prog 114 #[deskV g] W fun e w' => ∃ A c, e = .returned (.tuple #[.slice A (ratesOf caps (LG.runs O)).length c, .nilIface]) ∧ Frs w' w'.heap.size A c ((ratesOf caps (LG.runs O)).map frQ) ∧ Below W.heap.size W w' := by
  have hb := (Below.refl W.heap.size W).alloc (Nat.le_refl _) (.cells #[.pointer (some ⟨g, 0, none⟩)] 92)
  have HX1 : Hid (Blk (W.alloc (.cells #[.pointer (some ⟨g, 0, none⟩)] 92)) W.heap.size 92 #[.pointer (some ⟨g, 0, none⟩)]) := Lib.hid (Blk.new _ _ _)
  have HB1 := Lib.hid hb; have HS1 := Lib.hid (h.below hb)
  have HF := Lib.hid hf; have H := Lib.hid h
  obtain ⟨w1, hw1⟩ : ∃ x, x = W.alloc (.cells #[.pointer (some ⟨g, 0, none⟩)] 92) := ⟨_, rfl⟩
  rw [← hw1] at HX1 HB1 HS1
  clear hb h hf
  go_enter Tryz.func114, Tryz.ntmps114
  go_upto_region 1 with (fail)
  rw [← hw1]
  clear hw1
  obtain ⟨x0, xf0, xz⟩ := HX1.out.one
  go_wp2_with fail
  refine (rpaths_any w1 b0 g C cc caps i O p HS1.out hc).mono ?_; rintro e w2 ⟨P2, cp2, rfl, hb2⟩
  have HB2 := Lib.hid (HB1.out.trans (hb2.mono HB1.out.size)); have HS2 := Lib.hid (HS1.out.below hb2)
  have HX2 := Lib.hid (HX1.out.go hb2)
  clear hb2 x0 xf0 xz
  obtain ⟨x0, xf0, xz⟩ := HX2.out.one
  by_cases hn : LG.runs O = []
  · have d0 : (((LG.runs O).length : Int) == 0) = true := by rw [hn]; rfl
    have HN : Hid (ratesOf caps (LG.runs O) = []) := Lib.hid (by unfold ratesOf; rw [if_pos hn])
    clear hn
    go_wp2
    go_ret2
    exact ⟨none, 0, by rw [HN.out]; rfl, by rw [HN.out]; exact frs_nilR _ _, HB2.out⟩
  · have d0 : (((LG.runs O).length : Int) == 0) = false := beq_eq_false_iff_ne.2 fun e => hn (List.length_eq_zero_iff.1 (by omega))
    have he0 := H.out.net HF.out hn
    obtain ⟨K, hK⟩ := fillR_is (netOk_of he0)
    have HN := Lib.hid (ratesOf_some (caps := caps) hn)
    have HK := Lib.hid hK; have HE0 := Lib.hid he0
    clear hn he0 hK
    go_wp2_with fail
    refine (rrates_yes w2 b0 g C cc caps i O p HS2.out HE0.out K _ HK.out).mono ?_; rintro e w3 ⟨A3, c3, rfl, hfr, hb3⟩
    have HB3 := Lib.hid (HB2.out.trans (hb3.mono HB2.out.size)); have HF3 := Lib.hid hfr
    clear hb3 hfr
    go_wp2
    go_ret2
    exact ⟨A3, c3, by rw [HN.out]; rfl, by rw [HN.out]; exact HF3.out, HB3.out⟩
/-- the least rate -/
noncomputable def leastOf (caps : List Int) (L : List (List Int)) : Rat := (MM.srt (ratesOf caps L)).headD 0
theorem qin_bounds {q : Rat} (h : QIn q) : -9223372036854775808 ≤ q.num ∧ q.num ≤ 9223372036854775807 ∧ -9223372036854775808 ≤ (q.den : Int) ∧ (q.den : Int) ≤ 9223372036854775807 := by
  unfold QIn FracIn at h
  omega
set_option maxHeartbeats 2000000 in
set_option maxRecDepth 100000 in
theorem dleast_any (W : World) (b0 g : Nat) (C : Option Addr) (cc : Nat) (caps : List Int) (i : Nat) (O : List LG.Op) (p : Option Nat) (h : LogR W b0 g C cc caps i O p) (hf : linksErr caps = 0) (hc : caps.length ≤ 6) (hl : LaidRun W) :
    Calls Tryz.prog 117 #[deskV g] W fun e w' => (∃ (s : ByteArray) (ev : Value), e = .returned (.tuple #[.string s, ev]) ∧ ((LG.runs O = [] ∧ ev = .iface 74 (.int .i64 5)) ∨ (LG.runs O ≠ [] ∧ ev = .nilIface ∧ s.data.toList = fracW (leastOf caps (LG.runs O)).num (leastOf caps (LG.runs O)).den))) ∧ Below W.heap.size W w' := by
  have hb := (Below.refl W.heap.size W).alloc (Nat.le_refl _) (.cells #[.pointer (some ⟨g, 0, none⟩)] 92)
  have HX1 : Hid (Blk (W.alloc (.cells #[.pointer (some ⟨g, 0, none⟩)] 92)) W.heap.size 92 #[.pointer (some ⟨g, 0, none⟩)]) := Lib.hid (Blk.new _ _ _)
  have HB1 := Lib.hid hb; have HS1 := Lib.hid (h.below hb)
  have HF := Lib.hid hf; have H := Lib.hid h; have HL := Lib.hid hl
  obtain ⟨w1, hw1⟩ : ∃ x, x = W.alloc (.cells #[.pointer (some ⟨g, 0, none⟩)] 92) := ⟨_, rfl⟩
  rw [← hw1] at HX1 HB1 HS1
  clear hb h hf hl
  go_enter Tryz.func117, Tryz.ntmps117
  go_upto_region 1 with (fail)
  rw [← hw1]
  clear hw1
  obtain ⟨x0, xf0, xz⟩ := HX1.out.one
  go_wp2_with fail
  refine (drates_any w1 b0 g C cc caps i O p HS1.out HF.out hc).mono ?_; rintro e w2 ⟨A2, c2, rfl, hfr, hb2⟩
  have HB2 := Lib.hid (HB1.out.trans (hb2.mono HB1.out.size)); have HF2 := Lib.hid hfr
  clear hb2 x0 xf0 xz hfr
  by_cases hn : LG.runs O = []
  · have hr : ratesOf caps (LG.runs O) = [] := by unfold ratesOf; rw [if_pos hn]
    rw [hr] at HF2
    have HN := Lib.hid hn
    rw [hr]
    clear hn hr
    go_wp2_with fail
    refine (rleast_none A2 c2 w2 HF2.out).mono ?_; rintro e w3 ⟨rfl, hb3⟩
    have HB3 := Lib.hid (HB2.out.trans (hb3.mono HB2.out.size))
    obtain ⟨w4, hw4⟩ : ∃ x, x = w3.alloc (.cells #[.int .i64 0, .int .i64 0] 37) := ⟨_, rfl⟩
    have hb4 : Below w3.heap.size w3 w4 := by rw [hw4]; exact (Below.refl _ _).alloc (Nat.le_refl _) _
    have HX4 : Hid (Blk w4 w3.heap.size 37 #[.int .i64 0, .int .i64 0]) := Lib.hid (by rw [hw4]; exact Blk.new _ _ _)
    have HB4 := Lib.hid (HB3.out.trans (hb4.mono HB3.out.size))
    clear hb3 hb4
    go_upto_region 5 with (fail)
    rw [← hw4]
    clear hw4
    obtain ⟨y0, y1, yf0, yf1, yz⟩ := HX4.out.two
    go_wp2_with fail
    refine (fraction_any 0 0 w4 (by decide) (by decide) (by decide) (by decide) (HL.out.below HB4.out)).mono ?_; rintro e w5 ⟨s, rfl, hs, hb5⟩
    have HB5 := Lib.hid (HB4.out.trans (hb5.mono HB4.out.size))
    clear hb5 hs
    go_wp2
    go_ret2
    exact ⟨⟨s, _, rfl, .inl ⟨HN.out, rfl⟩⟩, HB5.out⟩
  · have hlen := H.out.rlen HF.out
    have h6 := H.out.ok.all
    have hin := H.out.rin HF.out
    have hpos : 0 < (LG.runs O).length := List.length_pos_iff.2 hn
    obtain ⟨m, hm⟩ : ∃ m, (MM.srt (ratesOf caps (LG.runs O)))[0]? = some m := ⟨_, List.getElem?_eq_getElem (by rw [(MM.perm_srt _).length_eq, hlen]; exact hpos)⟩
    have hlo : leastOf caps (LG.runs O) = m := by
      unfold leastOf
      rw [List.headD_eq_head?_getD, List.head?_eq_getElem?, hm]; rfl
    have hqm : QIn m := hin m ((MM.perm_srt _).mem_iff.1 (List.mem_of_getElem? hm))
    have hqb := qin_bounds hqm
    have HLO := Lib.hid hlo; have HN := Lib.hid hn; have HM := Lib.hid hm; have HIN := Lib.hid hin; have HQB := Lib.hid hqb
    have hl6 : (ratesOf caps (LG.runs O)).length ≤ 6 := by rw [hlen]; exact h6
    have HL6 := Lib.hid hl6
    clear hlo hn hm hin hqm hqb hlen hl6
    go_wp2_with fail
    refine (rleast_yes A2 c2 _ (ratesOf caps (LG.runs O)) m _ w2 (Nat.le_refl _) HF2.out rfl HL6.out HIN.out HM.out).mono ?_; rintro e w3 ⟨rfl, hb3⟩
    have HB3 := Lib.hid (HB2.out.trans (hb3.mono HB2.out.size))
    obtain ⟨w4, hw4⟩ : ∃ x, x = w3.alloc (.cells #[.int .i64 m.num, .int .i64 m.den] 37) := ⟨_, rfl⟩
    have hb4 : Below w3.heap.size w3 w4 := by rw [hw4]; exact (Below.refl _ _).alloc (Nat.le_refl _) _
    have HX4 : Hid (Blk w4 w3.heap.size 37 #[.int .i64 m.num, .int .i64 m.den]) := Lib.hid (by rw [hw4]; exact Blk.new _ _ _)
    have HB4 := Lib.hid (HB3.out.trans (hb4.mono HB3.out.size))
    clear hb3 hb4
    go_upto_region 5 with (fail)
    rw [← hw4]
    clear hw4
    obtain ⟨y0, y1, yf0, yf1, yz⟩ := HX4.out.two
    go_wp2_with fail
    refine (fraction_any m.num m.den w4 HQB.out.1 HQB.out.2.1 HQB.out.2.2.1 HQB.out.2.2.2 (HL.out.below HB4.out)).mono ?_; rintro e w5 ⟨s, rfl, hs, hb5⟩
    have HB5 := Lib.hid (HB4.out.trans (hb5.mono HB4.out.size))
    have HSS := Lib.hid hs
    clear hb5 hs
    go_wp2
    go_ret2
    exact ⟨⟨s, _, rfl, .inr ⟨HN.out, rfl, by rw [HSS.out, HLO.out]⟩⟩, HB5.out⟩
end Go.Proofs.YtaijpiebjhhkjaaGreatDoor
/- run's words: a line split at its blanks. -/
namespace Go.Proofs.YtaijpiebjhhkjaaGreatDoor
open Go.RowKit
theorem index_nonneg : ∀ (l : List UInt8) (c : UInt8), c ∈ l → 0 ≤ Lib.indexByte l c
  | [], c, h => by cases h
  | b :: l, c, h => by
    unfold Lib.indexByte
    by_cases hb : b = c
    · rw [if_pos (beq_iff_eq.2 hb)]
      exact Int.le_refl _
    · rw [if_neg (fun e => hb (beq_iff_eq.1 e))]
      have hm : c ∈ l := by
        rcases List.mem_cons.1 h with e | e
        · exact absurd e.symm hb
        · exact e
      have := index_nonneg l c hm
      rw [if_neg (by intro e; have := beq_iff_eq.1 e; omega)]
      omega
theorem cut_none (c : UInt8) : ∀ l : List UInt8, c ∉ l → RN.cutAt c l = [l]
  | [], _ => rfl
  | b :: l, h => by
    have h1 : ¬ b = c := fun e => h (by rw [e]; exact List.mem_cons_self)
    have h2 := cut_none c l fun e => h (List.mem_cons_of_mem _ e)
    unfold RN.cutAt
    rw [if_neg h1, h2]
theorem split_cut (c : UInt8) : ∀ l : List UInt8, Lib.splitK [c] 0 (l.count c) l = RN.cutAt c l
  | [] => rfl
  | b :: l => by
    by_cases hb : b = c
    · subst hb
      rw [List.count_cons_self]
      unfold Lib.splitK RN.cutAt
      have hi : Lib.index (b :: l) [b] = 0 := by rw [Lib.index_one]; unfold Lib.indexByte; rw [if_pos (beq_self_eq_true b)]
      rw [hi, if_pos rfl, if_neg (by decide)]
      show [] :: Lib.splitK [b] 0 (l.count b) l = _
      rw [split_cut b l]
    · have ih := split_cut c l
      rw [List.count_cons_of_ne (fun e => hb e)]
      by_cases hm : c ∈ l
      · obtain ⟨k, hk⟩ : ∃ k, l.count c = k + 1 := ⟨l.count c - 1, by have := List.count_pos_iff.2 hm; omega⟩
        have h0 := index_nonneg l c hm
        obtain ⟨j, hj⟩ : ∃ j : Nat, Lib.indexByte l c = j := ⟨(Lib.indexByte l c).toNat, by omega⟩
        have hi : Lib.index (b :: l) [c] = ((j + 1 : Nat) : Int) := by
          rw [Lib.index_one]
          unfold Lib.indexByte
          rw [if_neg (fun e => hb (beq_iff_eq.1 e)), hj, if_neg (by intro e; have := beq_iff_eq.1 e; omega)]
          omega
        have hi2 : Lib.index l [c] = (j : Int) := by rw [Lib.index_one, hj]
        rw [hk] at ih ⊢
        unfold Lib.splitK at ih ⊢
        rw [hi2, if_neg (by intro e; have := beq_iff_eq.1 e; omega)] at ih
        rw [hi, if_neg (by intro e; have := beq_iff_eq.1 e; omega)]
        unfold RN.cutAt
        rw [if_neg hb, ← ih]
        simp only [Int.toNat_natCast, Nat.add_zero, List.length_singleton, List.take_succ_cons, List.drop_succ_cons]
      · have hc : l.count c = 0 := List.count_eq_zero.2 hm
        rw [hc] at ih ⊢
        rw [cut_none c (b :: l) (fun e => by rcases List.mem_cons.1 e with e | e; exact hb e.symm; exact hm e)]
        rfl
theorem cut_size (c : UInt8) : ∀ (l : List UInt8) (w : List UInt8), w ∈ RN.cutAt c l → w.length ≤ l.length
  | [], w, h => by
    have : w = [] := by simpa [RN.cutAt] using h
    subst this; simp
  | b :: l, w, h => by
    have ih := cut_size c l
    unfold RN.cutAt at h
    split at h
    · rcases List.mem_cons.1 h with rfl | h
      · simp
      · have := ih w h; simp only [List.length_cons]; omega
    · split at h
      · rename_i e
        exact absurd e (RN.cutAt_ne c l)
      · rename_i x r e
        rw [e] at ih
        rcases List.mem_cons.1 h with rfl | h
        · have := ih x List.mem_cons_self; simp only [List.length_cons]; omega
        · have := ih w (List.mem_cons_of_mem _ h); simp only [List.length_cons]; omega
theorem cut_len (c : UInt8) (l : List UInt8) : (RN.cutAt c l).length ≤ l.length + 1 := by
  rw [← split_cut]
  have key : ∀ (k : Nat) (s : List UInt8), (Lib.splitK [c] 0 k s).length ≤ k + 1 := by
    intro k
    induction k with
    | zero => intro s; simp [Lib.splitK]
    | succ k ih =>
      intro s
      unfold Lib.splitK
      split
      · simp
      · rw [List.length_cons]; exact Nat.succ_le_succ (ih _)
  have := key (l.count c) l
  have := List.count_le_length (a := c) (l := l)
  omega
theorem split_any (s : ByteArray) (w : World) (hs : s.size ≤ 100000) (hl : LaidRun w) :
    Calls Tryz.prog 111 #[.string s, .string ⟨#[32]⟩] w fun e w' => ∃ S : List ByteArray, e = .returned (.slice (some ⟨w.heap.size, 0, none⟩) S.length S.length) ∧ wordsOf S = RN.cutAt 32 s.data.toList ∧ w' = w.alloc (.cells (S.map Value.string).toArray 9) := by
  obtain ⟨m, hm⟩ := hl.maxl
  refine (Tryz.strings_Split s ⟨#[32]⟩ m w (by omega) hm (by decide)).mono ?_
  rintro e w' ⟨rfl, rfl⟩
  have hlen := Lib.splitB_all ⟨#[32]⟩ (by decide) 0 _ s rfl
  refine ⟨Lib.splitB ⟨#[32]⟩ 0 (Lib.countB s ⟨#[32]⟩) s, by rw [hlen], ?_, rfl⟩
  show (Lib.splitB ⟨#[32]⟩ 0 (Lib.countB s ⟨#[32]⟩) s).map (·.data.toList) = _
  rw [Lib.splitB_data]
  show Lib.splitK [32] 0 (Lib.count s.data.toList [32]) s.data.toList = _
  rw [Lib.count_one, split_cut]
end Go.Proofs.YtaijpiebjhhkjaaGreatDoor
/- run's words: what each wants. -/
namespace Go.Proofs.YtaijpiebjhhkjaaGreatDoor
open Go.RowKit
/-- how many numbers a word wants at least, and whether more may be -/
def wantOf (l : List UInt8) : Option (Nat × Bool) :=
  if l = [97, 100, 100] then some (1, true) else if l = [100, 114, 111, 112] then some (1, false) else if l = [114, 97, 116, 101, 115] then some (0, false) else if l = [108, 101, 97, 115, 116] then some (0, false) else if l = [105, 110, 100, 101, 120] then some (1, true) else if l = [115, 112, 108, 105, 116] then some (2, true) else none
abbrev wantV (n : Nat) (b : Bool) : Value := .agg #[.int .i64 n, .bool b]
abbrev wantA : Array MapEntry := #[⟨.string ⟨#[97, 100, 100]⟩, .agg #[.int .i64 1, .bool true], 0⟩, ⟨.string ⟨#[100, 114, 111, 112]⟩, .agg #[.int .i64 1, .bool false], 1⟩, ⟨.string ⟨#[114, 97, 116, 101, 115]⟩, .agg #[.int .i64 0, .bool false], 2⟩, ⟨.string ⟨#[108, 101, 97, 115, 116]⟩, .agg #[.int .i64 0, .bool false], 3⟩, ⟨.string ⟨#[105, 110, 100, 101, 120]⟩, .agg #[.int .i64 1, .bool true], 4⟩, ⟨.string ⟨#[115, 112, 108, 105, 116]⟩, .agg #[.int .i64 2, .bool true], 5⟩]
theorem push_set {α : Type} (a : Array α) (x y : α) : (a.push x).setIfInBounds a.size y = a.push y := by
  apply Array.ext_getElem?
  intro i
  by_cases hi : i = a.size
  · subst hi; simp
  · simp [Array.getElem?_push, Ne.symm hi, hi]
theorem map_insert (w : World) (es : Array MapEntry) (clock : Nat) (s : ByteArray) (val : Value) (hf : Instr.findNow .string (.string s) es.toList 0 = some none) :
    (Instr.mapUpdate 164 (.map (some w.heap.size)) (.string s) val).run Tryz.prog (w.alloc (.map es clock)) = .ok () (w.alloc (.map (es.push ⟨.string s, val, clock⟩) (clock + 1))) := by
  have hb : (w.alloc (.map es clock)).heap[w.heap.size]? = some (.map es clock) := heap_alloc_new w _
  have hc : (Instr.checkKey false 10000 9 (.string s)).run Tryz.prog (w.alloc (.map es clock)) = .ok () (w.alloc (.map es clock)) := MapKept.run_checkKey (k := .string s) Tryz.underlying9 (by simp [MapKept.IsKey]) false 9999
  have he : ({ (w.alloc (.map es clock)) with heap := (w.alloc (.map es clock)).heap.setIfInBounds w.heap.size (.map (es.push ⟨.string s, val, clock⟩) (clock + 1)) } : World) = w.alloc (.map (es.push ⟨.string s, val, clock⟩) (clock + 1)) := by
    show ({ w with heap := (w.heap.push _).setIfInBounds w.heap.size _ } : World) = { w with heap := w.heap.push _ }
    rw [push_set]
  rw [← he]
  simp [Instr.mapUpdate, run_underlying Tryz.underlying164, MapKept.run_getObj_map hb, hc, MapKept.run_findKey Tryz.underlying9 hf, MapKept.run_setObj_map _ hb, Result.andThen]
theorem bytes_beq (s : ByteArray) (l : List UInt8) : (s == (⟨l.toArray⟩ : ByteArray)) = decide (s.data.toList = l) := by
  show (s.data == l.toArray) = _
  rw [Bool.eq_iff_iff, beq_iff_eq, decide_eq_true_eq]
  exact ⟨fun e => by rw [e], fun e => by rw [← e]⟩
theorem find_want (s : ByteArray) : (∃ n b i, wantOf s.data.toList = some (n, b) ∧ Instr.findNow .string (.string s) wantA.toList 0 = some (some (i, wantV n b))) ∨ (wantOf s.data.toList = none ∧ Instr.findNow .string (.string s) wantA.toList 0 = some none) := by
  have hb := fun l => bytes_beq s l
  by_cases h0 : s.data.toList = [97, 100, 100]
  · exact .inl ⟨1, true, 0, by unfold wantOf; simp [h0], by simp [Instr.findNow, Instr.sameNow, show (s == (⟨#[97, 100, 100]⟩ : ByteArray)) = true from by rw [hb [97, 100, 100], decide_eq_true h0]]⟩
  · have e0 : (s == (⟨#[97, 100, 100]⟩ : ByteArray)) = false := by rw [hb [97, 100, 100], decide_eq_false h0]
    by_cases h1 : s.data.toList = [100, 114, 111, 112]
    · exact .inl ⟨1, false, 1, by unfold wantOf; simp [h1], by simp [Instr.findNow, Instr.sameNow, show (s == (⟨#[100, 114, 111, 112]⟩ : ByteArray)) = true from by rw [hb [100, 114, 111, 112], decide_eq_true h1], e0]⟩
    · have e1 : (s == (⟨#[100, 114, 111, 112]⟩ : ByteArray)) = false := by rw [hb [100, 114, 111, 112], decide_eq_false h1]
      by_cases h2 : s.data.toList = [114, 97, 116, 101, 115]
      · exact .inl ⟨0, false, 2, by unfold wantOf; simp [h2], by simp [Instr.findNow, Instr.sameNow, show (s == (⟨#[114, 97, 116, 101, 115]⟩ : ByteArray)) = true from by rw [hb [114, 97, 116, 101, 115], decide_eq_true h2], e0, e1]⟩
      · have e2 : (s == (⟨#[114, 97, 116, 101, 115]⟩ : ByteArray)) = false := by rw [hb [114, 97, 116, 101, 115], decide_eq_false h2]
        by_cases h3 : s.data.toList = [108, 101, 97, 115, 116]
        · exact .inl ⟨0, false, 3, by unfold wantOf; simp [h3], by simp [Instr.findNow, Instr.sameNow, show (s == (⟨#[108, 101, 97, 115, 116]⟩ : ByteArray)) = true from by rw [hb [108, 101, 97, 115, 116], decide_eq_true h3], e0, e1, e2]⟩
        · have e3 : (s == (⟨#[108, 101, 97, 115, 116]⟩ : ByteArray)) = false := by rw [hb [108, 101, 97, 115, 116], decide_eq_false h3]
          by_cases h4 : s.data.toList = [105, 110, 100, 101, 120]
          · exact .inl ⟨1, true, 4, by unfold wantOf; simp [h4], by simp [Instr.findNow, Instr.sameNow, show (s == (⟨#[105, 110, 100, 101, 120]⟩ : ByteArray)) = true from by rw [hb [105, 110, 100, 101, 120], decide_eq_true h4], e0, e1, e2, e3]⟩
          · have e4 : (s == (⟨#[105, 110, 100, 101, 120]⟩ : ByteArray)) = false := by rw [hb [105, 110, 100, 101, 120], decide_eq_false h4]
            by_cases h5 : s.data.toList = [115, 112, 108, 105, 116]
            · exact .inl ⟨2, true, 5, by unfold wantOf; simp [h5], by simp [Instr.findNow, Instr.sameNow, show (s == (⟨#[115, 112, 108, 105, 116]⟩ : ByteArray)) = true from by rw [hb [115, 112, 108, 105, 116], decide_eq_true h5], e0, e1, e2, e3, e4]⟩
            · have e5 : (s == (⟨#[115, 112, 108, 105, 116]⟩ : ByteArray)) = false := by rw [hb [115, 112, 108, 105, 116], decide_eq_false h5]
              exact .inr ⟨by unfold wantOf; simp [h0, h1, h2, h3, h4, h5], by simp [Instr.findNow, Instr.sameNow, e0, e1, e2, e3, e4, e5]⟩
/-- a word is looked up -/
theorem look_want (W : World) (r : Nat) (s : ByteArray) (h : W.heap[r]? = some (.map wantA 6)) :
    (Instr.lookup 164 (.map (some r)) (.string s) true).run Tryz.prog W = .ok (.tuple #[match wantOf s.data.toList with | some (n, b) => wantV n b | none => wantV 0 false, .bool (wantOf s.data.toList).isSome]) W := by
  have hc : (Instr.checkKey false 10000 9 (.string s)).run Tryz.prog W = .ok () W := MapKept.run_checkKey (k := .string s) Tryz.underlying9 (by simp [MapKept.IsKey]) false 9999
  rcases find_want s with ⟨n, b, i, h1, h2⟩ | ⟨h1, h2⟩
  · rw [h1]
    simp [Instr.lookup, run_underlying Tryz.underlying164, MapKept.run_getObj_map h, hc, MapKept.run_findKey Tryz.underlying9 h2, Result.andThen]
  · rw [h1]
    simp [Instr.lookup, run_underlying Tryz.underlying164, MapKept.run_getObj_map h, hc, MapKept.run_findKey Tryz.underlying9 h2, Result.andThen]
set_option maxHeartbeats 2000000 in
set_option maxRecDepth 100000 in
theorem wants_any (w : World) : Calls Tryz.prog 112 #[] w fun e w' => e = .returned (.map (some w.heap.size)) ∧ w' = w.alloc (.map wantA 6) := by
  have i1 : (Instr.mapUpdate 164 (.map (some w.heap.size)) (.string ⟨#[97, 100, 100]⟩) (.agg #[.int .i64 1, .bool true])).run Tryz.prog (w.alloc (.map #[] 0)) = .ok () (w.alloc (.map #[⟨.string ⟨#[97, 100, 100]⟩, .agg #[.int .i64 1, .bool true], 0⟩] 1)) := map_insert w #[] 0 ⟨#[97, 100, 100]⟩ _ rfl
  have i2 : (Instr.mapUpdate 164 (.map (some w.heap.size)) (.string ⟨#[100, 114, 111, 112]⟩) (.agg #[.int .i64 1, .bool false])).run Tryz.prog (w.alloc (.map #[⟨.string ⟨#[97, 100, 100]⟩, .agg #[.int .i64 1, .bool true], 0⟩] 1)) = .ok () (w.alloc (.map #[⟨.string ⟨#[97, 100, 100]⟩, .agg #[.int .i64 1, .bool true], 0⟩, ⟨.string ⟨#[100, 114, 111, 112]⟩, .agg #[.int .i64 1, .bool false], 1⟩] 2)) := map_insert w #[⟨.string ⟨#[97, 100, 100]⟩, .agg #[.int .i64 1, .bool true], 0⟩] 1 ⟨#[100, 114, 111, 112]⟩ _ rfl
  have i3 : (Instr.mapUpdate 164 (.map (some w.heap.size)) (.string ⟨#[114, 97, 116, 101, 115]⟩) (.agg #[.int .i64 0, .bool false])).run Tryz.prog (w.alloc (.map #[⟨.string ⟨#[97, 100, 100]⟩, .agg #[.int .i64 1, .bool true], 0⟩, ⟨.string ⟨#[100, 114, 111, 112]⟩, .agg #[.int .i64 1, .bool false], 1⟩] 2)) = .ok () (w.alloc (.map #[⟨.string ⟨#[97, 100, 100]⟩, .agg #[.int .i64 1, .bool true], 0⟩, ⟨.string ⟨#[100, 114, 111, 112]⟩, .agg #[.int .i64 1, .bool false], 1⟩, ⟨.string ⟨#[114, 97, 116, 101, 115]⟩, .agg #[.int .i64 0, .bool false], 2⟩] 3)) := map_insert w #[⟨.string ⟨#[97, 100, 100]⟩, .agg #[.int .i64 1, .bool true], 0⟩, ⟨.string ⟨#[100, 114, 111, 112]⟩, .agg #[.int .i64 1, .bool false], 1⟩] 2 ⟨#[114, 97, 116, 101, 115]⟩ _ rfl
  have i4 : (Instr.mapUpdate 164 (.map (some w.heap.size)) (.string ⟨#[108, 101, 97, 115, 116]⟩) (.agg #[.int .i64 0, .bool false])).run Tryz.prog (w.alloc (.map #[⟨.string ⟨#[97, 100, 100]⟩, .agg #[.int .i64 1, .bool true], 0⟩, ⟨.string ⟨#[100, 114, 111, 112]⟩, .agg #[.int .i64 1, .bool false], 1⟩, ⟨.string ⟨#[114, 97, 116, 101, 115]⟩, .agg #[.int .i64 0, .bool false], 2⟩] 3)) = .ok () (w.alloc (.map #[⟨.string ⟨#[97, 100, 100]⟩, .agg #[.int .i64 1, .bool true], 0⟩, ⟨.string ⟨#[100, 114, 111, 112]⟩, .agg #[.int .i64 1, .bool false], 1⟩, ⟨.string ⟨#[114, 97, 116, 101, 115]⟩, .agg #[.int .i64 0, .bool false], 2⟩, ⟨.string ⟨#[108, 101, 97, 115, 116]⟩, .agg #[.int .i64 0, .bool false], 3⟩] 4)) := map_insert w #[⟨.string ⟨#[97, 100, 100]⟩, .agg #[.int .i64 1, .bool true], 0⟩, ⟨.string ⟨#[100, 114, 111, 112]⟩, .agg #[.int .i64 1, .bool false], 1⟩, ⟨.string ⟨#[114, 97, 116, 101, 115]⟩, .agg #[.int .i64 0, .bool false], 2⟩] 3 ⟨#[108, 101, 97, 115, 116]⟩ _ rfl
  have i5 : (Instr.mapUpdate 164 (.map (some w.heap.size)) (.string ⟨#[105, 110, 100, 101, 120]⟩) (.agg #[.int .i64 1, .bool true])).run Tryz.prog (w.alloc (.map #[⟨.string ⟨#[97, 100, 100]⟩, .agg #[.int .i64 1, .bool true], 0⟩, ⟨.string ⟨#[100, 114, 111, 112]⟩, .agg #[.int .i64 1, .bool false], 1⟩, ⟨.string ⟨#[114, 97, 116, 101, 115]⟩, .agg #[.int .i64 0, .bool false], 2⟩, ⟨.string ⟨#[108, 101, 97, 115, 116]⟩, .agg #[.int .i64 0, .bool false], 3⟩] 4)) = .ok () (w.alloc (.map #[⟨.string ⟨#[97, 100, 100]⟩, .agg #[.int .i64 1, .bool true], 0⟩, ⟨.string ⟨#[100, 114, 111, 112]⟩, .agg #[.int .i64 1, .bool false], 1⟩, ⟨.string ⟨#[114, 97, 116, 101, 115]⟩, .agg #[.int .i64 0, .bool false], 2⟩, ⟨.string ⟨#[108, 101, 97, 115, 116]⟩, .agg #[.int .i64 0, .bool false], 3⟩, ⟨.string ⟨#[105, 110, 100, 101, 120]⟩, .agg #[.int .i64 1, .bool true], 4⟩] 5)) := map_insert w #[⟨.string ⟨#[97, 100, 100]⟩, .agg #[.int .i64 1, .bool true], 0⟩, ⟨.string ⟨#[100, 114, 111, 112]⟩, .agg #[.int .i64 1, .bool false], 1⟩, ⟨.string ⟨#[114, 97, 116, 101, 115]⟩, .agg #[.int .i64 0, .bool false], 2⟩, ⟨.string ⟨#[108, 101, 97, 115, 116]⟩, .agg #[.int .i64 0, .bool false], 3⟩] 4 ⟨#[105, 110, 100, 101, 120]⟩ _ rfl
  have i6 : (Instr.mapUpdate 164 (.map (some w.heap.size)) (.string ⟨#[115, 112, 108, 105, 116]⟩) (.agg #[.int .i64 2, .bool true])).run Tryz.prog (w.alloc (.map #[⟨.string ⟨#[97, 100, 100]⟩, .agg #[.int .i64 1, .bool true], 0⟩, ⟨.string ⟨#[100, 114, 111, 112]⟩, .agg #[.int .i64 1, .bool false], 1⟩, ⟨.string ⟨#[114, 97, 116, 101, 115]⟩, .agg #[.int .i64 0, .bool false], 2⟩, ⟨.string ⟨#[108, 101, 97, 115, 116]⟩, .agg #[.int .i64 0, .bool false], 3⟩, ⟨.string ⟨#[105, 110, 100, 101, 120]⟩, .agg #[.int .i64 1, .bool true], 4⟩] 5)) = .ok () (w.alloc (.map #[⟨.string ⟨#[97, 100, 100]⟩, .agg #[.int .i64 1, .bool true], 0⟩, ⟨.string ⟨#[100, 114, 111, 112]⟩, .agg #[.int .i64 1, .bool false], 1⟩, ⟨.string ⟨#[114, 97, 116, 101, 115]⟩, .agg #[.int .i64 0, .bool false], 2⟩, ⟨.string ⟨#[108, 101, 97, 115, 116]⟩, .agg #[.int .i64 0, .bool false], 3⟩, ⟨.string ⟨#[105, 110, 100, 101, 120]⟩, .agg #[.int .i64 1, .bool true], 4⟩, ⟨.string ⟨#[115, 112, 108, 105, 116]⟩, .agg #[.int .i64 2, .bool true], 5⟩] 6)) := map_insert w #[⟨.string ⟨#[97, 100, 100]⟩, .agg #[.int .i64 1, .bool true], 0⟩, ⟨.string ⟨#[100, 114, 111, 112]⟩, .agg #[.int .i64 1, .bool false], 1⟩, ⟨.string ⟨#[114, 97, 116, 101, 115]⟩, .agg #[.int .i64 0, .bool false], 2⟩, ⟨.string ⟨#[108, 101, 97, 115, 116]⟩, .agg #[.int .i64 0, .bool false], 3⟩, ⟨.string ⟨#[105, 110, 100, 101, 120]⟩, .agg #[.int .i64 1, .bool true], 4⟩] 5 ⟨#[115, 112, 108, 105, 116]⟩ _ rfl
  have m0 := run_makeMap (P := Tryz.prog) 164 w
  go_enter Tryz.func112, Tryz.ntmps112
  go_wp2
  go_ret
  exact ⟨rfl, rfl⟩
end Go.Proofs.YtaijpiebjhhkjaaGreatDoor
/- Plain: what a line is answered. -/
namespace Go.Proofs.YtaijpiebjhhkjaaGreatDoor
open Go.RowKit
/-- a line's end: it cannot be read; an error; a text -/
inductive LineR where
  | bad
  | err (er : Int)
  | ok (l : List UInt8)
/-- two numbers of it -/
def idxOf (l : List Int) : LineR := if idxErr l = 0 then .ok (fracW (idxT l) (idxB l)) else .err (idxErr l)
def splOf (l : List Int) : LineR := if splitErr (l.headD 0) l.tail = 0 then .ok (toldW ((splitL (l.headD 0) l.tail).map Lib.itoa)) else .err (splitErr (l.headD 0) l.tail)
/-- a word with its numbers, over the flows L: the answer, the flows behind it -/
noncomputable def wordOf (caps : List Int) (L : List (List Int)) (h : List UInt8) (l : List Nat) : LineR × List (List Int) :=
  if h = [97, 100, 100] then (if addE caps L false (nints l) = 0 then (.ok [111, 107], L ++ [nints l]) else (.err (addE caps L false (nints l)), L))
  else if h = [100, 114, 111, 112] then (if L.length ≤ l.headD 0 then (.err 1, L) else (.ok [111, 107], L.eraseIdx (l.headD 0)))
  else if h = [114, 97, 116, 101, 115] then (.ok (toldW ((ratesOf caps L).map fun q => fracW q.num q.den)), L)
  else if h = [108, 101, 97, 115, 116] then (if L = [] then (.err 5, L) else (.ok (fracW (leastOf caps L).num (leastOf caps L).den), L))
  else if h = [105, 110, 100, 101, 120] then (idxOf (nints l), L) else (splOf (nints l), L)
noncomputable def lineOf (caps : List Int) (L : List (List Int)) (line : List UInt8) : LineR × List (List Int) :=
  match RN.cutAt 32 line with
  | [] => (.bad, L)
  | h :: t => match wantOf h, RN.nums t with
    | some (n, m), some l => if l.length < n ∨ (n < l.length ∧ m = false) then (.bad, L) else wordOf caps L h l
    | _, _ => (.bad, L)
/-- what the program hands back -/
def LineIs (r : LineR) (sv : ByteArray) (ev : Value) : Prop :=
  match r with
  | .bad => ev = .iface 121 (.agg #[.iface 74 (.int .i64 2)])
  | .err er => er ≠ 0 ∧ ev = .iface 74 (.int .i64 er)
  | .ok l => ev = .nilIface ∧ sv.data.toList = l
end Go.Proofs.YtaijpiebjhhkjaaGreatDoor
