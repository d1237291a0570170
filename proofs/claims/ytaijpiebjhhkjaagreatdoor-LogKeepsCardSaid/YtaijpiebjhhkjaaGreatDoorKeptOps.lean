/- The log's functions over records that came about rightly: whatever is asked, it is such a log behind it. -/
import Derived.Test.YtaijpiebjhhkjaaGreatDoorLogCrash2
import Derived.Test.YtaijpiebjhhkjaaGreatDoorLibU
import Derived.Test.YtaijpiebjhhkjaaGreatDoorPlKept
namespace Go.Proofs.YtaijpiebjhhkjaaGreatDoor
open Go.RowKit
structure LogI (W : World) (b0 g : Nat) (C : Option Addr) (cc : Nat) (caps : List Int) (i : Nat) (O : List LG.Op) : Prop where
  log : ∃ (P : Option Addr) (cp : Nat) (vs : List Value) (bs : ByteArray) (safe : Nat), LogAt W b0 g (.slice C caps.length cc) (.slice P (LG.runs O).length cp) vs caps (LG.runs O) bs (safe : Int) (-1) false ∧ bs.data.toList = LG.flat O ∧ bs.size ≤ 14 * i ∧ safe ≤ bs.size
  ok : LG.Ok caps.length O
  num : O.length ≤ i
  sz : b0 ≤ W.heap.size
section
variable {W W' : World} {b0 g : Nat} {C : Option Addr} {cc : Nat} {caps : List Int} {i : Nat} {O : List LG.Op}
theorem LogI.below (h : LogI W b0 g C cc caps i O) (hb : Below W.heap.size W W') : LogI W' b0 g C cc caps i O := by
  obtain ⟨P, cp, vs, bs, safe, h1, h2⟩ := h.log
  exact ⟨⟨P, cp, vs, bs, safe, h1.below hb, h2⟩, h.ok, h.num, Nat.le_trans h.sz hb.size⟩
theorem LogI.more (h : LogI W b0 g C cc caps i O) {j : Nat} (hj : i ≤ j) : LogI W b0 g C cc caps j O := by
  obtain ⟨P, cp, vs, bs, safe, h1, h2, h3, h4⟩ := h.log
  exact ⟨⟨P, cp, vs, bs, safe, h1, h2, by omega, h4⟩, h.ok, Nat.le_trans h.num hj, h.sz⟩
end
theorem kadd_any (W : World) (b0 g : Nat) (C : Option Addr) (cc : Nat) (caps : List Int) (i : Nat) (O : List LG.Op) (h : LogI W b0 g C cc caps i O) (hi : i ≤ 1000) (hc : caps.length ≤ 6) (A : Option Addr) (c : Nat) (path : List Int) (B : Nat) (hp : Ints W B A c path) (hB : B ≤ b0) :
    Calls Tryz.prog 9 #[.pointer (some ⟨g, 0, none⟩), .slice A path.length c] W fun e w' => ∃ v O', e = .returned v ∧ LogI w' b0 g C cc caps (i + 1) O' ∧ Below b0 W w' := by
  obtain ⟨P, cp, vs, bs, safe, hL, hf, hs, hsf⟩ := h.log
  obtain ⟨er, he⟩ : ∃ er, addE caps (LG.runs O) false path = er := ⟨_, rfl⟩
  by_cases h0 : er = 0
  · subst h0
    have he' := he
    unfold addE at he'
    rw [if_neg (by decide)] at he'
    have hl6 : (LG.runs O).length ≠ 6 := fun e => by rw [if_pos e] at he'; exact absurd he' (by decide)
    rw [if_neg hl6] at he'
    obtain ⟨q, hq, hq10, hq0, hq6⟩ := LG.path_nat hc he'
    have h6 := h.ok.all
    subst hq
    obtain ⟨ho, hr⟩ := h.ok.add q hq10 hq0 hq6 he' (by omega)
    have hgo := ladd_go W b0 g cc C P cp vs caps (LG.runs O) bs (safe : Int) (-1) hL h.sz (by decide) (by decide) (by decide) (-1) (by decide) A c q B hp (Nat.le_trans hB h.sz) (fun b off e => by obtain ⟨b', off', e', hb', _⟩ := hp.rd.2 (by simp [LG.ints]; omega); rw [e] at e'; cases e'; have := hL.lo; omega) hq10 hq6 h6 (by omega) he
    rw [show (LG.ints q).length = q.length by simp [LG.ints]]
    refine hgo.mono ?_
    rintro e w' ⟨rfl, P', cp', vs', bs', h1, h2, h3, h4, _, _⟩
    refine ⟨_, O ++ [⟨true, q⟩], rfl, ⟨⟨P', cp', vs', bs', safe, ?_, ?_, by omega, ?_⟩, ho, by simp; have := h.num; omega, Nat.le_trans h.sz h4.size⟩, h4⟩
    · rw [hr]
      have e1 : (LG.runs O ++ [LG.ints q]).length = (LG.runs O).length + 1 := by simp
      rw [e1]; exact h1
    · rw [LG.flat_snoc, h2, hf]
    · have := congrArg List.length h2
      rw [List.length_append, bytes_len, bytes_len] at this; omega
  · refine (ladd_no W b0 g cc C P cp vs caps (LG.runs O) bs (safe : Int) (-1) false hL A c path B hp h.ok.all er he h0).mono ?_
    rintro e w' ⟨rfl, hb⟩
    exact ⟨_, O, rfl, (h.below hb).more (Nat.le_succ i), hb.mono h.sz⟩
theorem kdrop_any (W : World) (b0 g : Nat) (C : Option Addr) (cc : Nat) (caps : List Int) (i : Nat) (O : List LG.Op) (h : LogI W b0 g C cc caps i O) (hi : i ≤ 1000) :
    Calls Tryz.prog 20 #[.pointer (some ⟨g, 0, none⟩), .int .i64 0] W fun e w' => ∃ v O', e = .returned v ∧ LogI w' b0 g C cc caps (i + 1) O' ∧ Below b0 W w' := by
  obtain ⟨P, cp, vs, bs, safe, hL, hf, hs, hsf⟩ := h.log
  by_cases h0 : (LG.runs O).length = 0
  · refine (ldrop_bad W b0 g _ P cp vs caps (LG.runs O) bs (safe : Int) (-1) hL 0 (.inr (by omega))).mono ?_
    rintro e w' ⟨rfl, hb⟩
    exact ⟨_, O, rfl, (h.below hb).more (Nat.le_succ i), hb.mono h.sz⟩
  · obtain ⟨ho, hr⟩ := h.ok.drop 0 (by omega)
    have hgo := ldrop_go W b0 g _ P cp vs caps (LG.runs O) bs (safe : Int) (-1) hL h.sz (by decide) (by decide) (by decide) (-1) (by decide) 0 (by omega) h.ok.all (by omega)
    refine hgo.mono ?_
    rintro e w' ⟨rfl, P', cp', vs', bs', h1, h2, h3, h4, _, _⟩
    refine ⟨_, O ++ [⟨false, [0]⟩], rfl, ⟨⟨P', cp', vs', bs', safe, ?_, ?_, by omega, ?_⟩, ho, by simp; have := h.num; omega, Nat.le_trans h.sz h4.size⟩, h4⟩
    · rw [hr]
      have e1 : ((LG.runs O).eraseIdx 0).length = (LG.runs O).length - 1 := List.length_eraseIdx_of_lt (by omega)
      rw [e1]; exact h1
    · rw [LG.flat_snoc, h2, hf]
    · have := congrArg List.length h2
      rw [List.length_append, bytes_len, bytes_len] at this; omega
theorem ksync_any (W : World) (b0 g : Nat) (C : Option Addr) (cc : Nat) (caps : List Int) (i : Nat) (O : List LG.Op) (h : LogI W b0 g C cc caps i O) (hi : i ≤ 1000) :
    Calls Tryz.prog 10 #[.pointer (some ⟨g, 0, none⟩)] W fun e w' => e = .returned .nilIface ∧ LogI w' b0 g C cc caps i O ∧ Below b0 W w' := by
  obtain ⟨P, cp, vs, bs, safe, hL, hf, hs, hsf⟩ := h.log
  refine (lsync_go W b0 g _ _ vs caps (LG.runs O) bs (safe : Int) (-1) hL h.sz (by decide) (by decide) (by decide) (-1) (by decide) (by omega)).mono ?_
  rintro e w' ⟨rfl, h1, h2, _⟩
  exact ⟨rfl, ⟨⟨P, cp, vs, bs, bs.size, h1, hf, hs, Nat.le_refl _⟩, h.ok, h.num, Nat.le_trans h.sz h2.size⟩, h2⟩
theorem kcrash_any (W : World) (b0 g : Nat) (C : Option Addr) (cc : Nat) (caps : List Int) (i : Nat) (O : List LG.Op) (h : LogI W b0 g C cc caps i O) (hi : i ≤ 1000) (hT : Lib.TabIs Tryz.prog W "strings.asciiSpace" .u8 Lib.asciiSpaceTab) (hv : 2 < W.heap.size) (keep : Int) :
    Calls Tryz.prog 11 #[.pointer (some ⟨g, 0, none⟩), .int .i64 keep] W fun e w' => ∃ O', e = .returned (.tuple #[]) ∧ LogI w' b0 g C cc caps i O' ∧ Below b0 W w' := by
  obtain ⟨P, cp, vs, bs, safe, hL, hf, hs, hsf⟩ := h.log
  obtain ⟨hi', hhi⟩ : ∃ k : Nat, (safe : Int) + max 0 (min keep ((bs.size : Int) - safe)) = k := ⟨((safe : Int) + max 0 (min keep ((bs.size : Int) - safe))).toNat, by omega⟩
  refine (lcrash_all W b0 g cc C P cp vs caps (LG.runs O) bs safe (-1) false hL h.sz hT hv O h.ok.sm h.ok.dr (by have := h.num; omega) [] (by simp) (by rw [hf, List.append_nil]) (by omega) hsf keep hi' hhi).mono ?_
  rintro e w' ⟨rfl, P', cp', vs', bs', h1, h2, h3, h4, _⟩
  exact ⟨_, rfl, ⟨⟨P', cp', vs', bs', bs'.size, h1, h2, by omega, Nat.le_refl _⟩, h.ok.take _, by rw [List.length_take]; have := h.num; omega, Nat.le_trans h.sz h4.size⟩, h4⟩
theorem kpaths_any (W : World) (b0 g : Nat) (C : Option Addr) (cc : Nat) (caps : List Int) (i : Nat) (O : List LG.Op) (h : LogI W b0 g C cc caps i O) (hc : caps.length ≤ 6) :
    Calls Tryz.prog 12 #[.pointer (some ⟨g, 0, none⟩)] W fun e w' => ∃ P' cp', e = .returned (.slice P' (LG.runs O).length cp') ∧ Rows2 w' w'.heap.size P' cp' (LG.runs O) ∧ Below W.heap.size W w' := by
  obtain ⟨P, cp, vs, bs, safe, hL, _⟩ := h.log
  have h6 := h.ok.all
  exact lpaths_any W b0 g cc C P cp vs caps (LG.runs O) bs _ _ _ hL (by omega) (by omega) fun l hl => by have := path_short (h.ok.paths l hl); omega
theorem krates_no (W : World) (b0 g : Nat) (C : Option Addr) (cc : Nat) (caps : List Int) (i : Nat) (O : List LG.Op) (h : LogI W b0 g C cc caps i O) (er : Int) (he : netErr caps (LG.runs O) = er) (h0 : er ≠ 0) :
    Calls Tryz.prog 13 #[.pointer (some ⟨g, 0, none⟩)] W fun e w' => e = .returned (.tuple #[.slice none 0 0, .iface 74 (.int .i64 er)]) ∧ Below W.heap.size W w' := by
  obtain ⟨P, cp, vs, bs, safe, hL, _⟩ := h.log
  exact lrates_no W b0 g cc C P cp vs caps (LG.runs O) bs _ _ _ hL er he h0
theorem krates_yes (W : World) (b0 g : Nat) (C : Option Addr) (cc : Nat) (caps : List Int) (i : Nat) (O : List LG.Op) (h : LogI W b0 g C cc caps i O) (he : netErr caps (LG.runs O) = 0) (K : Nat) (R : List Rat) (hK : FillEnds caps (LG.runs O) K R) :
    Calls Tryz.prog 13 #[.pointer (some ⟨g, 0, none⟩)] W fun e w' => ∃ A c, e = .returned (.tuple #[.slice A R.length c, .nilIface]) ∧ Frs w' w'.heap.size A c (R.map frQ) ∧ Below W.heap.size W w' := by
  obtain ⟨P, cp, vs, bs, safe, hL, _⟩ := h.log
  exact lrates_yes W b0 g cc C P cp vs caps (LG.runs O) bs _ _ _ hL he K R hK
theorem knew_yes (w : World) (A : Option Addr) (c : Nat) (caps : List Int) (h : Ints w w.heap.size A c caps) (he : linksErr caps = 0) :
    Calls Tryz.prog 8 #[.slice A caps.length c] w fun e w' => ∃ g C cc, e = .returned (.tuple #[.pointer (some ⟨g, 0, none⟩), .nilIface]) ∧ LogI w' w.heap.size g C cc caps 0 [] ∧ Below w.heap.size w w' := by
  refine (log_yes A c caps _ w h (Nat.le_refl _) he).mono ?_
  rintro e w' ⟨g, cv, rfl, hL, hb⟩
  obtain ⟨C, cc, rfl, _, _⟩ := owns_ints hL.net.capO
  exact ⟨g, C, cc, rfl, ⟨⟨none, 0, [], ByteArray.empty, 0, hL, rfl, Nat.le_refl _, Nat.le_refl _⟩, LG.Ok.nil _, Nat.le_refl _, hb.size⟩, hb⟩
end Go.Proofs.YtaijpiebjhhkjaaGreatDoor
