/- (*Log).Add. -/
import Derived.Test.YtaijpiebjhhkjaaGreatDoorLogKeep
import Derived.Test.YtaijpiebjhhkjaaGreatDoorLibK
namespace Go.Proofs.YtaijpiebjhhkjaaGreatDoor
open Go.RowKit
attribute [local go_sem ↓] run_min_mn run_max_mx
theorem NetOwn.bothL {w : World} {base n m cc cp : Nat} {C P : Option Addr} {vs : List Value} {caps : List Int} {L : List (List Int)} (h : NetOwn w base (.slice C n cc) (.slice P m cp) vs caps L) : Ints w w.heap.size C cc caps ∧ Rows2 w w.heap.size P cp L := by
  obtain ⟨A9, c9, hv9, _, hi9⟩ := owns_ints h.capO
  injection hv9 with e1 _ e3
  subst e1 e3
  obtain ⟨A8, c8, hv8, hr8⟩ := h.rows
  injection hv8 with e1 _ e3
  subst e1 e3
  exact ⟨hi9, hr8⟩
def addE (caps : List Int) (L : List (List Int)) (st : Bool) (path : List Int) : Int := if st = true then 6 else if L.length = 6 then 4 else pathErr caps.length path
set_option maxHeartbeats 4000000 in
theorem ladd_no (w : World) (base g cc : Nat) (C P : Option Addr) (cp : Nat) (vs : List Value) (caps : List Int) (L : List (List Int)) (bs : ByteArray) (safe left : Int) (st : Bool) (h : LogAt w base g (.slice C caps.length cc) (.slice P L.length cp) vs caps L bs safe left st)
    (A : Option Addr) (c : Nat) (path : List Int) (B : Nat) (hi : Ints w B A c path) (_ : L.length ≤ 6) (er : Int) (he : addE caps L st path = er) (h0 : er ≠ 0) :
    Calls Tryz.prog 9 #[.pointer (some ⟨g, 0, none⟩), .slice A path.length c] w fun e w' => e = .returned (.iface 74 (.int .i64 er)) ∧ Below w.heap.size w w' := by
  obtain ⟨c0, c1, c2, c3, c4, c5, f0, f1, f2, f3, f4, f5, z⟩ := h.cells
  unfold addE at he
  cases st with
  | true =>
    rw [if_pos rfl] at he
    subst he
    clear h hi h0
    go_enter Tryz.func9, Tryz.ntmps9
    go_wp2
    go_ret
    exact ⟨rfl, Below.refl _ _⟩
  | false =>
    rw [if_neg (by decide)] at he
    by_cases h6 : L.length = 6
    · rw [if_pos h6] at he
      subst he
      have h6' : ((L.length : Int) == 6) = true := by simp; omega
      clear h hi h0 h6
      go_enter Tryz.func9, Tryz.ntmps9
      go_wp2
      go_ret
      exact ⟨rfl, Below.refl _ _⟩
    · rw [if_neg h6] at he
      have h6' : ((L.length : Int) == 6) = false := beq_eq_false_iff_ne.2 (by omega)
      have hp := path_all caps.length A c path B w hi
      rw [he, errVal_pos h0] at hp
      have HP := Lib.hid hp
      clear h hi hp h0 he h6
      go_enter Tryz.func9, Tryz.ntmps9
      go_wp2_with fail
      refine HP.out.mono ?_; rintro e w' ⟨rfl, hw⟩; rw [← hw]; clear hw w'
      go_wp2
      go_ret
      exact ⟨rfl, Below.refl _ _⟩
set_option maxHeartbeats 4000000 in
theorem ladd_go (w : World) (base g cc : Nat) (C P : Option Addr) (cp : Nat) (vs : List Value) (caps : List Int) (L : List (List Int)) (bs : ByteArray) (safe left : Int) (h : LogAt w base g (.slice C caps.length cc) (.slice P L.length cp) vs caps L bs safe left false) (hl : base ≤ w.heap.size) (h1 : -1 ≤ left) (h2 : left ≤ 9223372036854775807) (h0 : left ≠ 0) (nl : Int) (hn : max (-1) (left - 1) = nl)
    (A : Option Addr) (c : Nat) (q : List Nat) (B : Nat) (hi : Ints w B A c (nints q)) (hB : B ≤ w.heap.size) (hA : ∀ b off, A = some ⟨b, off, none⟩ → b ≠ g) (hq : ∀ x ∈ q, x < 10) (hq6 : q.length ≤ 6) (hL : L.length ≤ 6) (hbs : bs.size ≤ 1000000) (he : addE caps L false (nints q) = 0) :
    Calls Tryz.prog 9 #[.pointer (some ⟨g, 0, none⟩), .slice A q.length c] w fun e w' => e = .returned .nilIface ∧ ∃ P' cp' vs' bs', LogAt w' base g (.slice C caps.length cc) (.slice P' (L.length + 1) cp') vs' caps (L ++ [nints q]) bs' safe nl false ∧ bs'.data.toList = bs.data.toList ++ LG.recB ⟨true, q⟩ ∧ bs'.size ≤ bs.size + 14 ∧ Below base w w' ∧ Stay g (Value.slice P L.length cp).ownBlock w w' ∧ ((Value.slice P' (L.length + 1) cp').ownBlock = (Value.slice P L.length cp).ownBlock ∨ ∃ i, w.heap.size ≤ i ∧ (Value.slice P' (L.length + 1) cp').ownBlock = some i) ∧ ∀ u ∈ vs', u ∈ vs ∨ ∀ b, u.ownBlock = some b → w.heap.size ≤ b := by
  obtain ⟨c0, c1, c2, c3, c4, c5, f0, f1, f2, f3, f4, f5, z⟩ := h.cells
  have H := Lib.hid (keep_add_go w base g _ P cp vs caps L bs safe left false h hl h1 h2 h0 nl hn A c q B hi hB hA hq hq6 hL hbs)
  unfold addE at he
  rw [if_neg (by decide)] at he
  have h6 : L.length ≠ 6 := by intro h6; rw [if_pos h6] at he; exact absurd he (by decide)
  rw [if_neg h6] at he
  have h6' : ((L.length : Int) == 6) = false := beq_eq_false_iff_ne.2 (by omega)
  have hp := path_all caps.length A c (nints q) B w hi
  rw [he, errVal_zero] at hp
  rw [show (nints q).length = q.length by simp] at hp
  have HP := Lib.hid hp
  clear h hi hp he h6
  go_enter Tryz.func9, Tryz.ntmps9
  go_wp2_with fail
  refine HP.out.mono ?_; rintro e w' ⟨rfl, hw⟩; rw [← hw]; clear hw w'
  go_wp2_with fail
  refine H.out.mono ?_; rintro e w' ⟨rfl, P', cp', vs', bs', h1, h2, h3, h4, h5, h6⟩
  have HR := Lib.hid (show ∃ P' cp' vs' bs', LogAt w' base g (.slice C caps.length cc) (.slice P' (L.length + 1) cp') vs' caps (L ++ [nints q]) bs' safe nl false ∧ bs'.data.toList = bs.data.toList ++ LG.recB ⟨true, q⟩ ∧ bs'.size ≤ bs.size + 14 ∧ Below base w w' ∧ Stay g (Value.slice P L.length cp).ownBlock w w' ∧ ((Value.slice P' (L.length + 1) cp').ownBlock = (Value.slice P L.length cp).ownBlock ∨ ∃ i, w.heap.size ≤ i ∧ (Value.slice P' (L.length + 1) cp').ownBlock = some i) ∧ ∀ u ∈ vs', u ∈ vs ∨ ∀ b, u.ownBlock = some b → w.heap.size ≤ b from ⟨P', cp', vs', bs', h1, h2, h3, h4, h5, h6⟩)
  clear h1 h2 h3 h4 h5 h6
  go_wp2
  go_ret
  exact ⟨rfl, HR.out⟩
set_option maxHeartbeats 2000000 in
theorem lbytes_any (w : World) (base g : Nat) (cv pv : Value) (vs : List Value) (caps : List Int) (L : List (List Int)) (bs : ByteArray) (safe left : Int) (st : Bool) (h : LogAt w base g cv pv vs caps L bs safe left st) :
    Calls Tryz.prog 14 #[.pointer (some ⟨g, 0, none⟩)] w fun e w' => e = .returned (.int .i64 bs.size) ∧ Below w.heap.size w w' := by
  obtain ⟨c0, c1, c2, c3, c4, c5, f0, f1, f2, f3, f4, f5, z⟩ := h.cells
  clear h
  go_enter Tryz.func14, Tryz.ntmps14
  go_wp2
  go_ret
  exact ⟨rfl, Below.refl _ _⟩
set_option maxHeartbeats 4000000 in
theorem lrates_no (w : World) (base g cc : Nat) (C P : Option Addr) (cp : Nat) (vs : List Value) (caps : List Int) (L : List (List Int)) (bs : ByteArray) (safe left : Int) (st : Bool) (h : LogAt w base g (.slice C caps.length cc) (.slice P L.length cp) vs caps L bs safe left st) (er : Int) (he : netErr caps L = er) (h0 : er ≠ 0) :
    Calls Tryz.prog 13 #[.pointer (some ⟨g, 0, none⟩)] w fun e w' => e = .returned (.tuple #[.slice none 0 0, .iface 74 (.int .i64 er)]) ∧ Below w.heap.size w w' := by
  obtain ⟨c0, c1, c2, c3, c4, c5, f0, f1, f2, f3, f4, f5, z⟩ := h.cells
  obtain ⟨hc, hp⟩ := h.net.bothL
  have H := Lib.hid (frates_no C cc caps P cp L.length L w.heap.size w er (Nat.le_refl _) hc hp rfl he h0)
  clear h hc hp he h0
  go_enter Tryz.func13, Tryz.ntmps13
  go_wp2_with fail
  refine H.out.mono ?_; rintro e w' ⟨rfl, hb⟩
  go_wp2
  go_ret2
  exact ⟨rfl, hb⟩
set_option maxHeartbeats 4000000 in
theorem lrates_yes (w : World) (base g cc : Nat) (C P : Option Addr) (cp : Nat) (vs : List Value) (caps : List Int) (L : List (List Int)) (bs : ByteArray) (safe left : Int) (st : Bool) (h : LogAt w base g (.slice C caps.length cc) (.slice P L.length cp) vs caps L bs safe left st) (he : netErr caps L = 0) (K : Nat) (R : List Rat) (hK : FillEnds caps L K R) :
    Calls Tryz.prog 13 #[.pointer (some ⟨g, 0, none⟩)] w fun e w' => ∃ A c, e = .returned (.tuple #[.slice A R.length c, .nilIface]) ∧ Frs w' w'.heap.size A c (R.map frQ) ∧ Below w.heap.size w w' := by
  obtain ⟨c0, c1, c2, c3, c4, c5, f0, f1, f2, f3, f4, f5, z⟩ := h.cells
  obtain ⟨hc, hp⟩ := h.net.bothL
  have H := Lib.hid (frates_yes C cc caps P cp L.length L w.heap.size w K R (Nat.le_refl _) hc hp rfl he hK)
  clear h hc hp he hK
  go_enter Tryz.func13, Tryz.ntmps13
  go_wp2_with fail
  refine H.out.mono ?_; rintro e w' ⟨A, c, rfl, hf, hb⟩
  have HF := Lib.hid hf
  clear hf
  go_wp2
  go_ret2
  exact ⟨A, c, rfl, HF.out, hb⟩
end Go.Proofs.YtaijpiebjhhkjaaGreatDoor
