/- The log: Add that stops, Sync, Fail, Drop of what has stopped, Safe, Paths. -/
import Derived.Test.YtaijpiebjhhkjaaGreatDoorLogKeep2
namespace Go.Proofs.YtaijpiebjhhkjaaGreatDoor
open Go.RowKit
attribute [local go_sem ↓] run_min_mn run_max_mx
set_option maxHeartbeats 4000000 in
theorem ladd_stop (w : World) (base g cc : Nat) (C P : Option Addr) (cp : Nat) (vs : List Value) (caps : List Int) (L : List (List Int)) (bs : ByteArray) (safe : Int) (h : LogAt w base g (.slice C caps.length cc) (.slice P L.length cp) vs caps L bs safe 0 false) (hl : base ≤ w.heap.size)
    (A : Option Addr) (c : Nat) (q : List Nat) (B : Nat) (hi : Ints w B A c (nints q)) (hB : B ≤ w.heap.size) (hq : ∀ x ∈ q, x < 10) (hq6 : q.length ≤ 6) (_ : L.length ≤ 6) (hbs : bs.size ≤ 1000000) (he : addE caps L false (nints q) = 0) :
    Calls Tryz.prog 9 #[.pointer (some ⟨g, 0, none⟩), .slice A q.length c] w fun e w' => e = .returned (.iface 74 (.int .i64 6)) ∧ ∃ bs', LogAt w' base g (.slice C caps.length cc) (.slice P L.length cp) vs caps L bs' safe (-1) true ∧ (∃ t, bs'.data.toList = bs.data.toList ++ t ∧ (10 : UInt8) ∉ t) ∧ bs'.size ≤ bs.size + 14 ∧ Below base w w' ∧ ∀ p, Stay g p w w' := by
  obtain ⟨c0, c1, c2, c3, c4, c5, f0, f1, f2, f3, f4, f5, z⟩ := h.cells
  have H := Lib.hid (keep_stop 43 (by decide) w base g _ _ vs caps L bs safe 0 false h hl rfl A c q B hi hB hq hq6 hbs)
  unfold addE at he
  rw [if_neg (by decide)] at he
  have h6 : L.length ≠ 6 := by intro h6; rw [if_pos h6] at he; exact absurd he (by decide)
  rw [if_neg h6] at he
  have h6' : ((L.length : Int) == 6) = false := beq_eq_false_iff_ne.2 (by omega)
  have hp := path_all caps.length A c (nints q) B w hi
  rw [he, errVal_zero] at hp
  rw [show (nints q).length = q.length by simp] at hp
  have HP := Lib.hid hp
  clear h hi hp he h6
  go_enter Tryz.func9, Tryz.ntmps9
  go_wp2_with fail
  refine HP.out.mono ?_; rintro e w' ⟨rfl, hw⟩; rw [← hw]; clear hw w'
  go_wp2_with fail
  refine H.out.mono ?_; rintro e w' ⟨rfl, bs', h1⟩
  have HR := Lib.hid h1
  clear h1
  go_wp2
  go_ret
  exact ⟨rfl, bs', HR.out⟩
set_option maxHeartbeats 2000000 in
theorem lsync_no (w : World) (base g : Nat) (cv pv : Value) (vs : List Value) (caps : List Int) (L : List (List Int)) (bs : ByteArray) (safe left : Int) (h : LogAt w base g cv pv vs caps L bs safe left true) :
    Calls Tryz.prog 10 #[.pointer (some ⟨g, 0, none⟩)] w fun e w' => e = .returned (.iface 74 (.int .i64 6)) ∧ Below w.heap.size w w' := by
  obtain ⟨c0, c1, c2, c3, c4, c5, f0, f1, f2, f3, f4, f5, z⟩ := h.cells
  clear h
  go_enter Tryz.func10, Tryz.ntmps10
  go_wp2
  go_ret
  exact ⟨rfl, Below.refl _ _⟩
set_option maxHeartbeats 2000000 in
theorem lsync_stop (w : World) (base g : Nat) (cv pv : Value) (vs : List Value) (caps : List Int) (L : List (List Int)) (bs : ByteArray) (safe : Int) (h : LogAt w base g cv pv vs caps L bs safe 0 false) (hl : base ≤ w.heap.size) :
    Calls Tryz.prog 10 #[.pointer (some ⟨g, 0, none⟩)] w fun e w' => e = .returned (.iface 74 (.int .i64 6)) ∧ LogAt w' base g cv pv vs caps L bs safe (-1) true ∧ Below base w w' ∧ ∀ p, Stay g p w w' := by
  obtain ⟨c0, c1, c2, c3, c4, c5, f0, f1, f2, f3, f4, f5, z⟩ := h.cells
  have H := Lib.hid (step_log w base g cv pv vs caps L bs safe 0 false h (by decide) (by decide) hl true (by decide) (-1) (by decide))
  clear h
  go_enter Tryz.func10, Tryz.ntmps10
  go_wp2_with fail
  refine H.out.mono ?_; rintro e w' ⟨rfl, h1⟩
  have HR := Lib.hid h1
  clear h1
  go_wp2
  go_ret
  exact ⟨rfl, HR.out⟩
set_option maxHeartbeats 2000000 in
theorem lsync_go (w : World) (base g : Nat) (cv pv : Value) (vs : List Value) (caps : List Int) (L : List (List Int)) (bs : ByteArray) (safe left : Int) (h : LogAt w base g cv pv vs caps L bs safe left false) (hl : base ≤ w.heap.size) (h1 : -1 ≤ left) (h2 : left ≤ 9223372036854775807) (h0 : left ≠ 0) (nl : Int) (hn : max (-1) (left - 1) = nl) (_ : bs.size ≤ 2000000) :
    Calls Tryz.prog 10 #[.pointer (some ⟨g, 0, none⟩)] w fun e w' => e = .returned .nilIface ∧ LogAt w' base g cv pv vs caps L bs bs.size nl false ∧ Below base w w' ∧ ∀ p, Stay g p w w' := by
  obtain ⟨c0, c1, c2, c3, c4, c5, f0, f1, f2, f3, f4, f5, z⟩ := h.cells
  have H := Lib.hid (step_log w base g cv pv vs caps L bs safe left false h h1 h2 hl false (decide_eq_false h0) nl hn)
  clear h c0 c1 c2 c3 c4 f0 f1 f2 f3 f4
  go_enter Tryz.func10, Tryz.ntmps10
  go_wp2_with fail
  refine H.out.mono ?_; rintro e w1 ⟨rfl, hL, hb, hs⟩
  have hlo := hL.lo
  have HL := Lib.hid hL; have HB := Lib.hid hb; have HS := Lib.hid hs
  obtain ⟨c0, c1, c2, c3, c4, c5', f0, f1, f2, f3, f4, f5', z'⟩ := hL.cells
  clear hL hb hs c5 f5 z c0 c1 c4 c5' f0 f1 f4 f5'
  go_wp2
  go_ret
  exact ⟨rfl, HL.out.s3 _, HB.out.setCell (p := ⟨g, 3, none⟩) hlo _, fun p => (HS.out p).set 3 _⟩
set_option maxHeartbeats 2000000 in
theorem lfail_any (w : World) (base g : Nat) (cv pv : Value) (vs : List Value) (caps : List Int) (L : List (List Int)) (bs : ByteArray) (safe left : Int) (st : Bool) (h : LogAt w base g cv pv vs caps L bs safe left st) (n : Int) :
    Calls Tryz.prog 18 #[.pointer (some ⟨g, 0, none⟩), .int .i64 n] w fun e w' => e = .returned (.tuple #[]) ∧ LogAt w' base g cv pv vs caps L bs safe (max (-1) n) st ∧ Below base w w' ∧ ∀ p, Stay g p w w' := by
  obtain ⟨c0, c1, c2, c3, c4, c5, f0, f1, f2, f3, f4, f5, z⟩ := h.cells
  have hlo := h.lo
  have H := Lib.hid h
  clear h
  go_enter Tryz.func18, Tryz.ntmps18
  go_wp2
  go_end0
  exact ⟨rfl, H.out.s4 _, (Below.refl base w).setCell (p := ⟨g, 4, none⟩) hlo _, fun p => (Stay.refl g p w).set 4 _⟩
set_option maxHeartbeats 2000000 in
theorem ldrop_stopped (w : World) (base g : Nat) (cv pv : Value) (vs : List Value) (caps : List Int) (L : List (List Int)) (bs : ByteArray) (safe left : Int) (h : LogAt w base g cv pv vs caps L bs safe left true) (f : Int) :
    Calls Tryz.prog 20 #[.pointer (some ⟨g, 0, none⟩), .int .i64 f] w fun e w' => e = .returned (.iface 74 (.int .i64 6)) ∧ Below w.heap.size w w' := by
  obtain ⟨c0, c1, c2, c3, c4, c5, f0, f1, f2, f3, f4, f5, z⟩ := h.cells
  clear h
  go_enter Tryz.func20, Tryz.ntmps20
  go_wp2
  go_ret
  exact ⟨rfl, Below.refl _ _⟩
set_option maxHeartbeats 2000000 in
theorem lsafe_any (w : World) (base g : Nat) (cv pv : Value) (vs : List Value) (caps : List Int) (L : List (List Int)) (bs : ByteArray) (safe left : Int) (st : Bool) (h : LogAt w base g cv pv vs caps L bs safe left st) :
    Calls Tryz.prog 15 #[.pointer (some ⟨g, 0, none⟩)] w fun e w' => e = .returned (.int .i64 safe) ∧ Below w.heap.size w w' := by
  obtain ⟨c0, c1, c2, c3, c4, c5, f0, f1, f2, f3, f4, f5, z⟩ := h.cells
  clear h
  go_enter Tryz.func15, Tryz.ntmps15
  go_wp2
  go_ret
  exact ⟨rfl, Below.refl _ _⟩
theorem field_net1 (C P : Option Addr) (n m c d : Nat) (W : World) : (Instr.field 42 (.agg #[.slice C n c, .slice P m d]) 1).run Tryz.prog W = .ok (.slice P m d) W := by kernel_rfl
set_option maxHeartbeats 4000000 in
set_option maxRecDepth 100000 in
theorem lpaths_any (w : World) (base g cc : Nat) (C P : Option Addr) (cp : Nat) (vs : List Value) (caps : List Int) (L : List (List Int)) (bs : ByteArray) (safe left : Int) (st : Bool) (h : LogAt w base g (.slice C caps.length cc) (.slice P L.length cp) vs caps L bs safe left st) (hc6 : caps.length ≤ 1000) (hL : L.length ≤ 1000) (hl : ∀ l ∈ L, l.length ≤ 1000) :
    Calls Tryz.prog 12 #[.pointer (some ⟨g, 0, none⟩)] w fun e w' => ∃ P' cp', e = .returned (.slice P' L.length cp') ∧ Rows2 w' w'.heap.size P' cp' L ∧ Below w.heap.size w w' := by
  obtain ⟨c0, c1, c2, c3, c4, c5, f0, f1, f2, f3, f4, f5, z⟩ := h.cells
  obtain ⟨hc, hp⟩ := h.net.bothL
  have H := Lib.hid (own_any C cc caps P cp L w.heap.size w (Nat.le_refl _) hc hp hc6 hL hl)
  clear h hc hp
  go_enter Tryz.func12, Tryz.ntmps12
  go_wp2_with fail
  refine H.out.mono ?_; rintro e w1 ⟨cv, pv, vs1, rfl, hn, hb⟩
  obtain ⟨P', cp', rfl, hr⟩ := hn.rows
  obtain ⟨C', cc', rfl, _, _⟩ := owns_ints hn.capO
  have HR := Lib.hid hr; have HB := Lib.hid hb
  clear hn hr hb
  have hfd := field_net1 C' P' caps.length L.length cc' cp'
  go_wp2
  go_ret
  exact ⟨P', cp', rfl, HR.out, HB.out⟩
end Go.Proofs.YtaijpiebjhhkjaaGreatDoor
