/- (*Log).Drop. -/
import Derived.Test.YtaijpiebjhhkjaaGreatDoorLogKeep3
import Derived.Test.YtaijpiebjhhkjaaGreatDoorLogOps
import Derived.Test.YtaijpiebjhhkjaaGreatDoorLibM
namespace Go.Proofs.YtaijpiebjhhkjaaGreatDoor
open Go.RowKit
attribute [local go_sem ↓] run_min_mn run_max_mx
set_option maxHeartbeats 4000000 in
theorem ldrop_bad (w : World) (base g : Nat) (cv : Value) (P : Option Addr) (cp : Nat) (vs : List Value) (caps : List Int) (L : List (List Int)) (bs : ByteArray) (safe left : Int) (h : LogAt w base g cv (.slice P L.length cp) vs caps L bs safe left false) (f : Int) (hf : f < 0 ∨ (L.length : Int) ≤ f) :
    Calls Tryz.prog 20 #[.pointer (some ⟨g, 0, none⟩), .int .i64 f] w fun e w' => e = .returned (.iface 74 (.int .i64 1)) ∧ Below w.heap.size w w' := by
  obtain ⟨c0, c1, c2, c3, c4, c5, f0, f1, f2, f3, f4, f5, z⟩ := h.cells
  clear h
  by_cases h0 : f < 0
  · have d0 : decide (f < 0) = true := decide_eq_true h0
    go_enter Tryz.func20, Tryz.ntmps20
    go_wp2
    go_ret
    exact ⟨rfl, Below.refl _ _⟩
  · have d0 : decide (f < 0) = false := decide_eq_false h0
    have d1 : decide ((L.length : Int) ≤ f) = true := decide_eq_true (by omega)
    have i1 : (L.length : Int) ≤ f := by omega
    clear hf
    go_enter Tryz.func20, Tryz.ntmps20
    go_wp2
    go_ret
    exact ⟨rfl, Below.refl _ _⟩
set_option maxHeartbeats 4000000 in
theorem ldrop_go (w : World) (base g : Nat) (cv : Value) (P : Option Addr) (cp : Nat) (vs : List Value) (caps : List Int) (L : List (List Int)) (bs : ByteArray) (safe left : Int) (h : LogAt w base g cv (.slice P L.length cp) vs caps L bs safe left false) (hl : base ≤ w.heap.size) (h1 : -1 ≤ left) (h2 : left ≤ 9223372036854775807) (h0 : left ≠ 0) (nl : Int) (hn : max (-1) (left - 1) = nl)
    (f : Nat) (hf : f < L.length) (hL : L.length ≤ 6) (hbs : bs.size ≤ 1000000) :
    Calls Tryz.prog 20 #[.pointer (some ⟨g, 0, none⟩), .int .i64 f] w fun e w' => e = .returned .nilIface ∧ ∃ P' cp' vs' bs', LogAt w' base g cv (.slice P' (L.length - 1) cp') vs' caps (L.eraseIdx f) bs' safe nl false ∧ bs'.data.toList = bs.data.toList ++ LG.recB ⟨false, [f]⟩ ∧ bs'.size ≤ bs.size + 14 ∧ Below base w w' ∧ Stay g (Value.slice P L.length cp).ownBlock w w' ∧ (Value.slice P' (L.length - 1) cp').ownBlock = (Value.slice P L.length cp).ownBlock := by
  obtain ⟨c0, c1, c2, c3, c4, c5, f0, f1, f2, f3, f4, f5, z⟩ := h.cells
  have hba := (Below.refl w.heap.size w).alloc (Nat.le_refl _) (.cells #[.int .i64 f] 3)
  have hbb := (Below.refl base w).alloc hl (.cells #[.int .i64 f] 3)
  have hz : base ≤ (w.alloc (.cells #[.int .i64 f] 3)).heap.size := Nat.le_trans hl hba.size
  have H := Lib.hid (keep_del_go (w.alloc (.cells #[.int .i64 f] 3)) base g cv P cp vs caps L bs safe left false (h.below hba) hz h1 h2 h0 nl hn (some ⟨w.heap.size, 0, none⟩) 1 [f] f rfl hf _ (Ints.blk (l := [(f : Int)]) (Blk.new w 3 #[.int .i64 f]) (by simp) (by simp)) (Nat.le_refl _) (fun b off e => by injection e with e; injection e with e _; omega) (by simp; omega) (by simp) hL hbs)
  have HBA := Lib.hid hba; have HBB := Lib.hid hbb
  have d0 : decide ((f : Int) < 0) = false := decide_eq_false (by omega)
  have d1 : decide ((L.length : Int) ≤ f) = false := decide_eq_false (by omega)
  have i0 : ¬ (f : Int) < 0 := by omega
  have i1 : ¬ (L.length : Int) ≤ f := by omega
  clear h hba hbb hz hn h0
  go_enter Tryz.func20, Tryz.ntmps20
  go_wp2_with fail
  refine H.out.mono ?_; rintro e w' ⟨rfl, P', cp', vs', bs', h1, h2, h3, h4, h5, h6⟩
  have HR := Lib.hid (show ∃ P' cp' vs' bs', LogAt w' base g cv (.slice P' (L.length - 1) cp') vs' caps (L.eraseIdx f) bs' safe nl false ∧ bs'.data.toList = bs.data.toList ++ LG.recB ⟨false, [f]⟩ ∧ bs'.size ≤ bs.size + 14 ∧ Below base w w' ∧ Stay g (Value.slice P L.length cp).ownBlock w w' ∧ (Value.slice P' (L.length - 1) cp').ownBlock = (Value.slice P L.length cp).ownBlock from ⟨P', cp', vs', bs', h1, h2, h3, HBB.out.trans h4, (Stay.of_below g _ HBA.out).trans' h5, h6⟩)
  clear h1 h2 h3 h4 h5 h6
  go_wp2
  go_ret
  exact ⟨rfl, HR.out⟩
set_option maxHeartbeats 4000000 in
theorem ldrop_stop (w : World) (base g : Nat) (cv : Value) (P : Option Addr) (cp : Nat) (vs : List Value) (caps : List Int) (L : List (List Int)) (bs : ByteArray) (safe : Int) (h : LogAt w base g cv (.slice P L.length cp) vs caps L bs safe 0 false) (hl : base ≤ w.heap.size)
    (f : Nat) (hf : f < L.length) (hL : L.length ≤ 6) (hbs : bs.size ≤ 1000000) :
    Calls Tryz.prog 20 #[.pointer (some ⟨g, 0, none⟩), .int .i64 f] w fun e w' => e = .returned (.iface 74 (.int .i64 6)) ∧ ∃ bs', LogAt w' base g cv (.slice P L.length cp) vs caps L bs' safe (-1) true ∧ (∃ t, bs'.data.toList = bs.data.toList ++ t ∧ (10 : UInt8) ∉ t) ∧ bs'.size ≤ bs.size + 14 ∧ Below base w w' ∧ ∀ p, Stay g p w w' := by
  obtain ⟨c0, c1, c2, c3, c4, c5, f0, f1, f2, f3, f4, f5, z⟩ := h.cells
  have hba := (Below.refl w.heap.size w).alloc (Nat.le_refl _) (.cells #[.int .i64 f] 3)
  have hbb := (Below.refl base w).alloc hl (.cells #[.int .i64 f] 3)
  have hz : base ≤ (w.alloc (.cells #[.int .i64 f] 3)).heap.size := Nat.le_trans hl hba.size
  have H := Lib.hid (keep_stop 45 (by decide) (w.alloc (.cells #[.int .i64 f] 3)) base g cv (.slice P L.length cp) vs caps L bs safe 0 false (h.below hba) hz rfl (some ⟨w.heap.size, 0, none⟩) 1 [f] _ (Ints.blk (l := [(f : Int)]) (Blk.new w 3 #[.int .i64 f]) (by simp) (by simp)) (Nat.le_refl _) (by simp; omega) (by simp) hbs)
  have HBA := Lib.hid hba; have HBB := Lib.hid hbb
  have d0 : decide ((f : Int) < 0) = false := decide_eq_false (by omega)
  have d1 : decide ((L.length : Int) ≤ f) = false := decide_eq_false (by omega)
  have i0 : ¬ (f : Int) < 0 := by omega
  have i1 : ¬ (L.length : Int) ≤ f := by omega
  clear h hba hbb hz
  go_enter Tryz.func20, Tryz.ntmps20
  go_wp2_with fail
  refine H.out.mono ?_; rintro e w' ⟨rfl, bs', h1, h2, h3, h4, h5⟩
  have HR := Lib.hid (show ∃ bs', LogAt w' base g cv (.slice P L.length cp) vs caps L bs' safe (-1) true ∧ (∃ t, bs'.data.toList = bs.data.toList ++ t ∧ (10 : UInt8) ∉ t) ∧ bs'.size ≤ bs.size + 14 ∧ Below base w w' ∧ ∀ p, Stay g p w w' from ⟨bs', h1, h2, h3, HBB.out.trans h4, fun p => (Stay.of_below g p HBA.out).trans' (h5 p)⟩)
  clear h1 h2 h3 h4 h5
  go_wp2
  go_ret
  exact ⟨rfl, HR.out⟩
end Go.Proofs.YtaijpiebjhhkjaaGreatDoor
