/- The reference's net, as RunAnswers carries it along: links, flows of its own. -/
import Derived.Test.YtaijpiebjhhkjaaGreatDoorLibRn
import Derived.Test.YtaijpiebjhhkjaaGreatDoorLibN
import Derived.Test.YtaijpiebjhhkjaaGreatDoorLibH
namespace Go.Proofs.YtaijpiebjhhkjaaGreatDoor
open Go.RowKit
theorem own_cellS {w : World} {base e size n m c b : Nat} {xs : List Value} (h : w.ownsRow base e size (.slice (some ⟨b, 0, none⟩) m c) n xs) {j : Nat} {u : Value} (hu : xs[j]? = some u) : w.cell? ⟨b, j, none⟩ = some u := by
  have := h.cells (g := b) rfl j u hu
  rw [show (⟨b, 0, none⟩ : Addr).add j = ⟨b, j, none⟩ by unfold Addr.add; split <;> simp_all] at this
  exact this
theorem RowsAt.more {w : World} {B C : Nat} {vs : List Value} {L : List (List Int)} (h : RowsAt w B vs L) (hC : B ≤ C) : RowsAt w C vs L :=
  ⟨h.len, fun i l hl => by obtain ⟨A, c, h1, h2⟩ := h.row i l hl; exact ⟨A, c, h1, h2.more hC⟩⟩
structure FlowsAt (W : World) (b1 : Nat) (C : Option Addr) (cc : Nat) (P : Option Addr) (cp : Nat) (L : List (List Int)) : Prop where
  caps : Ints W W.heap.size C cc caps4
  own : ∃ vs, W.ownsRow b1 22 1 (.slice P L.length cp) L.length vs ∧ RowsAt W W.heap.size vs L
  lo : b1 ≤ W.heap.size
section
variable {W W' : World} {b1 : Nat} {C : Option Addr} {cc : Nat} {P : Option Addr} {cp : Nat} {L : List (List Int)}
theorem FlowsAt.below (h : FlowsAt W b1 C cc P cp L) (hb : Below W.heap.size W W') : FlowsAt W' b1 C cc P cp L := by
  obtain ⟨vs, h1, h2⟩ := h.own
  exact ⟨(h.caps.below hb (Nat.le_refl _)).more hb.size, ⟨vs, own_below h1 hb, (h2.below hb (Nat.le_refl _)).more hb.size⟩, Nat.le_trans h.lo hb.size⟩
theorem FlowsAt.rows (h : FlowsAt W b1 C cc P cp L) : Rows2 W W.heap.size P cp L := by
  obtain ⟨vs, h1, h2⟩ := h.own
  obtain ⟨A, c, e, h⟩ := rows_own h1 h2 (Nat.le_refl _)
  injection e with e1 _ e3
  subst e1 e3
  exact h
theorem flows_nil {C : Option Addr} {cc : Nat} (hc : Ints W W.heap.size C cc caps4) : FlowsAt W W.heap.size C cc none 0 [] :=
  ⟨hc, ⟨[], World.ownsRow_nil _ _ _ _, RowsAt.nil _ _⟩, Nat.le_refl _⟩
end
theorem fwith_any (W : World) (b1 : Nat) (C : Option Addr) (cc : Nat) (P : Option Addr) (cp : Nat) (L : List (List Int)) (h : FlowsAt W b1 C cc P cp L) (h6 : L.length ≤ 1000) (A' : Option Addr) (c' : Nat) (path : List Int) (hi : Ints W W.heap.size A' c' path) :
    Calls Tryz.prog 22 #[.agg #[.slice C 4 cc, .slice P L.length cp], .slice A' path.length c'] W fun e w' => ∃ P1 cp1, e = .returned (.agg #[.slice C 4 cc, .slice P1 (L ++ [path]).length cp1]) ∧ FlowsAt w' b1 C cc P1 cp1 (L ++ [path]) ∧ Below W.heap.size W w' := by
  have hc := h.caps; have hlo := h.lo
  obtain ⟨vs, h1, h2⟩ := h.own
  rcases h1.2 with ⟨e, h0⟩ | ⟨g, cap, cur, e, hb, hh, hn, hm, _⟩
  · injection e with e1 e2 e3
    subst e1 e3
    obtain rfl := List.length_eq_zero_iff.1 h0
    refine (refWith_none C cc 4 A' c' _ path W.heap.size W (Nat.le_refl _) hi rfl).mono ?_
    rintro e w' ⟨P1, cp1, rfl, ⟨us, k1, k2⟩, hb⟩
    exact ⟨P1, cp1, rfl, ⟨(hc.below hb (Nat.le_refl _)).more hb.size, ⟨us, own_baseB k1 hlo, k2.more hb.size⟩, Nat.le_trans hlo hb.size⟩, hb⟩
  · injection e with e1 _ e3
    subst e1 e3
    refine (refWith_g C cc 4 g 0 cp _ L vs A' c' _ path W.heap.size W (Nat.le_refl _) h2 (fun j u hu => by rw [Nat.zero_add]; exact own_cellS h1 hu) (Array.getElem?_eq_some_iff.1 hh).1 hn hm hi h6 rfl rfl).mono ?_
    rintro e w' ⟨P1, cp1, rfl, ⟨us, k1, k2⟩, hb⟩
    exact ⟨P1, cp1, rfl, ⟨(hc.below hb (Nat.le_refl _)).more hb.size, ⟨us, own_baseB k1 hlo, k2.more hb.size⟩, Nat.le_trans hlo hb.size⟩, hb⟩
theorem fwithout_any (W : World) (b1 : Nat) (C : Option Addr) (cc : Nat) (P : Option Addr) (cp : Nat) (L : List (List Int)) (h : FlowsAt W b1 C cc P cp L) (h6 : L.length ≤ 1000) (f : Nat) (hf : f < L.length) :
    Calls Tryz.prog 19 #[.agg #[.slice C 4 cc, .slice P L.length cp], .int .i64 f] W fun e w' => ∃ P1 cp1, e = .returned (.agg #[.slice C 4 cc, .slice P1 (L.eraseIdx f).length cp1]) ∧ FlowsAt w' b1 C cc P1 cp1 (L.eraseIdx f) ∧ Below W.heap.size W w' := by
  have hc := h.caps; have hlo := h.lo
  obtain ⟨vs, h1, h2⟩ := h.own
  rcases h1.2 with ⟨e, h0⟩ | ⟨g, cap, cur, e, hb, hh, hn, hm, _⟩
  · omega
  · injection e with e1 _ e3
    subst e1 e3
    refine (refWithout_g C cc 4 g 0 cp _ L vs f W.heap.size W (Nat.le_refl _) h2 (fun j u hu => by rw [Nat.zero_add]; exact own_cellS h1 hu) (Array.getElem?_eq_some_iff.1 hh).1 hn hm hf h6 rfl).mono ?_
    rintro e w' ⟨P1, cp1, rfl, ⟨us, k1, k2⟩, hb⟩
    exact ⟨P1, cp1, rfl, ⟨(hc.below hb (Nat.le_refl _)).more hb.size, ⟨us, own_baseB k1 hlo, k2.more hb.size⟩, Nat.le_trans hlo hb.size⟩, hb⟩
end Go.Proofs.YtaijpiebjhhkjaaGreatDoor
