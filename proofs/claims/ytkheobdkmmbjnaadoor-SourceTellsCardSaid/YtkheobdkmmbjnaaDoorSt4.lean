/- Three blocks of four cells: an argument's own, and two variables that are written again and again. -/
import Derived.Test.YtkheobdkmmbjnaaDoorTold
import Derived.Test.YtkheobdkmmbjnaaDoorBlk
namespace Go.Proofs.YtkheobdkmmbjnaaDoor
open Go.RowKit
abbrev set4 (w : World) (g : Nat) (a b c d : Value) : World := (((w.setCell ⟨g, 0, none⟩ a).setCell ⟨g, 1, none⟩ b).setCell ⟨g, 2, none⟩ c).setCell ⟨g, 3, none⟩ d
structure St4 (w wr : World) (T : TypeId) (g1 g2 : Nat) (s0 s1 s2 s3 y0 y1 y2 y3 x0 x1 x2 x3 : Value) : Prop where
  s : Blk wr w.heap.size T #[s0, s1, s2, s3]
  y : Blk wr g1 T #[y0, y1, y2, y3]
  x : Blk wr g2 T #[x0, x1, x2, x3]
  bel : Below w.heap.size w wr
  laid : Laid wr
  lt1 : w.heap.size < g1
  lt2 : g1 < g2
section
variable {w wr w' : World} {T : TypeId} {g1 g2 : Nat} {s0 s1 s2 s3 y0 y1 y2 y3 x0 x1 x2 x3 : Value}
theorem St4.below (h : St4 w wr T g1 g2 s0 s1 s2 s3 y0 y1 y2 y3 x0 x1 x2 x3) (hb : Below wr.heap.size wr w') : St4 w w' T g1 g2 s0 s1 s2 s3 y0 y1 y2 y3 x0 x1 x2 x3 :=
  ⟨h.s.below hb h.s.lt, h.y.below hb h.y.lt, h.x.below hb h.x.lt, h.bel.trans (hb.mono h.bel.size), h.laid.below hb, h.lt1, h.lt2⟩
theorem laid_set {w : World} (h : Laid w) {p : Addr} (hp : 0 < p.block) (u : Value) : Laid (w.setCell p u) := by
  exact ((((Below.refl 1 w).setCell (p := p) hp u)).cell (p := ⟨0, 0, none⟩) Nat.one_pos).trans h
theorem laid_set4 {w : World} (h : Laid w) {g : Nat} (hg : 0 < g) (a b c d : Value) : Laid (set4 w g a b c d) := laid_set (laid_set (laid_set (laid_set h hg _) hg _) hg _) hg _
theorem Blk.set4 {w : World} {g : Nat} {T : TypeId} {x0 x1 x2 x3 : Value} (h : Blk w g T #[x0, x1, x2, x3]) (a b c d : Value) : Blk (set4 w g a b c d) g T #[a, b, c, d] :=
  ((((h.set_ 0 a).set_ 1 b).set_ 2 c).set_ 3 d).val rfl
theorem Blk.far4 {w : World} {g h : Nat} {T : TypeId} {cs : Array Value} (hb : Blk w h T cs) (hne : h ≠ g) (a b c d : Value) : Blk (Proofs.YtkheobdkmmbjnaaDoor.set4 w g a b c d) h T cs :=
  (((hb.far (p := ⟨g, 0, none⟩) hne a).far (p := ⟨g, 1, none⟩) hne b).far (p := ⟨g, 2, none⟩) hne c).far (p := ⟨g, 3, none⟩) hne d
theorem below_set4 {B : Nat} {w wr : World} (h : Below B w wr) {g : Nat} (hg : B ≤ g) (a b c d : Value) : Below B w (set4 wr g a b c d) :=
  (((h.setCell (p := ⟨g, 0, none⟩) hg a).setCell (p := ⟨g, 1, none⟩) hg b).setCell (p := ⟨g, 2, none⟩) hg c).setCell (p := ⟨g, 3, none⟩) hg d
theorem St4.setY (h : St4 w wr T g1 g2 s0 s1 s2 s3 y0 y1 y2 y3 x0 x1 x2 x3) (a b c d : Value) : St4 w (set4 wr g1 a b c d) T g1 g2 s0 s1 s2 s3 a b c d x0 x1 x2 x3 :=
  ⟨h.s.far4 (Nat.ne_of_lt h.lt1) _ _ _ _, h.y.set4 _ _ _ _, h.x.far4 (Nat.ne_of_gt h.lt2) _ _ _ _, below_set4 h.bel (Nat.le_of_lt h.lt1) _ _ _ _, laid_set4 h.laid (Nat.lt_of_le_of_lt (Nat.zero_le _) h.lt1) _ _ _ _, h.lt1, h.lt2⟩
theorem St4.setX (h : St4 w wr T g1 g2 s0 s1 s2 s3 y0 y1 y2 y3 x0 x1 x2 x3) (a b c d : Value) : St4 w (set4 wr g2 a b c d) T g1 g2 s0 s1 s2 s3 y0 y1 y2 y3 a b c d :=
  ⟨h.s.far4 (Nat.ne_of_lt (Nat.lt_trans h.lt1 h.lt2)) _ _ _ _, h.y.far4 (Nat.ne_of_lt h.lt2) _ _ _ _, h.x.set4 _ _ _ _, below_set4 h.bel (Nat.le_of_lt (Nat.lt_trans h.lt1 h.lt2)) _ _ _ _, laid_set4 h.laid (Nat.lt_of_le_of_lt (Nat.zero_le _) h.lt2) _ _ _ _, h.lt1, h.lt2⟩
theorem St4.open (h : St4 w wr T g1 g2 s0 s1 s2 s3 y0 y1 y2 y3 x0 x1 x2 x3) :
    (wr.cell? ⟨w.heap.size, 0, none⟩ = some s0 ∧ wr.cell? ⟨w.heap.size, 1, none⟩ = some s1 ∧ wr.cell? ⟨w.heap.size, 2, none⟩ = some s2 ∧ wr.cell? ⟨w.heap.size, 3, none⟩ = some s3) ∧
    (wr.cell? ⟨g1, 0, none⟩ = some y0 ∧ wr.cell? ⟨g1, 1, none⟩ = some y1 ∧ wr.cell? ⟨g1, 2, none⟩ = some y2 ∧ wr.cell? ⟨g1, 3, none⟩ = some y3) ∧
    (wr.cell? ⟨g2, 0, none⟩ = some x0 ∧ wr.cell? ⟨g2, 1, none⟩ = some x1 ∧ wr.cell? ⟨g2, 2, none⟩ = some x2 ∧ wr.cell? ⟨g2, 3, none⟩ = some x3) ∧
    (wr.frozen? ⟨g1, 0, none⟩ = false ∧ wr.frozen? ⟨g1, 1, none⟩ = false ∧ wr.frozen? ⟨g1, 2, none⟩ = false ∧ wr.frozen? ⟨g1, 3, none⟩ = false) ∧
    (wr.frozen? ⟨g2, 0, none⟩ = false ∧ wr.frozen? ⟨g2, 1, none⟩ = false ∧ wr.frozen? ⟨g2, 2, none⟩ = false ∧ wr.frozen? ⟨g2, 3, none⟩ = false) ∧
    w.heap.size < wr.heap.size ∧ g1 < wr.heap.size ∧ g2 < wr.heap.size :=
  ⟨⟨h.s.cell 0, h.s.cell 1, h.s.cell 2, h.s.cell 3⟩, ⟨h.y.cell 0, h.y.cell 1, h.y.cell 2, h.y.cell 3⟩, ⟨h.x.cell 0, h.x.cell 1, h.x.cell 2, h.x.cell 3⟩, ⟨h.y.frozen 0, h.y.frozen 1, h.y.frozen 2, h.y.frozen 3⟩, ⟨h.x.frozen 0, h.x.frozen 1, h.x.frozen 2, h.x.frozen 3⟩, h.s.lt, h.y.lt, h.x.lt⟩
end
end Go.Proofs.YtkheobdkmmbjnaaDoor
