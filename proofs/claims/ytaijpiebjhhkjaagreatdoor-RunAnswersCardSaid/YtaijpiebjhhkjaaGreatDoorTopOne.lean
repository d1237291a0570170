/- fairtop.one: the closed fact that the laws on top begin with. -/
import Derived.Test.YtaijpiebjhhkjaaGreatDoorLibK
import Derived.Test.YtaijpiebjhhkjaaGreatDoorLibM
namespace Go.Proofs.YtaijpiebjhhkjaaGreatDoor
open Go.RowKit
theorem ends_dec {caps : List Int} {paths : List (List Int)} {K : Nat} {R : List Rat} (h1 : allDone (fillSt caps paths K) = true) (h2 : ((List.range K).all fun j => !allDone (fillSt caps paths j)) = true) (h3 : fillSt caps paths K = R.map some) : FillEnds caps paths K R :=
  ⟨h1, fun j hj => by have := List.all_eq_true.1 h2 j (List.mem_range.2 hj); simpa using this, h3⟩
theorem one_ends : FillEnds [8] [[0], [0]] 1 [4, 4] := ends_dec (by decide +kernel) (by decide +kernel) (by decide +kernel)
/-- a fraction of a result -/
theorem frs_k {w : World} {B : Nat} {A : Option Addr} {c : Nat} {Q : List Rat} (h : Frs w B A c (Q.map frQ)) (k : Nat) {q : Rat} (hk : Q[k]? = some q) :
    ∃ b off, A = some ⟨b, off, none⟩ ∧ b < B ∧ w.cell? ⟨b, off + k * 2, none⟩ = some (.int .i64 q.num) ∧ w.cell? ⟨b, off + k * 2 + 1, none⟩ = some (.int .i64 q.den) := by
  have hl := (List.getElem?_eq_some_iff.1 hk).1
  have := frs_q h hl
  rwa [List.getD_eq_getElem?_getD, hk] at this
theorem one_any (w : World) : Calls Tryz.prog 31 #[] w fun e w' => e = .returned (.bool true) ∧ Below w.heap.size w w' := by
  have h1 : Hid (Blk ((((w.alloc (.cells #[.int .i64 8] 3)).alloc (.cells #[.int .i64 0] 3)).alloc (.cells #[.int .i64 0] 3)).alloc (.cells #[.slice (some ⟨w.heap.size + 1, 0, none⟩) 1 1, .slice (some ⟨w.heap.size + 1 + 1, 0, none⟩) 1 1] 22)) w.heap.size 3 (List.map (Value.int .i64) [8]).toArray) := Lib.hid ((((Blk.new _ _ _).alloc _).alloc _).alloc _)
  have h2 : Hid (Blk ((((w.alloc (.cells #[.int .i64 8] 3)).alloc (.cells #[.int .i64 0] 3)).alloc (.cells #[.int .i64 0] 3)).alloc (.cells #[.slice (some ⟨w.heap.size + 1, 0, none⟩) 1 1, .slice (some ⟨w.heap.size + 1 + 1, 0, none⟩) 1 1] 22)) (w.heap.size + 1) 3 (List.map (Value.int .i64) [0]).toArray) := Lib.hid (((Blk.new' _ _ _ (by simp)).alloc _).alloc _)
  have h3 : Hid (Blk ((((w.alloc (.cells #[.int .i64 8] 3)).alloc (.cells #[.int .i64 0] 3)).alloc (.cells #[.int .i64 0] 3)).alloc (.cells #[.slice (some ⟨w.heap.size + 1, 0, none⟩) 1 1, .slice (some ⟨w.heap.size + 1 + 1, 0, none⟩) 1 1] 22)) (w.heap.size + 1 + 1) 3 (List.map (Value.int .i64) [0]).toArray) := Lib.hid ((Blk.new' _ _ _ (by simp)).alloc _)
  have h4 : Hid (Blk ((((w.alloc (.cells #[.int .i64 8] 3)).alloc (.cells #[.int .i64 0] 3)).alloc (.cells #[.int .i64 0] 3)).alloc (.cells #[.slice (some ⟨w.heap.size + 1, 0, none⟩) 1 1, .slice (some ⟨w.heap.size + 1 + 1, 0, none⟩) 1 1] 22)) (w.heap.size + 1 + 1 + 1) 22 #[.slice (some ⟨w.heap.size + 1, 0, none⟩) ([0] : List Int).length 1, .slice (some ⟨w.heap.size + 1 + 1, 0, none⟩) ([0] : List Int).length 1]) := Lib.hid (Blk.new' _ _ _ (by simp))
  have HB0 : Hid (Below w.heap.size w ((((w.alloc (.cells #[.int .i64 8] 3)).alloc (.cells #[.int .i64 0] 3)).alloc (.cells #[.int .i64 0] 3)).alloc (.cells #[.slice (some ⟨w.heap.size + 1, 0, none⟩) 1 1, .slice (some ⟨w.heap.size + 1 + 1, 0, none⟩) 1 1] 22))) := Lib.hid (((((Below.refl _ _).alloc (Nat.le_refl _) _).alloc (by simp) _).alloc (by simp; omega) _).alloc (by simp; omega) _)
  go_enter Tryz.func31, Tryz.ntmps31
  go_wp2_with fail
  refine (frates_yes (some ⟨w.heap.size, 0, none⟩) 1 [8] (some ⟨w.heap.size + 1 + 1 + 1, 0, none⟩) 2 2 [[0], [0]] _ _ 1 [4, 4] (Nat.le_refl _) (Ints.blk h1.out h1.out.lt (by decide)) (Rows2.blk2 h4.out (Ints.blk h2.out h2.out.lt (by decide)) (Ints.blk h3.out h3.out.lt (by decide)) h4.out.lt) rfl (by decide) one_ends).mono ?_; rintro e w1 ⟨A, c, rfl, hf, hb⟩
  obtain ⟨b, off, rfl, _, c0, _⟩ := frs_k hf 0 rfl
  obtain ⟨b', off', e', _, c1, _⟩ := frs_k hf 1 rfl
  injection e' with e'
  injection e' with e1 e2
  subst e1 e2
  have d0 : w1.cell? ⟨b, off, none⟩ = some (.int .i64 4) := c0
  have d1 : w1.cell? ⟨b, off + 2, none⟩ = some (.int .i64 4) := c1
  have hle := hf.le
  have HB1 := Lib.hid (HB0.out.trans (hb.mono HB0.out.size))
  clear hb HB0 h1 h2 h3 h4 c0 c1 hf
  go_wp2
  go_ret
  exact ⟨rfl, HB1.out⟩
end Go.Proofs.YtaijpiebjhhkjaaGreatDoor
