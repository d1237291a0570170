/- The walk of RankBest: it returns true for every input. -/
import Derived.Test.YtaijpiebjhhkjaaGreatDoorRank3
import Derived.Test.YtaijpiebjhhkjaaGreatDoorLibK
import Derived.Test.YtaijpiebjhhkjaaGreatDoorLibM
import Derived.Test.YtaijpiebjhhkjaaGreatDoorPlGrowLess
import Derived.Test.YtaijpiebjhhkjaaGreatDoorFrSame
namespace Go.Proofs.YtaijpiebjhhkjaaGreatDoor
open Go.RowKit
theorem two_in {a b : Rat} (ha : QIn a) (hb : QIn b) : ∀ q ∈ [a, b], QIn q := fun q h => by
  rcases List.mem_cons.1 h with rfl | h
  · exact ha
  · rcases List.mem_cons.1 h with rfl | h
    · exact hb
    · cases h
set_option maxHeartbeats 2000000 in
theorem rankBest_fact (W : World) : Calls Tryz.prog 35 #[.slice (some ⟨W.heap.size, 0, none⟩) 2 2, .slice (some ⟨W.heap.size + 1, 0, none⟩) 2 2] ((W.alloc (.cells #[.int .i64 9, .int .i64 1, .int .i64 1, .int .i64 1] 37)).alloc (.cells #[.int .i64 2, .int .i64 1, .int .i64 2, .int .i64 1] 37)) fun e w' => e = .returned (.tuple #[.int .i64 (-1), .nilIface]) ∧ Below W.heap.size W w' := by
  have h1 : Blk ((W.alloc (.cells #[.int .i64 9, .int .i64 1, .int .i64 1, .int .i64 1] 37)).alloc (.cells #[.int .i64 2, .int .i64 1, .int .i64 2, .int .i64 1] 37)) W.heap.size 37 #[.int .i64 9, .int .i64 1, .int .i64 1, .int .i64 1] := (Blk.new _ _ _).alloc _
  have h2 : Blk ((W.alloc (.cells #[.int .i64 9, .int .i64 1, .int .i64 1, .int .i64 1] 37)).alloc (.cells #[.int .i64 2, .int .i64 1, .int .i64 2, .int .i64 1] 37)) (W.heap.size + 1) 37 #[.int .i64 2, .int .i64 1, .int .i64 2, .int .i64 1] := Blk.new' _ _ _ (by simp)
  have hb : Below W.heap.size W ((W.alloc (.cells #[.int .i64 9, .int .i64 1, .int .i64 1, .int .i64 1] 37)).alloc (.cells #[.int .i64 2, .int .i64 1, .int .i64 2, .int .i64 1] 37)) := ((Below.refl _ _).alloc (Nat.le_refl _) _).alloc (by simp) _
  have f1 := Frs.blk2 h1 h1.lt
  have f2 := Frs.blk2 h2 h2.lt
  exact (rcmp_yes (some ⟨W.heap.size, 0, none⟩) (some ⟨W.heap.size + 1, 0, none⟩) 2 2 2 2 [9, 1] [2, 2] (-1) _ _ (Nat.le_refl _) f1 f2 rfl rfl rfl (by decide) (two_in (by unfold QIn FracIn; decide +kernel) (by unfold QIn FracIn; decide +kernel)) (two_in (by unfold QIn FracIn; decide +kernel) (by unfold QIn FracIn; decide +kernel)) (by decide +kernel)).mono fun _ _ ⟨a, b⟩ => ⟨a, hb.trans (b.mono hb.size)⟩
theorem lex_range : ∀ (a b : List Rat), -1 ≤ MM.lex a b ∧ MM.lex a b ≤ 1
  | [], [] => by unfold MM.lex; omega
  | [], _ :: _ => by unfold MM.lex; omega
  | _ :: _, [] => by unfold MM.lex; omega
  | x :: a, y :: b => by
    unfold MM.lex
    have := lex_range a b
    split
    · omega
    · split <;> omega
theorem ordq_le {q r : Rat} (h : q ≤ r) : ordQ q r ≤ 0 := by
  unfold ordQ
  split
  · omega
  · rw [if_neg (by grind)]; omega
end Go.Proofs.YtaijpiebjhhkjaaGreatDoor
