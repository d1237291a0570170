/- Pieces of a function's code, walked one by one. -/
import Derived.Test.YtaijpiebjhhkjaaGreatDoorLibA
namespace Go.Proofs.YtaijpiebjhhkjaaGreatDoor
open Go.RowKit
/-- the code at a path: 0 left, 1 right of a sequence or a condition; any number: into a block or a loop -/
def Code.at' : List Nat → Code → Code
  | [], c => c
  | 0 :: p, .seq a _ => Code.at' p a
  | _ :: p, .seq _ b => Code.at' p b
  | 0 :: p, .cond _ a _ => Code.at' p a
  | _ :: p, .cond _ _ b => Code.at' p b
  | _ :: p, .block _ c => Code.at' p c
  | _ :: p, .loop c => Code.at' p c
  | _ :: p, .scope c => Code.at' p c
  | _, c => c
/-- the first n + 1 statements, then what else -/
def Code.cutc : Nat → Code → Code → Code
  | 0, .seq a _, r => .seq a r
  | n + 1, .seq a b, r => .seq a (Code.cutc n b r)
  | _, _, r => r
/-- what stands behind the first n + 1 statements -/
def Code.dr : Nat → Code → Code
  | 0, .seq _ b => b
  | n + 1, .seq _ b => Code.dr n b
  | _, c => c
def Code.okk : Nat → Code → Bool
  | 0, .seq _ _ => true
  | n + 1, .seq _ b => Code.okk n b
  | _, _ => false
theorem cutc_dr : ∀ (n : Nat) (c : Code), Code.okk n c = true → Code.cutc n c (Code.dr n c) = c
  | 0, .seq _ _, _ => rfl
  | n + 1, .seq a b, h => by
    show Code.seq a (Code.cutc n b (Code.dr n b)) = _
    rw [cutc_dr n b h]
theorem wp_cutc {P : Program} {Q : Exit → Act → World → Prop} {a : Act} {w : World} (n : Nat) (c : Code) (hok : Code.okk n c = true) (h : (Code.cutc n c (Code.dr n c)).wp P Q a w) : c.wp P Q a w := by
  rw [cutc_dr n c hok] at h
  exact h
/-- what is known of a frame's slots -/
def Slots (a : Act) : List (Nat × Value) → Prop
  | [] => True
  | (k, v) :: l => a.tmps[k]? = some v ∧ Slots a l
def FrS (a : Act) (n : Nat) (l : List (Nat × Value)) : Prop := a.defers = [] ∧ a.tmps.size = n ∧ Slots a l
def Slx (x : Nat → Value) : List (Nat × Value) → Prop
  | [] => True
  | (k, v) :: l => x k = v ∧ Slx x l
theorem slx_of {a : Act} : ∀ l, Slots a l → Slx (fun k => (a.tmps[k]?).getD undef) l
  | [], _ => trivial
  | (k, v) :: l, h => ⟨by show (a.tmps[k]?).getD undef = v; rw [h.1]; rfl, slx_of l h.2⟩
theorem st_open {a : Act} {n : Nat} {l : List (Nat × Value)} (h : FrS a n l) : ∃ x : Nat → Value, a = ⟨((List.range n).map x).toArray, []⟩ ∧ Slx x l := by
  obtain ⟨h1, h2, h3⟩ := h
  refine ⟨fun k => (a.tmps[k]?).getD undef, ?_, slx_of l h3⟩
  cases a with
  | mk t d =>
    obtain rfl : d = [] := h1
    congr 1
    apply Array.ext
    · have : t.size = n := h2
      simp [this]
    · intro i h4 h5
      have h6 : i < t.size := h4
      simp [h6]
/-- a letter in the place of what was known -/
theorem FrS.mono {a : Act} {n : Nat} {l l' : List (Nat × Value)} (h : FrS a n l) (hl : Slots a l → Slots a l') : FrS a n l' := ⟨h.1, h.2.1, hl h.2.2⟩
end Go.Proofs.YtaijpiebjhhkjaaGreatDoor
