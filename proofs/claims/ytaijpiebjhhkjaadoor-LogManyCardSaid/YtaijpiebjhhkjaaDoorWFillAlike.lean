/- The walk of FillAlike: it returns true for every input. -/
import Derived.Test.YtaijpiebjhhkjaaDoorLibK
import Derived.Test.YtaijpiebjhhkjaaDoorLibN
import Derived.Test.YtaijpiebjhhkjaaDoorPushH
namespace Go.Proofs.YtaijpiebjhhkjaaDoor
open Go.RowKit
def sameP (m : Nat) : List (List Int) := List.replicate m [0]
theorem sameP_len (m : Nat) : (sameP m).length = m := by simp [sameP]
theorem sameP_succ (m : Nat) : sameP (m + 1) = sameP m ++ [[0]] := by unfold sameP; exact List.replicate_succ'
theorem sameP_at {m f : Nat} (h : f < m) : (sameP m).getD f [] = [0] := by unfold sameP; simp [List.getD_eq_getElem?_getD, h]
theorem alike_net {x : Int} {m : Nat} (h1 : 1 ≤ m) (h6 : m ≤ 6) : netErr [x] (sameP m) = if x < 1 ∨ 1000 < x then 1 else 0 := by
  unfold netErr
  rw [sameP_len]
  rw [if_neg (by simp; omega), if_neg (by simp; omega)]
  by_cases hx : x < 1 ∨ 1000 < x
  · have : linksErr [x] = 1 := by
      unfold linksErr
      rw [if_neg (by simp), if_neg (by simp), if_pos]
      simp only [List.any_cons, List.any_nil, Bool.or_false, badCap, Bool.or_eq_true, decide_eq_true_eq]; exact hx
    rw [this, if_neg (by decide), if_pos hx]
  · have : linksErr [x] = 0 := by
      unfold linksErr
      rw [if_neg (by simp), if_neg (by simp), if_neg]
      simp only [List.any_cons, List.any_nil, Bool.or_false, badCap, Bool.or_eq_true, decide_eq_true_eq]; exact hx
    rw [this, if_pos rfl, if_neg hx]
    refine firstFrom_all fun j _ hj => ?_
    rw [sameP_at (by omega)]
    show pathErr 1 [0] = 0
    decide
theorem leftTo_free {st : St} (h : ∀ u, st.at_ u = none) (c : Rat) (us : List Nat) : leftTo st c us = c := by
  induction us generalizing c with
  | nil => rfl
  | cons u us ih =>
    show leftTo st (leftStep st c u) us = c
    have : leftStep st c u = c := by unfold leftStep; rw [h]
    rw [this]; exact ih c
theorem alike_ends {x : Int} {m : Nat} (h1 : 1 ≤ m) (h6 : m ≤ 6) (hx : 1 ≤ x ∧ x ≤ 1000) : FillEnds [x] (sameP m) 1 (List.replicate m ((x : Rat) / (m : Rat))) := by
  have hn : netErr [x] (sameP m) = 0 := by rw [alike_net h1 h6, if_neg (by omega)]
  have ok := netOk_of hn
  have hat : ∀ u, St.at_ (List.replicate (sameP m).length none) u = none := fun u => by
    unfold St.at_
    rw [List.getD_eq_getElem?_getD, List.getElem?_replicate]
    split <;> rfl
  have hu : users (sameP m) (0 : Nat) = List.range m := by
    unfold users usersTo
    rw [sameP_len, List.filter_eq_self]
    intro f hf
    rw [sameP_at (List.mem_range.1 hf)]; rfl
  have hfree : freeL (sameP m) (List.replicate (sameP m).length none) 0 = m := by
    unfold freeL freeOf
    rw [hu, List.countP_eq_length.2 (fun u _ => by rw [hat]; rfl)]; simp
  have hsh : share [x] (sameP m) (List.replicate (sameP m).length none) 0 = some ((x : Rat) / (m : Rat)) := by
    unfold share
    rw [hfree, if_neg (by omega)]
    unfold leftOf
    rw [leftTo_free hat]; rfl
  have hb : bestTo (share [x] (sameP m) (List.replicate (sameP m).length none)) ([x] : List Int).length = some ((x : Rat) / (m : Rat)) := by
    show minO none (share _ _ _ 0) = _
    rw [hsh]; rfl
  have hinv := FInv.start ok
  have h2 : fillSt [x] (sameP m) 1 = List.replicate m (some ((x : Rat) / (m : Rat))) := by
    show roundSt [x] (sameP m) (List.replicate (sameP m).length none) = _
    have hl := (hinv.next ok hb).1.len.trans (sameP_len m)
    apply List.ext_getElem
    · rw [hl]; simp
    · intro f hf1 hf2
      have hfm : f < m := by omega
      have := round_at hinv hb (f := f) (by rw [sameP_len]; exact hfm)
      rw [if_pos ((out_iff hb).2 ⟨by rw [sameP_len]; exact hfm, hat f, 0, ⟨by simp, hsh⟩, by rw [sameP_at hfm]; rfl⟩)] at this
      unfold St.at_ at this
      rw [List.getD_eq_getElem?_getD, List.getElem?_eq_getElem hf1] at this
      simpa using this
  refine ⟨?_, fun j hj => ?_, ?_⟩
  · rw [h2]; simp [allDone]
  · obtain rfl : j = 0 := by omega
    show allDone (List.replicate (sameP m).length none) = false
    rw [sameP_len]
    obtain ⟨d, rfl⟩ : ∃ d, m = d + 1 := ⟨m - 1, by omega⟩
    simp [allDone, List.replicate_succ]
  · rw [h2]; simp
theorem of_div (x : Int) (m : Nat) (w : World) (h1 : 1 ≤ m) (h6 : m ≤ 6) (hx : 1 ≤ x ∧ x ≤ 1000) :
    Calls Tryd.prog 10 #[.int .i64 x, .int .i64 m] w fun e w' => e = .returned (.tuple #[.agg #[.int .i64 ((x : Rat) / (m : Rat)).num, .int .i64 ((x : Rat) / (m : Rat)).den], .nilIface]) ∧ Below w.heap.size w w' := by
  have e : mkRat x (m : Int).toNat = (x : Rat) / (m : Rat) := by rw [Int.toNat_natCast]; exact Rat.mkRat_eq_div x m
  refine of_in x m _ _ w ⟨by omega, by omega, by omega, by omega⟩ ?_ ?_
  · rw [low_num _ _ (by omega), e]
  · rw [low_den _ _ (by omega), e]
theorem lit_own {w : World} {g : Nat} {x : Value} {e : TypeId} (h : Blk w g e #[x]) : w.ownsRow g e 1 (.slice (some ⟨g, 0, none⟩) 1 1) 1 [x] :=
  ⟨rfl, .inr ⟨g, 1, #[x], rfl, Nat.le_refl _, h, Nat.le_refl _, by simp [maxLen], rfl, rfl⟩⟩
end Go.Proofs.YtaijpiebjhhkjaaDoor
