/- Plain: what LogKeeps counts. -/
import Derived.Test.YtaijpiebjhhkjaaGreatDoorPlKept
namespace Go.Proofs.YtaijpiebjhhkjaaGreatDoor.LG
/-- the bytes of the first records fit just if these are whole in them -/
theorem full_iff : ∀ (O : List Op) (hi i : Nat), i ≤ O.length → ((flat (O.take i)).length ≤ hi ↔ i ≤ full O hi)
  | [], hi, i, h => by
    have : i = 0 := by simpa using h
    subst this
    simp [flat, full]
  | o :: O, hi, 0, _ => by simp [flat]
  | o :: O, hi, j + 1, h => by
    have hj : j ≤ O.length := by simpa using h
    rw [List.take_succ_cons]
    unfold flat full
    rw [List.length_append]
    split
    · rename_i hr
      have := full_iff O (hi - (recB o).length) j hj
      omega
    · rename_i hr
      omega
/-- the marks: behind each record how many bytes there are -/
def marks (O : List Op) : List Int := (List.range (O.length + 1)).map fun i => ((flat (O.take i)).length : Int)
theorem marks_len (O : List Op) : (marks O).length = O.length + 1 := by simp [marks]
theorem marks_at {O : List Op} {i : Nat} (h : i ≤ O.length) : (marks O)[i]? = some ((flat (O.take i)).length : Int) := by
  simp [marks, show i < O.length + 1 by omega]
theorem marks_snoc (O : List Op) (o : Op) : marks (O ++ [o]) = marks O ++ [((flat (O ++ [o])).length : Int)] := by
  unfold marks
  rw [List.length_append, List.length_singleton, List.range_succ, List.map_append]
  congr 1
  · refine List.map_congr_left fun i hi => ?_
    rw [List.mem_range] at hi
    rw [List.take_append_of_le_length (by omega)]
  · rw [List.map_singleton, List.take_of_length_le (by simp)]
theorem marks_take {O : List Op} {k : Nat} (h : k ≤ O.length) : (marks O).take (k + 1) = marks (O.take k) := by
  unfold marks
  rw [← List.map_take, List.length_take, Nat.min_eq_left h, List.take_range, Nat.min_eq_left (by omega)]
  refine List.map_congr_left fun i hi => ?_
  rw [List.mem_range] at hi
  rw [List.take_take, Nat.min_eq_left (by omega)]
/-- the last mark that is not above -/
def lastLe (O : List Op) (hi : Nat) : Nat → Nat
  | 0 => 0
  | n + 1 => if (flat (O.take n)).length ≤ hi then n else lastLe O hi n
theorem lastLe_is (O : List Op) (hi : Nat) : ∀ n, n ≤ O.length + 1 → 0 < n → lastLe O hi n = min (n - 1) (full O hi)
  | 0, _, h => absurd h (by decide)
  | 1, _, _ => by unfold lastLe; split <;> simp [lastLe]
  | n + 2, h, _ => by
    unfold lastLe
    have h1 := full_iff O hi (n + 1) (by omega)
    split
    · rename_i hle; have := h1.1 hle; omega
    · rename_i hle
      have h2 : ¬ n + 1 ≤ full O hi := fun e => hle (h1.2 e)
      have := lastLe_is O hi (n + 1) (by omega) (by omega)
      rw [this]; omega
theorem last_full (O : List Op) (hi : Nat) : lastLe O hi (O.length + 1) = full O hi := by
  rw [lastLe_is O hi _ (Nat.le_refl _) (Nat.succ_pos _)]
  have := full_le O hi
  omega
end Go.Proofs.YtaijpiebjhhkjaaGreatDoor.LG
