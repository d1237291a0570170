/- Plain: lowest terms of numbers that are times as great; indexes and gaps of shares that are times as great. -/
import Derived.Test.YtblanfaghnflkaaEvenGap
namespace Go.Proofs.Ytblanfaghnflkaa
open Go.RowKit
theorem low_scale (t b k : Int) (hk : 0 < k) : lowT (t * k) (b * k) = lowT t b ∧ lowB (t * k) (b * k) = lowB t b := by
  have e : ((Int.gcd (t * k) (b * k) : Nat) : Int) = Int.gcd t b * k := by
    rw [Int.gcd_mul_right, Int.natCast_mul]; congr 1; omega
  unfold lowT lowB
  rw [e]
  constructor
  · rw [Int.mul_comm t k, Int.mul_comm _ k]; exact Int.mul_tdiv_mul_of_pos _ _ hk
  · rw [Int.mul_ediv_mul_of_pos_left _ _ hk]
def scale (l : List Int) (k : Int) : List Int := l.map (· * k)
theorem tot_scale (l : List Int) (k : Int) : tot (scale l k) = tot l * k := by
  induction l with
  | nil => simp [scale, tot]
  | cons a l ih => simp only [scale, List.map_cons, tot] at *; rw [ih, Int.add_mul]
theorem sqs_scale (l : List Int) (k : Int) : sqs (scale l k) = sqs l * (k * k) := by
  induction l with
  | nil => simp [scale, sqs, tot]
  | cons a l ih =>
    have e1 : sqs (scale (a :: l) k) = a * k * (a * k) + sqs (scale l k) := rfl
    have e2 : sqs (a :: l) = a * a + sqs l := rfl
    rw [e1, e2, ih, Int.add_mul, Int.mul_assoc a k (a * k), Int.mul_assoc a a (k * k), Int.mul_left_comm k a k]
theorem idx_scale (l : List Int) (k : Int) (hk : 0 < k) : idxT (scale l k) = idxT l ∧ idxB (scale l k) = idxB l := by
  have hkk : 0 < k * k := Int.mul_pos hk hk
  have := low_scale (tot l * tot l) (l.length * sqs l) (k * k) hkk
  have e1 : tot l * k * (tot l * k) = tot l * tot l * (k * k) := by rw [Int.mul_assoc (tot l) k, Int.mul_left_comm k (tot l) k, Int.mul_assoc (tot l) (tot l)]
  have e2 : (l.length : Int) * (sqs l * (k * k)) = l.length * sqs l * (k * k) := (Int.mul_assoc _ _ _).symm
  unfold idxT idxB
  rw [tot_scale, sqs_scale, show (scale l k).length = l.length by simp [scale], e1, e2]
  exact this
theorem gap_scale (l : List Int) (k : Int) (hk : 0 < k) (hne : l ≠ []) : gapL (scale l k) = gapL l * k := by
  obtain ⟨m1, m2⟩ := lmax_spec l hne
  obtain ⟨n1, n2⟩ := lmin_spec l hne
  have : lmax l * k - lmin l * k = gapL (scale l k) := gapL_of (List.mem_map.2 ⟨_, n1, rfl⟩) (List.mem_map.2 ⟨_, m1, rfl⟩) fun a ha => by
    obtain ⟨x, hx, rfl⟩ := List.mem_map.1 ha
    exact ⟨Int.mul_le_mul_of_nonneg_right (n2 x hx) (by omega), Int.mul_le_mul_of_nonneg_right (m2 x hx) (by omega)⟩
  rw [← this, gapL, Int.sub_mul]
theorem few_scale {l : List Int} {k : Int} (h : fewErr l 1000 = 0) (hk : 0 < k) (hb : ∀ a ∈ l, a * k ≤ 1000) : fewErr (scale l k) 1000 = 0 := by
  obtain ⟨h0, h6, hbad⟩ := few_ok h
  have hin := badTo_in hbad
  have hl : (scale l k).length = l.length := by simp [scale]
  unfold fewErr
  rw [hl, if_neg (by omega), if_neg (by omega)]
  have : (scale l k).any (badTo 1000) = false := by
    cases e : (scale l k).any (badTo 1000)
    · rfl
    · obtain ⟨y, hy, hbd⟩ := List.any_eq_true.1 e
      obtain ⟨x, hx, rfl⟩ := List.mem_map.1 hy
      rw [(badTo_iff 1000 (x * k)).2 ⟨Int.mul_nonneg (hin x hx).1 (by omega), hb x hx⟩] at hbd; cases hbd
  rw [this]; rfl
theorem Ints.ofBlk {w : World} {g : Nat} {t : TypeId} {l : List Int} (h : Blk w g t (l.map (Value.int .i64)).toArray) (hl : l.length ≤ 1000) : Ints w w.heap.size (some ⟨g, 0, none⟩) l.length l :=
  ⟨⟨by simp, fun _ => ⟨g, 0, rfl, h.lt, fun j u hu => by
    rw [Nat.zero_add, h.cell j]; simpa using hu⟩⟩, Nat.le_refl _, by simp only [maxLen]; omega⟩
end Go.Proofs.Ytblanfaghnflkaa
