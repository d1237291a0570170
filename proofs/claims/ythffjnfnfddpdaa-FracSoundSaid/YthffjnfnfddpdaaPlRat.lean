/- Fractions as Rat (plain: no program in sight but the words lowT, lowB, FracIn, fracErr). -/
import Derived.Test.YthffjnfnfddpdaaFrac
namespace Go.Proofs.Ythffjnfnfddpdaa
open Go.RowKit
theorem low_num (t b : Int) (hb : 0 < b) : lowT t b = (mkRat t b.toNat).num := by
  have hn : b.toNat ≠ 0 := by omega
  have hg : Int.gcd t b = t.natAbs.gcd b.toNat := by
    show Nat.gcd t.natAbs b.natAbs = _
    rw [show b.natAbs = b.toNat by omega]
  rw [Rat.mkRat_def, dif_neg hn, Rat.normalize_eq]
  show t.tdiv (Int.gcd t b) = t / ((t.natAbs.gcd b.toNat : Nat) : Int)
  rw [hg]
  exact Int.tdiv_eq_ediv_of_dvd (Int.ofNat_dvd_left.2 (Nat.gcd_dvd_left _ _))
theorem low_den (t b : Int) (hb : 0 < b) : lowB t b = ((mkRat t b.toNat).den : Int) := by
  have hn : b.toNat ≠ 0 := by omega
  have hg : Int.gcd t b = t.natAbs.gcd b.toNat := by
    show Nat.gcd t.natAbs b.natAbs = _
    rw [show b.natAbs = b.toNat by omega]
  rw [Rat.mkRat_def, dif_neg hn, Rat.normalize_eq]
  show b / ((Int.gcd t b : Nat) : Int) = ((b.toNat / t.natAbs.gcd b.toNat : Nat) : Int)
  rw [hg, Int.natCast_ediv, Int.toNat_of_nonneg (by omega)]
/-- a fraction's two numbers are those of a Rat -/
def QIn (q : Rat) : Prop := FracIn q.num q.den
instance (q : Rat) : Decidable (QIn q) := by unfold QIn; infer_instance
theorem frac_rat {t b : Int} (h : fracErr t b = 0) : ∃ q : Rat, t = q.num ∧ b = q.den ∧ QIn q := by
  obtain ⟨h1, h2⟩ := frac_ok h
  have hb := h1.1
  have e1 := low_num t b (by omega)
  have e2 := low_den t b (by omega)
  refine ⟨mkRat t b.toNat, ?_, ?_, ?_⟩
  · rw [← e1]; unfold lowT; rw [h2]; simp
  · rw [← e2]; unfold lowB; rw [h2]; simp
  · unfold QIn
    rw [← e1, ← e2]
    unfold lowT lowB; rw [h2]; simpa using h1
theorem rat_frac {q : Rat} (h : QIn q) : fracErr q.num q.den = 0 := by
  unfold fracErr
  rw [if_neg (fun x => x h), if_neg]
  intro x
  exact x (by show Nat.gcd q.num.natAbs (q.den : Int).natAbs = 1; exact q.reduced)
theorem den_pos' (q : Rat) : (0 : Int) < q.den := by have := q.den_pos; omega
theorem sum_num (q r : Rat) : lowT (q.num * r.den + r.num * q.den) ((q.den : Int) * r.den) = (q + r).num := by
  rw [low_num _ _ (Int.mul_pos (den_pos' q) (den_pos' r)), Rat.add_def']
  rw [show ((q.den : Int) * r.den).toNat = q.den * r.den by rw [← Int.natCast_mul, Int.toNat_natCast]]
theorem sum_den (q r : Rat) : lowB (q.num * r.den + r.num * q.den) ((q.den : Int) * r.den) = (q + r).den := by
  rw [low_den _ _ (Int.mul_pos (den_pos' q) (den_pos' r)), Rat.add_def']
  rw [show ((q.den : Int) * r.den).toNat = q.den * r.den by rw [← Int.natCast_mul, Int.toNat_natCast]]
theorem mk_times (q : Rat) (n : Int) : mkRat (q.num * n) q.den = q * n := by
  have h := Rat.mkRat_mul_mkRat q.num n q.den 1
  rw [Rat.mkRat_self, Nat.mul_one] at h
  rw [← h]; congr 1
  exact Rat.mkRat_one n
theorem times_num (q : Rat) (n : Int) : lowT (q.num * n) q.den = (q * n).num := by
  rw [low_num _ _ (den_pos' q), ← mk_times]; simp
theorem times_den (q : Rat) (n : Int) : lowB (q.num * n) q.den = (q * n).den := by
  rw [low_den _ _ (den_pos' q), ← mk_times]; simp
theorem mk_by (q : Rat) (n : Nat) : mkRat q.num (q.den * n) = q / n := by
  have h := Rat.mkRat_mul_mkRat q.num 1 q.den n
  rw [Rat.mkRat_self, Int.mul_one] at h
  rw [← h, Rat.div_def]
  congr 1
  rw [Rat.mkRat_eq_div]; simp [Rat.div_def]
theorem by_num (q : Rat) (n : Int) (hn : 0 < n) : lowT q.num ((q.den : Int) * n) = (q / n).num := by
  obtain ⟨m, rfl⟩ := Int.eq_ofNat_of_zero_le (Int.le_of_lt hn)
  rw [low_num _ _ (Int.mul_pos (den_pos' q) hn)]
  rw [show ((q.den : Int) * (m : Int)).toNat = q.den * m by rw [← Int.natCast_mul, Int.toNat_natCast], mk_by q m]
  rfl
theorem by_den (q : Rat) (n : Int) (hn : 0 < n) : lowB q.num ((q.den : Int) * n) = (q / n).den := by
  obtain ⟨m, rfl⟩ := Int.eq_ofNat_of_zero_le (Int.le_of_lt hn)
  rw [low_den _ _ (Int.mul_pos (den_pos' q) hn)]
  rw [show ((q.den : Int) * (m : Int)).toNat = q.den * m by rw [← Int.natCast_mul, Int.toNat_natCast], mk_by q m]
  rfl
/-- which is more -/
def ordQ (q r : Rat) : Int := if q < r then -1 else if r < q then 1 else 0
theorem cmp_rat (q r : Rat) : cmpI (q.num * r.den) (r.num * q.den) = ordQ q r := by
  unfold cmpI ordQ
  simp only [Rat.lt_iff]
theorem rat_ext {q r : Rat} (h : q.num = r.num) (k : (q.den : Int) = r.den) : q = r := Rat.ext h (by omega)
end Go.Proofs.Ythffjnfnfddpdaa
