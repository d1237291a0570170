/- Several texts in one: Told, PlRun, RunNum, RunNums, RunTold, RunTold2. -/
import Derived.Test.YtaijpiebjhhkjaaGreatDoorLibI
import Derived.Test.YtaijpiebjhhkjaaGreatDoorLibA
import Derived.Test.YtaijpiebjhhkjaaGreatDoorLibO
import Derived.Lib.AtoiAll
import Derived.Lib.ItoaNum
import Derived.Test.YtaijpiebjhhkjaaGreatDoorLibB
import Derived.Test.YtaijpiebjhhkjaaGreatDoorLibR
import Derived.Lib.AtoiErrMem
import Derived.Lib.AtoiAllCases
import Derived.Sort.Grow
import Derived.Lib.AppendIntMem
import Derived.WalkSmall
import Derived.Test.YtaijpiebjhhkjaaGreatDoorLibF
import Derived.Deep.RegionHeld3
/- plain.Told and fairsame.Error. -/
namespace Go.Proofs.YtaijpiebjhhkjaaGreatDoor
open Go.RowKit
theorem told_nil (w : World) : Calls Tryz.prog 44 #[.nilIface] w fun e w' => e = .returned (.int .i64 0) ∧ Below w.heap.size w w' := by
  go_enter Tryz.func44, Tryz.ntmps44
  go_wp2
  go_ret
  exact ⟨rfl, Below.refl _ _⟩
set_option maxHeartbeats 1000000 in
theorem told_err (n : Int) (w : World) (hg : Laid w) : Calls Tryz.prog 44 #[.iface 74 (.int .i64 n)] w fun e w' => e = .returned (.int .i64 n) ∧ Below w.heap.size w w' := by
  have hp := hg.pos
  have HG := Lib.hid hg; clear hg
  go_enter Tryz.func44, Tryz.ntmps44
  go_wp2_with fail
  refine (as_hit n ⟨w.heap.size, 0, none⟩ (.int .i64 0) _ (HG.out.alloc _) (by simp) (by simp)).mono ?_
  rintro e w' ⟨rfl, rfl⟩
  go_wp2
  go_ret
  refine ⟨rfl, ?_⟩
  repeat (first | exact Below.refl _ _ | refine Below.alloc ?_ (by simp <;> omega) _)
theorem same_nil (x : Int) (w : World) : Calls Tryz.prog 17 #[.nilIface, .int .i64 x] w fun e w' => e = .returned (.bool (0 == x)) ∧ Below w.heap.size w w' := by
  go_enter Tryz.func17, Tryz.ntmps17
  go_wp2_with fail
  refine (told_nil _).mono ?_
  rintro e w' ⟨rfl, hb⟩
  go_wp2
  go_ret
  exact ⟨rfl, hb⟩
theorem same_err (n x : Int) (w : World) (hg : Laid w) : Calls Tryz.prog 17 #[.iface 74 (.int .i64 n), .int .i64 x] w fun e w' => e = .returned (.bool (n == x)) ∧ Below w.heap.size w w' := by
  have HG := Lib.hid hg; clear hg
  go_enter Tryz.func17, Tryz.ntmps17
  go_wp2_with fail
  refine (told_err n _ HG.out).mono ?_
  rintro e w' ⟨rfl, hb⟩
  go_wp2
  go_ret
  exact ⟨rfl, hb⟩
/-- the error told is the one asked for -/
theorem same_yes (n : Int) (w : World) (hg : Laid w) : Calls Tryz.prog 17 #[errVal n, .int .i64 n] w fun e w' => e = .returned (.bool true) ∧ Below w.heap.size w w' := by
  by_cases h : n = 0
  · subst h; exact (same_nil 0 w).mono fun _ _ h => h
  · rw [errVal_pos h]
    refine (same_err n n w hg).mono fun _ _ h => ?_
    simpa using h
theorem same_hit (n : Int) (w : World) (hg : Laid w) : Calls Tryz.prog 17 #[.iface 74 (.int .i64 n), .int .i64 n] w fun e w' => e = .returned (.bool true) ∧ Below w.heap.size w w' :=
  (same_err n n w hg).mono fun _ _ h => by simpa using h
theorem same_ok (w : World) : Calls Tryz.prog 17 #[.nilIface, .int .i64 0] w fun e w' => e = .returned (.bool true) ∧ Below w.heap.size w w' :=
  (same_nil 0 w).mono fun _ _ h => h
end Go.Proofs.YtaijpiebjhhkjaaGreatDoor
/- Plain: what run.Run answers. -/
namespace Go.Proofs.YtaijpiebjhhkjaaGreatDoor.RN
/-- one digit -/
theorem dig_nat {i : Nat} (h : i < 10) : (UInt8.ofNat (48 + i)).toNat = 48 + i := by
  rw [UInt8.toNat_ofNat']
  omega
theorem dec_big {u : Nat} (h : ¬ u < 10) : Lib.decDigits u = Lib.decDigits (u / 10) ++ [UInt8.ofNat (48 + u % 10)] := by
  rw [Lib.decDigits, dif_neg h]
theorem parse_dig {acc i : Nat} (hi : i < 10) (ha : acc < 100000) (r : List UInt8) : Lib.parseUint10 acc (UInt8.ofNat (48 + i) :: r) = Lib.parseUint10 (acc * 10 + i) r := by
  rw [Lib.parseUint10, dig_nat hi, if_pos (by omega), if_neg (by omega), if_neg (by omega), show acc * 10 + (48 + i - 48) = acc * 10 + i by omega]
theorem parse_nil (acc : Nat) : Lib.parseUint10 acc [] = .ok acc := rfl
/-- the digits of a number of at most four -/
theorem dec_four {n : Nat} (h : n < 10000) : (n < 10 ∧ Lib.decDigits n = [UInt8.ofNat (48 + n)]) ∨ (10 ≤ n ∧ n < 100 ∧ Lib.decDigits n = [UInt8.ofNat (48 + n / 10), UInt8.ofNat (48 + n % 10)]) ∨ (100 ≤ n ∧ n < 1000 ∧ Lib.decDigits n = [UInt8.ofNat (48 + n / 100), UInt8.ofNat (48 + n / 10 % 10), UInt8.ofNat (48 + n % 10)]) ∨ (1000 ≤ n ∧ Lib.decDigits n = [UInt8.ofNat (48 + n / 1000), UInt8.ofNat (48 + n / 100 % 10), UInt8.ofNat (48 + n / 10 % 10), UInt8.ofNat (48 + n % 10)]) := by
  by_cases h1 : n < 10
  · exact .inl ⟨h1, Lib.decDigits_one h1⟩
  · by_cases h2 : n < 100
    · exact .inr (.inl ⟨by omega, h2, Lib.decDigits_two h1 h2⟩)
    · by_cases h3 : n < 1000
      · refine .inr (.inr (.inl ⟨by omega, h3, ?_⟩))
        rw [dec_big h1, Lib.decDigits_two (by omega) (by omega), Nat.div_div_eq_div_mul]; rfl
      · refine .inr (.inr (.inr ⟨by omega, ?_⟩))
        rw [dec_big h1, dec_big (by omega), Lib.decDigits_two (by omega) (by omega), show n / 10 / 10 / 10 = n / 1000 by omega, show n / 10 / 10 % 10 = n / 100 % 10 by omega]; rfl
theorem dec_len {n : Nat} (h : n < 10000) : (Lib.decDigits n).length ≤ 4 := by
  rcases dec_four h with ⟨_, e⟩ | ⟨_, _, e⟩ | ⟨_, _, e⟩ | ⟨_, e⟩ <;> rw [e] <;> simp
theorem atoi_dec {n : Nat} (h : n < 10000) : Lib.atoiAll (Lib.decDigits n) = .ok (n : Int) := by
  have key : ∀ (i : Nat) (r : List UInt8) (v : Nat), i < 10 → Lib.parseUint10 0 (UInt8.ofNat (48 + i) :: r) = .ok v → v < 10000 → Lib.atoiAll (UInt8.ofNat (48 + i) :: r) = .ok (v : Int) := by
    intro i r v hi hp hv
    have hd := dig_nat hi
    unfold Lib.atoiAll
    simp only [hd]
    rw [if_neg (by omega)]
    unfold Lib.parseMag
    rw [if_neg (by simp), hp]
    simp only
    rw [if_neg (by omega), if_neg (by omega), if_neg (by omega)]
  rcases dec_four h with ⟨h1, e⟩ | ⟨h1, h2, e⟩ | ⟨h1, h2, e⟩ | ⟨h1, e⟩
  · rw [e]
    exact key n _ n h1 (by rw [parse_dig h1 (by omega), parse_nil]; congr 1; omega) h
  · rw [e]
    refine key (n / 10) _ n (by omega) ?_ h
    rw [parse_dig (by omega) (by omega), parse_dig (by omega) (by omega), parse_nil]; congr 1; omega
  · rw [e]
    refine key (n / 100) _ n (by omega) ?_ h
    rw [parse_dig (by omega) (by omega), parse_dig (by omega) (by omega), parse_dig (by omega) (by omega), parse_nil]; congr 1; omega
  · rw [e]
    refine key (n / 1000) _ n (by omega) ?_ h
    rw [parse_dig (by omega) (by omega), parse_dig (by omega) (by omega), parse_dig (by omega) (by omega), parse_dig (by omega) (by omega), parse_nil]; congr 1; omega
theorem dec_inj {n m : Nat} (hn : n < 10000) (hm : m < 10000) (h : Lib.decDigits n = Lib.decDigits m) : n = m := by
  have h1 := atoi_dec hn
  rw [h, atoi_dec hm] at h1
  injection h1 with h1
  omega
open Classical in
/-- a word's number: at most four digits, without a needless 0 -/
noncomputable def num (w : List UInt8) : Option Nat := if h : ∃ n, n < 10000 ∧ Lib.decDigits n = w then some h.choose else none
theorem num_some {w : List UInt8} {n : Nat} : num w = some n ↔ n < 10000 ∧ Lib.decDigits n = w := by
  unfold num
  constructor
  · intro h
    split at h
    · rename_i hx
      injection h with h
      rw [← h]
      exact hx.choose_spec
    · cases h
  · intro h
    have hx : ∃ n, n < 10000 ∧ Lib.decDigits n = w := ⟨n, h⟩
    rw [dif_pos hx]
    congr 1
    exact dec_inj hx.choose_spec.1 h.1 (hx.choose_spec.2.trans h.2.symm)
theorem num_dec {n : Nat} (h : n < 10000) : num (Lib.decDigits n) = some n := num_some.2 ⟨h, rfl⟩
/-- words' numbers -/
noncomputable def nums : List (List UInt8) → Option (List Nat)
  | [] => some []
  | w :: r => match num w, nums r with
    | some n, some l => some (n :: l)
    | _, _ => none
/-- the first words' numbers, and the next: how the loop goes -/
theorem nums_none {l : List (List UInt8)} {w : List UInt8} (h : w ∈ l) (hn : num w = none) : nums l = none := by
  induction l with
  | nil => cases h
  | cons x l ih =>
    unfold nums
    rcases List.mem_cons.1 h with rfl | h
    · rw [hn]
    · rw [ih h]; split <;> simp_all
theorem nums_snoc {l : List (List UInt8)} {w : List UInt8} {n : Nat} {r : List Nat} (h : nums l = some r) (hn : num w = some n) : nums (l ++ [w]) = some (r ++ [n]) := by
  induction l generalizing r with
  | nil => injection h with h; subst h; simp [nums, hn]
  | cons x l ih =>
    unfold nums at h
    rw [List.cons_append]
    unfold nums
    split at h
    · rename_i m t hm ht
      injection h with h
      subst h
      rw [hm, ih ht]; rfl
    · cases h
theorem nums_small {l : List (List UInt8)} {r : List Nat} (h : nums l = some r) : ∀ x ∈ r, x < 10000 := by
  induction l generalizing r with
  | nil => injection h with h; subst h; simp
  | cons w l ih =>
    unfold nums at h
    split at h
    · rename_i m t hm ht
      injection h with h
      subst h
      intro x hx
      rcases List.mem_cons.1 hx with rfl | hx
      · exact (num_some.1 hm).1
      · exact ih ht x hx
    · cases h
theorem nums_len {l : List (List UInt8)} {r : List Nat} (h : nums l = some r) : r.length = l.length := by
  induction l generalizing r with
  | nil => injection h with h; subst h; rfl
  | cons w l ih =>
    unfold nums at h
    split at h
    · rename_i m t hm ht
      injection h with h
      subst h
      simp [ih ht]
    · cases h
/-- a text cut at each byte c -/
def cutAt (c : UInt8) : List UInt8 → List (List UInt8)
  | [] => [[]]
  | x :: l => if x = c then [] :: cutAt c l else match cutAt c l with
    | [] => [[x]]
    | w :: r => (x :: w) :: r
theorem cutAt_ne (c : UInt8) (l : List UInt8) : cutAt c l ≠ [] := by
  cases l with
  | nil => simp [cutAt]
  | cons x l =>
    unfold cutAt
    split
    · simp
    · split <;> simp
/-- words joined by a byte -/
def joinAt (c : UInt8) : List (List UInt8) → List UInt8
  | [] => []
  | [w] => w
  | w :: r => w ++ c :: joinAt c r
end Go.Proofs.YtaijpiebjhhkjaaGreatDoor.RN
/- run's words: a number of a word, numbers of words. -/
namespace Go.Proofs.YtaijpiebjhhkjaaGreatDoor
open Go.RowKit
/-- what Run's walks want of the listed variables -/
structure LaidRun (w : World) : Prop where
  laid : Laid w
  pow : Lib.TabIs Tryz.prog w "internal/strconv.uint64pow10" .u64 Lib.pow10Tab
  syn : ∃ te pe, w.cell? ⟨6, 0, none⟩ = some (.iface te pe)
  rng : ∃ te pe, w.cell? ⟨7, 0, none⟩ = some (.iface te pe)
  maxl : ∃ m, w.cell? ⟨1, 0, none⟩ = some (.int .i64 m)
  links : ∀ k v, ([12, 6, 4, 10] : List Int)[k]? = some v → w.cell? ⟨0, k, none⟩ = some (.int .i64 v)
  unread : w.cell? ⟨4, 0, none⟩ = some (.iface 74 (.int .i64 2))
  lt : 14 ≤ w.heap.size
theorem LaidRun.below {w w' : World} (h : LaidRun w) (hb : Below w.heap.size w w') : LaidRun w' := by
  have hlt := h.lt
  have hc : ∀ g k v, g < 14 → w.cell? ⟨g, k, none⟩ = some v → w'.cell? ⟨g, k, none⟩ = some v := fun g k v hg hv => (hb.cell (p := ⟨g, k, none⟩) (Nat.lt_of_lt_of_le hg hlt)).trans hv
  obtain ⟨a1, a2, h1⟩ := h.syn
  obtain ⟨b1, b2, h2⟩ := h.rng
  obtain ⟨m, h3⟩ := h.maxl
  exact ⟨h.laid.below hb, var?_below (g := 8) hb (by kernel_rfl) (Nat.lt_of_lt_of_le (by decide) hlt) h.pow, ⟨a1, a2, hc _ _ _ (by decide) h1⟩, ⟨b1, b2, hc _ _ _ (by decide) h2⟩, ⟨m, hc _ _ _ (by decide) h3⟩, fun k v hk => hc _ _ _ (by decide) (h.links k v hk), hc _ _ _ (by decide) h.unread, Nat.le_trans hlt hb.size⟩
theorem itoa_any (n : Int) (h0 : -9223372036854775808 ≤ n) (h1 : n ≤ 9223372036854775807) (w : World) (hl : LaidRun w) :
    Calls Tryz.prog 73 #[.int .i64 n] w fun e w' => e = .returned (.string ⟨(Lib.itoa n).toArray⟩) ∧ Below w.heap.size w w' := by
  refine (Tryz.strconv_Itoa n h0 h1 w hl.pow).mono ?_
  rintro e w' ⟨rfl, k, os, rfl⟩
  exact ⟨rfl, Lib.below_grow _ _ (Nat.le_refl _) _ _⟩
theorem atoi_any (s : ByteArray) (w : World) (hs : s.size ≤ 1000000) (hl : LaidRun w) :
    Calls Tryz.prog 78 #[.string s] w fun e w' => ∃ v ev, e = .returned (.tuple #[.int .i64 v, ev]) ∧ Below w.heap.size w w' ∧ -9223372036854775808 ≤ v ∧ v ≤ 9223372036854775807 ∧ ((Lib.atoiAll s.data.toList = .ok v ∧ ev = .nilIface) ∨ ((∀ u, Lib.atoiAll s.data.toList ≠ .ok u) ∧ ∃ t p, ev = .iface t p)) := by
  rcases h : Lib.atoiAll s.data.toList with v | _ | _
  · have hb := Lib.atoiAll_bounds h
    refine (Tryz.strconv_Atoi_ok s (by omega) v h w).mono ?_
    rintro e w' ⟨rfl, hw⟩
    refine ⟨v, .nilIface, rfl, ?_, hb.1, hb.2, .inl ⟨rfl, rfl⟩⟩
    rcases hw with rfl | ⟨t, rfl⟩
    · exact Below.refl _ _
    · exact Lib.bytesWorld_below _ _ _
  · obtain ⟨te, pe, hv⟩ := hl.syn
    refine (Tryz.strconv_Atoi_syn s (by omega) (fun u hu => by rw [h] at hu; cases hu) (fun hu => by rw [h] at hu; cases hu) _ w hv (.inr ⟨te, pe, rfl⟩)).mono ?_
    rintro e w' ⟨N, rfl, _, _, hb⟩
    exact ⟨0, _, rfl, hb, by decide, by decide, .inr ⟨fun u hu => (by cases hu), _, _, rfl⟩⟩
  · obtain ⟨te, pe, hv⟩ := hl.rng
    have hb0 := Lib.atoiSat_bounds s.data.toList
    refine (Tryz.strconv_Atoi_range s (by omega) h _ w hv (.inr ⟨te, pe, rfl⟩)).mono ?_
    rintro e w' ⟨N, rfl, _, _, hb⟩
    exact ⟨_, _, rfl, hb, hb0.1, hb0.2, .inr ⟨fun u hu => (by cases hu), _, _, rfl⟩⟩
/-- the word is the number that it spells -/
theorem num_itoa {w : List UInt8} {v : Int} (h0 : 0 ≤ v) (hl : w.length ≤ 4) (h : Lib.itoa v = w) : RN.num w = some v.toNat := by
  have hd : Lib.decDigits v.toNat = w := by rw [← h]; unfold Lib.itoa; rw [if_neg (by omega)]
  refine RN.num_some.2 ⟨?_, hd⟩
  have := Lib.lt_pow_nDigits v.toNat
  rw [← Lib.decDigits_length, hd] at this
  have h4 : 10 ^ w.length ≤ 10 ^ 4 := Nat.pow_le_pow_right (by decide) hl
  omega
set_option maxRecDepth 100000 in
set_option maxHeartbeats 1000000 in
theorem number_any (s : ByteArray) (w : World) (hs : s.size ≤ 1000000) (hl : LaidRun w) :
    Calls Tryz.prog 147 #[.string s] w fun e w' => ∃ v, e = .returned (.tuple #[.int .i64 v, .bool (RN.num s.data.toList).isSome]) ∧ (∀ n : Nat, RN.num s.data.toList = some n → v = n) ∧ Below w.heap.size w w' := by
  have HL := Lib.hid hl
  clear hl
  go_enter Tryz.func147, Tryz.ntmps147
  go_wp2_with fail
  refine (atoi_any s w hs HL.out).mono ?_; rintro e w1 ⟨v, ev, rfl, hb, v0, v1, hr⟩
  have HB1 := Lib.hid hb
  clear hb
  rcases hr with ⟨ha, rfl⟩ | ⟨ha, t, p, rfl⟩
  · by_cases hv : 0 ≤ v
    · have dv : decide (0 ≤ v) = true := decide_eq_true hv
      by_cases h4 : s.size ≤ 4
      · have d4 : decide (s.size ≤ 4) = true := decide_eq_true h4
        have HA := Lib.hid ha
        clear ha
        go_wp2_with fail
        refine (itoa_any v v0 v1 w1 (HL.out.below HB1.out)).mono ?_; rintro e w2 ⟨rfl, hb⟩
        have HB2 := Lib.hid (HB1.out.trans (hb.mono HB1.out.size))
        clear hb
        have heq : (Lib.itoa v == s.toList) = (RN.num s.data.toList).isSome := by
          rw [ByteArray.toList_eq]
          by_cases he : Lib.itoa v = s.data.toList
          · rw [num_itoa hv (by rw [bytes_len]; exact h4) he, he]
            simp
          · cases hn : RN.num s.data.toList with
            | none => simpa using he
            | some n =>
              obtain ⟨hn1, hn2⟩ := RN.num_some.1 hn
              have := RN.atoi_dec hn1
              rw [hn2, HA.out] at this
              injection this with this
              subst this
              exact absurd (by unfold Lib.itoa; rw [if_neg (by omega)]; exact hn2) he
        have hval : ∀ n : Nat, RN.num s.data.toList = some n → v = n := fun n hn => by
          obtain ⟨hn1, hn2⟩ := RN.num_some.1 hn
          have := RN.atoi_dec hn1
          rw [hn2, HA.out] at this
          injection this
        have HE := Lib.hid heq; have HV := Lib.hid hval
        clear heq hval
        go_wp2
        rw [HE.out]
        go_ret2
        exact ⟨v, rfl, HV.out, HB2.out⟩
      · have d4 : decide (s.size ≤ 4) = false := decide_eq_false h4
        have hn : RN.num s.data.toList = none := by
          cases hn : RN.num s.data.toList with
          | none => rfl
          | some n =>
            obtain ⟨hn1, hn2⟩ := RN.num_some.1 hn
            have := RN.dec_len hn1
            rw [hn2, bytes_len] at this
            omega
        have HN := Lib.hid hn
        clear hn
        go_wp2
        go_ret2
        exact ⟨v, by rw [HN.out]; rfl, fun n h => (by rw [HN.out] at h; cases h), HB1.out⟩
    · have dv : decide (0 ≤ v) = false := decide_eq_false hv
      have hn : RN.num s.data.toList = none := by
        cases hn : RN.num s.data.toList with
        | none => rfl
        | some n =>
          obtain ⟨hn1, hn2⟩ := RN.num_some.1 hn
          have := RN.atoi_dec hn1
          rw [hn2, ha] at this
          injection this with this
          omega
      have HN := Lib.hid hn
      clear hn
      go_wp2
      go_ret2
      exact ⟨v, by rw [HN.out]; rfl, fun n h => (by rw [HN.out] at h; cases h), HB1.out⟩
  · have hn : RN.num s.data.toList = none := by
      cases hn : RN.num s.data.toList with
      | none => rfl
      | some n =>
        obtain ⟨hn1, hn2⟩ := RN.num_some.1 hn
        have := RN.atoi_dec hn1
        rw [hn2] at this
        exact absurd this (ha _)
    have HN := Lib.hid hn
    clear hn
    go_wp2
    go_ret2
    exact ⟨v, by rw [HN.out]; rfl, fun n h => (by rw [HN.out] at h; cases h), HB1.out⟩
end Go.Proofs.YtaijpiebjhhkjaaGreatDoor
/- run's words: slices of words, numbers of words. -/
namespace Go.Proofs.YtaijpiebjhhkjaaGreatDoor
open Go.RowKit
/-- a slice of strings -/
structure Strs (w : World) (B : Nat) (A : Option Addr) (c : Nat) (S : List ByteArray) : Prop where
  rd : Reads w B 1 A S.length (S.map Value.string)
  le : S.length ≤ c
  cap : c ≤ maxLen
section
variable {w w' : World} {B C : Nat} {A : Option Addr} {c : Nat} {S : List ByteArray}
theorem Strs.more (h : Strs w B A c S) (hC : B ≤ C) : Strs w C A c S := ⟨h.rd.more hC, h.le, h.cap⟩
theorem Strs.below (h : Strs w B A c S) (hb : Below C w w') (hC : B ≤ C) : Strs w' B A c S := ⟨h.rd.below' hb hC, h.le, h.cap⟩
theorem Strs.at' (h : Strs w w.heap.size A c S) (hb : Below w.heap.size w w') : Strs w' w'.heap.size A c S := (h.below hb (Nat.le_refl _)).more hb.size
theorem Strs.cell (h : Strs w B A c S) {k : Nat} (hk : k < S.length) : ∃ b off, A = some ⟨b, off, none⟩ ∧ b < B ∧ w.cell? ⟨b, off + k, none⟩ = some (.string S[k]) := by
  obtain ⟨b, off, e, hb, hc⟩ := h.rd.2 (by omega)
  exact ⟨b, off, e, hb, hc k _ (by simp [hk])⟩
end
/-- the words' bytes -/
abbrev wordsOf (S : List ByteArray) : List (List UInt8) := S.map fun s => s.data.toList
theorem wordsOf_take (S : List ByteArray) (k : Nat) (hk : k < S.length) : wordsOf (S.take (k + 1)) = wordsOf (S.take k) ++ [S[k].data.toList] := by
  rw [wordsOf, ← List.take_append_getElem hk, List.map_append]; rfl
set_option maxHeartbeats 4000000 in
set_option maxRecDepth 100000 in
theorem numbers_any (A : Option Addr) (c : Nat) (S : List ByteArray) (w : World) (h : Strs w w.heap.size A c S) (hs : ∀ s ∈ S, s.size ≤ 1000000) (hn : S.length ≤ 100000) (hl : LaidRun w) :
    Calls Tryz.prog 113 #[.slice A S.length c] w fun e w' => Below w.heap.size w w' ∧ ((RN.nums (wordsOf S) = none ∧ e = .returned (.tuple #[.slice none 0 0, .bool false])) ∨ ∃ l A' c', RN.nums (wordsOf S) = some l ∧ e = .returned (.tuple #[.slice A' l.length c', .bool true]) ∧ w'.ownsRow w.heap.size 3 1 (.slice A' l.length c') l.length ((nints l).map (Value.int .i64))) := by
  have HS := Lib.hid h; have HL := Lib.hid hl; have HZ := Lib.hid hs
  clear h hl hs
  go_enter Tryz.func113, Tryz.ntmps113
  go_wp2
  go_loopw [4, 11] (fun v4 v11 wr => ∃ (k : Nat) (l : List Nat), k ≤ S.length ∧ v11 = .int .i64 k ∧ Hid (RN.nums (wordsOf (S.take k)) = some l) ∧ l.length = k ∧ Hid (wr.ownsRow w.heap.size 3 1 v4 l.length ((nints l).map (Value.int .i64))) ∧ Hid (Below w.heap.size w wr)) (fun _ v11 _ => S.length - (intOf v11).toNat)
  case atStart => exact ⟨0, [], Nat.zero_le _, rfl, Lib.hid rfl, rfl, Lib.hid (World.ownsRow_nil _ _ _ _), Lib.hid (Below.refl _ _)⟩
  case round =>
    obtain ⟨k, l, hk, rfl, HK, hlk, HO, HB⟩ := hrel
    by_cases hlt : k < S.length
    · obtain ⟨b, off, rfl, hb, hc⟩ := HS.out.cell hlt
      have c0 : wr.cell? ⟨b, off + k, none⟩ = some (.string S[k]) := (HB.out.cell (p := ⟨b, off + k, none⟩) hb).trans hc
      have hsz := HZ.out _ (List.getElem_mem hlt)
      have hw := wordsOf_take S k hlt
      have hmem : S[k].data.toList ∈ wordsOf S := List.mem_map_of_mem (List.getElem_mem hlt)
      generalize S[k] = x at c0 hsz hw hmem
      have HW := Lib.hid hw; have HM := Lib.hid hmem
      have d0 : decide (k < S.length) = true := decide_eq_true hlt
      clear hc hw hmem
      go_wp2_with fail
      refine (number_any x wr hsz (HL.out.below HB.out)).mono ?_; rintro e w1 ⟨v, rfl, hv, hb1⟩
      have HB1 := Lib.hid (HB.out.trans (hb1.mono HB.out.size))
      have HO1 := Lib.hid (own_below HO.out hb1)
      clear hb1
      cases hx : RN.num x.data.toList with
      | none =>
        have HX : Hid (RN.nums (wordsOf S) = none) := Lib.hid (RN.nums_none HM.out hx)
        clear hv
        rw [show (Option.isSome (none : Option Nat)) = false from rfl]
        go_wp2
        go_ret2
        exact ⟨HB1.out, .inl ⟨HX.out, rfl⟩⟩
      | some n =>
        obtain rfl := hv n hx
        have HX : Hid (RN.nums (wordsOf (S.take (k + 1))) = some (l ++ [n])) := Lib.hid (by rw [HW.out]; exact RN.nums_snoc HK.out hx)
        rw [show (Option.isSome (some n : Option Nat)) = true from rfl]
        have hBz := HB1.out.size
        clear hx hv
        go_wp2_with (at_builtin; refine wpList_push w1 _ rfl (.tmp 22) (.tmp 24) 22 rfl w.heap.size 3 (.int .i64 0) 1 8 Tryz.underlying22 Tryz.info_int rfl (by omega) _ _ _ rfl HO1.out rfl rfl (by simp [Value.oneCell']) (by omega) (by omega) hBz ?_; intro v2 w2 hown2 hg2)
        have HB2 := Lib.hid (below_push HB1.out HO1.out hg2 (Nat.le_refl _) hBz)
        have HO2 : Hid (w2.ownsRow w.heap.size 3 1 v2 (l ++ [n]).length ((nints (l ++ [n])).map (Value.int .i64))) := Lib.hid (by simpa [nints] using hown2)
        clear hown2 hg2
        go_roundw
        case rel => exact ⟨k + 1, l ++ [n], by omega, by go_num, HX, by simp [hlk], HO2, HB2⟩
        case measure => (simp [intOf] <;> omega)
    · have d0 : decide (k < S.length) = false := decide_eq_false hlt
      have hkk : S.take k = S := List.take_of_length_le (by omega)
      rw [hkk] at HK
      obtain ⟨A', c', rfl, _, _, _⟩ := owns_reads HO.out
      go_wp2
      go_ret2
      exact ⟨HB.out, .inr ⟨l, A', c', HK.out, rfl, HO.out⟩⟩
end Go.Proofs.YtaijpiebjhhkjaaGreatDoor
/- run's words: a fraction, a list of words, joined. -/
namespace Go.Proofs.YtaijpiebjhhkjaaGreatDoor
open Go.RowKit
/-- a fraction as a word -/
def fracW (t b : Int) : List UInt8 := if b = 1 then Lib.itoa t else Lib.itoa t ++ 47 :: Lib.itoa b
theorem nDigits_le : ∀ (k u : Nat), u < 10 ^ (k + 1) → Lib.nDigits u ≤ k + 1
  | 0, u, h => by rw [Lib.nDigits_small (by simpa using h)]; exact Nat.le_refl _
  | k + 1, u, h => by
    by_cases h1 : u < 10
    · rw [Lib.nDigits_small h1]; omega
    · rw [Lib.nDigits_big h1]
      have := nDigits_le k (u / 10) (by rw [Nat.pow_succ] at h; omega)
      omega
theorem itoa_len {n : Int} (h0 : -9223372036854775808 ≤ n) (h1 : n ≤ 9223372036854775807) : (Lib.itoa n).length ≤ 20 := by
  unfold Lib.itoa
  split
  · rw [List.length_cons, Lib.decDigits_length]
    have := nDigits_le 18 n.natAbs (by omega)
    omega
  · rw [Lib.decDigits_length]
    have := nDigits_le 18 n.toNat (by omega)
    omega
set_option maxHeartbeats 2000000 in
set_option maxRecDepth 100000 in
theorem fraction_any (t b : Int) (w : World) (ht0 : -9223372036854775808 ≤ t) (ht1 : t ≤ 9223372036854775807) (hb0 : -9223372036854775808 ≤ b) (hb1 : b ≤ 9223372036854775807) (hl : LaidRun w) :
    Calls Tryz.prog 116 #[.agg #[.int .i64 t, .int .i64 b]] w fun e w' => ∃ s : ByteArray, e = .returned (.string s) ∧ s.data.toList = fracW t b ∧ Below w.heap.size w w' := by
  have hb := (Below.refl w.heap.size w).alloc (Nat.le_refl _) (.cells #[.int .i64 t, .int .i64 b] 37)
  have HL0 := Lib.hid (hl.below hb)
  have HB0 := Lib.hid hb
  have HX0 : Hid (Blk (w.alloc (.cells #[.int .i64 t, .int .i64 b] 37)) w.heap.size 37 #[.int .i64 t, .int .i64 b]) := Lib.hid (Blk.new _ _ _)
  have lt := itoa_len ht0 ht1
  have lb := itoa_len hb0 hb1
  clear hb hl
  obtain ⟨w1, hw1⟩ : ∃ x, x = w.alloc (.cells #[.int .i64 t, .int .i64 b] 37) := ⟨_, rfl⟩
  rw [← hw1] at HL0 HB0 HX0
  go_enter Tryz.func116, Tryz.ntmps116
  go_upto_region 1 with (fail)
  rw [← hw1]
  clear hw1
  obtain ⟨c0, c1, f0, f1, z⟩ := HX0.out.two
  by_cases h1 : b = 1
  · have d1 : (b == 1) = true := by rw [h1]; rfl
    go_wp2_with fail
    refine (itoa_any t ht0 ht1 w1 HL0.out).mono ?_; rintro e w2 ⟨rfl, hb⟩
    have HB2 := Lib.hid (HB0.out.trans (hb.mono HB0.out.size))
    clear hb
    go_wp2
    go_ret
    exact ⟨_, rfl, by unfold fracW; rw [if_pos h1], HB2.out⟩
  · have d1 : (b == 1) = false := beq_eq_false_iff_ne.2 h1
    have fa : ¬ 9223372036854775807 < (Lib.itoa t).length + 1 := by omega
    have fb : ¬ 9223372036854775807 < (Lib.itoa t).length + 1 + (Lib.itoa b).length := by omega
    go_upto_region 3 with (fail)
    go_region_held3 (fun w' => w'.cell? ⟨w.heap.size, 0, none⟩ = some (.int .i64 t) ∧ w'.cell? ⟨w.heap.size, 1, none⟩ = some (.int .i64 b)) (go_keep)
      (first
        | (go_simp; go_at_call 73; refine (itoa_any t ht0 ht1 _ (HL0.out.below (Below.refl _ _).drew)).mono ?_; rintro e w2 ⟨rfl, hb2⟩; have HB2 : Hid (Below w1.heap.size w1 w2) := Lib.hid ((Below.refl _ _).drew.trans hb2); have y0 : w2.cell? ⟨w.heap.size, 0, none⟩ = some (.int .i64 t) := (HB2.out.cell (p := ⟨w.heap.size, 0, none⟩) z).trans c0; have y1 : w2.cell? ⟨w.heap.size, 1, none⟩ = some (.int .i64 b) := (HB2.out.cell (p := ⟨w.heap.size, 1, none⟩) z).trans c1; clear hb2; dsimp only)
        | (go_simp; go_at_call 73; refine (itoa_any b hb0 hb1 w2 (HL0.out.below HB2.out)).mono ?_; rintro e w3 ⟨rfl, hb3⟩; have HB3 : Hid (Below w1.heap.size w1 w3) := Lib.hid (HB2.out.trans (hb3.mono HB2.out.size)); have y2 : w3.cell? ⟨w.heap.size, 0, none⟩ = some (.int .i64 t) := (HB3.out.cell (p := ⟨w.heap.size, 0, none⟩) z).trans c0; have y3 : w3.cell? ⟨w.heap.size, 1, none⟩ = some (.int .i64 b) := (HB3.out.cell (p := ⟨w.heap.size, 1, none⟩) z).trans c1; clear hb3; dsimp only))
    all_goals
      go_wp2
      go_ret
      refine ⟨_, rfl, ?_, HB0.out.trans (HB3.out.mono HB0.out.size)⟩
      unfold fracW
      rw [if_neg h1]
      simp
theorem join_snoc (c : UInt8) (l : List (List UInt8)) (w : List UInt8) (h : l ≠ []) : RN.joinAt c (l ++ [w]) = RN.joinAt c l ++ c :: w := by
  induction l with
  | nil => exact absurd rfl h
  | cons x l ih =>
    cases l with
    | nil => rfl
    | cons y l =>
      have := ih (by simp)
      simp only [List.cons_append, RN.joinAt] at this ⊢
      rw [this]
      simp
theorem join_one (S : List ByteArray) (h : S.length = 1) : RN.joinAt 32 (wordsOf S) = (S[0]'(by omega)).data.toList := by
  match S, h with
  | [x], _ => rfl
theorem join_len (c : UInt8) (l : List (List UInt8)) (N : Nat) (h : ∀ w ∈ l, w.length ≤ N) : (RN.joinAt c l).length ≤ l.length * (N + 1) := by
  induction l with
  | nil => simp [RN.joinAt]
  | cons x l ih =>
    have h1 := h x List.mem_cons_self
    have h2 := ih fun w hw => h w (List.mem_cons_of_mem _ hw)
    cases l with
    | nil => simp [RN.joinAt]; omega
    | cons y l =>
      simp only [RN.joinAt, List.length_append, List.length_cons] at h2 ⊢
      rw [Nat.add_mul]
      omega
set_option maxHeartbeats 8000000 in
set_option maxRecDepth 100000 in
theorem join_any (A : Option Addr) (c : Nat) (S : List ByteArray) (w : World) (h : Strs w w.heap.size A c S) (hs : ∀ s ∈ S, s.size ≤ 1000) (hn : S.length ≤ 10000) (h0 : 0 < S.length) :
    Calls Tryz.prog 148 #[.slice A S.length c, .string ⟨#[32]⟩] w fun e w' => ∃ s : ByteArray, e = .returned (.string s) ∧ s.data.toList = RN.joinAt 32 (wordsOf S) ∧ Below w.heap.size w w' := by
  have HS := Lib.hid h; have HZ := Lib.hid hs
  have hcap := h.cap; have hle := h.le
  obtain ⟨b, off, rfl, hb, hc0⟩ := h.cell h0
  rw [Nat.add_zero] at hc0
  by_cases h1 : S.length = 1
  · have HE : Hid (RN.joinAt 32 (wordsOf S) = S[0].data.toList) := Lib.hid (join_one S h1)
    clear h hs
    generalize S[0] = x at hc0 HE
    go_enter Tryz.func148, Tryz.ntmps148
    rw [h1]
    go_wp2
    go_ret
    exact ⟨x, rfl, HE.out.symm, Below.refl _ _⟩
  · have d0 : ((S.length : Int) == 0) = false := beq_eq_false_iff_ne.2 (by omega)
    have d1 : ((S.length : Int) == 1) = false := beq_eq_false_iff_ne.2 (by omega)
    have hq : decide (9223372036854775807 / ((S.length : Int) - 1) ≤ 1) = false := decide_eq_false (by
      have := Int.le_ediv_of_mul_le (a := 2) (b := 9223372036854775807) (c := (S.length : Int) - 1) (by omega) (by omega)
      omega)
    clear h hs
    go_enter Tryz.func148, Tryz.ntmps148
    go_wp2_with fail
    go_loopw [5, 41] (fun v5 v41 wr => ∃ k m : Nat, k ≤ S.length ∧ v41 = .int .i64 k ∧ v5 = .int .i64 m ∧ m ≤ S.length + 1000 * k ∧ wr = w) (fun _ v41 _ => S.length - (intOf v41).toNat)
    case atStart => exact ⟨0, S.length - 1, Nat.zero_le _, rfl, by congr 1; omega, by omega, rfl⟩
    case round =>
      obtain ⟨k, m, hk, rfl, rfl, hm, hww⟩ := hrel
      obtain rfl := hww.symm
      by_cases hlt : k < S.length
      · obtain ⟨b', off', e', hb', hc⟩ := HS.out.cell hlt
        injection e' with e'
        injection e' with e1 e2
        subst e1 e2
        have hsz := HZ.out _ (List.getElem_mem hlt)
        generalize S[k] = x at hc hsz
        have dk : decide (k < S.length) = true := decide_eq_true hlt
        go_wp2
        go_roundw
        case rel => exact ⟨k + 1, m + x.size, by omega, by go_num, by go_num, by omega, by trivial⟩
        case measure => (simp [intOf] <;> omega)
      · have dk : decide (k < S.length) = false := decide_eq_false hlt
        have hBk : Blk (w.alloc (.cells #[.pointer none, .slice none 0 0] 96)) w.heap.size 96 #[.pointer none, .slice none 0 0] := Blk.new _ _ _
        have hBa := (Below.refl w.heap.size w).alloc (Nat.le_refl _) (.cells #[.pointer none, .slice none 0 0] 96)
        go_wp2_with fail
        refine (Tryz.Builder_Grow_fresh w.heap.size w.heap.size m _ (Nat.le_refl _) hBk hBa.size (by omega)).mono ?_; rintro e w1 ⟨rfl, hB1, hb1⟩
        have HB1 : Hid (Below w.heap.size w w1) := Lib.hid (hBa.trans hb1)
        have HX1 : Hid (BldIs w.heap.size w.heap.size [] w1) := Lib.hid (.inr hB1)
        have c1 : w1.cell? ⟨b, off, none⟩ = some (.string S[0]) := (HB1.out.cell (p := ⟨b, off, none⟩) hb).trans hc0
        have hz0 := HZ.out _ (List.getElem_mem h0)
        have HJ0 : Hid (RN.joinAt 32 (wordsOf (S.take 1)) = S[0].data.toList) := Lib.hid (by
          have := join_one (S.take 1) (by rw [List.length_take]; omega)
          rw [this]
          congr 2
          simp)
        clear hBk hBa hb1 hB1
        generalize S[0] = x0 at c1 hz0 HJ0 hc0
        go_wp2_with fail
        refine (bld_write w.heap.size w.heap.size [] x0 w1 HX1.out (by simp; omega) HB1.out.size).mono ?_; rintro e w2 ⟨rfl, hX, hb2⟩
        have HB2 : Hid (Below w.heap.size w w2) := Lib.hid (HB1.out.trans hb2)
        have HX2 : Hid (BldIs w.heap.size w.heap.size (RN.joinAt 32 (wordsOf (S.take 1))) w2) := Lib.hid (by rw [HJ0.out]; exact hX)
        have f1 : (1 : Int) ≤ (S.length : Int) := by omega
        have f2 : (S.length : Int) ≤ (c : Int) := by omega
        clear hX hb2 HX1 HB1 c1
        go_wp2_with fail
        go_loopw [65] (fun v65 wr => ∃ k2 : Nat, k2 + 1 ≤ S.length ∧ v65 = .int .i64 k2 ∧ Hid (BldIs w.heap.size w.heap.size (RN.joinAt 32 (wordsOf (S.take (k2 + 1)))) wr) ∧ Hid (Below w.heap.size w wr)) (fun v65 _ => S.length - (intOf v65).toNat)
        case atStart => exact ⟨0, by omega, rfl, HX2, HB2⟩
        case round =>
          clear HX2 HB2
          obtain ⟨k2, hk2, rfl, HX3, HB3⟩ := hrel
          by_cases hlt2 : k2 + 1 < S.length
          · obtain ⟨b', off', e', hb', hc⟩ := HS.out.cell hlt2
            injection e' with e'
            injection e' with e1 e2
            subst e1 e2
            have hsz := HZ.out _ (List.getElem_mem hlt2)
            have hw := wordsOf_take S (k2 + 1) hlt2
            have hln := join_len 32 (wordsOf (S.take (k2 + 1))) 1000 (fun u hu => by
              obtain ⟨s, hs, rfl⟩ := List.mem_map.1 hu
              rw [bytes_len]
              exact HZ.out s (List.mem_of_mem_take hs))
            rw [List.length_map, List.length_take] at hln
            have hne : wordsOf (S.take (k2 + 1)) ≠ [] := fun e => by
              have := congrArg List.length e
              rw [List.length_map, List.length_take, List.length_nil] at this
              omega
            generalize S[k2 + 1] = x at hc hsz hw
            have c3 : wr.cell? ⟨b, off + 1 + k2, none⟩ = some (.string x) := by
              rw [show off + 1 + k2 = off + (k2 + 1) by omega]
              exact (HB3.out.cell (p := ⟨b, off + (k2 + 1), none⟩) hb).trans hc
            have hJ : RN.joinAt 32 (wordsOf (S.take (k2 + 1 + 1))) = RN.joinAt 32 (wordsOf (S.take (k2 + 1))) ++ 32 :: x.data.toList := by
              rw [hw, join_snoc _ _ _ hne]
            have HJ := Lib.hid hJ
            have hlj : (RN.joinAt 32 (wordsOf (S.take (k2 + 1)))).length ≤ 50000000 := by omega
            have HLJ := Lib.hid hlj
            have dk2 : decide (k2 < S.length - 1) = true := decide_eq_true (by omega)
            have dk3 : k2 < S.length - 1 := by omega
            have hz3 := HB3.out.size
            clear hc hw hln hne hJ hlj
            go_wp2_with fail
            refine (bld_write w.heap.size w.heap.size _ ⟨#[32]⟩ wr HX3.out (by have := HLJ.out; have e : (⟨#[32]⟩ : ByteArray).size = 1 := rfl; omega) hz3).mono ?_; rintro e w4 ⟨rfl, hX, hb4⟩
            have HB4 : Hid (Below w.heap.size w w4) := Lib.hid (HB3.out.trans hb4)
            have HX4 := Lib.hid hX
            have hz4 := HB4.out.size
            clear hX hb4 HX3 HB3 c3
            go_wp2_with fail
            refine (bld_write w.heap.size w.heap.size _ x w4 HX4.out (by have := HLJ.out; rw [List.length_append]; show _ + 1 + _ ≤ _; omega) hz4).mono ?_; rintro e w5 ⟨rfl, hX, hb5⟩
            have HB5 : Hid (Below w.heap.size w w5) := Lib.hid (HB4.out.trans hb5)
            have HX5 : Hid (BldIs w.heap.size w.heap.size (RN.joinAt 32 (wordsOf (S.take (k2 + 1 + 1)))) w5) := Lib.hid (by rw [HJ.out]; simpa using hX)
            clear hX hb5 HX4 HB4
            go_wp2
            go_roundw
            case rel => exact ⟨k2 + 1, by omega, by go_num, HX5, HB5⟩
            case measure => (simp [intOf] <;> omega)
          · have dk2 : decide (k2 < S.length - 1) = false := decide_eq_false (by omega)
            have dk3 : ¬ k2 < S.length - 1 := by omega
            have hall : S.take (k2 + 1) = S := List.take_of_length_le (by omega)
            rw [hall] at HX3
            have hz3 := HB3.out.size
            go_wp2_with fail
            refine (Tryz.Builder_String_any w.heap.size w.heap.size (RN.joinAt 32 (wordsOf S)) wr HX3.out hz3).mono ?_; rintro e w6 ⟨rfl, hb6⟩
            have HB6 : Hid (Below w.heap.size w w6) := Lib.hid (HB3.out.trans hb6)
            clear hb6
            go_wp2
            go_ret
            exact ⟨_, rfl, rfl, HB6.out⟩
end Go.Proofs.YtaijpiebjhhkjaaGreatDoor
/- run's words: told, of fractions and of numbers. -/
namespace Go.Proofs.YtaijpiebjhhkjaaGreatDoor
open Go.RowKit
theorem Tryz.info_string : (Tryz.prog.info? 9).map (fun i => (i.zero, i.size, i.bytes)) = some (some (.string ByteArray.empty), 1, 16) := by kernel_rfl
theorem owns_strs {w : World} {base n : Nat} {v : Value} {S : List ByteArray} (h : w.ownsRow base 9 1 v n (S.map Value.string)) : ∃ A c, v = .slice A S.length c ∧ n = S.length ∧ Strs w w.heap.size A c S := by
  obtain ⟨A, c, rfl, h1, h2, h3⟩ := owns_reads h
  have hn : n = S.length := by have := h.1; simpa using this.symm
  subst hn
  exact ⟨A, c, rfl, rfl, ⟨h3, h1, h2⟩⟩
/-- words told, a blank between; - of none -/
def toldW (l : List (List UInt8)) : List UInt8 := if l = [] then [45] else RN.joinAt 32 l
theorem fracW_len {t b : Int} (h0 : -9223372036854775808 ≤ t) (h1 : t ≤ 9223372036854775807) (h2 : -9223372036854775808 ≤ b) (h3 : b ≤ 9223372036854775807) : (fracW t b).length ≤ 41 := by
  have := itoa_len h0 h1
  have := itoa_len h2 h3
  unfold fracW
  split
  · omega
  · rw [List.length_append, List.length_cons]; omega
def FrIn (f : Fr) : Prop := -9223372036854775808 ≤ f.t ∧ f.t ≤ 9223372036854775807 ∧ -9223372036854775808 ≤ f.b ∧ f.b ≤ 9223372036854775807
set_option maxHeartbeats 8000000 in
set_option maxRecDepth 100000 in
theorem toldFr_any (A : Option Addr) (c : Nat) (S : List Fr) (w : World) (h : Frs w w.heap.size A c S) (hs : ∀ f ∈ S, FrIn f) (hn : S.length ≤ 10000) (hl : LaidRun w) :
    Calls Tryz.prog 115 #[.slice A S.length c, .func (.func 116) #[] #[]] w fun e w' => ∃ s : ByteArray, e = .returned (.string s) ∧ s.data.toList = toldW (S.map fun f => fracW f.t f.b) ∧ Below w.heap.size w w' := by
  have HS := Lib.hid h; have HZ := Lib.hid hs; have HL := Lib.hid hl
  clear h hs hl
  go_enter Tryz.func115, Tryz.ntmps115
  go_wp2
  go_loopw [5, 10] (fun v5 v10 wr => ∃ (k : Nat) (T : List ByteArray), k ≤ S.length ∧ v10 = .int .i64 k ∧ T.length = k ∧ Hid (wordsOf T = (S.take k).map fun f => fracW f.t f.b) ∧ Hid (wr.ownsRow w.heap.size 9 1 v5 T.length (T.map Value.string)) ∧ Hid (Below w.heap.size w wr)) (fun _ v10 _ => S.length - (intOf v10).toNat)
  case atStart => exact ⟨0, [], Nat.zero_le _, rfl, rfl, Lib.hid rfl, Lib.hid (World.ownsRow_nil _ _ _ _), Lib.hid (Below.refl _ _)⟩
  case round =>
    obtain ⟨k, T, hk, rfl, hT, HT, HO, HB⟩ := hrel
    by_cases hlt : k < S.length
    · obtain ⟨b, off, rfl, hb, hc⟩ := HS.out.rd.2 (by omega)
      have hat := frCells_at S k S[k] (List.getElem?_eq_getElem hlt)
      have c0 : wr.cell? ⟨b, off + k * 2, none⟩ = some (.int .i64 S[k].t) := (HB.out.cell (p := ⟨b, off + k * 2, none⟩) hb).trans (hc _ _ hat.1)
      have c1 : wr.cell? ⟨b, off + k * 2 + 1, none⟩ = some (.int .i64 S[k].b) := (HB.out.cell (p := ⟨b, off + k * 2 + 1, none⟩) hb).trans (hc _ _ hat.2)
      have hin := HZ.out _ (List.getElem_mem hlt)
      have htk : (S.take (k + 1)).map (fun f => fracW f.t f.b) = ((S.take k).map fun f => fracW f.t f.b) ++ [fracW S[k].t S[k].b] := by
        rw [← List.take_append_getElem hlt, List.map_append]; rfl
      generalize S[k] = f at c0 c1 hin htk
      obtain ⟨ft, fb⟩ := f
      have HIN := Lib.hid hin; have HTK := Lib.hid htk
      have d0 : decide (k < S.length) = true := decide_eq_true hlt
      obtain ⟨w1, hw1⟩ : ∃ x, x = wr.alloc (.cells #[.int .i64 ft, .int .i64 fb] 37) := ⟨_, rfl⟩
      have hb1 : Below wr.heap.size wr w1 := by rw [hw1]; exact (Below.refl _ _).alloc (Nat.le_refl _) _
      have HX1 : Hid (Blk w1 wr.heap.size 37 #[.int .i64 ft, .int .i64 fb]) := Lib.hid (by rw [hw1]; exact Blk.new _ _ _)
      have HB1 := Lib.hid (HB.out.trans (hb1.mono HB.out.size))
      have HO1 := Lib.hid (own_below HO.out hb1)
      clear hc hat hin htk hb1
      go_upto_region 5 with (fail)
      rw [← hw1]
      clear hw1
      obtain ⟨x0, x1, xf0, xf1, xz⟩ := HX1.out.two
      go_wp2_with fail
      refine (fraction_any ft fb w1 HIN.out.1 HIN.out.2.1 HIN.out.2.2.1 HIN.out.2.2.2 (HL.out.below HB1.out)).mono ?_; rintro e w2 ⟨s, rfl, hs, hb2⟩
      have HB2 := Lib.hid (HB1.out.trans (hb2.mono HB1.out.size))
      have HO2 := Lib.hid (own_below HO1.out hb2)
      have hz2 := HB2.out.size
      have HW2 : Hid (wordsOf (T ++ [s]) = (S.take (k + 1)).map fun f => fracW f.t f.b) := Lib.hid (by rw [HTK.out, ← HT.out, wordsOf, List.map_append, List.map_singleton, hs])
      clear hs hb2 x0 x1 xf0 xf1 xz c0 c1
      go_wp2_with (at_builtin; refine wpList_push w2 _ rfl (.tmp 14) (.tmp 18) 54 rfl w.heap.size 9 (.string ByteArray.empty) 1 16 Tryz.underlying54 Tryz.info_string rfl (by omega) _ _ _ rfl HO2.out rfl rfl (by simp [Value.oneCell']) (by omega) (by omega) hz2 ?_; intro v3 w3 hown3 hg3)
      have HB3 := Lib.hid (below_push HB2.out HO2.out hg3 (Nat.le_refl _) hz2)
      have HO3 : Hid (w3.ownsRow w.heap.size 9 1 v3 (T ++ [s]).length ((T ++ [s]).map Value.string)) := Lib.hid (by simpa using hown3)
      clear hown3 hg3
      go_roundw
      case rel => exact ⟨k + 1, T ++ [s], by omega, by go_num, by simp [hT], HW2, HO3, HB3⟩
      case measure => (simp [intOf] <;> omega)
    · obtain rfl := hT
      have d0 : decide (T.length < S.length) = false := decide_eq_false hlt
      have hkk : S.take T.length = S := List.take_of_length_le (by omega)
      rw [hkk] at HT
      have hTl : T.length = S.length := by omega
      have HTL := Lib.hid hTl
      obtain ⟨A', c', rfl, _, hst⟩ := owns_strs HO.out
      have HST := Lib.hid hst
      clear hst hkk
      by_cases h0 : T.length = 0
      · have d1 : ((T.length : Int) == 0) = true := by rw [h0]; rfl
        have hS : Hid (S = []) := Lib.hid (List.length_eq_zero_iff.1 (by omega))
        clear hTl HT
        go_wp2
        go_ret
        exact ⟨_, rfl, by rw [hS.out]; rfl, HB.out⟩
      · have d1 : ((T.length : Int) == 0) = false := beq_eq_false_iff_ne.2 (by omega)
        have hne : (S.map fun f => fracW f.t f.b) ≠ [] := fun e => by have := congrArg List.length e; rw [List.length_map, List.length_nil] at this; omega
        have HNE := Lib.hid hne
        have HSZ : Hid (∀ s ∈ T, s.size ≤ 1000) := Lib.hid fun s hs => by
          have hm : s.data.toList ∈ wordsOf T := List.mem_map_of_mem hs
          rw [HT.out] at hm
          obtain ⟨f, hf, e⟩ := List.mem_map.1 hm
          have := HZ.out f hf
          have := fracW_len this.1 this.2.1 this.2.2.1 this.2.2.2
          rw [e, bytes_len] at this
          omega
        have hT0 : 0 < T.length := by omega
        have hTn : T.length ≤ 10000 := by omega
        clear hne hTl
        go_wp2_with fail
        refine (join_any A' c' T wr HST.out HSZ.out hTn hT0).mono ?_; rintro e w4 ⟨s, rfl, hs, hb4⟩
        have HB4 := Lib.hid (HB.out.trans (hb4.mono HB.out.size))
        have HR : Hid (s.data.toList = toldW (S.map fun f => fracW f.t f.b)) := Lib.hid (by rw [hs, HT.out]; unfold toldW; rw [if_neg HNE.out])
        clear hb4 hs
        go_wp2
        go_ret
        exact ⟨s, rfl, HR.out, HB4.out⟩
set_option maxHeartbeats 8000000 in
set_option maxRecDepth 100000 in
theorem toldInt_any (A : Option Addr) (c : Nat) (S : List Int) (w : World) (h : Ints w w.heap.size A c S) (hs : ∀ n ∈ S, -9223372036854775808 ≤ n ∧ n ≤ 9223372036854775807) (hn : S.length ≤ 10000) (hl : LaidRun w) :
    Calls Tryz.prog 120 #[.slice A S.length c, .func (.func 73) #[] #[]] w fun e w' => ∃ s : ByteArray, e = .returned (.string s) ∧ s.data.toList = toldW (S.map Lib.itoa) ∧ Below w.heap.size w w' := by
  have HS := Lib.hid h; have HZ := Lib.hid hs; have HL := Lib.hid hl
  clear h hs hl
  go_enter Tryz.func120, Tryz.ntmps120
  go_wp2
  go_loopw [5, 10] (fun v5 v10 wr => ∃ (k : Nat) (T : List ByteArray), k ≤ S.length ∧ v10 = .int .i64 k ∧ T.length = k ∧ Hid (wordsOf T = (S.take k).map Lib.itoa) ∧ Hid (wr.ownsRow w.heap.size 9 1 v5 T.length (T.map Value.string)) ∧ Hid (Below w.heap.size w wr)) (fun _ v10 _ => S.length - (intOf v10).toNat)
  case atStart => exact ⟨0, [], Nat.zero_le _, rfl, rfl, Lib.hid rfl, Lib.hid (World.ownsRow_nil _ _ _ _), Lib.hid (Below.refl _ _)⟩
  case round =>
    obtain ⟨k, T, hk, rfl, hT, HT, HO, HB⟩ := hrel
    by_cases hlt : k < S.length
    · obtain ⟨b, off, rfl, hb, hc⟩ := HS.out.rd.2 (by omega)
      have c0 : wr.cell? ⟨b, off + k, none⟩ = some (.int .i64 S[k]) := (HB.out.cell (p := ⟨b, off + k, none⟩) hb).trans (hc k _ (by simp [hlt]))
      have hin := HZ.out _ (List.getElem_mem hlt)
      have htk : (S.take (k + 1)).map Lib.itoa = ((S.take k).map Lib.itoa) ++ [Lib.itoa S[k]] := by
        rw [← List.take_append_getElem hlt, List.map_append]; rfl
      generalize S[k] = f at c0 hin htk
      have HIN := Lib.hid hin; have HTK := Lib.hid htk
      have d0 : decide (k < S.length) = true := decide_eq_true hlt
      clear hc hin htk
      go_wp2_with fail
      refine (itoa_any f HIN.out.1 HIN.out.2 wr (HL.out.below HB.out)).mono ?_; rintro e w2 ⟨rfl, hb2⟩
      have HB2 := Lib.hid (HB.out.trans (hb2.mono HB.out.size))
      have HO2 := Lib.hid (own_below HO.out hb2)
      have hz2 := HB2.out.size
      have HW2 : Hid (wordsOf (T ++ [⟨(Lib.itoa f).toArray⟩]) = (S.take (k + 1)).map Lib.itoa) := Lib.hid (by rw [HTK.out, ← HT.out, wordsOf, List.map_append, List.map_singleton])
      clear hb2 c0
      go_wp2_with (at_builtin; refine wpList_push w2 _ rfl (.tmp 14) (.tmp 18) 54 rfl w.heap.size 9 (.string ByteArray.empty) 1 16 Tryz.underlying54 Tryz.info_string rfl (by omega) _ _ _ rfl HO2.out rfl rfl (by simp [Value.oneCell']) (by omega) (by omega) hz2 ?_; intro v3 w3 hown3 hg3)
      have HB3 := Lib.hid (below_push HB2.out HO2.out hg3 (Nat.le_refl _) hz2)
      have HO3 : Hid (w3.ownsRow w.heap.size 9 1 v3 (T ++ [(⟨(Lib.itoa f).toArray⟩ : ByteArray)]).length ((T ++ [(⟨(Lib.itoa f).toArray⟩ : ByteArray)]).map Value.string)) := Lib.hid (by simpa using hown3)
      clear hown3 hg3
      go_roundw
      case rel => exact ⟨k + 1, T ++ [⟨(Lib.itoa f).toArray⟩], by omega, by go_num, by simp [hT], HW2, HO3, HB3⟩
      case measure => (simp [intOf] <;> omega)
    · obtain rfl := hT
      have d0 : decide (T.length < S.length) = false := decide_eq_false hlt
      have hkk : S.take T.length = S := List.take_of_length_le (by omega)
      rw [hkk] at HT
      have hTl : T.length = S.length := by omega
      have HTL := Lib.hid hTl
      obtain ⟨A', c', rfl, _, hst⟩ := owns_strs HO.out
      have HST := Lib.hid hst
      clear hst hkk
      by_cases h0 : T.length = 0
      · have d1 : ((T.length : Int) == 0) = true := by rw [h0]; rfl
        have hS : Hid (S = []) := Lib.hid (List.length_eq_zero_iff.1 (by omega))
        clear hTl HT
        go_wp2
        go_ret
        exact ⟨_, rfl, by rw [hS.out]; rfl, HB.out⟩
      · have d1 : ((T.length : Int) == 0) = false := beq_eq_false_iff_ne.2 (by omega)
        have hne : (S.map Lib.itoa) ≠ [] := fun e => by have := congrArg List.length e; rw [List.length_map, List.length_nil] at this; omega
        have HNE := Lib.hid hne
        have HSZ : Hid (∀ s ∈ T, s.size ≤ 1000) := Lib.hid fun s hs => by
          have hm : s.data.toList ∈ wordsOf T := List.mem_map_of_mem hs
          rw [HT.out] at hm
          obtain ⟨f, hf, e⟩ := List.mem_map.1 hm
          have := HZ.out f hf
          have := itoa_len this.1 this.2
          rw [e, bytes_len] at this
          omega
        have hT0 : 0 < T.length := by omega
        have hTn : T.length ≤ 10000 := by omega
        clear hne hTl
        go_wp2_with fail
        refine (join_any A' c' T wr HST.out HSZ.out hTn hT0).mono ?_; rintro e w4 ⟨s, rfl, hs, hb4⟩
        have HB4 := Lib.hid (HB.out.trans (hb4.mono HB.out.size))
        have HR : Hid (s.data.toList = toldW (S.map Lib.itoa)) := Lib.hid (by rw [hs, HT.out]; unfold toldW; rw [if_neg HNE.out])
        clear hb4 hs
        go_wp2
        go_ret
        exact ⟨s, rfl, HR.out, HB4.out⟩
end Go.Proofs.YtaijpiebjhhkjaaGreatDoor
