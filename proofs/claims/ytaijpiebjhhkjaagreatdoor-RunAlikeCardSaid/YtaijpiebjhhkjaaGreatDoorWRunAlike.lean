/- The walk of RunAlike: it returns true for every input. -/
import Derived.Test.YtaijpiebjhhkjaaGreatDoorLibH
import Derived.Test.YtaijpiebjhhkjaaGreatDoorLibC
import Derived.Test.YtaijpiebjhhkjaaGreatDoorSDig
import Derived.Test.YtaijpiebjhhkjaaGreatDoorRefGcd
namespace Go.Proofs.YtaijpiebjhhkjaaGreatDoor
open Go.RowKit
theorem alike_in {m : Nat} (h1 : 1 ≤ m) (h6 : m ≤ 6) : 0 ≤ lowT 12 m ∧ lowT 12 m ≤ 9223372036854775807 ∧ 0 ≤ lowB 12 m ∧ lowB 12 m ≤ 9223372036854775807 := by
  have hk : m = 1 ∨ m = 2 ∨ m = 3 ∨ m = 4 ∨ m = 5 ∨ m = 6 := by omega
  rcases hk with rfl | rfl | rfl | rfl | rfl | rfl <;> decide +kernel
theorem alike_len (m : Nat) (h1 : 1 ≤ m) (h6 : m ≤ 6) {S : List ByteArray} (h : wordsOf S = RN.cutAt 10 (alikeA m)) : S.length = m + 2 ∧ ∀ (hm : m < S.length), S[m].data.toList = alikeW m := by
  rw [alike_cut h1 h6] at h
  have hl : S.length = m + 2 := by
    have := congrArg List.length h
    simpa [wordsOf] using this
  refine ⟨hl, fun hm => ?_⟩
  have e : (wordsOf S)[m]? = some (alikeW m) := by rw [h]; simp
  rw [wordsOf, List.getElem?_map, List.getElem?_eq_getElem hm] at e
  exact Option.some.inj e
theorem rep_snoc (k : Nat) : (List.replicate (k + 1) ([97, 100, 100, 32, 48, 10] : List UInt8)).flatten = (List.replicate k [97, 100, 100, 32, 48, 10]).flatten ++ [97, 100, 100, 32, 48, 10] := by
  rw [List.replicate_succ', List.flatten_append]
  rfl
set_option maxHeartbeats 8000000 in
set_option maxRecDepth 100000 in
theorem runAlike_in (m : Nat) (w : World) (hl : LaidRun w) (h1 : 1 ≤ m) (h6 : m ≤ 6) :
    Calls Tryz.prog 6 #[.int .i64 (m : Int)] w fun e w' => e = .returned (.bool true) ∧ Below w.heap.size w w' := by
  have HL := Lib.hid hl
  have d1 : decide ((m : Int) < 1) = false := decide_eq_false (by omega)
  have d2 : decide ((6 : Int) < (m : Int)) = false := decide_eq_false (by omega)
  have d3 : decide (m < 1) = false := decide_eq_false (by omega)
  have d4 : decide (6 < m) = false := decide_eq_false (by omega)
  clear hl
  go_enter Tryz.func6, Tryz.ntmps6
  go_wp2
  go_loopw [4, 5] (fun v4 v5 wr => ∃ (k : Nat) (s : ByteArray), k ≤ m ∧ s.size = 6 * k ∧ v5 = .int .i64 k ∧ v4 = .string s ∧ Hid (s.data.toList = (List.replicate k [97, 100, 100, 32, 48, 10]).flatten) ∧ wr = w) (fun _ v5 _ => m - (intOf v5).toNat)
  case atStart => exact ⟨0, ⟨#[]⟩, Nat.zero_le _, rfl, rfl, rfl, Lib.hid rfl, rfl⟩
  case round =>
    obtain ⟨k, s, hk, hs, rfl, rfl, HT, hww⟩ := hrel
    obtain rfl := hww.symm
    by_cases hlt : k < m
    · have fa : ¬ 9223372036854775807 < s.size + 6 := by omega
      have e0 : decide ((k : Int) < (m : Int)) = true := decide_eq_true (by omega)
      have HN : Hid ((s ++ ⟨#[97, 100, 100, 32, 48, 10]⟩ : ByteArray).data.toList = (List.replicate (k + 1) [97, 100, 100, 32, 48, 10]).flatten) := Lib.hid (by rw [bytes_app, HT.out, rep_snoc])
      have HS : Hid ((s ++ ⟨#[97, 100, 100, 32, 48, 10]⟩ : ByteArray).size = 6 * (k + 1)) := Lib.hid (by rw [ByteArray.size_append, hs]; rfl)
      go_wp2
      go_roundw
      case rel => exact ⟨k + 1, s ++ ⟨#[97, 100, 100, 32, 48, 10]⟩, by omega, HS.out, by go_num, rfl, HN, trivial⟩
      case measure => (simp [intOf] <;> omega)
    · obtain rfl : k = m := by omega
      have e0 : decide ((k : Int) < (k : Int)) = false := decide_eq_false (by omega)
      have fa : ¬ 9223372036854775807 < s.size + 6 := by omega
      have HX : Hid ((s ++ ⟨#[108, 101, 97, 115, 116, 10]⟩ : ByteArray).data.toList = alikeT k) := Lib.hid (by rw [bytes_app, HT.out]; rfl)
      have HZ : Hid ((s ++ ⟨#[108, 101, 97, 115, 116, 10]⟩ : ByteArray).size ≤ 3000) := Lib.hid (by rw [ByteArray.size_append, hs]; show 6 * k + 6 ≤ 3000; omega)
      go_wp2_with fail
      refine (run_any _ w HZ.out HL.out).mono ?_; rintro e w1 ⟨sv, rfl, hsv, hb1⟩
      have HB1 := Lib.hid hb1
      have HSV : Hid (sv.data.toList = alikeA k) := Lib.hid (by rw [hsv, HX.out, alike_out h1 h6])
      have HVZ : Hid (sv.size ≤ 100000) := Lib.hid (by
        rw [← bytes_len, HSV.out, alikeA, List.length_append, alike_word h1 h6]
        have : k = 1 ∨ k = 2 ∨ k = 3 ∨ k = 4 ∨ k = 5 ∨ k = 6 := by omega
        rcases this with rfl | rfl | rfl | rfl | rfl | rfl <;> decide)
      clear hb1 hsv
      go_wp2_with fail
      refine (cutS_any sv 10 10 (by decide) w1 HVZ.out).mono ?_; rintro e w2 ⟨S, A, c', rfl, hS, hst, hb2⟩
      have HB2 := Lib.hid (HB1.out.trans (hb2.mono HB1.out.size))
      rw [HSV.out] at hS
      obtain ⟨hlen, hat⟩ := alike_len k h1 h6 hS
      have hkl : k < S.length := by omega
      obtain ⟨b, off, rfl, hbz, hc0⟩ := hst.cell hkl
      have hx := hat hkl
      generalize S[k] = x at hc0 hx
      have HX2 := Lib.hid hx
      obtain ⟨q1, q2, q3, q4⟩ := alike_in h1 h6
      have HQ1 := Lib.hid q1; have HQ2 := Lib.hid q2; have HQ3 := Lib.hid q3; have HQ4 := Lib.hid q4
      rw [hlen]
      clear hb2 hS hst hat hx hlen hkl q1 q2 q3 q4
      have i0 : (0 : Int) ≤ (k : Int) := by omega
      have i1 : (k : Int) < (k : Int) + 2 := by omega
      have i2 : (k : Int) < ((k + 2 : Nat) : Int) := by omega
      have i3 : ¬ (k : Int) + 2 ≤ (k : Int) := by omega
      have hwr : IntKind.i64.wrap ((k : Int) + 2) = (k : Int) + 2 := IntWalk.i64_in _ (by omega)
      have hbq : ((k : Int) + 2 == (k : Int) + 2) = true := beq_self_eq_true _
      go_upto_region 10 with (fail)
      go_region_held3 (fun w' => w'.cell? ⟨b, off + k, none⟩ = some (.string x)) (go_keep)
        (first
          | (go_simp; go_at_call 30; refine (refLow_any 12 k _ (by decide) (by decide) (by omega) (by omega)).mono ?_; rintro e w3 ⟨rfl, hb3⟩; have HB3 : Hid (Below w2.heap.size w2 w3) := Lib.hid ((Below.refl _ _).drew.trans hb3); have y0 : w3.cell? ⟨b, off + k, none⟩ = some (.string x) := (HB3.out.cell (p := ⟨b, off + k, none⟩) hbz).trans hc0; clear hb3; dsimp only)
          | (go_simp; go_at_call 29; refine (toldS_any (lowT 12 k) (lowB 12 k) w3 HQ1.out HQ2.out HQ3.out HQ4.out).mono ?_; rintro e w4 ⟨sx, rfl, hsx, hb4⟩; have HB4 : Hid (Below w2.heap.size w2 w4) := Lib.hid (HB3.out.trans (hb4.mono HB3.out.size)); have y1 : w4.cell? ⟨b, off + k, none⟩ = some (.string x) := (HB4.out.cell (p := ⟨b, off + k, none⟩) hbz).trans hc0; obtain rfl : sx = x := ByteArray.ext (Array.toList_inj.1 (hsx.trans HX2.out.symm)); clear hb4 hsx; dsimp only))
      all_goals
        go_wp2
        go_ret
        exact ⟨rfl, HB2.out.trans (HB4.out.mono HB2.out.size)⟩
set_option maxHeartbeats 8000000 in
set_option maxRecDepth 100000 in
theorem runAlike_out (m : Int) (w : World) (hl : LaidRun w) (h : m < 1 ∨ 6 < m) :
    Calls Tryz.prog 6 #[.int .i64 m] w fun e w' => e = .returned (.bool true) ∧ Below w.heap.size w w' := by
  have HL := Lib.hid hl
  have hd : m < 1 ∨ (decide (m < 1) = false ∧ 6 < m) := by
    by_cases h1 : m < 1
    · exact .inl h1
    · exact .inr ⟨decide_eq_false h1, by omega⟩
  clear hl h
  have HR := Lib.hid (run_is ⟨#[97, 100, 100, 32, 52, 10]⟩ w (by decide) HL.out [69, 114, 114, 82, 97, 110, 103, 101, 10] range_out)
  rcases hd with h1 | ⟨h1, h2⟩
  all_goals
    go_enter Tryz.func6, Tryz.ntmps6
    go_wp2_with fail
    refine HR.out.mono ?_; rintro e w1 ⟨rfl, hb⟩
    have HB1 := Lib.hid hb
    clear hb
    go_wp2
    go_ret
    exact ⟨rfl, HB1.out⟩
theorem runAlike_walk (m : Int) (_ : (Lit.int .i64 m).wf = true) (w : World) (hl : LaidRun w) :
    Calls Tryz.prog 6 #[.int .i64 m] w fun e w' => e = .returned (.bool true) ∧ Below w.heap.size w w' := by
  by_cases h : m < 1 ∨ 6 < m
  · exact runAlike_out m w hl h
  · obtain ⟨k, rfl⟩ : ∃ k : Nat, m = k := ⟨m.toNat, by omega⟩
    exact runAlike_in k w hl (by omega) (by omega)
end Go.Proofs.YtaijpiebjhhkjaaGreatDoor
