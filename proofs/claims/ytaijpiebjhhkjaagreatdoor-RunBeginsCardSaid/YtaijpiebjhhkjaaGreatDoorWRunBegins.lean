/- The walk of RunBegins: it returns true for every input. -/
import Derived.Test.YtaijpiebjhhkjaaGreatDoorLibH
import Derived.Test.YtaijpiebjhhkjaaGreatDoorLibC
namespace Go.Proofs.YtaijpiebjhhkjaaGreatDoor
open Go.RowKit
theorem begins_to {t : List UInt8} {k n : Nat} {many : Int} (h : t.take k = [] ∨ (t.take k).getLast? = some 10 ∨ (n : Int) < many) (he : t.length ≤ k ∨ many ≤ (n : Int)) : ∃ r, sessOut caps4 [] (lns t) = sessOut caps4 [] (lns (t.take k)) ++ r := by
  by_cases hk : t.length ≤ k
  · rw [List.take_of_length_le hk]; exact ⟨[], by simp⟩
  · have := begins_app (a := t.take k) (b := t.drop k) (by
      rcases h with h | h | h
      · exact .inl h
      · exact .inr h
      · rcases he with he | he
        · exact absurd he hk
        · omega)
    rwa [List.take_append_drop] at this
set_option maxHeartbeats 8000000 in
set_option maxRecDepth 100000 in
theorem runBegins_in (b : ByteArray) (many : Int) (w : World) (hl : LaidRun w) (hs : b.size ≤ 3000) :
    Calls Tryz.prog 5 #[.string b, .int .i64 many] w fun e w' => e = .returned (.bool true) ∧ Below w.heap.size w w' := by
  have HL := Lib.hid hl
  have hs1 : ¬ (3000 : Int) < (b.size : Int) := by omega
  have hs2 : ¬ 3000 < b.size := by omega
  clear hl
  go_enter Tryz.func5, Tryz.ntmps5
  go_wp2_with fail
  refine (run_fact _ (by rfl) w HL.out).mono ?_; rintro e w1 ⟨rfl, hb⟩
  have HB1 := Lib.hid hb
  clear hb
  rw [show (⟨factA.toArray⟩ : ByteArray) = ⟨#[45, 10, 111, 107, 10, 111, 107, 10, 111, 107, 10, 98, 97, 100, 10, 51, 32, 51, 32, 57, 10, 51, 10, 111, 107, 10, 54, 32, 54, 10, 52, 47, 53, 10, 52, 32, 51, 10]⟩ from rfl]
  go_wp2
  go_loopw [7, 8] (fun v7 v8 wr => ∃ (k n : Nat), k ≤ b.size ∧ n ≤ k ∧ v7 = .int .i64 k ∧ v8 = .int .i64 n ∧ Hid (b.data.toList.take k = [] ∨ (b.data.toList.take k).getLast? = some 10 ∨ (n : Int) < many) ∧ wr = w1) (fun v7 _ _ => b.size - (intOf v7).toNat)
  case atStart => exact ⟨0, 0, Nat.zero_le _, Nat.le_refl _, rfl, rfl, Lib.hid (.inl rfl), rfl⟩
  case round =>
    obtain ⟨k, n, hk, hn, rfl, rfl, HI, hww⟩ := hrel
    obtain rfl := hww.symm
    by_cases hgo : k < b.size ∧ (n : Int) < many
    · obtain ⟨hlt, hnm⟩ := hgo
      have htk := byte_take hlt
      have hi : (0 : Int) ≤ (k : Int) ∧ (k : Int) < (b.size : Int) := by omega
      have d0 : decide ((k : Int) < (b.size : Int)) = true := decide_eq_true (by omega)
      have d1 : decide ((n : Int) < many) = true := decide_eq_true hnm
      by_cases hx : b[k] = 10
      · have HN : Hid (b.data.toList.take (k + 1) = [] ∨ (b.data.toList.take (k + 1)).getLast? = some 10 ∨ ((n + 1 : Nat) : Int) < many) := Lib.hid (.inr (.inl (by rw [htk, hx]; simp)))
        have d2 : ((b[k].toNat : Int) == 10) = true := by rw [hx]; rfl
        clear htk hx
        go_wp2
        go_roundw
        case rel => exact ⟨k + 1, n + 1, by omega, by omega, by go_num, by go_num, HN, trivial⟩
        case measure => (simp [intOf] <;> omega)
      · have HN : Hid (b.data.toList.take (k + 1) = [] ∨ (b.data.toList.take (k + 1)).getLast? = some 10 ∨ (n : Int) < many) := Lib.hid (.inr (.inr hnm))
        have d2 : ((b[k].toNat : Int) == 10) = false := beq_eq_false_iff_ne.2 fun y => hx (UInt8.toNat_inj.1 (by have h10 : (10 : UInt8).toNat = 10 := rfl; omega))
        clear htk hx
        go_wp2
        go_roundw
        case rel => exact ⟨k + 1, n, by omega, by omega, by go_num, rfl, HN, trivial⟩
        case measure => (simp [intOf] <;> omega)
    · have hend : b.data.toList.length ≤ k ∨ many ≤ (n : Int) := by rw [bytes_len]; omega
      obtain ⟨r, hr⟩ := begins_to HI.out hend
      have hg : (decide ((k : Int) < (b.size : Int)) = false ∧ ¬ k < b.size) ∨ (decide ((k : Int) < (b.size : Int)) = true ∧ k < b.size ∧ decide ((n : Int) < many) = false ∧ ¬ (n : Int) < many) := by
        by_cases h1 : k < b.size
        · have h2 : ¬ (n : Int) < many := fun h => hgo ⟨h1, h⟩
          exact .inr ⟨decide_eq_true (by omega), h1, decide_eq_false h2, h2⟩
        · exact .inl ⟨decide_eq_false (by omega), h1⟩
      have HR := Lib.hid hr
      have hk1 : (k : Int) ≤ (b.size : Int) := by omega
      have HZ : Hid ((b.extract 0 k).size ≤ 3000) := Lib.hid (by rw [← bytes_len, bytes_take, List.length_take, bytes_len]; omega)
      have HT := Lib.hid (bytes_take b k)
      clear hend hr hgo
      rcases hg with ⟨d0, d1⟩ | ⟨d0, d1, d2, d3⟩
      all_goals
        go_wp2_with fail
        refine (run_any (b.extract 0 k) _ HZ.out (HL.out.below HB1.out)).mono ?_; rintro e w2 ⟨sa, rfl, hsa, hb2⟩
        have HB2 := Lib.hid (HB1.out.trans (hb2.mono HB1.out.size)); have HSA := Lib.hid hsa
        clear hb2 hsa
        go_wp2_with fail
        refine (run_any b _ (by omega) (HL.out.below HB2.out)).mono ?_; rintro e w3 ⟨sb, rfl, hsb, hb3⟩
        have HB3 := Lib.hid (HB2.out.trans (hb3.mono HB2.out.size))
        clear hb3
        have hbb : sb.data.toList = sa.data.toList ++ r := by rw [hsb, HSA.out, HT.out, ← HR.out]
        have hle : sa.size ≤ sb.size := by rw [← bytes_len, ← bytes_len, hbb, List.length_append]; omega
        have hle2 : (sa.size : Int) ≤ (sb.size : Int) := by omega
        have hex : sb.extract 0 sa.size = sa := by
          apply ByteArray.ext
          apply Array.toList_inj.1
          rw [bytes_take, hbb, ← bytes_len sa, List.take_left']
          rfl
        clear hsb hbb
        go_wp2
        go_ret
        exact ⟨rfl, HB3.out⟩
set_option maxHeartbeats 8000000 in
set_option maxRecDepth 100000 in
theorem runBegins_out (b : ByteArray) (many : Int) (w : World) (hl : LaidRun w) (hs : 3000 < b.size) :
    Calls Tryz.prog 5 #[.string b, .int .i64 many] w fun e w' => e = .returned (.bool true) ∧ Below w.heap.size w w' := by
  have HL := Lib.hid hl
  have hs1 : (3000 : Int) < (b.size : Int) := by omega
  clear hl
  go_enter Tryz.func5, Tryz.ntmps5
  go_wp2_with fail
  refine (run_fact _ (by rfl) w HL.out).mono ?_; rintro e w1 ⟨rfl, hb⟩
  have HB1 := Lib.hid hb
  clear hb
  rw [show (⟨factA.toArray⟩ : ByteArray) = ⟨#[45, 10, 111, 107, 10, 111, 107, 10, 111, 107, 10, 98, 97, 100, 10, 51, 32, 51, 32, 57, 10, 51, 10, 111, 107, 10, 54, 32, 54, 10, 52, 47, 53, 10, 52, 32, 51, 10]⟩ from rfl]
  go_wp2_with fail
  refine (run_long b _ hs).mono ?_; rintro e w2 ⟨rfl, rfl⟩
  go_wp2
  go_ret
  exact ⟨rfl, HB1.out⟩
theorem runBegins_walk (b : ByteArray) (_ : b.size ≤ maxLen) (many : Int) (_ : (Lit.int .i64 many).wf = true) (w : World) (hl : LaidRun w) :
    Calls Tryz.prog 5 #[.string b, .int .i64 many] w fun e w' => e = .returned (.bool true) ∧ Below w.heap.size w w' := by
  by_cases hs : b.size ≤ 3000
  · exact runBegins_in b many w hl hs
  · exact runBegins_out b many w hl (by omega)
end Go.Proofs.YtaijpiebjhhkjaaGreatDoor
