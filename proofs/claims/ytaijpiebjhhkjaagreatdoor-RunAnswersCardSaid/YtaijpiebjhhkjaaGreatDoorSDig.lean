/- fairref2: Digits, Told, name. -/
import Derived.Test.YtaijpiebjhhkjaaGreatDoorLibT
import Derived.Test.YtaijpiebjhhkjaaGreatDoorLibH
namespace Go.Proofs.YtaijpiebjhhkjaaGreatDoor
open Go.RowKit
theorem digit_sub {k : Nat} (h : k < 10) : ((⟨#[48, 49, 50, 51, 52, 53, 54, 55, 56, 57]⟩ : ByteArray).extract k (k + 1)).data.toList = [UInt8.ofNat (48 + k)] := by
  have : k = 0 ∨ k = 1 ∨ k = 2 ∨ k = 3 ∨ k = 4 ∨ k = 5 ∨ k = 6 ∨ k = 7 ∨ k = 8 ∨ k = 9 := by omega
  rcases this with rfl | rfl | rfl | rfl | rfl | rfl | rfl | rfl | rfl | rfl <;> decide +kernel
set_option maxHeartbeats 1000000 in
set_option maxRecDepth 100000 in
theorem digits_any (n : Nat) : ∀ (w : World), n ≤ 9223372036854775807 →
    Calls Tryz.prog 62 #[.int .i64 n] w fun e w' => ∃ s : ByteArray, e = .returned (.string s) ∧ s.data.toList = Lib.decDigits n ∧ w = w' := by
  induction n using Nat.strongRecOn with
  | ind n ih =>
    intro w hn
    by_cases h10 : n < 10
    · have HE : Hid (((⟨#[48, 49, 50, 51, 52, 53, 54, 55, 56, 57]⟩ : ByteArray).extract n (n + 1)).data.toList = Lib.decDigits n) := Lib.hid (by rw [digit_sub h10, Lib.decDigits_one h10])
      clear ih
      have h1 : (n : Int) < 10 := by omega
      have h2 : (0 : Int) ≤ (n : Int) := by omega
      go_enter Tryz.func62, Tryz.ntmps62
      go_wp2
      go_ret
      exact ⟨_, rfl, HE.out, rfl⟩
    · have hd : Lib.decDigits n = Lib.decDigits (n / 10) ++ [UInt8.ofNat (48 + n % 10)] := RN.dec_big h10
      have h1 : ¬ (n : Int) < 10 := by omega
      have q2 : ((n : Int)).tmod 10 = ((n % 10 : Nat) : Int) := by rw [Int.tmod_eq_emod_of_nonneg (by omega)]; omega
      have HD := Lib.hid hd
      have hi := ih (n / 10) (by omega) w (by omega)
      rw [show ((n / 10 : Nat) : Int) = (n : Int) / 10 by omega] at hi
      have HI := Lib.hid hi
      clear hi
      have hl : (Lib.decDigits (n / 10)).length ≤ 20 := by
        rw [Lib.decDigits_length]
        have := nDigits_le 18 (n / 10) (by omega)
        omega
      have HS := Lib.hid (digit_sub (k := n % 10) (by omega))
      have m1 : n % 10 < 10 := by omega
      obtain ⟨k, hk⟩ : ∃ k, k = n % 10 := ⟨_, rfl⟩
      rw [← hk] at q2 HD HS m1
      obtain ⟨m, hm⟩ : ∃ m, m = n / 10 := ⟨_, rfl⟩
      rw [← hm] at HD HI hl
      clear hd ih hk hm
      go_enter Tryz.func62, Tryz.ntmps62
      go_wp2_with fail
      refine HI.out.mono ?_; rintro e w' ⟨s, rfl, hs, rfl⟩
      have hsz : s.size ≤ 20 := by rw [← bytes_len, hs]; exact hl
      have HSS := Lib.hid hs
      have fa : ¬ 9223372036854775807 < s.size + 1 := by omega
      clear hs
      go_wp2
      go_ret
      refine ⟨_, rfl, ?_, rfl⟩
      rw [bytes_app, HSS.out, HS.out, HD.out]
theorem itoa_nat (n : Nat) : Lib.itoa (n : Int) = Lib.decDigits n := by
  unfold Lib.itoa
  rw [if_neg (by omega), Int.toNat_natCast]
set_option maxHeartbeats 1000000 in
set_option maxRecDepth 100000 in
theorem toldS_any (t b : Int) (w : World) (ht0 : 0 ≤ t) (ht1 : t ≤ 9223372036854775807) (hb0 : 0 ≤ b) (hb1 : b ≤ 9223372036854775807) :
    Calls Tryz.prog 29 #[.agg #[.int .i64 t, .int .i64 b]] w fun e w' => ∃ s : ByteArray, e = .returned (.string s) ∧ s.data.toList = fracW t b ∧ Below w.heap.size w w' := by
  obtain ⟨t, rfl⟩ : ∃ k : Nat, t = k := ⟨t.toNat, by omega⟩
  obtain ⟨b, rfl⟩ : ∃ k : Nat, b = k := ⟨b.toNat, by omega⟩
  have hb := (Below.refl w.heap.size w).alloc (Nat.le_refl _) (.cells #[.int .i64 t, .int .i64 b] 37)
  have HB0 := Lib.hid hb
  have HX0 : Hid (Blk (w.alloc (.cells #[.int .i64 t, .int .i64 b] 37)) w.heap.size 37 #[.int .i64 t, .int .i64 b]) := Lib.hid (Blk.new _ _ _)
  have lt := itoa_len (n := (t : Int)) (by omega) ht1
  have lb := itoa_len (n := (b : Int)) (by omega) hb1
  rw [itoa_nat] at lt lb
  clear hb
  obtain ⟨w1, hw1⟩ : ∃ x, x = w.alloc (.cells #[.int .i64 t, .int .i64 b] 37) := ⟨_, rfl⟩
  rw [← hw1] at HB0 HX0
  go_enter Tryz.func29, Tryz.ntmps29
  go_upto_region 1 with (fail)
  rw [← hw1]
  clear hw1
  obtain ⟨c0, c1, f0, f1, z⟩ := HX0.out.two
  go_wp2_with fail
  refine (digits_any t w1 (by omega)).mono ?_; rintro e w' ⟨s, rfl, hs, rfl⟩
  have hsz : s.size ≤ 20 := by rw [← bytes_len, hs]; exact lt
  have HSS := Lib.hid hs
  clear hs
  by_cases h1 : b = 1
  · have d1 : ((b : Int) == 1) = true := by rw [h1]; rfl
    have HF : Hid (fracW t b = Lib.decDigits t) := Lib.hid (by rw [h1]; unfold fracW; rw [if_pos (show ((1 : Nat) : Int) = 1 from rfl), itoa_nat])
    clear h1
    go_wp2
    go_ret
    exact ⟨_, rfl, by rw [HF.out]; exact HSS.out, HB0.out⟩
  · have d1 : ((b : Int) == 1) = false := beq_eq_false_iff_ne.2 (by omega)
    have HF : Hid (fracW t b = Lib.decDigits t ++ 47 :: Lib.decDigits b) := Lib.hid (by unfold fracW; rw [if_neg (by omega), itoa_nat, itoa_nat])
    clear h1
    go_wp2_with fail
    refine (digits_any b w1 (by omega)).mono ?_; rintro e w' ⟨s2, rfl, hs2, rfl⟩
    have hsz2 : s2.size ≤ 20 := by rw [← bytes_len, hs2]; exact lb
    have HS2 := Lib.hid hs2
    have fa : ¬ 9223372036854775807 < s.size + 1 := by omega
    have fb : ¬ 9223372036854775807 < s.size + 1 + s2.size := by omega
    clear hs2
    go_wp2
    go_ret
    refine ⟨_, rfl, ?_, HB0.out⟩
    rw [HF.out, ← HSS.out, ← HS2.out]
    simp
set_option maxHeartbeats 1000000 in
set_option maxRecDepth 100000 in
theorem nameS_any (n : Nat) (w : World) (hn : n ≤ 8) :
    Calls Tryz.prog 58 #[.int .i64 n] w fun e w' => ∃ s : ByteArray, e = .returned (.string s) ∧ s.data.toList = errName n ∧ Below w.heap.size w w' := by
  have hb := (Below.refl w.heap.size w).alloc (Nat.le_refl _) (.cells (([[79, 75], [69, 114, 114, 82, 97, 110, 103, 101], [69, 114, 114, 83, 121, 110, 116, 97, 120], [69, 114, 114, 83, 104, 97, 112, 101], [69, 114, 114, 70, 117, 108, 108], [69, 114, 114, 78, 111, 110, 101], [69, 114, 114, 83, 116, 97, 116, 101], [69, 114, 114, 67, 108, 97, 115, 104], [69, 114, 114, 76, 111, 119]] : List (List UInt8)).map fun l => Value.string ⟨l.toArray⟩).toArray 9)
  have hc : (w.alloc (.cells (([[79, 75], [69, 114, 114, 82, 97, 110, 103, 101], [69, 114, 114, 83, 121, 110, 116, 97, 120], [69, 114, 114, 83, 104, 97, 112, 101], [69, 114, 114, 70, 117, 108, 108], [69, 114, 114, 78, 111, 110, 101], [69, 114, 114, 83, 116, 97, 116, 101], [69, 114, 114, 67, 108, 97, 115, 104], [69, 114, 114, 76, 111, 119]] : List (List UInt8)).map fun l => Value.string ⟨l.toArray⟩).toArray 9)).cell? ⟨w.heap.size, n, none⟩ = some (.string ⟨(errName n).toArray⟩) := by
    have hn' : n = 0 ∨ n = 1 ∨ n = 2 ∨ n = 3 ∨ n = 4 ∨ n = 5 ∨ n = 6 ∨ n = 7 ∨ n = 8 := by omega
    rw [(Blk.new w 9 _).cell n]
    rcases hn' with rfl | rfl | rfl | rfl | rfl | rfl | rfl | rfl | rfl <;> rfl
  have HB := Lib.hid hb
  have HE : Hid ((⟨(errName n).toArray⟩ : ByteArray).data.toList = errName n) := Lib.hid (by simp)
  clear hb
  obtain ⟨E, hE⟩ : ∃ E : ByteArray, E = ⟨(errName n).toArray⟩ := ⟨_, rfl⟩
  rw [← hE] at hc HE
  clear hE
  simp only [List.map_cons, List.map_nil] at hc HB
  have i0 : (0 : Int) ≤ (n : Int) := by omega
  have i1 : (n : Int) < 9 := by omega
  go_enter Tryz.func58, Tryz.ntmps58
  go_wp2
  go_ret
  exact ⟨E, rfl, HE.out, HB.out⟩
end Go.Proofs.YtaijpiebjhhkjaaGreatDoor
