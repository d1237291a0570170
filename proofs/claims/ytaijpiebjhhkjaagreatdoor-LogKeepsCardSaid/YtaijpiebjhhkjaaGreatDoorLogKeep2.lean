/- (*Log).keep when it stops. -/
import Derived.Test.YtaijpiebjhhkjaaGreatDoorLogAdd
namespace Go.Proofs.YtaijpiebjhhkjaaGreatDoor
open Go.RowKit
attribute [local go_sem ↓] run_min_mn run_max_mx
theorem bytes_take (s : ByteArray) (k : Nat) : (s.extract 0 k).data.toList = s.data.toList.take k := by
  simp [ByteArray.data_extract, Array.toList_extract]
theorem bytes_len (s : ByteArray) : s.data.toList.length = s.size := by simp
set_option maxHeartbeats 8000000 in
set_option maxRecDepth 100000 in
theorem keep_stop (wd : UInt8) (hwd : wd ≠ 10) (w : World) (base g : Nat) (cv pv : Value) (vs : List Value) (caps : List Int) (L : List (List Int)) (bs : ByteArray) (safe left : Int) (st : Bool) (h : LogAt w base g cv pv vs caps L bs safe left st) (hl : base ≤ w.heap.size) (h0 : left = 0)
    (A : Option Addr) (c : Nat) (q : List Nat) (B : Nat) (hi : Ints w B A c (nints q)) (_ : B ≤ w.heap.size) (hq : ∀ x ∈ q, x < 10) (h6 : q.length ≤ 6) (hbs : bs.size ≤ 1000000) :
    Calls Tryz.prog 39 #[.pointer (some ⟨g, 0, none⟩), .string ⟨#[wd]⟩, .slice A q.length c] w fun e w' => e = .returned (.iface 74 (.int .i64 6)) ∧ ∃ bs', LogAt w' base g cv pv vs caps L bs' safe (-1) true ∧ (∃ t, bs'.data.toList = bs.data.toList ++ t ∧ (10 : UInt8) ∉ t) ∧ bs'.size ≤ bs.size + 14 ∧ Below base w w' ∧ ∀ p, Stay g p w w' := by
  have H := Lib.hid h
  have HI := Lib.hid hi
  have HQ := Lib.hid hq
  have hm := hi.cap; have hc := hi.le
  unfold maxLen at hm
  clear h hi hq
  go_enter Tryz.func39, Tryz.ntmps39
  go_wp2
  go_loop [7, 13] (fun s i => ∃ (j : Nat) (sb : ByteArray), j ≤ q.length ∧ i = .int .i64 j ∧ s = .string sb ∧ Hid (sb.data.toList = wd :: LG.nums (q.take j)) ∧ sb.size = 1 + 2 * j) (fun _ i => q.length - (intOf i).toNat)
  case atStart => exact ⟨0, ⟨#[wd]⟩, Nat.zero_le _, rfl, rfl, Lib.hid rfl, rfl⟩
  case round =>
    obtain ⟨j, sb, hj, rfl, rfl, HD, hsz⟩ := hrel
    by_cases hlt : j < q.length
    · obtain ⟨b, off, rfl, hb, hcell⟩ := ints_at HI.out hlt
      have hx := HQ.out (q.getD j 0) (by rw [List.getD_eq_getElem?_getD, List.getElem?_eq_getElem hlt]; exact List.getElem_mem hlt)
      have htk : q.take (j + 1) = q.take j ++ [q.getD j 0] := by rw [List.take_add_one, List.getD_eq_getElem?_getD, List.getElem?_eq_getElem hlt]; rfl
      generalize q.getD j 0 = x at *
      have HTK := Lib.hid htk
      clear htk
      have hdd : Lib.decDigits x = [LG.dig x] := by rw [Lib.decDigits, dif_pos hx]; rfl
      go_wp2_with fail
      refine (Tryz.strconv_Itoa_small x (by omega) _).mono ?_; rintro e w' ⟨rfl, hw⟩; rw [hw]; clear hw w'
      rw [hdd]
      clear hdd
      go_wp2
      go_round
      case rel => exact ⟨j + 1, sb ++ (⟨#[32]⟩ ++ ⟨#[LG.dig x]⟩), by omega, by go_num, rfl, Lib.hid (by rw [bytes_app, bytes_app, HD.out, HTK.out, LG.nums_snoc]; simp), by rw [bytes_size, bytes_size, hsz]; show 1 + 2 * j + (1 + 1) = _; omega⟩
      case measure => (simp [intOf] <;> omega)
    · obtain rfl : j = q.length := by omega
      rw [List.take_length] at HD
      obtain ⟨sr, hsr⟩ : ∃ x, x = sb ++ ⟨#[10]⟩ := ⟨_, rfl⟩
      have hsd : sr.data.toList = wd :: (LG.nums q ++ [10]) := by rw [hsr, bytes_app, HD.out]; rfl
      have hss : sr.size = 2 + 2 * q.length := by rw [hsr, bytes_size, hsz]; show 1 + 2 * q.length + 1 = _; omega
      have HSD := Lib.hid hsd; have HSR := Lib.hid hsr
      clear hsd hsr
      go_wp2_with fail
      rw [← HSR.out]
      clear HD HSR
      subst h0
      refine (step_log _ base g cv _ vs caps L bs safe 0 st H.out (by decide) (by decide) hl true (by decide) (-1) (by decide)).mono ?_; rintro e w1 ⟨rfl, hL1, hb1, hs1⟩
      have HL1 := Lib.hid hL1; have HB1 := Lib.hid hb1; have HS1 := Lib.hid hs1
      obtain ⟨c0, c1, c2, c3, c4, c5, f0, f1, f2, f3, f4, f5, z⟩ := hL1.cells
      have hlo := hL1.lo
      clear hL1 hb1 hs1 c3 c4 c5 f0 f1 f3 f4 f5
      have hq1 : (sr.size : Int).tdiv 2 = ((1 + q.length : Nat) : Int) := by rw [hss, Int.tdiv_eq_ediv_of_nonneg (by omega)]; omega
      have hq2 : IntKind.i64.wrap ((sr.size : Int).tdiv 2) = ((1 + q.length : Nat) : Int) := by rw [hq1]; exact IntWalk.i64_in _ (by omega)
      have hq3 : 1 + q.length ≤ sr.size := by omega
      go_upto_region 9 with (fail)
      go_region
      clear hq1 hq2 hq3
      have hnt : (10 : UInt8) ∉ (wd :: (LG.nums q ++ [10])).take (q.length + 1) := by
        rw [List.take_succ_cons, List.take_append_of_le_length (by rw [LG.nums_len]; omega)]
        intro h
        rcases List.mem_cons.1 h with e | e
        · exact hwd e.symm
        · exact LG.nums_no HQ.out (List.mem_of_mem_take e)
      go_wp2
      go_ret
      exact ⟨rfl, _, (HL1.out.s2 _).below (Below.refl _ _).drew, ⟨_, by rw [bytes_app, bytes_take, HSD.out], hnt⟩, by rw [bytes_size, ← bytes_len (sr.extract 0 (q.length + 1)), bytes_take, List.length_take]; omega, (HB1.out.setCell (p := ⟨g, 2, none⟩) hlo _).drew, fun p => ((HS1.out p).set 2 _).below (Below.refl _ _).drew⟩
end Go.Proofs.YtaijpiebjhhkjaaGreatDoor
