/- (*Log).keep of a flow fewer. -/
import Derived.Test.YtaijpiebjhhkjaaGreatDoorLogDel
import Derived.Deep.RegionLaw
namespace Go.Proofs.YtaijpiebjhhkjaaGreatDoor
open Go.RowKit
attribute [local go_sem ↓] run_min_mn run_max_mx
set_option maxHeartbeats 8000000 in
set_option maxRecDepth 100000 in
theorem keep_del_go (w : World) (base g : Nat) (cv : Value) (P : Option Addr) (cp : Nat) (vs : List Value) (caps : List Int) (L : List (List Int)) (bs : ByteArray) (safe left : Int) (st : Bool) (h : LogAt w base g cv (.slice P L.length cp) vs caps L bs safe left st) (hl : base ≤ w.heap.size) (h1 : -1 ≤ left) (h2 : left ≤ 9223372036854775807) (h0 : left ≠ 0) (nl : Int) (hn : max (-1) (left - 1) = nl)
    (A : Option Addr) (c : Nat) (q : List Nat) (f : Nat) (hqf : q = [f]) (hfL : f < L.length) (B : Nat) (hi : Ints w B A c (nints q)) (hB : B ≤ w.heap.size) (hA : ∀ b off, A = some ⟨b, off, none⟩ → b ≠ g) (hq : ∀ x ∈ q, x < 10) (h6 : q.length ≤ 6) (hL : L.length ≤ 6) (hbs : bs.size ≤ 1000000) :
    Calls Tryz.prog 39 #[.pointer (some ⟨g, 0, none⟩), .string ⟨#[45]⟩, .slice A q.length c] w fun e w' => e = .returned .nilIface ∧ ∃ P' cp' vs' bs', LogAt w' base g cv (.slice P' (L.length - 1) cp') vs' caps (L.eraseIdx f) bs' safe nl false ∧ bs'.data.toList = bs.data.toList ++ LG.recB ⟨false, q⟩ ∧ bs'.size ≤ bs.size + 14 ∧ Below base w w' ∧ Stay g (Value.slice P L.length cp).ownBlock w w' ∧ (Value.slice P' (L.length - 1) cp').ownBlock = (Value.slice P L.length cp).ownBlock := by
  obtain ⟨gp, capp, hpe, _, _, _, _⟩ := own_form h.net.own (by omega)
  injection hpe with hp1 _ hp3
  subst hp1 hp3
  have HQ1 := Lib.hid (show q.length = 1 by rw [hqf]; rfl)
  have HQF := Lib.hid hqf
  clear hqf
  have H := Lib.hid h
  have HA := Lib.hid hA
  have HI := Lib.hid hi
  have HQ := Lib.hid hq
  have hm := hi.cap; have hc := hi.le
  unfold maxLen at hm
  clear h hi hq hA
  go_enter Tryz.func39, Tryz.ntmps39
  go_wp2
  go_loop [7, 13] (fun s i => ∃ (j : Nat) (sb : ByteArray), j ≤ q.length ∧ i = .int .i64 j ∧ s = .string sb ∧ Hid (sb.data.toList = 45 :: LG.nums (q.take j)) ∧ sb.size = 1 + 2 * j) (fun _ i => q.length - (intOf i).toNat)
  case atStart => exact ⟨0, ⟨#[45]⟩, Nat.zero_le _, rfl, rfl, Lib.hid rfl, rfl⟩
  case round =>
    obtain ⟨j, sb, hj, rfl, rfl, HD, hsz⟩ := hrel
    by_cases hlt : j < q.length
    · obtain ⟨b, off, rfl, hb, hcell⟩ := ints_at HI.out hlt
      have hx := HQ.out (q.getD j 0) (by rw [List.getD_eq_getElem?_getD, List.getElem?_eq_getElem hlt]; exact List.getElem_mem hlt)
      have htk : q.take (j + 1) = q.take j ++ [q.getD j 0] := by rw [List.take_add_one, List.getD_eq_getElem?_getD, List.getElem?_eq_getElem hlt]; rfl
      generalize q.getD j 0 = x at *
      have HTK := Lib.hid htk
      clear htk
      have hdd : Lib.decDigits x = [LG.dig x] := by rw [Lib.decDigits, dif_pos hx]; rfl
      go_wp2_with fail
      refine (Tryz.strconv_Itoa_small x (by omega) _).mono ?_; rintro e w' ⟨rfl, hw⟩; rw [hw]; clear hw w'
      rw [hdd]
      clear hdd
      go_wp2
      go_round
      case rel => exact ⟨j + 1, sb ++ (⟨#[32]⟩ ++ ⟨#[LG.dig x]⟩), by omega, by go_num, rfl, Lib.hid (by rw [bytes_app, bytes_app, HD.out, HTK.out, LG.nums_snoc]; simp), by rw [bytes_size, bytes_size, hsz]; show 1 + 2 * j + (1 + 1) = _; omega⟩
      case measure => (simp [intOf] <;> omega)
    · obtain rfl : j = q.length := by omega
      rw [List.take_length] at HD
      obtain ⟨sr, hsr⟩ : ∃ x, x = sb ++ ⟨#[10]⟩ := ⟨_, rfl⟩
      have hsd : sr.data.toList = LG.recB ⟨false, q⟩ := by rw [hsr, bytes_app, HD.out]; rfl
      have hss : sr.size = 2 + 2 * q.length := by rw [hsr, bytes_size, hsz]; show 1 + 2 * q.length + 1 = _; omega
      have HSD := Lib.hid hsd; have HSR := Lib.hid hsr
      clear hsd hsr
      go_wp2_with fail
      rw [← HSR.out]
      clear HD HSR
      refine (step_log _ base g cv _ vs caps L bs safe left st H.out h1 h2 hl false (decide_eq_false h0) nl hn).mono ?_; rintro e w1 ⟨rfl, hL1, hb1, hs1⟩
      have HS1 := Lib.hid (hs1 none)
      have HL1 := Lib.hid hL1; have HB1 := Lib.hid hb1
      obtain ⟨c0, c1, c2, c3, c4, c5, f0, f1, f2, f3, f4, f5, z⟩ := hL1.cells
      have hlo := hL1.lo
      clear hL1 hb1 hs1 c3 c4 c5 f0 f1 f3 f4 f5
      go_upto_region 12 with (fail)
      rw [HQ1.out]
      have hq1 := HQ1.out
      have HL2 := Lib.hid (HL1.out.s2 (bs ++ sr))
      have HB2 := Lib.hid (HB1.out.setCell (p := ⟨g, 2, none⟩) hlo (.string (bs ++ sr)))
      have HS2 := Lib.hid (HS1.out.set 2 (.string (bs ++ sr)))
      obtain ⟨w2, hw2⟩ : ∃ x, x = w1.setCell ⟨g, 2, none⟩ (.string (bs ++ sr)) := ⟨_, rfl⟩
      rw [← hw2] at HL2 HB2 HS2 ⊢
      clear hw2 c0 c1 c2 f2 z HL1 HB1 HS1
      have hz2 := HB2.out.size
      have hz2' : base ≤ w2.heap.size := Nat.le_trans hl hz2
      have HI2 := Lib.hid (HI.out.stay hB HS2.out fun b off e => ⟨HA.out b off e, by simp⟩)
      have hBz : B ≤ w2.heap.size := Nat.le_trans hB hz2
      have hnl : L.length ≤ 1000 := by omega
      have hqi : (nints q).map (Value.int .i64) = [.int .i64 f] := by rw [HQF.out]; rfl
      go_region_law (first
        | (go_simp; go_at_call 37; refine (clone_n A c 1 (nints q) B _ (by first | exact HI2.out | exact HI2.out.below (Below.refl _ _).drew hBz) (by simp [hq1]) (by omega) (by first | omega | (simp; omega))).mono ?_; rintro e wz ⟨U, cu, rfl, hu, hbz⟩; have HBz : Hid (Below w2.heap.size w2 wz) := Lib.hid (by first | exact hbz | exact (Below.refl _ _).drew.trans hbz); obtain ⟨gU, capU, hUe, _, hUz, _, _⟩ := own_form hu (by decide); injection hUe with hU1 _ hU3; subst hU1; have hcell : wz.cell? ⟨gU, 0, none⟩ = some (.int .i64 f) := (by have h0 := hu.cellAt (g := gU) 0 (by decide); rw [hqi] at h0; exact h0); clear hu hbz; have HLz := Lib.hid (HL2.out.below HBz.out); have hbz2 : base ≤ wz.heap.size := Nat.le_trans hz2' HBz.out.size)
        | (go_simp; go_at_call 74; refine (do_del _ base g L.length cp gp f gU 0 capU 73 _ vs HLz.out.blk rfl (by decide) HLz.out.net.own hnl HLz.out.net.oneC hcell hUz hfL).mono ?_; rintro e wd ⟨rfl, w3, hown, hgr, hblk, rfl⟩; have HS3 := Lib.hid (((Stay.of_below g (some gp) HBz.out).grown hgr).set 1 (.slice (some ⟨gp, 0, none⟩) (L.length - 1) cp)); have HN3 := Lib.hid (NetOwn.erase HLz.out.net hfL hown hgr); have HK3 := Lib.hid hblk; have HB3 := Lib.hid (below_push ((HB2.out.trans (HBz.out.mono hz2')).mono (Nat.le_refl _)) HLz.out.net.own hgr (Nat.le_refl _) hbz2); clear hown hgr hblk))
      all_goals
        have HSW := Lib.hid (show Stay g (some gp) w w2 from ⟨HS2.out.size, fun i hi h1 _ => HS2.out.block i hi h1 (by simp)⟩)
        go_wp2
        go_ret
        exact ⟨rfl, _, _, _, bs ++ sr, ⟨HK3.out.set_ 1 _, HN3.out.far HK3.out (by decide) (by decide) 1 _, hlo⟩, by rw [bytes_app, HSD.out], by rw [bytes_size]; omega, HB3.out.setCell (p := ⟨g, 1, none⟩) hlo _, HSW.out.trans' HS3.out, rfl⟩
end Go.Proofs.YtaijpiebjhhkjaaGreatDoor
