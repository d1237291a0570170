/- (*Log).keep of a flow more. -/
import Derived.Test.YtaijpiebjhhkjaaGreatDoorLogAt
import Derived.Test.YtaijpiebjhhkjaaGreatDoorShItoaG
import Derived.Deep.RegionLaw
import Derived.Deep.CutRange
import Derived.Deep.DeepCutAuto
namespace Go.Proofs.YtaijpiebjhhkjaaGreatDoor
open Go.RowKit
attribute [local go_sem ↓] run_min_mn run_max_mx
abbrev nints (q : List Nat) : List Int := q.map fun (x : Nat) => (x : Int)
theorem bytes_app (a b : ByteArray) : (a ++ b).data.toList = a.data.toList ++ b.data.toList := by simp [ByteArray.data_append]
theorem bytes_size (a b : ByteArray) : (a ++ b).size = a.size + b.size := by simp [ByteArray.size_append]
theorem ints_at {w : World} {B : Nat} {A : Option Addr} {c : Nat} {q : List Nat} (h : Ints w B A c (nints q)) {j : Nat} (hj : j < q.length) : ∃ b off, A = some ⟨b, off, none⟩ ∧ b < B ∧ w.cell? ⟨b, off + j, none⟩ = some (.int .i64 (q.getD j 0 : Nat)) := by
  obtain ⟨b, off, x, e, hb, hc, _, _, HX⟩ := h.elem (k := j) (by simpa using hj)
  have hx := HX.out
  refine ⟨b, off, e, hb, ?_⟩
  rw [hc, ← hx]
  simp [List.getD_eq_getElem?_getD, hj]
theorem clone_n (A : Option Addr) (c n : Nat) (l : List Int) (B : Nat) (w : World) (h : Ints w B A c l) (hn : n = l.length) (hl : n ≤ 1000000) (hB : B ≤ w.heap.size) :
    Calls Tryz.prog 37 #[.slice A n c] w fun e w' => ∃ U cu, e = .returned (.slice U n cu) ∧ w'.ownsRow w.heap.size 3 1 (.slice U n cu) n (l.map (Value.int .i64)) ∧ Below w.heap.size w w' := by
  subst hn
  refine (clone_any A c l B w h hl hB).mono ?_
  rintro e w' ⟨v, rfl, ho, hb⟩
  obtain ⟨U, cu, rfl, _, _⟩ := owns_ints ho
  exact ⟨U, cu, rfl, ho, hb⟩
theorem own_low {w : World} {base e size n : Nat} {v : Value} {xs : List Value} (h : w.ownsRow base e size v n xs) {b : Nat} (hb : v.ownBlock = some b) : base ≤ b := by
  obtain ⟨_, ⟨rfl, _⟩ | ⟨g, cap, cur, rfl, hg, _⟩⟩ := h
  · cases hb
  · cases hb; exact hg
set_option maxHeartbeats 8000000 in
set_option maxRecDepth 100000 in
theorem keep_add_go (w : World) (base g : Nat) (cv : Value) (P : Option Addr) (cp : Nat) (vs : List Value) (caps : List Int) (L : List (List Int)) (bs : ByteArray) (safe left : Int) (st : Bool) (h : LogAt w base g cv (.slice P L.length cp) vs caps L bs safe left st) (hl : base ≤ w.heap.size) (h1 : -1 ≤ left) (h2 : left ≤ 9223372036854775807) (h0 : left ≠ 0) (nl : Int) (hn : max (-1) (left - 1) = nl)
    (A : Option Addr) (c : Nat) (q : List Nat) (B : Nat) (hi : Ints w B A c (nints q)) (hB : B ≤ w.heap.size) (hA : ∀ b off, A = some ⟨b, off, none⟩ → b ≠ g) (hq : ∀ x ∈ q, x < 10) (h6 : q.length ≤ 6) (hL : L.length ≤ 6) (hbs : bs.size ≤ 1000000) :
    Calls Tryz.prog 39 #[.pointer (some ⟨g, 0, none⟩), .string ⟨#[43]⟩, .slice A q.length c] w fun e w' => e = .returned .nilIface ∧ ∃ P' cp' vs' bs', LogAt w' base g cv (.slice P' (L.length + 1) cp') vs' caps (L ++ [nints q]) bs' safe nl false ∧ bs'.data.toList = bs.data.toList ++ LG.recB ⟨true, q⟩ ∧ bs'.size ≤ bs.size + 14 ∧ Below base w w' ∧ Stay g (Value.slice P L.length cp).ownBlock w w' ∧ ((Value.slice P' (L.length + 1) cp').ownBlock = (Value.slice P L.length cp).ownBlock ∨ ∃ i, w.heap.size ≤ i ∧ (Value.slice P' (L.length + 1) cp').ownBlock = some i) ∧ ∀ u ∈ vs', u ∈ vs ∨ ∀ b, u.ownBlock = some b → w.heap.size ≤ b := by
  have H := Lib.hid h
  have HA := Lib.hid hA
  have HI := Lib.hid hi
  have HQ := Lib.hid hq
  have hm := hi.cap; have hc := hi.le
  unfold maxLen at hm
  clear h hi hq hA
  go_enter Tryz.func39, Tryz.ntmps39
  go_wp2
  go_loop [7, 13] (fun s i => ∃ (j : Nat) (sb : ByteArray), j ≤ q.length ∧ i = .int .i64 j ∧ s = .string sb ∧ Hid (sb.data.toList = 43 :: LG.nums (q.take j)) ∧ sb.size = 1 + 2 * j) (fun _ i => q.length - (intOf i).toNat)
  case atStart => exact ⟨0, ⟨#[43]⟩, Nat.zero_le _, rfl, rfl, Lib.hid rfl, rfl⟩
  case round =>
    obtain ⟨j, sb, hj, rfl, rfl, HD, hsz⟩ := hrel
    by_cases hlt : j < q.length
    · obtain ⟨b, off, rfl, hb, hcell⟩ := ints_at HI.out hlt
      have hx := HQ.out (q.getD j 0) (by rw [List.getD_eq_getElem?_getD, List.getElem?_eq_getElem hlt]; exact List.getElem_mem hlt)
      have htk : q.take (j + 1) = q.take j ++ [q.getD j 0] := by rw [List.take_add_one, List.getD_eq_getElem?_getD, List.getElem?_eq_getElem hlt]; rfl
      generalize q.getD j 0 = x at *
      have HTK := Lib.hid htk
      clear htk
      have hdd : Lib.decDigits x = [LG.dig x] := by rw [Lib.decDigits, dif_pos hx]; rfl
      go_wp2_with fail
      refine (Tryz.strconv_Itoa_small x (by omega) _).mono ?_; rintro e w' ⟨rfl, hw⟩; rw [hw]; clear hw w'
      rw [hdd]
      clear hdd
      go_wp2
      go_round
      case rel => exact ⟨j + 1, sb ++ (⟨#[32]⟩ ++ ⟨#[LG.dig x]⟩), by omega, by go_num, rfl, Lib.hid (by rw [bytes_app, bytes_app, HD.out, HTK.out, LG.nums_snoc]; simp), by rw [bytes_size, bytes_size, hsz]; show 1 + 2 * j + (1 + 1) = _; omega⟩
      case measure => (simp [intOf] <;> omega)
    · obtain rfl : j = q.length := by omega
      rw [List.take_length] at HD
      obtain ⟨sr, hsr⟩ : ∃ x, x = sb ++ ⟨#[10]⟩ := ⟨_, rfl⟩
      have hsd : sr.data.toList = LG.recB ⟨true, q⟩ := by rw [hsr, bytes_app, HD.out]; rfl
      have hss : sr.size = 2 + 2 * q.length := by rw [hsr, bytes_size, hsz]; show 1 + 2 * q.length + 1 = _; omega
      have HSD := Lib.hid hsd; have HSR := Lib.hid hsr
      clear hsd hsr
      go_wp2_with fail
      rw [← HSR.out]
      clear HD HSR
      refine (step_log _ base g cv _ vs caps L bs safe left st H.out h1 h2 hl false (decide_eq_false h0) nl hn).mono ?_; rintro e w1 ⟨rfl, hL1, hb1, hs1⟩
      have HS1 := Lib.hid (hs1 none)
      have HL1 := Lib.hid hL1; have HB1 := Lib.hid hb1
      obtain ⟨c0, c1, c2, c3, c4, c5, f0, f1, f2, f3, f4, f5, z⟩ := hL1.cells
      have hlo := hL1.lo
      clear hL1 hb1 hs1 c3 c4 c5 f0 f1 f3 f4 f5
      go_upto_region 12 with (fail)
      have HL2 := Lib.hid (HL1.out.s2 (bs ++ sr))
      have HB2 := Lib.hid (HB1.out.setCell (p := ⟨g, 2, none⟩) hlo (.string (bs ++ sr)))
      have HS2 := Lib.hid (HS1.out.set 2 (.string (bs ++ sr)))
      obtain ⟨w2, hw2⟩ : ∃ x, x = w1.setCell ⟨g, 2, none⟩ (.string (bs ++ sr)) := ⟨_, rfl⟩
      rw [← hw2] at HL2 HB2 HS2 ⊢
      clear hw2 c0 c1 c2 f2 z HL1 HB1 HS1
      have hz2 := HB2.out.size
      have hz2' : base ≤ w2.heap.size := Nat.le_trans hl hz2
      have HI2 := Lib.hid (HI.out.stay hB HS2.out fun b off e => ⟨HA.out b off e, by simp⟩)
      have hBz : B ≤ w2.heap.size := Nat.le_trans hB hz2
      have hnl : L.length ≤ 1000 := by omega
      go_region_law (first
        | (go_simp; go_at_call 37; refine (clone_n A c _ (nints q) B _ (by first | exact HI2.out | exact HI2.out.below (Below.refl _ _).drew hBz) (by simp) (by omega) (by first | omega | (simp; omega))).mono ?_; rintro e wz ⟨U, cu, rfl, hu, hbz⟩; have HBz : Hid (Below w2.heap.size w2 wz) := Lib.hid (by first | exact hbz | exact (Below.refl _ _).drew.trans hbz); have HU := Lib.hid hu; clear hu hbz; have HLz := Lib.hid (HL2.out.below HBz.out); have HLT := Lib.hid HL2.out.net.lt; have hbz2 : base ≤ wz.heap.size := Nat.le_trans hz2' HBz.out.size)
        | (go_simp; go_at_call 74; refine (do_add _ base g L.length cp 73 _ P vs U q.length cu HLz.out.blk rfl (by decide) HLz.out.net.own hnl hbz2).mono ?_; rintro e wd ⟨rfl, P', cp', w3, hown, hgr, hblk, rfl, hnb⟩; have HNB := Lib.hid hnb; have HS3 := Lib.hid (((Stay.of_below g (Value.slice P L.length cp).ownBlock HBz.out).grown hgr).set 1 (.slice P' (L.length + 1) cp')); have HN3 := Lib.hid (NetOwn.push (l := nints q) HLz.out.net HLT.out (by simpa using HU.out) hz2' hown hgr); have HK3 := Lib.hid hblk; have HB3 := Lib.hid (below_push ((HB2.out.trans (HBz.out.mono hz2')).mono (Nat.le_refl _)) HLz.out.net.own hgr (Nat.le_refl _) hbz2); clear hown hgr hblk))
      all_goals
        have HSW := Lib.hid (show Stay g (Value.slice P L.length cp).ownBlock w w2 from ⟨HS2.out.size, fun i hi h1 _ => HS2.out.block i hi h1 (by simp)⟩)
        clear hnb
        go_wp2
        go_ret
        exact ⟨rfl, P', cp', _, bs ++ sr, ⟨HK3.out.set_ 1 _, HN3.out.far HK3.out (by decide) (by decide) 1 _, hlo⟩, by rw [bytes_app, HSD.out], by rw [bytes_size]; omega, HB3.out.setCell (p := ⟨g, 1, none⟩) hlo _, HSW.out.trans' HS3.out, by rcases HNB.out with e | e; exact .inl e; exact .inr ⟨_, by have := HBz.out.size; omega, e⟩, fun u hu => by
            rcases List.mem_append.1 hu with hu | hu
            · exact .inl hu
            · rw [List.mem_singleton] at hu; subst hu; exact .inr fun b e => Nat.le_trans hz2 (own_low HU.out e)⟩
end Go.Proofs.YtaijpiebjhhkjaaGreatDoor
