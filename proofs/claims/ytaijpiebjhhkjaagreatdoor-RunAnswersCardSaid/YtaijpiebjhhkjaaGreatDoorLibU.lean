/- Several texts in one: LogDel, LogKeep3, LogDrop. -/
import Derived.Test.YtaijpiebjhhkjaaGreatDoorLibO
import Derived.Deep.RegionLaw
import Derived.Test.YtaijpiebjhhkjaaGreatDoorLibM
/- do of a flow fewer. -/
namespace Go.Proofs.YtaijpiebjhhkjaaGreatDoor
open Go.RowKit
attribute [local go_sem ↓] run_min_mn run_max_mx
set_option maxHeartbeats 8000000 in
set_option maxRecDepth 100000 in
theorem do_del (w : World) (base g n cap gp f bu ou cu : Nat) (t : TypeId) (cs : Array Value) (vs : List Value) (hg : Blk w g t cs) (hc : cs[1]? = some (.slice (some ⟨gp, 0, none⟩) n cap)) (ht : 22 ≠ t) (hown : w.ownsRow base 22 1 (.slice (some ⟨gp, 0, none⟩) n cap) n vs) (hn : n ≤ 1000) (h1 : ∀ u ∈ vs, u.oneCell' = true)
    (hp : w.cell? ⟨bu, ou, none⟩ = some (.int .i64 f)) (_ : bu < w.heap.size) (hf : f < n) :
    Calls Tryz.prog 74 #[.pointer (some ⟨g, 0, none⟩), .string ⟨#[45]⟩, .slice (some ⟨bu, ou, none⟩) 1 cu] w fun e w' => e = .returned (.tuple #[]) ∧ ∃ w1, w1.ownsRow base 22 1 (.slice (some ⟨gp, 0, none⟩) (n - 1) cap) (n - 1) (vs.eraseIdx f) ∧ w.grownBy w1 (some gp) ∧ Blk w1 g t cs ∧ w' = w1.setCell ⟨g, 1, none⟩ (.slice (some ⟨gp, 0, none⟩) (n - 1) cap) := by
  have c1 : w.cell? ⟨g, 1, none⟩ = some (.slice (some ⟨gp, 0, none⟩) n cap) := (hg.cell 1).trans hc
  have z := hg.lt
  have HG := Lib.hid hg; have HO := Lib.hid hown; have HC := Lib.hid hc
  have HD := Lib.hid fun (W : World) (hW : W.ownsRow base 22 1 (.slice (some ⟨gp, 0, none⟩) n cap) n vs) => (show Calls Tryz.prog 99 #[.slice (some ⟨gp, 0, none⟩) n cap, .int .i64 f, .int .i64 ((f : Int) + 1)] W fun e w' => e = .returned (.slice (some ⟨gp, 0, none⟩) (n - 1) cap) ∧ w'.ownsRow base 22 1 (.slice (some ⟨gp, 0, none⟩) (n - 1) cap) (n - 1) (vs.eraseIdx f) ∧ W.grownBy w' (some gp) from by
    have := delete_any base gp cap n f vs W hW hf hn h1
    rwa [show ((f + 1 : Nat) : Int) = (f : Int) + 1 by omega] at this)
  have hgp : some g ≠ some gp := fun e => own_blk_ne hown hg ht (by simpa [Value.ownBlock] using e.symm)
  have q1 : IntKind.i64.wrap ((f : Int) + 1) = (f : Int) + 1 := IntWalk.i64_in _ (by omega)
  have HGP := Lib.hid hgp
  clear hg hown hc h1 hgp
  go_enter Tryz.func74, Tryz.ntmps74
  go_upto_region 2 with (fail)
  go_region_law (go_simp; go_at_call 99; refine (HD.out _ (own_below HO.out (Below.refl _ _).drew)).mono ?_; rintro e w1 ⟨rfl, ho, hgr⟩; have HO1 := Lib.hid ho; have HGR : Hid (w.grownBy w1 (some gp)) := Lib.hid ⟨hgr.os, hgr.tape, hgr.output, hgr.size, hgr.block⟩; have HG1 := Lib.hid ((HG.out.drew).grown hgr HGP.out); clear ho hgr; have k1 := (HG1.out.cell 1).trans HC.out; have z1 := HG1.out.lt; have f1 := HG1.out.frozen 1)
  all_goals
    go_wp2
    go_end0
    exact ⟨rfl, w1, HO1.out, HGR.out, HG1.out, rfl⟩
end Go.Proofs.YtaijpiebjhhkjaaGreatDoor
/- (*Log).keep of a flow fewer. -/
namespace Go.Proofs.YtaijpiebjhhkjaaGreatDoor
open Go.RowKit
attribute [local go_sem ↓] run_min_mn run_max_mx
set_option maxHeartbeats 8000000 in
set_option maxRecDepth 100000 in
theorem keep_del_go (w : World) (base g : Nat) (cv : Value) (P : Option Addr) (cp : Nat) (vs : List Value) (caps : List Int) (L : List (List Int)) (bs : ByteArray) (safe left : Int) (st : Bool) (h : LogAt w base g cv (.slice P L.length cp) vs caps L bs safe left st) (hl : base ≤ w.heap.size) (h1 : -1 ≤ left) (h2 : left ≤ 9223372036854775807) (h0 : left ≠ 0) (nl : Int) (hn : max (-1) (left - 1) = nl)
    (A : Option Addr) (c : Nat) (q : List Nat) (f : Nat) (hqf : q = [f]) (hfL : f < L.length) (B : Nat) (hi : Ints w B A c (nints q)) (hB : B ≤ w.heap.size) (hA : ∀ b off, A = some ⟨b, off, none⟩ → b ≠ g) (hq : ∀ x ∈ q, x < 10) (h6 : q.length ≤ 6) (hL : L.length ≤ 6) (hbs : bs.size ≤ 1000000) :
    Calls Tryz.prog 39 #[.pointer (some ⟨g, 0, none⟩), .string ⟨#[45]⟩, .slice A q.length c] w fun e w' => e = .returned .nilIface ∧ ∃ P' cp' vs' bs', LogAt w' base g cv (.slice P' (L.length - 1) cp') vs' caps (L.eraseIdx f) bs' safe nl false ∧ bs'.data.toList = bs.data.toList ++ LG.recB ⟨false, q⟩ ∧ bs'.size ≤ bs.size + 14 ∧ Below base w w' ∧ Stay g (Value.slice P L.length cp).ownBlock w w' ∧ (Value.slice P' (L.length - 1) cp').ownBlock = (Value.slice P L.length cp).ownBlock  ∧ ∀ u ∈ vs', u ∈ vs := by
  obtain ⟨gp, capp, hpe, _, _, _, _⟩ := own_form h.net.own (by omega)
  injection hpe with hp1 _ hp3
  subst hp1 hp3
  have HQ1 := Lib.hid (show q.length = 1 by rw [hqf]; rfl)
  have HQF := Lib.hid hqf
  clear hqf
  have H := Lib.hid h
  have HA := Lib.hid hA
  have HI := Lib.hid hi
  have HQ := Lib.hid hq
  have hm := hi.cap; have hc := hi.le
  unfold maxLen at hm
  clear h hi hq hA
  go_enter Tryz.func39, Tryz.ntmps39
  go_wp2
  go_loop [7, 13] (fun s i => ∃ (j : Nat) (sb : ByteArray), j ≤ q.length ∧ i = .int .i64 j ∧ s = .string sb ∧ Hid (sb.data.toList = 45 :: LG.nums (q.take j)) ∧ sb.size = 1 + 2 * j) (fun _ i => q.length - (intOf i).toNat)
  case atStart => exact ⟨0, ⟨#[45]⟩, Nat.zero_le _, rfl, rfl, Lib.hid rfl, rfl⟩
  case round =>
    obtain ⟨j, sb, hj, rfl, rfl, HD, hsz⟩ := hrel
    by_cases hlt : j < q.length
    · obtain ⟨b, off, rfl, hb, hcell⟩ := ints_at HI.out hlt
      have hx := HQ.out (q.getD j 0) (by rw [List.getD_eq_getElem?_getD, List.getElem?_eq_getElem hlt]; exact List.getElem_mem hlt)
      have htk : q.take (j + 1) = q.take j ++ [q.getD j 0] := by rw [List.take_add_one, List.getD_eq_getElem?_getD, List.getElem?_eq_getElem hlt]; rfl
      generalize q.getD j 0 = x at *
      have HTK := Lib.hid htk
      clear htk
      have hdd : Lib.decDigits x = [LG.dig x] := by rw [Lib.decDigits, dif_pos hx]; rfl
      go_wp2_with fail
      refine (Tryz.strconv_Itoa_small x (by omega) _).mono ?_; rintro e w' ⟨rfl, hw⟩; rw [hw]; clear hw w'
      rw [hdd]
      clear hdd
      go_wp2
      go_round
      case rel => exact ⟨j + 1, sb ++ (⟨#[32]⟩ ++ ⟨#[LG.dig x]⟩), by omega, by go_num, rfl, Lib.hid (by rw [bytes_app, bytes_app, HD.out, HTK.out, LG.nums_snoc]; simp), by rw [bytes_size, bytes_size, hsz]; show 1 + 2 * j + (1 + 1) = _; omega⟩
      case measure => (simp [intOf] <;> omega)
    · obtain rfl : j = q.length := by omega
      rw [List.take_length] at HD
      obtain ⟨sr, hsr⟩ : ∃ x, x = sb ++ ⟨#[10]⟩ := ⟨_, rfl⟩
      have hsd : sr.data.toList = LG.recB ⟨false, q⟩ := by rw [hsr, bytes_app, HD.out]; rfl
      have hss : sr.size = 2 + 2 * q.length := by rw [hsr, bytes_size, hsz]; show 1 + 2 * q.length + 1 = _; omega
      have HSD := Lib.hid hsd; have HSR := Lib.hid hsr
      clear hsd hsr
      go_wp2_with fail
      rw [← HSR.out]
      clear HD HSR
      refine (step_log _ base g cv _ vs caps L bs safe left st H.out h1 h2 hl false (decide_eq_false h0) nl hn).mono ?_; rintro e w1 ⟨rfl, hL1, hb1, hs1⟩
      have HS1 := Lib.hid (hs1 none)
      have HL1 := Lib.hid hL1; have HB1 := Lib.hid hb1
      obtain ⟨c0, c1, c2, c3, c4, c5, f0, f1, f2, f3, f4, f5, z⟩ := hL1.cells
      have hlo := hL1.lo
      clear hL1 hb1 hs1 c3 c4 c5 f0 f1 f3 f4 f5
      go_upto_region 12 with (fail)
      rw [HQ1.out]
      have hq1 := HQ1.out
      have HL2 := Lib.hid (HL1.out.s2 (bs ++ sr))
      have HB2 := Lib.hid (HB1.out.setCell (p := ⟨g, 2, none⟩) hlo (.string (bs ++ sr)))
      have HS2 := Lib.hid (HS1.out.set 2 (.string (bs ++ sr)))
      obtain ⟨w2, hw2⟩ : ∃ x, x = w1.setCell ⟨g, 2, none⟩ (.string (bs ++ sr)) := ⟨_, rfl⟩
      rw [← hw2] at HL2 HB2 HS2 ⊢
      clear hw2 c0 c1 c2 f2 z HL1 HB1 HS1
      have hz2 := HB2.out.size
      have hz2' : base ≤ w2.heap.size := Nat.le_trans hl hz2
      have HI2 := Lib.hid (HI.out.stay hB HS2.out fun b off e => ⟨HA.out b off e, by simp⟩)
      have hBz : B ≤ w2.heap.size := Nat.le_trans hB hz2
      have hnl : L.length ≤ 1000 := by omega
      have hqi : (nints q).map (Value.int .i64) = [.int .i64 f] := by rw [HQF.out]; rfl
      go_region_law (first
        | (go_simp; go_at_call 37; refine (clone_n A c 1 (nints q) B _ (by first | exact HI2.out | exact HI2.out.below (Below.refl _ _).drew hBz) (by simp [hq1]) (by omega) (by first | omega | (simp; omega))).mono ?_; rintro e wz ⟨U, cu, rfl, hu, hbz⟩; have HBz : Hid (Below w2.heap.size w2 wz) := Lib.hid (by first | exact hbz | exact (Below.refl _ _).drew.trans hbz); obtain ⟨gU, capU, hUe, _, hUz, _, _⟩ := own_form hu (by decide); injection hUe with hU1 _ hU3; subst hU1; have hcell : wz.cell? ⟨gU, 0, none⟩ = some (.int .i64 f) := (by have h0 := hu.cellAt (g := gU) 0 (by decide); rw [hqi] at h0; exact h0); clear hu hbz; have HLz := Lib.hid (HL2.out.below HBz.out); have hbz2 : base ≤ wz.heap.size := Nat.le_trans hz2' HBz.out.size)
        | (go_simp; go_at_call 74; refine (do_del _ base g L.length cp gp f gU 0 capU 73 _ vs HLz.out.blk rfl (by decide) HLz.out.net.own hnl HLz.out.net.oneC hcell hUz hfL).mono ?_; rintro e wd ⟨rfl, w3, hown, hgr, hblk, rfl⟩; have HS3 := Lib.hid (((Stay.of_below g (some gp) HBz.out).grown hgr).set 1 (.slice (some ⟨gp, 0, none⟩) (L.length - 1) cp)); have HN3 := Lib.hid (NetOwn.erase HLz.out.net hfL hown hgr); have HK3 := Lib.hid hblk; have HB3 := Lib.hid (below_push ((HB2.out.trans (HBz.out.mono hz2')).mono (Nat.le_refl _)) HLz.out.net.own hgr (Nat.le_refl _) hbz2); clear hown hgr hblk))
      all_goals
        have HSW := Lib.hid (show Stay g (some gp) w w2 from ⟨HS2.out.size, fun i hi h1 _ => HS2.out.block i hi h1 (by simp)⟩)
        go_wp2
        go_ret
        exact ⟨rfl, _, _, _, bs ++ sr, ⟨HK3.out.set_ 1 _, HN3.out.far HK3.out (by decide) (by decide) 1 _, hlo⟩, by rw [bytes_app, HSD.out], by rw [bytes_size]; omega, HB3.out.setCell (p := ⟨g, 1, none⟩) hlo _, HSW.out.trans' HS3.out, rfl, fun u hu => List.mem_of_mem_eraseIdx hu⟩
end Go.Proofs.YtaijpiebjhhkjaaGreatDoor
/- (*Log).Drop. -/
namespace Go.Proofs.YtaijpiebjhhkjaaGreatDoor
open Go.RowKit
attribute [local go_sem ↓] run_min_mn run_max_mx
set_option maxHeartbeats 4000000 in
theorem ldrop_bad (w : World) (base g : Nat) (cv : Value) (P : Option Addr) (cp : Nat) (vs : List Value) (caps : List Int) (L : List (List Int)) (bs : ByteArray) (safe left : Int) (h : LogAt w base g cv (.slice P L.length cp) vs caps L bs safe left false) (f : Int) (hf : f < 0 ∨ (L.length : Int) ≤ f) :
    Calls Tryz.prog 20 #[.pointer (some ⟨g, 0, none⟩), .int .i64 f] w fun e w' => e = .returned (.iface 74 (.int .i64 1)) ∧ Below w.heap.size w w' := by
  obtain ⟨c0, c1, c2, c3, c4, c5, f0, f1, f2, f3, f4, f5, z⟩ := h.cells
  clear h
  by_cases h0 : f < 0
  · have d0 : decide (f < 0) = true := decide_eq_true h0
    go_enter Tryz.func20, Tryz.ntmps20
    go_wp2
    go_ret
    exact ⟨rfl, Below.refl _ _⟩
  · have d0 : decide (f < 0) = false := decide_eq_false h0
    have d1 : decide ((L.length : Int) ≤ f) = true := decide_eq_true (by omega)
    have i1 : (L.length : Int) ≤ f := by omega
    clear hf
    go_enter Tryz.func20, Tryz.ntmps20
    go_wp2
    go_ret
    exact ⟨rfl, Below.refl _ _⟩
set_option maxHeartbeats 4000000 in
theorem ldrop_go (w : World) (base g : Nat) (cv : Value) (P : Option Addr) (cp : Nat) (vs : List Value) (caps : List Int) (L : List (List Int)) (bs : ByteArray) (safe left : Int) (h : LogAt w base g cv (.slice P L.length cp) vs caps L bs safe left false) (hl : base ≤ w.heap.size) (h1 : -1 ≤ left) (h2 : left ≤ 9223372036854775807) (h0 : left ≠ 0) (nl : Int) (hn : max (-1) (left - 1) = nl)
    (f : Nat) (hf : f < L.length) (hL : L.length ≤ 6) (hbs : bs.size ≤ 1000000) :
    Calls Tryz.prog 20 #[.pointer (some ⟨g, 0, none⟩), .int .i64 f] w fun e w' => e = .returned .nilIface ∧ ∃ P' cp' vs' bs', LogAt w' base g cv (.slice P' (L.length - 1) cp') vs' caps (L.eraseIdx f) bs' safe nl false ∧ bs'.data.toList = bs.data.toList ++ LG.recB ⟨false, [f]⟩ ∧ bs'.size ≤ bs.size + 14 ∧ Below base w w' ∧ Stay g (Value.slice P L.length cp).ownBlock w w' ∧ (Value.slice P' (L.length - 1) cp').ownBlock = (Value.slice P L.length cp).ownBlock ∧ ∀ u ∈ vs', u ∈ vs := by
  obtain ⟨c0, c1, c2, c3, c4, c5, f0, f1, f2, f3, f4, f5, z⟩ := h.cells
  have hba := (Below.refl w.heap.size w).alloc (Nat.le_refl _) (.cells #[.int .i64 f] 3)
  have hbb := (Below.refl base w).alloc hl (.cells #[.int .i64 f] 3)
  have hz : base ≤ (w.alloc (.cells #[.int .i64 f] 3)).heap.size := Nat.le_trans hl hba.size
  have H := Lib.hid (keep_del_go (w.alloc (.cells #[.int .i64 f] 3)) base g cv P cp vs caps L bs safe left false (h.below hba) hz h1 h2 h0 nl hn (some ⟨w.heap.size, 0, none⟩) 1 [f] f rfl hf _ (Ints.blk (l := [(f : Int)]) (Blk.new w 3 #[.int .i64 f]) (by simp) (by simp)) (Nat.le_refl _) (fun b off e => by injection e with e; injection e with e _; omega) (by simp; omega) (by simp) hL hbs)
  have HBA := Lib.hid hba; have HBB := Lib.hid hbb
  have d0 : decide ((f : Int) < 0) = false := decide_eq_false (by omega)
  have d1 : decide ((L.length : Int) ≤ f) = false := decide_eq_false (by omega)
  have i0 : ¬ (f : Int) < 0 := by omega
  have i1 : ¬ (L.length : Int) ≤ f := by omega
  clear h hba hbb hz hn h0
  go_enter Tryz.func20, Tryz.ntmps20
  go_wp2_with fail
  refine H.out.mono ?_; rintro e w' ⟨rfl, P', cp', vs', bs', h1, h2, h3, h4, h5, h6⟩
  have HR := Lib.hid (show ∃ P' cp' vs' bs', LogAt w' base g cv (.slice P' (L.length - 1) cp') vs' caps (L.eraseIdx f) bs' safe nl false ∧ bs'.data.toList = bs.data.toList ++ LG.recB ⟨false, [f]⟩ ∧ bs'.size ≤ bs.size + 14 ∧ Below base w w' ∧ Stay g (Value.slice P L.length cp).ownBlock w w' ∧ (Value.slice P' (L.length - 1) cp').ownBlock = (Value.slice P L.length cp).ownBlock ∧ ∀ u ∈ vs', u ∈ vs from ⟨P', cp', vs', bs', h1, h2, h3, HBB.out.trans h4, (Stay.of_below g _ HBA.out).trans' h5, h6⟩)
  clear h1 h2 h3 h4 h5 h6
  go_wp2
  go_ret
  exact ⟨rfl, HR.out⟩
set_option maxHeartbeats 4000000 in
theorem ldrop_stop (w : World) (base g : Nat) (cv : Value) (P : Option Addr) (cp : Nat) (vs : List Value) (caps : List Int) (L : List (List Int)) (bs : ByteArray) (safe : Int) (h : LogAt w base g cv (.slice P L.length cp) vs caps L bs safe 0 false) (hl : base ≤ w.heap.size)
    (f : Nat) (hf : f < L.length) (hL : L.length ≤ 6) (hbs : bs.size ≤ 1000000) :
    Calls Tryz.prog 20 #[.pointer (some ⟨g, 0, none⟩), .int .i64 f] w fun e w' => e = .returned (.iface 74 (.int .i64 6)) ∧ ∃ bs', LogAt w' base g cv (.slice P L.length cp) vs caps L bs' safe (-1) true ∧ (∃ t, bs'.data.toList = bs.data.toList ++ t ∧ (10 : UInt8) ∉ t) ∧ bs'.size ≤ bs.size + 14 ∧ Below base w w' ∧ ∀ p, Stay g p w w' := by
  obtain ⟨c0, c1, c2, c3, c4, c5, f0, f1, f2, f3, f4, f5, z⟩ := h.cells
  have hba := (Below.refl w.heap.size w).alloc (Nat.le_refl _) (.cells #[.int .i64 f] 3)
  have hbb := (Below.refl base w).alloc hl (.cells #[.int .i64 f] 3)
  have hz : base ≤ (w.alloc (.cells #[.int .i64 f] 3)).heap.size := Nat.le_trans hl hba.size
  have H := Lib.hid (keep_stop 45 (by decide) (w.alloc (.cells #[.int .i64 f] 3)) base g cv (.slice P L.length cp) vs caps L bs safe 0 false (h.below hba) hz rfl (some ⟨w.heap.size, 0, none⟩) 1 [f] _ (Ints.blk (l := [(f : Int)]) (Blk.new w 3 #[.int .i64 f]) (by simp) (by simp)) (Nat.le_refl _) (by simp; omega) (by simp) hbs)
  have HBA := Lib.hid hba; have HBB := Lib.hid hbb
  have d0 : decide ((f : Int) < 0) = false := decide_eq_false (by omega)
  have d1 : decide ((L.length : Int) ≤ f) = false := decide_eq_false (by omega)
  have i0 : ¬ (f : Int) < 0 := by omega
  have i1 : ¬ (L.length : Int) ≤ f := by omega
  clear h hba hbb hz
  go_enter Tryz.func20, Tryz.ntmps20
  go_wp2_with fail
  refine H.out.mono ?_; rintro e w' ⟨rfl, bs', h1, h2, h3, h4, h5⟩
  have HR := Lib.hid (show ∃ bs', LogAt w' base g cv (.slice P L.length cp) vs caps L bs' safe (-1) true ∧ (∃ t, bs'.data.toList = bs.data.toList ++ t ∧ (10 : UInt8) ∉ t) ∧ bs'.size ≤ bs.size + 14 ∧ Below base w w' ∧ ∀ p, Stay g p w w' from ⟨bs', h1, h2, h3, HBB.out.trans h4, fun p => (Stay.of_below g p HBA.out).trans' (h5 p)⟩)
  clear h1 h2 h3 h4 h5
  go_wp2
  go_ret
  exact ⟨rfl, HR.out⟩
end Go.Proofs.YtaijpiebjhhkjaaGreatDoor
