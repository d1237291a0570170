/- (*Log).Crash of records of flows more and fewer. -/
import Derived.Test.YtaijpiebjhhkjaaGreatDoorLogRedo2
import Derived.Test.YtaijpiebjhhkjaaGreatDoorLogKeep2
import Derived.BigRegion
namespace Go.Proofs.YtaijpiebjhhkjaaGreatDoor
open Go.RowKit
attribute [local go_sem ↓] run_min_mn run_max_mx
theorem drops_take {O : List LG.Op} (hD : ∀ k o, O[k]? = some o → o.add = false → ∃ f, o.p = [f] ∧ f < (LG.runs (O.take k)).length) (n : Nat) : ∀ k o, (O.take n)[k]? = some o → o.add = false → ∃ f, o.p = [f] ∧ f < (LG.runs ((O.take n).take k)).length := fun k o h ha => by
  rw [List.getElem?_take] at h
  split at h
  · rename_i hk
    obtain ⟨f, hp, hf⟩ := hD k o h ha
    exact ⟨f, hp, by rw [List.take_take, Nat.min_eq_left (by omega)]; exact hf⟩
  · cases h
set_option maxRecDepth 100000 in
set_option maxHeartbeats 16000000 in
theorem lcrash_all (w : World) (base g cc : Nat) (C P : Option Addr) (cp : Nat) (vs : List Value) (caps : List Int) (L : List (List Int)) (bs : ByteArray) (safe : Nat) (left : Int) (st : Bool) (h : LogAt w base g (.slice C caps.length cc) (.slice P L.length cp) vs caps L bs (safe : Int) left st) (hbase : base ≤ w.heap.size)
    (hT : Lib.TabIs Tryz.prog w "strings.asciiSpace" .u8 Lib.asciiSpaceTab) (hv : 2 < w.heap.size)
    (O : List LG.Op) (hO : ∀ o ∈ O, LG.Small o ∧ 0 < o.p.length ∧ o.p.length ≤ 6) (hD : ∀ k o, O[k]? = some o → o.add = false → ∃ f, o.p = [f] ∧ f < (LG.runs (O.take k)).length) (hr6 : O.length ≤ 1000) (tail : List UInt8) (ht : (10 : UInt8) ∉ tail) (hb : bs.data.toList = LG.flat O ++ tail) (hsz : bs.size ≤ 1000000) (hsafe : safe ≤ bs.size)
    (keep : Int) (hi : Nat) (hhi : (safe : Int) + max 0 (min keep ((bs.size : Int) - safe)) = hi) :
    Calls Tryz.prog 11 #[.pointer (some ⟨g, 0, none⟩), .int .i64 keep] w fun e w' => e = .returned (.tuple #[]) ∧ ∃ P' cp' vs' bs', LogAt w' base g (.slice C caps.length cc) (.slice P' (LG.runs (O.take (LG.full O hi))).length cp') vs' caps (LG.runs (O.take (LG.full O hi))) bs' (bs'.size : Int) (-1) false ∧ bs'.data.toList = LG.flat (O.take (LG.full O hi)) ∧ bs'.size ≤ bs.size ∧ Below base w w' ∧ (∀ p, Stay g p w w') ∧ (∀ b, (Value.slice P' (LG.runs (O.take (LG.full O hi))).length cp').ownBlock = some b → w.heap.size ≤ b) ∧ ∀ u ∈ vs', ∀ b, u.ownBlock = some b → w.heap.size ≤ b := by
  have hhb : hi ≤ bs.size := by omega
  obtain ⟨k, hk⟩ : ∃ k, k = LG.full O hi := ⟨_, rfl⟩
  rw [← hk]
  have hcl := LG.cut_last O (fun o ho => (hO o ho).1) tail ht hi
  have hct := LG.cut_take O (fun o ho => (hO o ho).1) tail ht hi
  rw [← hb, ← hk] at hcl hct
  obtain ⟨n, hn⟩ : ∃ n, n = (LG.flat (O.take k)).length := ⟨_, rfl⟩
  rw [← hn] at hcl hct
  have hb1 : (bs.extract 0 hi).data.toList = bs.data.toList.take hi := bytes_take _ _
  have hb2 : ((bs.extract 0 hi).extract 0 n).data.toList = LG.flat (O.take k) := by rw [bytes_take, hb1, hct]
  have hsz1 : (bs.extract 0 hi).size = hi := by rw [← bytes_len, hb1, List.length_take, bytes_len]; omega
  have hni : n ≤ hi := by
    have := congrArg List.length hct
    rw [← hn, List.length_take, List.length_take, bytes_len] at this; omega
  have hsz2 : ((bs.extract 0 hi).extract 0 n).size = n := by rw [← bytes_len, hb2, hn]
  have hli : Lib.lastIndex (bs.extract 0 hi).data.toList (⟨#[10]⟩ : ByteArray).data.toList = (n : Int) - 1 := by
    rw [hb1]; have : (⟨#[10]⟩ : ByteArray).data.toList = [10] := rfl
    rw [this]; omega
  obtain ⟨c0, c1, c2, c3, c4, c5, f0, f1, f2, f3, f4, f5, z⟩ := h.cells
  have hlo := h.lo
  have H := Lib.hid h
  have HR := Lib.hid fun (W : World) (hW : Below w.heap.size w W) (b' : ByteArray) (h1 : b'.data.toList = LG.flat (O.take k)) (h2 : b'.size ≤ 1000000) =>
    redo_all W base g cc C _ vs caps L bs (safe : Int) left st (h.below hW) (Nat.le_trans hbase hW.size) (var?_below (g := 2) hW (by kernel_rfl) hv hT) (Nat.lt_of_lt_of_le hv hW.size) (O.take k) (fun o ho => hO o (List.mem_of_mem_take ho)) (drops_take hD k) b' h1 h2 (by rw [List.length_take]; omega)
  have HLI := Lib.hid hli; have HB2 := Lib.hid hb2; have HS2 := Lib.hid hsz2
  obtain ⟨bh, hbh⟩ : ∃ x, x = bs.extract 0 hi := ⟨_, rfl⟩
  obtain ⟨bn, hbn⟩ : ∃ x, x = bh.extract 0 n := ⟨_, rfl⟩
  rw [← hbh] at HLI HB2 HS2 hsz1
  rw [← hbn] at HB2 HS2
  have hm1 : IntKind.i64.wrap ((safe : Int) + max 0 (min keep ((bs.size : Int) - safe))) = (hi : Int) := by rw [hhi]; exact IntWalk.i64_in _ (by omega)
  have HBH := Lib.hid hbh; have HBN := Lib.hid hbn
  clear hbh hbn h hT hO hD hb ht hcl hct hb1 hb2 hli hsz2 hk hn hhi c0 c1 c4 c5 f0 f1 f2 f3 f4 f5
  go_enter Tryz.func11, Tryz.ntmps11
  go_upto_region 0 with (fail)
  go_region
  clear hm1
  have HD := Lib.hid (H.out.below (Below.refl _ _).drew)
  have HBD := Lib.hid (show Below w.heap.size w w.drew from (Below.refl _ _).drew)
  obtain ⟨wd, hwd⟩ : ∃ x, x = w.drew := ⟨_, rfl⟩
  rw [← hwd] at HD HBD ⊢
  clear hwd c2 c3 z H
  have hn1 : n ≤ bh.size := by omega
  have hn2 : (n : Int) ≤ (bh.size : Int) := by omega
  have hb62 : bh.size < 4611686018427387904 := by omega
  have HX := Lib.hid hsz1
  have HLX := Lib.hid (show Calls Tryz.prog 41 #[.string bh, .string ⟨#[10]⟩] wd fun e w' => e = .returned (.int .i64 ((n : Int) - 1)) ∧ w' = wd from (Tryz.strings_LastIndex bh ⟨#[10]⟩ hb62 wd).mono fun e w' h => ⟨h.1.trans (congrArg (fun x => Ending.returned (Value.int .i64 x)) HLI.out), h.2⟩)
  clear hsz1
  go_wp2_with fail
  rw [← HBH.out]
  refine HLX.out.mono ?_; rintro e w' ⟨rfl, hw⟩; rw [hw]; clear hw w'
  go_wp2_with fail
  rw [← HBN.out]
  refine (HR.out wd HBD.out bn HB2.out (by have := HS2.out; omega)).mono ?_; rintro e w2 ⟨P', cp', vs', rfl, hnet, hb, hnew, hnw2⟩
  have HNEW := Lib.hid fun b e => Nat.le_trans HBD.out.size (hnew b e)
  have HNW2 := Lib.hid fun u hu b e => Nat.le_trans HBD.out.size (hnw2 u hu b e)
  clear hnew hnw2
  have HL2 := Lib.hid (HD.out.below hb)
  have HN2 := Lib.hid (hnet.below ((Below.refl _ _).alloc (Nat.le_refl _) (.cells #[.slice C caps.length cc, .slice P' (LG.runs (O.take k)).length cp'] 42)))
  have HG2 := Lib.hid (Blk.new w2 42 #[.slice C caps.length cc, .slice P' (LG.runs (O.take k)).length cp'])
  have HLA := Lib.hid (HL2.out.below ((Below.refl _ _).alloc (Nat.le_refl _) (.cells #[.slice C caps.length cc, .slice P' (LG.runs (O.take k)).length cp'] 42)))
  have hb3 := HBD.out.trans (hb.mono HBD.out.size)
  have HB3 := Lib.hid (hb3.alloc hb3.size (.cells #[.slice C caps.length cc, .slice P' (LG.runs (O.take k)).length cp'] 42))
  clear hb hb3 hnet HR HD HBD HL2
  go_upto_region 4 with (fail)
  obtain ⟨w3, hw3⟩ : ∃ x, x = w2.alloc (.cells #[.slice C caps.length cc, .slice P' (LG.runs (O.take k)).length cp'] 42) := ⟨_, rfl⟩
  rw [← hw3] at HN2 HG2 HLA HB3 ⊢
  obtain ⟨gn, hgn⟩ : ∃ x, x = w2.heap.size := ⟨_, rfl⟩
  rw [← hgn] at HG2 ⊢
  clear hw3 hgn
  obtain ⟨d0, d1, d2, d3, d4, d5, e0, e1, e2, e3, e4, e5, ez⟩ := HLA.out.cells
  obtain ⟨m0, m1, mf0, mf1, mz⟩ := HG2.out.two
  have hgg : gn ≠ g := Blk.ne_ HG2.out HLA.out.blk (by decide)
  go_wp2
  go_end0
  exact ⟨rfl, P', cp', vs', bn, ⟨((((((HLA.out.blk.set_ 0 (.slice C caps.length cc)).set_ 1 (.slice P' (LG.runs (O.take k)).length cp')).set_ 2 (.string bn)).set_ 3 (.int .i64 (bn.size : Int))).set_ 4 (.int .i64 (-1))).set_ 5 (.bool false)), ((((((HN2.out.far HLA.out.blk (by decide) (by decide) 0 (.slice C caps.length cc)).far (HLA.out.blk.set_ 0 (.slice C caps.length cc)) (by decide) (by decide) 1 (.slice P' (LG.runs (O.take k)).length cp')).far ((HLA.out.blk.set_ 0 (.slice C caps.length cc)).set_ 1 (.slice P' (LG.runs (O.take k)).length cp')) (by decide) (by decide) 2 (.string bn)).far (((HLA.out.blk.set_ 0 (.slice C caps.length cc)).set_ 1 (.slice P' (LG.runs (O.take k)).length cp')).set_ 2 (.string bn)) (by decide) (by decide) 3 (.int .i64 (bn.size : Int))).far ((((HLA.out.blk.set_ 0 (.slice C caps.length cc)).set_ 1 (.slice P' (LG.runs (O.take k)).length cp')).set_ 2 (.string bn)).set_ 3 (.int .i64 (bn.size : Int))) (by decide) (by decide) 4 (.int .i64 (-1))).far (((((HLA.out.blk.set_ 0 (.slice C caps.length cc)).set_ 1 (.slice P' (LG.runs (O.take k)).length cp')).set_ 2 (.string bn)).set_ 3 (.int .i64 (bn.size : Int))).set_ 4 (.int .i64 (-1))) (by decide) (by decide) 5 (.bool false)), hlo⟩, HB2.out, by have := HS2.out; omega, (((((((HB3.out.mono hbase).setCell (p := ⟨g, 0, none⟩) hlo (.slice C caps.length cc)).setCell (p := ⟨g, 1, none⟩) hlo (.slice P' (LG.runs (O.take k)).length cp')).setCell (p := ⟨g, 2, none⟩) hlo (.string bn)).setCell (p := ⟨g, 3, none⟩) hlo (.int .i64 (bn.size : Int))).setCell (p := ⟨g, 4, none⟩) hlo (.int .i64 (-1))).setCell (p := ⟨g, 5, none⟩) hlo (.bool false)), fun p => (((((((Stay.of_below g p HB3.out).set 0 (.slice C caps.length cc)).set 1 (.slice P' (LG.runs (O.take k)).length cp')).set 2 (.string bn)).set 3 (.int .i64 (bn.size : Int))).set 4 (.int .i64 (-1))).set 5 (.bool false)), HNEW.out, HNW2.out⟩
end Go.Proofs.YtaijpiebjhhkjaaGreatDoor
