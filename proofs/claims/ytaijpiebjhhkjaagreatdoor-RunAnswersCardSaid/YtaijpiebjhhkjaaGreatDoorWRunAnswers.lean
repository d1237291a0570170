/- The walk of RunAnswers: it returns true for every input (printed by gen_runanswers.py). -/
import Derived.Test.YtaijpiebjhhkjaaGreatDoorLibSl
import Derived.Test.YtaijpiebjhhkjaaGreatDoorLibH
namespace Go.Proofs.YtaijpiebjhhkjaaGreatDoor
open Go.RowKit
set_option maxRecDepth 100000 in
theorem ra_open {a : Act} {l : List (Nat × Value)} (h : FrS a 54 l) : ∃ x : Nat → Value, a = ⟨#[x 0, x 1, x 2, x 3, x 4, x 5, x 6, x 7, x 8, x 9, x 10, x 11, x 12, x 13, x 14, x 15, x 16, x 17, x 18, x 19, x 20, x 21, x 22, x 23, x 24, x 25, x 26, x 27, x 28, x 29, x 30, x 31, x 32, x 33, x 34, x 35, x 36, x 37, x 38, x 39, x 40, x 41, x 42, x 43, x 44, x 45, x 46, x 47, x 48, x 49, x 50, x 51, x 52, x 53], []⟩ ∧ Slx x l := by
  obtain ⟨x, h1, h2⟩ := st_open h
  refine ⟨x, h1.trans ?_, h2⟩
  kernel_rfl
noncomputable def raCode : Code := Tryz.f4.body.getD .skip
set_option maxHeartbeats 8000000 in
set_option maxRecDepth 100000 in
theorem ra_p1 (b : ByteArray) (hs : b.size ≤ 3000) (w : World) (hl : LaidRun w) (rest : Code) (Q : Exit → Act → World → Prop)
    (hQ : ∀ a' W' (sv : ByteArray) (Sx : List ByteArray) (m : Nat) (A : Option Addr) (c' : Nat), sv.data.toList = sessOut caps4 [] (lns b.data.toList) → wordsOf Sx = (lns b.data.toList).map trimNl → m = Sx.length → Hid (Strs W' W'.heap.size A c' Sx) → Hid (Below w.heap.size w W') → FrS a' 54 [(3, .string sv), (4, .slice A m c')] → rest.wp Tryz.prog Q a' W') :
    (Code.cutc 4 raCode rest).wp Tryz.prog Q ⟨#[.string b, undef, undef, undef, undef, undef, undef, undef, undef, undef, undef, undef, undef, undef, undef, undef, undef, undef, undef, undef, undef, undef, undef, undef, undef, undef, undef, undef, undef, undef, undef, undef, undef, undef, undef, undef, undef, undef, undef, undef, undef, undef, undef, undef, undef, undef, undef, undef, undef, undef, undef, undef, undef, undef], []⟩ w := by
  have HQ := Lib.hid hQ; have HL := Lib.hid hl
  have d1 : ¬ (3000 : Int) < (b.size : Int) := by omega
  have d2 : ¬ 3000 < b.size := by omega
  clear hQ hl
  conv => arg 2; whnf; arg 2; whnf; arg 2; whnf; arg 2; whnf; arg 2; whnf
  go_wp2_with fail
  refine (run_any b w hs HL.out).mono ?_; rintro e w1 ⟨sv, rfl, hsv, hb1⟩
  have HB1 := Lib.hid hb1; have HSV := Lib.hid hsv
  clear hb1 hsv
  go_wp2_with fail
  refine (cutS_any b 10 10 (by decide) w1 (by omega)).mono ?_; rintro e w2 ⟨S, A, c', rfl, hS, hst, hb2⟩
  have HB2 := Lib.hid (HB1.out.trans (hb2.mono HB1.out.size))
  obtain ⟨S', e, rfl, hc⟩ := cut_ends _ hS
  have HST := Lib.hid hst
  have hln : (S' ++ [e]).length = S'.length + 1 := by simp
  obtain ⟨b3, o3, rfl, hb3, hcell⟩ := hst.cell (k := S'.length) (by rw [hln]; omega)
  have he : (S' ++ [e])[S'.length] = e := by simp
  rw [he] at hcell
  have hcap := hst.le; have hcm := hst.cap
  rw [hln] at hcap
  have hcmx : S'.length ≤ 9223372036854775806 := by unfold maxLen at hcm; omega
  rw [hln]
  obtain ⟨m, hm⟩ : ∃ m, m = S'.length := ⟨_, rfl⟩
  rw [← hm] at hcell hcap hcmx ⊢
  have HM := Lib.hid hm; have HCM := Lib.hid hcm
  have i0 : (0 : Int) ≤ (m : Int) := by omega
  have i1 : (m : Int) < (m : Int) + 1 := by omega
  have i2 : IntKind.i64.wrap ((m : Int) + 1 - 1) = (m : Int) := by rw [Int.add_sub_cancel]; exact IntWalk.i64_in _ (by omega)
  have i3 : (m : Int) ≤ (c' : Int) := by omega
  clear hb2 hS hst hln he hm hcm
  rcases hc with ⟨he, hw⟩ | ⟨he, hw⟩
  · have hem : e.toList.isEmpty = true := by rw [ByteArray.toList_eq, he]; rfl
    have HW := Lib.hid hw
    have HSX : Hid (Strs w2 w2.heap.size (some ⟨b3, o3, none⟩) c' S') := Lib.hid ⟨⟨by simp, fun h => by
      obtain ⟨b4, o4, e4, h4, hc4⟩ := HST.out.rd.2 (by simp)
      exact ⟨b4, o4, e4, h4, fun j u hu => hc4 j u (by rw [List.map_append, List.getElem?_append_left (by have := (List.getElem?_eq_some_iff.1 hu).1; simpa using this)]; exact hu)⟩⟩, by rw [← HM.out]; omega, HCM.out⟩
    clear he hw
    go_wp2
    exact HQ.out _ w2 sv S' m _ c' HSV.out HW.out HM.out HSX HB2 ⟨rfl, rfl, rfl, rfl, trivial⟩
  · have hem : e.toList.isEmpty = false := by
      rw [ByteArray.toList_eq]
      cases hj : e.data.toList with
      | nil => exact absurd hj he
      | cons x l => rfl
    have HW := Lib.hid hw
    clear he hw
    go_wp2
    exact HQ.out _ w2 sv (S' ++ [e]) (m + 1) _ c' HSV.out HW.out (by rw [List.length_append, ← HM.out]; rfl) HST HB2 ⟨rfl, rfl, rfl, rfl, trivial⟩
set_option maxHeartbeats 8000000 in
set_option maxRecDepth 100000 in
theorem ra_tail (b : ByteArray) (hs : b.size ≤ 3000) (w W : World) (hB : Below w.heap.size w W) (sv : ByteArray) (hsv : sv.data.toList = sessOut caps4 [] (lns b.data.toList)) (Sx : List ByteArray) (hSx : wordsOf Sx = (lns b.data.toList).map trimNl) (m : Nat) (hm : m = Sx.length) (A : Option Addr) (c' : Nat) (hst : Strs W W.heap.size A c' Sx) (a : Act) (hfr : FrS a 54 [(3, .string sv), (4, .slice A m c')]) :
    (Code.dr 4 raCode).wp Tryz.prog (bodyPost Tryz.prog Tryz.f4 (fun e w' => e = .returned (.bool true) ∧ Below w.heap.size w w')) a W := by
  obtain ⟨x, rfl, hx⟩ := ra_open hfr
  obtain ⟨e3, e4, _⟩ := hx
  have HB := Lib.hid hB; have HSV := Lib.hid hsv; have HST := Lib.hid hst; have HM := Lib.hid hm
  have hml : m = (lns b.data.toList).length := by
    have := congrArg List.length hSx
    rw [hm]
    simpa [wordsOf] using this
  have hm3 : m ≤ 3000 := by have := lns_len b.data.toList; rw [bytes_len] at this; omega
  have HAT : Hid (∀ k (h : k < Sx.length), ∃ y, (lns b.data.toList)[k]? = some y ∧ Sx[k].data.toList = trimNl y ∧ Sx[k].size ≤ 3000) := Lib.hid fun k h => by
    have hk : k < (lns b.data.toList).length := by omega
    have e := congrArg (·[k]?) hSx
    simp only [wordsOf, List.getElem?_map, List.getElem?_eq_getElem h, List.getElem?_eq_getElem hk, Option.map_some] at e
    injection e with e
    refine ⟨_, List.getElem?_eq_getElem hk, e, ?_⟩
    rw [← bytes_len, e]
    have h1 := trim_len (lns b.data.toList)[k]
    have h2 := lns_mem (List.getElem_mem hk)
    rw [bytes_len] at h2
    omega
  have HML := Lib.hid hml
  have HSL : Hid (∀ k, k ≤ m → (sessOut caps4 [] ((lns b.data.toList).take k)).length ≤ 301 * k) := Lib.hid fun k hk => sess_len _ k (by omega)
  clear hB hsv hst hm hml hSx
  have HN0 : Hid (Blk ((W.alloc (.cells #[.int .i64 12, .int .i64 6, .int .i64 4, .int .i64 10] 3)).alloc (.cells #[.slice (some ⟨W.heap.size, 0, none⟩) 4 4, .slice none 0 0] 42)) (W.heap.size + 1) 42 #[.slice (some ⟨W.heap.size, 0, none⟩) 4 4, .slice none 0 0]) := Lib.hid (Blk.new' _ _ _ (by simp))
  have HI0 : Hid (Blk ((W.alloc (.cells #[.int .i64 12, .int .i64 6, .int .i64 4, .int .i64 10] 3)).alloc (.cells #[.slice (some ⟨W.heap.size, 0, none⟩) 4 4, .slice none 0 0] 42)) W.heap.size 3 #[.int .i64 12, .int .i64 6, .int .i64 4, .int .i64 10]) := Lib.hid ((Blk.new _ _ _).alloc _)
  have HBW : Hid (Below W.heap.size W ((W.alloc (.cells #[.int .i64 12, .int .i64 6, .int .i64 4, .int .i64 10] 3)).alloc (.cells #[.slice (some ⟨W.heap.size, 0, none⟩) 4 4, .slice none 0 0] 42))) := Lib.hid (((Below.refl _ _).alloc (Nat.le_refl _) _).alloc (by simp) _)
  obtain ⟨w1, hw1⟩ : ∃ z, z = (W.alloc (.cells #[.int .i64 12, .int .i64 6, .int .i64 4, .int .i64 10] 3)).alloc (.cells #[.slice (some ⟨W.heap.size, 0, none⟩) 4 4, .slice none 0 0] 42) := ⟨_, rfl⟩
  rw [← hw1] at HN0 HI0 HBW
  have HF0 : Hid (FlowsAt w1 w1.heap.size (some ⟨W.heap.size, 0, none⟩) 4 none 0 []) := Lib.hid (flows_nil (Ints.blk (l := caps4) HI0.out (Nat.lt_of_lt_of_le (Nat.lt_of_lt_of_le (Nat.lt_succ_self _) (Nat.succ_le_of_lt HI0.out.lt)) (Nat.le_refl _)) (by decide)))
  conv => arg 2; whnf
  rw [e3, e4]
  clear e3 e4
  go_upto_region 8 with (fail)
  rw [← hw1]
  clear hw1
  obtain ⟨nb, hnb⟩ : ∃ z, z = W.heap.size + 1 := ⟨_, rfl⟩
  obtain ⟨cb, hcb⟩ : ∃ z, z = W.heap.size := ⟨_, rfl⟩
  have HNB : Hid (W.heap.size ≤ nb) := Lib.hid (by omega)
  rw [← hnb] at HN0 ⊢
  rw [← hcb] at HN0 HF0
  obtain ⟨b1, hb1⟩ : ∃ z, z = w1.heap.size := ⟨_, rfl⟩
  rw [← hb1] at HF0
  clear hnb hcb hb1 HI0
  go_wp2
  go_loopw [6, 7] (fun v6 v7 wr => ∃ (k : Nat) (t : ByteArray) (P : Option Addr) (cp : Nat) (L : List (List Int)), k ≤ m ∧ v7 = .int .i64 k ∧ v6 = .string t ∧ Hid (t.data.toList = sessOut caps4 [] ((lns b.data.toList).take k)) ∧ Hid (L = sessL caps4 [] ((lns b.data.toList).take k)) ∧ Hid (FlowsAt wr b1 (some ⟨cb, 0, none⟩) 4 P cp L) ∧ Hid (Blk wr nb 42 #[.slice (some ⟨cb, 0, none⟩) 4 4, .slice P L.length cp]) ∧ Hid (Below W.heap.size W wr)) (fun _ v7 _ => m - (intOf v7).toNat)
  case atStart => exact ⟨0, ⟨#[]⟩, none, 0, [], Nat.zero_le _, rfl, rfl, Lib.hid rfl, Lib.hid rfl, HF0, HN0, HBW⟩
  case round =>
    clear HF0 HN0 HBW
    obtain ⟨k, t, P, cp, L, hk, rfl, rfl, HT, HL, HF, HN, HBR⟩ := hrel
    have hts : t.size ≤ 903000 := by rw [← bytes_len, HT.out]; have := HSL.out k hk; omega
    by_cases hlt : k < m
    · have hkS : k < Sx.length := by rw [← HM.out]; exact hlt
      obtain ⟨b3, o3, rfl, hb3, hc0⟩ := HST.out.cell hkS
      obtain ⟨y, hy, hxy, hxs⟩ := HAT.out k hkS
      have c0 := (HBR.out.cell (p := ⟨b3, o3 + k, none⟩) hb3).trans hc0
      clear hc0
      generalize Sx[k] = xs at c0 hxy hxs
      have HXY := Lib.hid hxy
      have hlok : Lok L := by rw [HL.out]; exact lok_nil.sess _
      have htk : (lns b.data.toList).take (k + 1) = (lns b.data.toList).take k ++ [y] := by rw [List.take_add_one, hy]; rfl
      obtain ⟨r2, hr2⟩ : ∃ z, z = lineOf caps4 L xs.data.toList := ⟨_, rfl⟩
      have HLN : Hid (r2.2 = sessL caps4 [] ((lns b.data.toList).take (k + 1))) := Lib.hid (by rw [htk, sessL_snoc, hr2, hxy, HL.out])
      have HON : Hid (sessOut caps4 [] ((lns b.data.toList).take (k + 1)) = sessOut caps4 [] ((lns b.data.toList).take k) ++ (ansOf r2.1 ++ [10])) := Lib.hid (by rw [htk, sessOut_snoc, hr2, hxy, HL.out])
      have HAN : Hid ((ansOf r2.1).length ≤ 300) := Lib.hid (by
        obtain ⟨g1, g2⟩ := rates_all hlok.net rfl
        rw [hr2]
        exact ans_short caps4 L (fun q hq => (g1 q hq).1) (by rw [g2]; exact hlok.1) _)
      have hli := fun W' hF' => lineS_any W' b1 (some ⟨cb, 0, none⟩) 4 P cp L hF' hlok.net hlok.1 xs (by omega)
      rw [← hr2] at hli
      obtain ⟨ra, L2⟩ := r2
      have HLI := Lib.hid hli
      have d0 : decide (k < m) = true := decide_eq_true hlt
      have i0 : (0 : Int) ≤ (k : Int) := by omega
      have i1 : (k : Int) < (m : Int) := by omega
      clear hli hlok hr2 htk hy hxy
      obtain ⟨n0, n1, nf0, nf1, nz⟩ := HN.out.two
      go_upto_region 13 with (fail)
      go_region_law (go_simp; go_at_call 28; refine (HLI.out _ (HF.out.below (Below.refl _ _).drew)).mono ?_; rintro e w2 ⟨sx, P2, cp2, rfl, hsx, hF2, hb2⟩; have hb3' : Below wr.heap.size wr w2 := (Below.refl _ _).drew.trans hb2; have HN2 := Lib.hid (HN.out.go hb3'); have HB2 := Lib.hid (HBR.out.trans (hb3'.mono HBR.out.size)); have HF2 := Lib.hid hF2; have HSX := Lib.hid hsx; obtain ⟨z0, z1, zf0, zf1, zz⟩ := HN2.out.two; clear hb2 hb3' hF2 hsx)
      all_goals
        have hsz : sx.size ≤ 300 := by rw [← bytes_len, HSX.out]; exact HAN.out
        have fa1 : ¬ 9223372036854775807 < t.size + sx.size := by omega
        have fa2 : ¬ 9223372036854775807 < t.size + sx.size + 1 := by omega
        have HTN : Hid ((t ++ sx ++ ⟨#[10]⟩).data.toList = sessOut caps4 [] ((lns b.data.toList).take (k + 1))) := Lib.hid (by rw [bytes_app, bytes_app, HT.out, HSX.out, HON.out]; simp)
        go_wp2
        go_roundw
        case rel => exact ⟨k + 1, t ++ sx ++ ⟨#[10]⟩, P2, cp2, L2, by omega, by go_num, rfl, HTN, HLN, Lib.hid ((HF2.out.box HN2.out 0 _).box (HN2.out.s2_0 _) 1 _), Lib.hid ((HN2.out.s2_0 _).s2_1 _), Lib.hid ((HB2.out.setCell (p := ⟨nb, 0, none⟩) HNB.out _).setCell (p := ⟨nb, 1, none⟩) HNB.out _)⟩
        case measure => (simp [intOf] <;> omega)
    · have hkm : k = m := by omega
      have ht : t = sv := ByteArray.ext (Array.toList_inj.1 (by rw [HT.out, hkm, HML.out, List.take_length]; exact HSV.out.symm))
      subst ht
      have d0 : decide (k < m) = false := decide_eq_false hlt
      have d00 : decide ((k : Int) < (m : Int)) = false := decide_eq_false (by omega)
      clear hkm
      go_wp2
      go_ret
      exact ⟨rfl, HB.out.trans (HBR.out.mono HB.out.size)⟩
set_option maxHeartbeats 8000000 in
set_option maxRecDepth 100000 in
theorem runAnswers_in (b : ByteArray) (w : World) (hl : LaidRun w) (hs : b.size ≤ 3000) :
    Calls Tryz.prog 4 #[.string b] w fun e w' => e = .returned (.bool true) ∧ Below w.heap.size w w' := by
  go_enter Tryz.func4, Tryz.ntmps4
  exact wp_cutc 4 raCode rfl (ra_p1 b hs w hl _ _ fun a1 W1 sv Sx m A c' h1 h2 h3 h4 h5 hst => ra_tail b hs w W1 h5.out sv h1 Sx h2 m h3 A c' h4.out a1 hst)
set_option maxHeartbeats 8000000 in
set_option maxRecDepth 100000 in
theorem runAnswers_out (b : ByteArray) (w : World) (hs : 3000 < b.size) :
    Calls Tryz.prog 4 #[.string b] w fun e w' => e = .returned (.bool true) ∧ Below w.heap.size w w' := by
  have hs1 : (3000 : Int) < (b.size : Int) := by omega
  go_enter Tryz.func4, Tryz.ntmps4
  go_wp2_with fail
  refine (run_long b _ hs).mono ?_; rintro e w2 ⟨rfl, rfl⟩
  go_wp2
  go_ret
  exact ⟨rfl, Below.refl _ _⟩
theorem runAnswers_walk (b : ByteArray) (_ : b.size ≤ maxLen) (w : World) (hl : LaidRun w) :
    Calls Tryz.prog 4 #[.string b] w fun e w' => e = .returned (.bool true) ∧ Below w.heap.size w w' := by
  by_cases hs : b.size ≤ 3000
  · exact runAnswers_in b w hl hs
  · exact runAnswers_out b w (by omega)
end Go.Proofs.YtaijpiebjhhkjaaGreatDoor
