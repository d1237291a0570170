/- Several texts in one: SLine1, SLine2, SLine3, SLine4, SLine5, SLine6, PlAns. -/
import Derived.Test.YtaijpiebjhhkjaaGreatDoorSFlows
import Derived.Test.YtaijpiebjhhkjaaGreatDoorLibC
import Derived.Test.YtaijpiebjhhkjaaGreatDoorLibZ
import Derived.Test.YtaijpiebjhhkjaaGreatDoorLibH
import Derived.Test.YtaijpiebjhhkjaaGreatDoorLibRl
import Derived.Test.YtaijpiebjhhkjaaGreatDoorSDig
import Derived.Test.YtaijpiebjhhkjaaGreatDoorLibRg
import Derived.Test.YtaijpiebjhhkjaaGreatDoorLibRs
/- fairref2.Line: up to its rates (printed by gen_sline1.py). -/
namespace Go.Proofs.YtaijpiebjhhkjaaGreatDoor
open Go.RowKit
set_option maxRecDepth 100000 in
theorem sl_open {a : Act} {l : List (Nat × Value)} (h : FrS a 256 l) : ∃ x : Nat → Value, a = ⟨#[x 0, x 1, x 2, x 3, x 4, x 5, x 6, x 7, x 8, x 9, x 10, x 11, x 12, x 13, x 14, x 15, x 16, x 17, x 18, x 19, x 20, x 21, x 22, x 23, x 24, x 25, x 26, x 27, x 28, x 29, x 30, x 31, x 32, x 33, x 34, x 35, x 36, x 37, x 38, x 39, x 40, x 41, x 42, x 43, x 44, x 45, x 46, x 47, x 48, x 49, x 50, x 51, x 52, x 53, x 54, x 55, x 56, x 57, x 58, x 59, x 60, x 61, x 62, x 63, x 64, x 65, x 66, x 67, x 68, x 69, x 70, x 71, x 72, x 73, x 74, x 75, x 76, x 77, x 78, x 79, x 80, x 81, x 82, x 83, x 84, x 85, x 86, x 87, x 88, x 89, x 90, x 91, x 92, x 93, x 94, x 95, x 96, x 97, x 98, x 99, x 100, x 101, x 102, x 103, x 104, x 105, x 106, x 107, x 108, x 109, x 110, x 111, x 112, x 113, x 114, x 115, x 116, x 117, x 118, x 119, x 120, x 121, x 122, x 123, x 124, x 125, x 126, x 127, x 128, x 129, x 130, x 131, x 132, x 133, x 134, x 135, x 136, x 137, x 138, x 139, x 140, x 141, x 142, x 143, x 144, x 145, x 146, x 147, x 148, x 149, x 150, x 151, x 152, x 153, x 154, x 155, x 156, x 157, x 158, x 159, x 160, x 161, x 162, x 163, x 164, x 165, x 166, x 167, x 168, x 169, x 170, x 171, x 172, x 173, x 174, x 175, x 176, x 177, x 178, x 179, x 180, x 181, x 182, x 183, x 184, x 185, x 186, x 187, x 188, x 189, x 190, x 191, x 192, x 193, x 194, x 195, x 196, x 197, x 198, x 199, x 200, x 201, x 202, x 203, x 204, x 205, x 206, x 207, x 208, x 209, x 210, x 211, x 212, x 213, x 214, x 215, x 216, x 217, x 218, x 219, x 220, x 221, x 222, x 223, x 224, x 225, x 226, x 227, x 228, x 229, x 230, x 231, x 232, x 233, x 234, x 235, x 236, x 237, x 238, x 239, x 240, x 241, x 242, x 243, x 244, x 245, x 246, x 247, x 248, x 249, x 250, x 251, x 252, x 253, x 254, x 255], []⟩ ∧ Slx x l := by
  obtain ⟨x, h1, h2⟩ := st_open h
  refine ⟨x, h1.trans ?_, h2⟩
  kernel_rfl
noncomputable def slCode : Code := Tryz.f28.body.getD .skip
theorem Ints.box {W : World} {B : Nat} {A : Option Addr} {c : Nat} {l : List Int} (h : Ints W B A c l) {rb : Nat} {t : TypeId} {A0 A1 : Option Addr} {n0 c0 n1 c1 : Nat} (hk : Blk W rb t #[.slice A0 n0 c0, .slice A1 n1 c1]) (k : Nat) (u : Value) : Ints (W.setCell ⟨rb, k, none⟩ u) B A c l := by
  refine ⟨⟨h.rd.1, fun hn => ?_⟩, h.le, h.cap⟩
  obtain ⟨b, off, rfl, hb, hc⟩ := h.rd.2 hn
  refine ⟨b, off, rfl, hb, fun j v hv => ?_⟩
  have hcell := hc j v hv
  refine (World.cell?_setCell_other _ _ _ _ (fun e => ?_)).trans hcell
  injection e with e1 e2
  subst e1
  rw [hk.cell (off + j)] at hcell
  obtain ⟨z, hz⟩ : ∃ z, v = .int .i64 z := by
    rw [List.getElem?_map] at hv
    obtain ⟨z, _, rfl⟩ := Option.map_eq_some_iff.1 hv
    exact ⟨z, rfl⟩
  subst hz
  match off + j, hcell with
  | 0, e => cases e
  | 1, e => cases e
  | m + 2, e => simp at e
/-- what stays while a line is answered: w at the call; nb, rb: the boxes of the net, of the result -/
structure SLn (w W : World) (b1 : Nat) (C : Option Addr) (cc : Nat) (P : Option Addr) (cp : Nat) (L : List (List Int)) (nb rb : Nat) : Prop where
  F : FlowsAt w b1 C cc P cp L
  B : Below w.heap.size w W
  N : Blk W nb 42 #[.slice C 4 cc, .slice P L.length cp]
  R : Blk W rb 42 #[.slice none 0 0, .slice none 0 0]
  l1 : w.heap.size ≤ nb
  l2 : w.heap.size ≤ rb
  ne : nb ≠ rb
section
variable {w W W' : World} {b1 : Nat} {C : Option Addr} {cc : Nat} {P : Option Addr} {cp : Nat} {L : List (List Int)} {nb rb : Nat}
theorem SLn.below (h : SLn w W b1 C cc P cp L nb rb) (hb : Below W.heap.size W W') : SLn w W' b1 C cc P cp L nb rb :=
  ⟨h.F, h.B.trans (hb.mono h.B.size), h.N.go hb, h.R.go hb, h.l1, h.l2, h.ne⟩
theorem SLn.flows (h : SLn w W b1 C cc P cp L nb rb) : FlowsAt W b1 C cc P cp L := h.F.below h.B
theorem FlowsAt.box {P1 : Option Addr} {cp1 : Nat} {L1 : List (List Int)} (h : FlowsAt W b1 C cc P1 cp1 L1) {A0 A1 : Option Addr} {n0 c0 n1 c1 : Nat} (hk : Blk W rb 42 #[.slice A0 n0 c0, .slice A1 n1 c1]) (k : Nat) (u : Value) : FlowsAt (W.setCell ⟨rb, k, none⟩ u) b1 C cc P1 cp1 L1 := by
  have hz : (W.setCell ⟨rb, k, none⟩ u).heap.size = W.heap.size := by simp [World.setCell]
  obtain ⟨vs, h1, h2⟩ := h.own
  refine ⟨by rw [hz]; exact h.caps.box hk k u, ⟨vs, own_farB h1 (own_blk_ne h1 hk (by decide)) u, ⟨h2.len, fun i l hl => ?_⟩⟩, by rw [hz]; exact h.lo⟩
  obtain ⟨A, c, h3, h4⟩ := h2.row i l hl
  exact ⟨A, c, h3, by rw [hz]; exact h4.box hk k u⟩
/-- the end: a net is stored into the result's box -/
theorem SLn.ends (h : SLn w W b1 C cc P cp L nb rb) {P1 : Option Addr} {cp1 : Nat} {L1 : List (List Int)} (hF : FlowsAt W b1 C cc P1 cp1 L1) :
    Blk ((W.setCell ⟨rb, 0, none⟩ (.slice C 4 cc)).setCell ⟨rb, 1, none⟩ (.slice P1 L1.length cp1)) rb 42 #[.slice C 4 cc, .slice P1 L1.length cp1] ∧ FlowsAt ((W.setCell ⟨rb, 0, none⟩ (.slice C 4 cc)).setCell ⟨rb, 1, none⟩ (.slice P1 L1.length cp1)) b1 C cc P1 cp1 L1 ∧ Below w.heap.size w ((W.setCell ⟨rb, 0, none⟩ (.slice C 4 cc)).setCell ⟨rb, 1, none⟩ (.slice P1 L1.length cp1)) :=
  ⟨(h.R.s2_0 _).s2_1 _, (hF.box h.R 0 _).box (h.R.s2_0 _) 1 _, (h.B.setCell (p := ⟨rb, 0, none⟩) h.l2 _).setCell (p := ⟨rb, 1, none⟩) h.l2 _⟩
end
/-- what a return says -/
def SLret (w : World) (b1 : Nat) (C : Option Addr) (cc : Nat) (rb : Nat) (r : LineR × List (List Int)) (Q : Exit → Act → World → Prop) : Prop :=
  ∀ a' W' (sv : ByteArray) (P' : Option Addr) (cp' : Nat), FrS a' 256 [(4, .string sv), (5, .pointer (some ⟨rb, 0, none⟩))] → sv.data.toList = ansOf r.1 → Blk W' rb 42 #[.slice C 4 cc, .slice P' r.2.length cp'] → FlowsAt W' b1 C cc P' cp' r.2 → Below w.heap.size w W' → Q .ret a' W'
set_option maxHeartbeats 8000000 in
set_option maxRecDepth 100000 in
theorem sl_p1 (w : World) (b1 : Nat) (C : Option Addr) (cc : Nat) (P : Option Addr) (cp : Nat) (L : List (List Int)) (hF : FlowsAt w b1 C cc P cp L) (s : ByteArray) (hs : s.size ≤ 100000) (rest : Code) (Q : Exit → Act → World → Prop)
    (hQ : ∀ a' W' nb rb (S : List ByteArray) (A : Option Addr) (c' : Nat), wordsOf S = RN.cutAt 32 s.data.toList → Hid (Strs W' W'.heap.size A c' S) → Hid (SLn w W' b1 C cc P cp L nb rb) → FrS a' 256 [(2, .pointer (some ⟨nb, 0, none⟩)), (5, .pointer (some ⟨rb, 0, none⟩)), (6, .slice A S.length c'), (7, .slice none 0 0)] → rest.wp Tryz.prog Q a' W') :
    (Code.cutc 2 slCode rest).wp Tryz.prog Q ⟨#[.agg #[.slice C 4 cc, .slice P L.length cp], .string s, undef, undef, undef, undef, undef, undef, undef, undef, undef, undef, undef, undef, undef, undef, undef, undef, undef, undef, undef, undef, undef, undef, undef, undef, undef, undef, undef, undef, undef, undef, undef, undef, undef, undef, undef, undef, undef, undef, undef, undef, undef, undef, undef, undef, undef, undef, undef, undef, undef, undef, undef, undef, undef, undef, undef, undef, undef, undef, undef, undef, undef, undef, undef, undef, undef, undef, undef, undef, undef, undef, undef, undef, undef, undef, undef, undef, undef, undef, undef, undef, undef, undef, undef, undef, undef, undef, undef, undef, undef, undef, undef, undef, undef, undef, undef, undef, undef, undef, undef, undef, undef, undef, undef, undef, undef, undef, undef, undef, undef, undef, undef, undef, undef, undef, undef, undef, undef, undef, undef, undef, undef, undef, undef, undef, undef, undef, undef, undef, undef, undef, undef, undef, undef, undef, undef, undef, undef, undef, undef, undef, undef, undef, undef, undef, undef, undef, undef, undef, undef, undef, undef, undef, undef, undef, undef, undef, undef, undef, undef, undef, undef, undef, undef, undef, undef, undef, undef, undef, undef, undef, undef, undef, undef, undef, undef, undef, undef, undef, undef, undef, undef, undef, undef, undef, undef, undef, undef, undef, undef, undef, undef, undef, undef, undef, undef, undef, undef, undef, undef, undef, undef, undef, undef, undef, undef, undef, undef, undef, undef, undef, undef, undef, undef, undef, undef, undef, undef, undef, undef, undef, undef, undef, undef, undef, undef, undef, undef, undef, undef, undef, undef, undef, undef, undef, undef, undef, undef, undef, undef, undef, undef, undef, undef, undef, undef, undef, undef, undef, undef, undef, undef, undef, undef, undef], []⟩ w := by
  have HQ := Lib.hid hQ; have HF := Lib.hid hF
  have HN : Hid (Blk ((w.alloc (.cells #[.slice C 4 cc, .slice P L.length cp] 42)).alloc (.cells #[.slice none 0 0, .slice none 0 0] 42)) w.heap.size 42 #[.slice C 4 cc, .slice P L.length cp]) := Lib.hid ((Blk.new _ _ _).alloc _)
  have HR : Hid (Blk ((w.alloc (.cells #[.slice C 4 cc, .slice P L.length cp] 42)).alloc (.cells #[.slice none 0 0, .slice none 0 0] 42)) (w.heap.size + 1) 42 #[.slice none 0 0, .slice none 0 0]) := Lib.hid (Blk.new' _ _ _ (by simp))
  have HB : Hid (Below w.heap.size w ((w.alloc (.cells #[.slice C 4 cc, .slice P L.length cp] 42)).alloc (.cells #[.slice none 0 0, .slice none 0 0] 42))) := Lib.hid (((Below.refl _ _).alloc (Nat.le_refl _) _).alloc (by simp) _)
  obtain ⟨w1, hw1⟩ : ∃ x, x = (w.alloc (.cells #[.slice C 4 cc, .slice P L.length cp] 42)).alloc (.cells #[.slice none 0 0, .slice none 0 0] 42) := ⟨_, rfl⟩
  rw [← hw1] at HN HR HB
  clear hQ hF
  conv => arg 2; whnf; arg 2; whnf; arg 2; whnf
  go_upto_region 1 with (fail)
  rw [← hw1]
  clear hw1
  have HS1 : Hid (SLn w w1 b1 C cc P cp L w.heap.size (w.heap.size + 1)) := Lib.hid ⟨HF.out, HB.out, HN.out, HR.out, Nat.le_refl _, Nat.le_succ _, by omega⟩
  clear HN HR HB
  go_wp2_with fail
  refine (cutS_any s 32 32 (by decide) w1 hs).mono ?_; rintro e w2 ⟨S, A, c', rfl, hS, hst, hb2⟩
  have HS2 := Lib.hid (HS1.out.below hb2); have HST := Lib.hid hst; have HSS := Lib.hid hS
  clear hb2 hst hS
  go_wp2
  exact HQ.out _ w2 w.heap.size (w.heap.size + 1) S A c' HSS.out HST HS2 ⟨rfl, rfl, rfl, rfl, rfl, rfl, trivial⟩
set_option maxHeartbeats 8000000 in
set_option maxRecDepth 100000 in
theorem sl_p2 (w : World) (b1 : Nat) (C : Option Addr) (cc : Nat) (P : Option Addr) (cp : Nat) (L : List (List Int)) (nb rb : Nat) (x0 : ByteArray) (T : List ByteArray) (A : Option Addr) (c' : Nat) (hz : ∀ y ∈ T, y.size ≤ 1000000) (hn : T.length ≤ 100000) (W : World) (HS : Hid (SLn w W b1 C cc P cp L nb rb)) (HT : Hid (Strs W W.heap.size A c' (x0 :: T))) (a : Act) (hst : FrS a 256 [(2, .pointer (some ⟨nb, 0, none⟩)), (5, .pointer (some ⟨rb, 0, none⟩)), (6, .slice A (T.length + 1) c'), (7, .slice none 0 0)]) (rest : Code) (Q : Exit → Act → World → Prop)
    (hbad : RN.nums (wordsOf T) = none → SLret w b1 C cc rb (.bad, L) Q)
    (hQ : ∀ a' W' (l : List Nat) (A2 : Option Addr) (c2 : Nat), RN.nums (wordsOf T) = some l → Hid (Ints W' W'.heap.size A2 c2 (nints l)) → Hid (Strs W' W'.heap.size A c' (x0 :: T)) → Hid (SLn w W' b1 C cc P cp L nb rb) → FrS a' 256 [(2, .pointer (some ⟨nb, 0, none⟩)), (5, .pointer (some ⟨rb, 0, none⟩)), (6, .slice A (T.length + 1) c'), (7, .slice A2 l.length c2)] → rest.wp Tryz.prog Q a' W') :
    (Code.cutc 0 (Code.dr 2 slCode) rest).wp Tryz.prog Q a W := by
  obtain ⟨x, rfl, hx⟩ := sl_open hst
  obtain ⟨e2, e5, e6, e7, _⟩ := hx
  have HQ := Lib.hid hQ; have HBAD := Lib.hid hbad; have HZ := Lib.hid hz
  clear hQ hbad hz
  conv => arg 2; whnf
  rw [e2, e5, e6, e7]
  clear e2 e5 e6 e7
  go_wp2
  go_loopw [7, 8] (fun v7 v8 wr => ∃ (j : Nat) (l : List Nat), j ≤ T.length ∧ l.length = j ∧ v8 = .int .i64 (j + 1 : Nat) ∧ Hid (RN.nums (wordsOf (T.take j)) = some l) ∧ Hid (wr.ownsRow W.heap.size 3 1 v7 l.length ((nints l).map (Value.int .i64))) ∧ Hid (Below W.heap.size W wr)) (fun _ v8 _ => T.length + 1 - (intOf v8).toNat)
  case atStart => exact ⟨0, [], Nat.zero_le _, rfl, rfl, Lib.hid rfl, Lib.hid (World.ownsRow_nil _ _ _ _), Lib.hid (Below.refl _ _)⟩
  case round =>
    obtain ⟨j, l, hj, hl, rfl, HK, HO, HB⟩ := hrel
    by_cases hlt : j < T.length
    · obtain ⟨b, off, rfl, hb, hc0⟩ := HT.out.cell (k := j + 1) (by rw [List.length_cons]; omega)
      rw [List.getElem_cons_succ] at hc0
      have hc := (HB.out.cell (p := ⟨b, off + (j + 1), none⟩) hb).trans hc0
      have hsz := HZ.out _ (List.getElem_mem hlt)
      have hw := wordsOf_take T j hlt
      have hmem : T[j].data.toList ∈ wordsOf T := List.mem_map_of_mem (List.getElem_mem hlt)
      clear hc0
      generalize T[j] = y at hc hsz hw hmem
      have HW := Lib.hid hw; have HM := Lib.hid hmem
      have d0 : decide (j < T.length) = true := decide_eq_true hlt
      have i0 : (0 : Int) ≤ (j : Int) + 1 := by omega
      have i1 : (j : Int) + 1 < (T.length : Int) + 1 := by omega
      have i2 : (j : Int) < (T.length : Int) := by omega
      clear hw hmem
      go_wp2_with fail
      refine (numberS_any y wr hsz).mono ?_; rintro e w1 ⟨v, rfl, hv, hb1⟩
      have HB1 := Lib.hid (HB.out.trans (hb1.mono HB.out.size))
      have HO1 := Lib.hid (own_below HO.out hb1)
      clear hb1 hc
      have hBz1 := HB1.out.size
      cases hx : RN.num y.data.toList with
      | none =>
        have HX : Hid (RN.nums (wordsOf T) = none) := Lib.hid (RN.nums_none HM.out hx)
        have HS1 := Lib.hid (HS.out.below HB1.out)
        clear hv
        rw [show (Option.isSome (none : Option Nat)) = false from rfl]
        obtain ⟨n0, n1, nf0, nf1, nz⟩ := HS1.out.N.two
        obtain ⟨r0, r1, rf0, rf1, rz⟩ := HS1.out.R.two
        have hne := HS1.out.ne
        go_upto_region 8 with (fail)
        go_region
        all_goals
          go_wp2
          obtain ⟨q1, q2, q3⟩ := HS1.out.ends HS1.out.flows
          exact HBAD.out HX.out _ _ ⟨#[98, 97, 100]⟩ P cp ⟨rfl, rfl, rfl, rfl, trivial⟩ rfl q1 (q2.below (Below.refl _ _).drew) q3.drew
      | some n =>
        obtain rfl := hv n hx
        have HX : Hid (RN.nums (wordsOf (T.take (j + 1))) = some (l ++ [n])) := Lib.hid (by rw [HW.out]; exact RN.nums_snoc HK.out hx)
        rw [show (Option.isSome (some n : Option Nat)) = true from rfl]
        clear hx hv
        go_wp2_with (at_builtin; refine wpList_push w1 _ rfl (.tmp 48) (.tmp 50) 22 rfl W.heap.size 3 (.int .i64 0) 1 8 Tryz.underlying22 Tryz.info_int rfl (by omega) _ _ _ rfl HO1.out rfl rfl (by simp [Value.oneCell']) (by omega) (by omega) hBz1 ?_; intro v2 w2 hown2 hg2)
        have HB2 := Lib.hid (below_push HB1.out HO1.out hg2 (Nat.le_refl _) hBz1)
        have HO2 : Hid (w2.ownsRow W.heap.size 3 1 v2 (l ++ [n]).length ((nints (l ++ [n])).map (Value.int .i64))) := Lib.hid (by simpa [nints] using hown2)
        clear hown2 hg2
        go_roundw
        case rel => exact ⟨j + 1, l ++ [n], by omega, by simp [hl], by go_num, HX, HO2, HB2⟩
        case measure => (simp [intOf] <;> omega)
    · obtain rfl : j = T.length := by omega
      have d0 : decide (T.length < T.length) = false := decide_eq_false (by omega)
      have d1 : decide ((T.length : Int) < (T.length : Int)) = false := decide_eq_false (by omega)
      have hkk : T.take T.length = T := List.take_of_length_le (Nat.le_refl _)
      rw [hkk] at HK
      obtain ⟨A2, c2, rfl, hnl, hi⟩ := owns_ints HO.out
      have HI := Lib.hid hi
      rw [show (nints l).length = l.length by simp [nints]]
      clear hi hnl
      go_wp2
      exact HQ.out _ wr l A2 c2 HK.out HI (Lib.hid ((HT.out.below HB.out (Nat.le_refl _)).more HB.out.size)) (Lib.hid (HS.out.below HB.out)) ⟨rfl, rfl, rfl, rfl, rfl, rfl, trivial⟩
end Go.Proofs.YtaijpiebjhhkjaaGreatDoor
/- fairref2.Line: what a word wants, the rates (printed by gen_sline2.py). -/
namespace Go.Proofs.YtaijpiebjhhkjaaGreatDoor
open Go.RowKit
/-- what stands when the numbers are read -/
structure SLa (w W : World) (b1 : Nat) (C : Option Addr) (cc : Nat) (P : Option Addr) (cp : Nat) (L : List (List Int)) (nb rb : Nat) (x0 : ByteArray) (T : List ByteArray) (A : Option Addr) (c' : Nat) (l : List Nat) (A2 : Option Addr) (c2 : Nat) : Prop where
  n : SLn w W b1 C cc P cp L nb rb
  t : Strs W W.heap.size A c' (x0 :: T)
  i : Ints W W.heap.size A2 c2 (nints l)
theorem SLa.below {w W W' : World} {b1 : Nat} {C : Option Addr} {cc : Nat} {P : Option Addr} {cp : Nat} {L : List (List Int)} {nb rb : Nat} {x0 : ByteArray} {T : List ByteArray} {A : Option Addr} {c' : Nat} {l : List Nat} {A2 : Option Addr} {c2 : Nat} (h : SLa w W b1 C cc P cp L nb rb x0 T A c' l A2 c2) (hb : Below W.heap.size W W') : SLa w W' b1 C cc P cp L nb rb x0 T A c' l A2 c2 :=
  ⟨h.n.below hb, h.t.at' hb, (h.i.below hb (Nat.le_refl _)).more hb.size⟩
theorem Strs.head {W : World} {B : Nat} {A : Option Addr} {c : Nat} {x0 : ByteArray} {T : List ByteArray} (h : Strs W B A c (x0 :: T)) : ∃ b off, A = some ⟨b, off, none⟩ ∧ b < B ∧ W.cell? ⟨b, off, none⟩ = some (.string x0) := by
  obtain ⟨b, off, e, hb, hc⟩ := h.cell (k := 0) (by simp)
  exact ⟨b, off, e, hb, hc⟩
/-- how many a word wants -/
def ManyIs (h : List UInt8) (many : Int) (more : Bool) : Prop := (∃ n : Nat, wantOf h = some (n, more) ∧ many = n) ∨ (wantOf h = none ∧ many = -1 ∧ more = false)
theorem word_cases (h : List UInt8) : h = [97, 100, 100] ∨ h = [100, 114, 111, 112] ∨ h = [114, 97, 116, 101, 115] ∨ h = [108, 101, 97, 115, 116] ∨ h = [105, 110, 100, 101, 120] ∨ h = [115, 112, 108, 105, 116] ∨ (h ≠ [97, 100, 100] ∧ h ≠ [100, 114, 111, 112] ∧ h ≠ [114, 97, 116, 101, 115] ∧ h ≠ [108, 101, 97, 115, 116] ∧ h ≠ [105, 110, 100, 101, 120] ∧ h ≠ [115, 112, 108, 105, 116]) := by
  by_cases h0 : h = [97, 100, 100]
  · exact .inl h0
  by_cases h1 : h = [100, 114, 111, 112]
  · exact .inr (.inl h1)
  by_cases h2 : h = [114, 97, 116, 101, 115]
  · exact .inr (.inr (.inl h2))
  by_cases h3 : h = [108, 101, 97, 115, 116]
  · exact .inr (.inr (.inr (.inl h3)))
  by_cases h4 : h = [105, 110, 100, 101, 120]
  · exact .inr (.inr (.inr (.inr (.inl h4))))
  by_cases h5 : h = [115, 112, 108, 105, 116]
  · exact .inr (.inr (.inr (.inr (.inr (.inl h5)))))
  exact .inr (.inr (.inr (.inr (.inr (.inr (⟨h0, h1, h2, h3, h4, h5⟩))))))
theorem want_none {h : List UInt8} (h0 : h ≠ [97, 100, 100]) (h1 : h ≠ [100, 114, 111, 112]) (h2 : h ≠ [114, 97, 116, 101, 115]) (h3 : h ≠ [108, 101, 97, 115, 116]) (h4 : h ≠ [105, 110, 100, 101, 120]) (h5 : h ≠ [115, 112, 108, 105, 116]) : wantOf h = none := by
  unfold wantOf
  simp [h0, h1, h2, h3, h4, h5]
theorem bytes_ne {x : ByteArray} {l : List UInt8} (h : x.data.toList ≠ l) : (x.toList == l) = false := by rw [ByteArray.toList_eq]; exact beq_eq_false_iff_ne.2 h
theorem bytes_eq {x : ByteArray} {l : List UInt8} (h : x.data.toList = l) : (x.toList == l) = true := by rw [ByteArray.toList_eq]; exact beq_iff_eq.2 h
set_option maxHeartbeats 8000000 in
set_option maxRecDepth 100000 in
theorem sl_p3 (w : World) (b1 : Nat) (C : Option Addr) (cc : Nat) (P : Option Addr) (cp : Nat) (L : List (List Int)) (nb rb : Nat) (x0 : ByteArray) (T : List ByteArray) (A : Option Addr) (c' : Nat) (l : List Nat) (A2 : Option Addr) (c2 : Nat) (W : World) (HA : Hid (SLa w W b1 C cc P cp L nb rb x0 T A c' l A2 c2)) (a : Act) (hst : FrS a 256 [(2, .pointer (some ⟨nb, 0, none⟩)), (5, .pointer (some ⟨rb, 0, none⟩)), (6, .slice A (T.length + 1) c'), (7, .slice A2 l.length c2)]) (rest : Code) (Q : Exit → Act → World → Prop)
    (hQ : ∀ a' many more, ManyIs x0.data.toList many more → FrS a' 256 [(2, .pointer (some ⟨nb, 0, none⟩)), (5, .pointer (some ⟨rb, 0, none⟩)), (6, .slice A (T.length + 1) c'), (7, .slice A2 l.length c2), (11, .int .i64 many), (12, .bool more)] → rest.wp Tryz.prog Q a' W) :
    (Code.cutc 2 (Code.dr 3 slCode) rest).wp Tryz.prog Q a W := by
  obtain ⟨x, rfl, hx⟩ := sl_open hst
  obtain ⟨e2, e5, e6, e7, _⟩ := hx
  have HQ := Lib.hid hQ
  obtain ⟨b, off, rfl, hb, hc⟩ := HA.out.t.head
  clear hQ
  conv => arg 2; whnf; arg 2; whnf; arg 2; whnf
  rw [e2, e5, e6, e7]
  clear e2 e5 e6 e7
  have hw := word_cases x0.data.toList
  rcases hw with hw | hw | hw | hw | hw | hw | ⟨w0, w1, w2, w3, w4, w5⟩
  · have HM : Hid (ManyIs x0.data.toList 1 true) := Lib.hid (.inl ⟨1, by rw [hw]; decide, rfl⟩)
    have f0 : (x0.toList == [97, 100, 100]) = true := bytes_eq hw
    have f1 : (x0.toList == [100, 114, 111, 112]) = false := bytes_ne (by rw [hw]; decide)
    have f2 : (x0.toList == [114, 97, 116, 101, 115]) = false := bytes_ne (by rw [hw]; decide)
    have f3 : (x0.toList == [108, 101, 97, 115, 116]) = false := bytes_ne (by rw [hw]; decide)
    have f4 : (x0.toList == [105, 110, 100, 101, 120]) = false := bytes_ne (by rw [hw]; decide)
    have f5 : (x0.toList == [115, 112, 108, 105, 116]) = false := bytes_ne (by rw [hw]; decide)
    clear hw
    go_wp2
    exact HQ.out _ 1 true HM.out ⟨rfl, rfl, rfl, rfl, rfl, rfl, rfl, rfl, trivial⟩
  · have HM : Hid (ManyIs x0.data.toList 1 false) := Lib.hid (.inl ⟨1, by rw [hw]; decide, rfl⟩)
    have f0 : (x0.toList == [97, 100, 100]) = false := bytes_ne (by rw [hw]; decide)
    have f1 : (x0.toList == [100, 114, 111, 112]) = true := bytes_eq hw
    have f2 : (x0.toList == [114, 97, 116, 101, 115]) = false := bytes_ne (by rw [hw]; decide)
    have f3 : (x0.toList == [108, 101, 97, 115, 116]) = false := bytes_ne (by rw [hw]; decide)
    have f4 : (x0.toList == [105, 110, 100, 101, 120]) = false := bytes_ne (by rw [hw]; decide)
    have f5 : (x0.toList == [115, 112, 108, 105, 116]) = false := bytes_ne (by rw [hw]; decide)
    clear hw
    go_wp2
    exact HQ.out _ 1 false HM.out ⟨rfl, rfl, rfl, rfl, rfl, rfl, rfl, rfl, trivial⟩
  · have HM : Hid (ManyIs x0.data.toList 0 false) := Lib.hid (.inl ⟨0, by rw [hw]; decide, rfl⟩)
    have f0 : (x0.toList == [97, 100, 100]) = false := bytes_ne (by rw [hw]; decide)
    have f1 : (x0.toList == [100, 114, 111, 112]) = false := bytes_ne (by rw [hw]; decide)
    have f2 : (x0.toList == [114, 97, 116, 101, 115]) = true := bytes_eq hw
    have f3 : (x0.toList == [108, 101, 97, 115, 116]) = false := bytes_ne (by rw [hw]; decide)
    have f4 : (x0.toList == [105, 110, 100, 101, 120]) = false := bytes_ne (by rw [hw]; decide)
    have f5 : (x0.toList == [115, 112, 108, 105, 116]) = false := bytes_ne (by rw [hw]; decide)
    clear hw
    go_wp2
    exact HQ.out _ 0 false HM.out ⟨rfl, rfl, rfl, rfl, rfl, rfl, rfl, rfl, trivial⟩
  · have HM : Hid (ManyIs x0.data.toList 0 false) := Lib.hid (.inl ⟨0, by rw [hw]; decide, rfl⟩)
    have f0 : (x0.toList == [97, 100, 100]) = false := bytes_ne (by rw [hw]; decide)
    have f1 : (x0.toList == [100, 114, 111, 112]) = false := bytes_ne (by rw [hw]; decide)
    have f2 : (x0.toList == [114, 97, 116, 101, 115]) = false := bytes_ne (by rw [hw]; decide)
    have f3 : (x0.toList == [108, 101, 97, 115, 116]) = true := bytes_eq hw
    have f4 : (x0.toList == [105, 110, 100, 101, 120]) = false := bytes_ne (by rw [hw]; decide)
    have f5 : (x0.toList == [115, 112, 108, 105, 116]) = false := bytes_ne (by rw [hw]; decide)
    clear hw
    go_wp2
    exact HQ.out _ 0 false HM.out ⟨rfl, rfl, rfl, rfl, rfl, rfl, rfl, rfl, trivial⟩
  · have HM : Hid (ManyIs x0.data.toList 1 true) := Lib.hid (.inl ⟨1, by rw [hw]; decide, rfl⟩)
    have f0 : (x0.toList == [97, 100, 100]) = false := bytes_ne (by rw [hw]; decide)
    have f1 : (x0.toList == [100, 114, 111, 112]) = false := bytes_ne (by rw [hw]; decide)
    have f2 : (x0.toList == [114, 97, 116, 101, 115]) = false := bytes_ne (by rw [hw]; decide)
    have f3 : (x0.toList == [108, 101, 97, 115, 116]) = false := bytes_ne (by rw [hw]; decide)
    have f4 : (x0.toList == [105, 110, 100, 101, 120]) = true := bytes_eq hw
    have f5 : (x0.toList == [115, 112, 108, 105, 116]) = false := bytes_ne (by rw [hw]; decide)
    clear hw
    go_wp2
    exact HQ.out _ 1 true HM.out ⟨rfl, rfl, rfl, rfl, rfl, rfl, rfl, rfl, trivial⟩
  · have HM : Hid (ManyIs x0.data.toList 2 true) := Lib.hid (.inl ⟨2, by rw [hw]; decide, rfl⟩)
    have f0 : (x0.toList == [97, 100, 100]) = false := bytes_ne (by rw [hw]; decide)
    have f1 : (x0.toList == [100, 114, 111, 112]) = false := bytes_ne (by rw [hw]; decide)
    have f2 : (x0.toList == [114, 97, 116, 101, 115]) = false := bytes_ne (by rw [hw]; decide)
    have f3 : (x0.toList == [108, 101, 97, 115, 116]) = false := bytes_ne (by rw [hw]; decide)
    have f4 : (x0.toList == [105, 110, 100, 101, 120]) = false := bytes_ne (by rw [hw]; decide)
    have f5 : (x0.toList == [115, 112, 108, 105, 116]) = true := bytes_eq hw
    clear hw
    go_wp2
    exact HQ.out _ 2 true HM.out ⟨rfl, rfl, rfl, rfl, rfl, rfl, rfl, rfl, trivial⟩
  · have HWN := Lib.hid (want_none w0 w1 w2 w3 w4 w5)
    have f0 : (x0.toList == [97, 100, 100]) = false := bytes_ne w0
    have f1 : (x0.toList == [100, 114, 111, 112]) = false := bytes_ne w1
    have f2 : (x0.toList == [114, 97, 116, 101, 115]) = false := bytes_ne w2
    have f3 : (x0.toList == [108, 101, 97, 115, 116]) = false := bytes_ne w3
    have f4 : (x0.toList == [105, 110, 100, 101, 120]) = false := bytes_ne w4
    have f5 : (x0.toList == [115, 112, 108, 105, 116]) = false := bytes_ne w5
    clear w0 w1 w2 w3 w4 w5
    go_wp2
    exact HQ.out _ (-1) false (.inr ⟨HWN.out, rfl, rfl⟩) ⟨rfl, rfl, rfl, rfl, rfl, rfl, rfl, rfl, trivial⟩
set_option maxHeartbeats 8000000 in
set_option maxRecDepth 100000 in
theorem sl_p4bad (w : World) (b1 : Nat) (C : Option Addr) (cc : Nat) (P : Option Addr) (cp : Nat) (L : List (List Int)) (nb rb : Nat) (x0 : ByteArray) (T : List ByteArray) (A : Option Addr) (c' : Nat) (l : List Nat) (A2 : Option Addr) (c2 : Nat) (many : Int) (more : Bool) (W : World) (HA : Hid (SLa w W b1 C cc P cp L nb rb x0 T A c' l A2 c2)) (hb : many < 0 ∨ (decide (many < 0) = false ∧ (l.length : Int) < many) ∨ (decide (many < 0) = false ∧ decide ((l.length : Int) < many) = false ∧ many < (l.length : Int) ∧ more = false)) (a : Act) (hst : FrS a 256 [(2, .pointer (some ⟨nb, 0, none⟩)), (5, .pointer (some ⟨rb, 0, none⟩)), (6, .slice A (T.length + 1) c'), (7, .slice A2 l.length c2), (11, .int .i64 many), (12, .bool more)]) (rest : Code) (Q : Exit → Act → World → Prop)
    (hbad : SLret w b1 C cc rb (.bad, L) Q) :
    (Code.cutc 0 (Code.dr 6 slCode) rest).wp Tryz.prog Q a W := by
  obtain ⟨x, rfl, hx⟩ := sl_open hst
  obtain ⟨e2, e5, e6, e7, e11, e12, _⟩ := hx
  have HBAD := Lib.hid hbad
  obtain ⟨n0, n1, nf0, nf1, nz⟩ := HA.out.n.N.two
  obtain ⟨r0, r1, rf0, rf1, rz⟩ := HA.out.n.R.two
  have hne := HA.out.n.ne
  clear hbad
  conv => arg 2; whnf
  rw [e2, e5, e6, e7, e11, e12]
  clear e2 e5 e6 e7 e11 e12
  rcases hb with d1 | ⟨d1, d2⟩ | ⟨d1, d2, d3, rfl⟩
  all_goals
    go_upto_region 26 with (fail)
    go_region
    all_goals
      go_wp2
      obtain ⟨q1, q2, q3⟩ := HA.out.n.ends HA.out.n.flows
      exact HBAD.out _ _ ⟨#[98, 97, 100]⟩ P cp ⟨rfl, rfl, rfl, rfl, trivial⟩ rfl q1 (q2.below (Below.refl _ _).drew) q3.drew
set_option maxHeartbeats 8000000 in
set_option maxRecDepth 100000 in
theorem sl_p4go (nb rb : Nat) (T : List ByteArray) (A : Option Addr) (c' : Nat) (l : List Nat) (A2 : Option Addr) (c2 : Nat) (many : Int) (more : Bool) (W : World) (d1 : decide (many < 0) = false) (d2 : decide ((l.length : Int) < many) = false) (d3 : decide (many < (l.length : Int)) = false ∨ (many < (l.length : Int) ∧ more = true)) (a : Act) (hst : FrS a 256 [(2, .pointer (some ⟨nb, 0, none⟩)), (5, .pointer (some ⟨rb, 0, none⟩)), (6, .slice A (T.length + 1) c'), (7, .slice A2 l.length c2), (11, .int .i64 many), (12, .bool more)]) (rest : Code) (Q : Exit → Act → World → Prop)
    (hQ : ∀ a', FrS a' 256 [(2, .pointer (some ⟨nb, 0, none⟩)), (5, .pointer (some ⟨rb, 0, none⟩)), (6, .slice A (T.length + 1) c'), (7, .slice A2 l.length c2)] → rest.wp Tryz.prog Q a' W) :
    (Code.cutc 0 (Code.dr 6 slCode) rest).wp Tryz.prog Q a W := by
  obtain ⟨x, rfl, hx⟩ := sl_open hst
  obtain ⟨e2, e5, e6, e7, e11, e12, _⟩ := hx
  have HQ := Lib.hid hQ
  clear hQ
  conv => arg 2; whnf
  rw [e2, e5, e6, e7, e11, e12]
  clear e2 e5 e6 e7 e11 e12
  rcases d3 with d3 | ⟨d3, rfl⟩
  all_goals
    go_wp2
    exact HQ.out _ ⟨rfl, rfl, rfl, rfl, rfl, rfl, trivial⟩
set_option maxHeartbeats 8000000 in
set_option maxRecDepth 100000 in
theorem sl_p5 (w : World) (b1 : Nat) (C : Option Addr) (cc : Nat) (P : Option Addr) (cp : Nat) (L : List (List Int)) (nb rb : Nat) (x0 : ByteArray) (T : List ByteArray) (A : Option Addr) (c' : Nat) (l : List Nat) (A2 : Option Addr) (c2 : Nat) (hL : L = [] ∨ netErr caps4 L = 0) (W : World) (HA : Hid (SLa w W b1 C cc P cp L nb rb x0 T A c' l A2 c2)) (a : Act) (hst : FrS a 256 [(2, .pointer (some ⟨nb, 0, none⟩)), (5, .pointer (some ⟨rb, 0, none⟩)), (6, .slice A (T.length + 1) c'), (7, .slice A2 l.length c2)]) (rest : Code) (Q : Exit → Act → World → Prop)
    (hQ : ∀ a' W' (R : List Rat) (A3 : Option Addr) (c3 : Nat), R = ratesOf caps4 L → Hid (Frs W' W'.heap.size A3 c3 (R.map frQ)) → Hid (SLa w W' b1 C cc P cp L nb rb x0 T A c' l A2 c2) → FrS a' 256 [(2, .pointer (some ⟨nb, 0, none⟩)), (5, .pointer (some ⟨rb, 0, none⟩)), (6, .slice A (T.length + 1) c'), (7, .slice A2 l.length c2), (13, .slice A3 R.length c3)] → rest.wp Tryz.prog Q a' W') :
    (Code.cutc 1 (Code.dr 7 slCode) rest).wp Tryz.prog Q a W := by
  obtain ⟨x, rfl, hx⟩ := sl_open hst
  obtain ⟨e2, e5, e6, e7, _⟩ := hx
  have HQ := Lib.hid hQ
  obtain ⟨n0, n1, nf0, nf1, nz⟩ := HA.out.n.N.two
  clear hQ
  conv => arg 2; whnf; arg 2; whnf
  rw [e2, e5, e6, e7]
  clear e2 e5 e6 e7
  by_cases h0 : L = []
  · have HR : Hid (([] : List Rat) = ratesOf caps4 L) := Lib.hid (by unfold ratesOf; rw [if_pos h0])
    have d0 : decide (0 < L.length) = false := decide_eq_false (by rw [h0]; simp)
    clear hL h0
    go_wp2
    exact HQ.out _ W [] none 0 HR.out (Lib.hid (frs_nilR _ _)) HA ⟨rfl, rfl, rfl, rfl, rfl, rfl, rfl, trivial⟩
  · have he : netErr caps4 L = 0 := hL.resolve_left h0
    have ok := netOk_of he
    obtain ⟨K, hK⟩ := fillR_is ok
    have hr := ratesOf_some (caps := caps4) h0
    rw [← hr] at hK
    have d0 : decide (0 < L.length) = true := decide_eq_true (List.length_pos_iff.2 h0)
    obtain ⟨R, hR⟩ : ∃ R, R = ratesOf caps4 L := ⟨_, rfl⟩
    rw [← hR] at hK
    have HK := Lib.hid hK; have HR := Lib.hid hR; have HOK := Lib.hid ok
    have HP : Hid (∀ p ∈ L, p.length ≤ 1000) := Lib.hid fun p hp => by
      obtain ⟨_, _, _, _, _, h6⟩ := netErr_ok he
      have := path_short (h6 p hp)
      have h4 : caps4.length = 4 := rfl
      omega
    clear hL h0 he ok hK hr hR
    go_wp2_with fail
    refine (refFill_yes C cc 4 caps4 P cp L.length L W.heap.size W K R (Nat.le_refl _) HA.out.n.flows.caps HA.out.n.flows.rows rfl rfl HOK.out (by decide) HP.out HK.out).mono ?_; rintro e w1 ⟨A3, c3, P', cp', rfl, hf, _, hb⟩
    have HA1 := Lib.hid (HA.out.below hb); have HF1 := Lib.hid hf
    clear hb hf
    go_wp2
    exact HQ.out _ w1 R A3 c3 HR.out HF1 HA1 ⟨rfl, rfl, rfl, rfl, rfl, rfl, rfl, trivial⟩
end Go.Proofs.YtaijpiebjhhkjaaGreatDoor
/- fairref2.Line, word by word (printed by gen_sline3.py). -/
namespace Go.Proofs.YtaijpiebjhhkjaaGreatDoor
open Go.RowKit
theorem far_cell {nb rb : Nat} (h : nb ≠ rb) (W : World) (k j : Nat) (u : Value) : (W.setCell ⟨rb, k, none⟩ u).cell? ⟨nb, j, none⟩ = W.cell? ⟨nb, j, none⟩ :=
  World.cell?_setCell_other _ _ _ _ fun e => by injection e with e; exact h e.symm
theorem firstFrom_in {f : Nat → Int} {S : Int → Prop} (h0 : S 0) (hf : ∀ i, S (f i)) : ∀ n i, S (firstFrom f n i)
  | 0, _ => h0
  | n + 1, i => by
    unfold firstFrom
    split
    · exact firstFrom_in h0 hf n (i + 1)
    · exact hf i
theorem pathErr_nat (k : Int) (p : List Int) : ∃ e : Nat, e ≤ 8 ∧ pathErr k p = e := by
  have hc : pathErr k p = 5 ∨ (fun x => x = 0 ∨ x = 1 ∨ x = 7) (pathErr k p) := by
    unfold pathErr
    split
    · exact .inl rfl
    · right
      refine firstFrom_in (S := fun x => x = 0 ∨ x = 1 ∨ x = 7) (.inl rfl) (fun i => ?_) _ _
      unfold pathAt
      split
      · exact .inr (.inl rfl)
      · split
        · exact .inr (.inr rfl)
        · exact .inl rfl
  rcases hc with h | h | h | h
  · exact ⟨5, by decide, h⟩
  · exact ⟨0, by decide, h⟩
  · exact ⟨1, by decide, h⟩
  · exact ⟨7, by decide, h⟩
theorem nints_len (l : List Nat) : (nints l).length = l.length := by simp [nints]
set_option maxHeartbeats 8000000 in
set_option maxRecDepth 100000 in
theorem sl_add (w : World) (b1 : Nat) (C : Option Addr) (cc : Nat) (P : Option Addr) (cp : Nat) (L : List (List Int)) (nb rb : Nat) (x0 : ByteArray) (T : List ByteArray) (A : Option Addr) (c' : Nat) (l : List Nat) (A2 : Option Addr) (c2 : Nat) (W : World) (HA : Hid (SLa w W b1 C cc P cp L nb rb x0 T A c' l A2 c2)) (hx : x0.data.toList = [97, 100, 100]) (h6 : L.length ≤ 6) (a : Act) (hst : FrS a 256 [(2, .pointer (some ⟨nb, 0, none⟩)), (5, .pointer (some ⟨rb, 0, none⟩)), (6, .slice A (T.length + 1) c'), (7, .slice A2 l.length c2)]) (Q : Exit → Act → World → Prop)
    (hret : SLret w b1 C cc rb (wordOf caps4 L x0.data.toList l) Q) : (Code.dr 9 slCode).wp Tryz.prog Q a W := by
  obtain ⟨x, rfl, hxx⟩ := sl_open hst
  obtain ⟨e2, e5, e6, e7, _⟩ := hxx
  obtain ⟨b, off, rfl, hb, hc⟩ := HA.out.t.head
  have f0 : (x0.toList == [97, 100, 100]) = true := bytes_eq hx
  have f1 : (x0.toList == [100, 114, 111, 112]) = false := bytes_ne (by rw [hx]; decide)
  have f2 : (x0.toList == [114, 97, 116, 101, 115]) = false := bytes_ne (by rw [hx]; decide)
  have f3 : (x0.toList == [108, 101, 97, 115, 116]) = false := bytes_ne (by rw [hx]; decide)
  have f4 : (x0.toList == [105, 110, 100, 101, 120]) = false := bytes_ne (by rw [hx]; decide)
  have f5 : (x0.toList == [115, 112, 108, 105, 116]) = false := bytes_ne (by rw [hx]; decide)
  rw [hx] at hret
  have HRET := Lib.hid hret
  have hnl : (nints l).length = l.length := by simp [nints]
  obtain ⟨n0, n1, nf0, nf1, nz⟩ := HA.out.n.N.two
  obtain ⟨r0, r1, rf0, rf1, rz⟩ := HA.out.n.R.two
  have hne := HA.out.n.ne
  have hne2 := Ne.symm hne
  clear hret hx
  conv => arg 2; whnf
  rw [e2, e5, e6, e7]
  clear e2 e5 e6 e7
  by_cases hl6 : L.length = 6
  · have hw : wordOf caps4 L [97, 100, 100] l = (.err 4, L) := word_addno (by unfold addE; rw [if_neg (by decide), if_pos hl6]) (by decide)
    have HW := Lib.hid hw
    have d6 : ((L.length : Int) == 6) = true := by rw [hl6]; rfl
    clear hw hl6
    go_upto_region 33 with (fail)
    go_region_held3 (fun w' => w'.cell? ⟨nb, 0, none⟩ = some (.slice C 4 cc) ∧ w'.cell? ⟨nb, 1, none⟩ = some (.slice P L.length cp)) (go_keep)
      (first | (go_simp; go_at_call 58; refine (nameS_any 4 _ (by decide)).mono ?_; rintro e w1 ⟨sn, rfl, hsn, hb1⟩; have HA1 := Lib.hid (HA.out.below ((Below.refl _ _).drew.trans hb1)); have HSN := Lib.hid hsn; clear hb1 hsn; obtain ⟨m0, m1, mf0, mf1, mz⟩ := HA1.out.n.N.two; obtain ⟨t0, t1, tf0, tf1, tz⟩ := HA1.out.n.R.two; dsimp only))
    all_goals
      go_wp2
      obtain ⟨q1, q2, q3⟩ := HA1.out.n.ends HA1.out.n.flows
      exact HRET.out _ _ sn P cp ⟨rfl, rfl, rfl, rfl, trivial⟩ (by rw [HW.out]; exact HSN.out) (by rw [HW.out]; exact q1) (by rw [HW.out]; exact q2) q3
  · have d6 : ((L.length : Int) == 6) = false := beq_eq_false_iff_ne.2 (by omega)
    have hp := refPath_any 4 A2 c2 (nints l) W.heap.size W HA.out.i
    rw [nints_len] at hp
    obtain ⟨er, her, hpe⟩ := pathErr_nat 4 (nints l)
    have hae : addE caps4 L false (nints l) = er := by unfold addE; rw [if_neg (by decide), if_neg hl6]; exact hpe
    rw [hpe] at hp
    have HP := Lib.hid hp
    clear hp hpe hl6
    go_upto_region 34 with (fail)
    go_wp2_with fail
    refine HP.out.mono ?_; rintro e w0 ⟨rfl, dd, hw0⟩
    have HA0 := Lib.hid (HA.out.below (W' := w0) (by rw [hw0]; exact below_drewN (Below.refl _ _) dd))
    clear hw0 n0 n1 nf0 nf1 nz r0 r1 rf0 rf1 rz HP HA
    have HA := HA0
    clear HA0
    obtain ⟨n0, n1, nf0, nf1, nz⟩ := HA.out.n.N.two
    obtain ⟨r0, r1, rf0, rf1, rz⟩ := HA.out.n.R.two
    by_cases he : er = 0
    · subst he
      have hw : wordOf caps4 L [97, 100, 100] l = (.ok [111, 107], L ++ [nints l]) := word_add hae
      obtain ⟨L1, hL1⟩ : ∃ L1, L1 = L ++ [nints l] := ⟨_, rfl⟩
      rw [← hL1] at hw
      have HW := Lib.hid hw
      have hwi := fwith_any w0 b1 C cc P cp L HA.out.n.flows (by omega) A2 c2 (nints l) HA.out.i
      rw [nints_len, ← hL1] at hwi
      have HWI := Lib.hid hwi
      clear hwi hw hL1 hae
      go_wp2_with fail
      refine HWI.out.mono ?_; rintro e w1 ⟨P1, cp1, rfl, hF, hb1⟩
      have HA1 := Lib.hid (HA.out.below hb1); have HF := Lib.hid hF
      obtain ⟨t0, t1, tf0, tf1, tz⟩ := HA1.out.n.R.two
      clear hb1 hF n0 n1 nf0 nf1 nz r0 r1 rf0 rf1 rz
      go_wp2
      obtain ⟨q1, q2, q3⟩ := HA1.out.n.ends HF.out
      exact HRET.out _ _ ⟨#[111, 107]⟩ P1 cp1 ⟨rfl, rfl, rfl, rfl, trivial⟩ (by rw [HW.out]; rfl) (by rw [HW.out]; exact q1) (by rw [HW.out]; exact q2) q3
    · have hw : wordOf caps4 L [97, 100, 100] l = (.err er, L) := word_addno hae (by omega)
      have HW := Lib.hid hw
      have d7 : ((er : Int) == 0) = false := beq_eq_false_iff_ne.2 (by omega)
      clear hw hae
      go_upto_region 36 with (fail)
      go_region_held3 (fun w' => w'.cell? ⟨nb, 0, none⟩ = some (.slice C 4 cc) ∧ w'.cell? ⟨nb, 1, none⟩ = some (.slice P L.length cp)) (go_keep)
        (first | (go_simp; go_at_call 58; refine (nameS_any er _ her).mono ?_; rintro e w1 ⟨sn, rfl, hsn, hb1⟩; have HA1 := Lib.hid (HA.out.below ((Below.refl _ _).drew.trans hb1)); have HSN := Lib.hid hsn; clear hb1 hsn; obtain ⟨m0, m1, mf0, mf1, mz⟩ := HA1.out.n.N.two; obtain ⟨t0, t1, tf0, tf1, tz⟩ := HA1.out.n.R.two; dsimp only))
      all_goals
        go_wp2
        obtain ⟨q1, q2, q3⟩ := HA1.out.n.ends HA1.out.n.flows
        exact HRET.out _ _ sn P cp ⟨rfl, rfl, rfl, rfl, trivial⟩ (by rw [HW.out]; exact HSN.out) (by rw [HW.out]; exact q1) (by rw [HW.out]; exact q2) q3
set_option maxHeartbeats 8000000 in
set_option maxRecDepth 100000 in
theorem sl_drop (w : World) (b1 : Nat) (C : Option Addr) (cc : Nat) (P : Option Addr) (cp : Nat) (L : List (List Int)) (nb rb : Nat) (x0 : ByteArray) (T : List ByteArray) (A : Option Addr) (c' : Nat) (l : List Nat) (A2 : Option Addr) (c2 : Nat) (f : Nat) (hlf : l = [f]) (W : World) (HA : Hid (SLa w W b1 C cc P cp L nb rb x0 T A c' l A2 c2)) (hx : x0.data.toList = [100, 114, 111, 112]) (h6 : L.length ≤ 6) (a : Act) (hst : FrS a 256 [(2, .pointer (some ⟨nb, 0, none⟩)), (5, .pointer (some ⟨rb, 0, none⟩)), (6, .slice A (T.length + 1) c'), (7, .slice A2 l.length c2)]) (Q : Exit → Act → World → Prop)
    (hret : SLret w b1 C cc rb (wordOf caps4 L x0.data.toList l) Q) : (Code.dr 9 slCode).wp Tryz.prog Q a W := by
  obtain ⟨x, rfl, hxx⟩ := sl_open hst
  obtain ⟨e2, e5, e6, e7, _⟩ := hxx
  obtain ⟨b, off, rfl, hb, hc⟩ := HA.out.t.head
  have f0 : (x0.toList == [97, 100, 100]) = false := bytes_ne (by rw [hx]; decide)
  have f1 : (x0.toList == [100, 114, 111, 112]) = true := bytes_eq hx
  have f2 : (x0.toList == [114, 97, 116, 101, 115]) = false := bytes_ne (by rw [hx]; decide)
  have f3 : (x0.toList == [108, 101, 97, 115, 116]) = false := bytes_ne (by rw [hx]; decide)
  have f4 : (x0.toList == [105, 110, 100, 101, 120]) = false := bytes_ne (by rw [hx]; decide)
  have f5 : (x0.toList == [115, 112, 108, 105, 116]) = false := bytes_ne (by rw [hx]; decide)
  rw [hx] at hret
  have HRET := Lib.hid hret
  have hnl : (nints l).length = l.length := by simp [nints]
  obtain ⟨n0, n1, nf0, nf1, nz⟩ := HA.out.n.N.two
  obtain ⟨r0, r1, rf0, rf1, rz⟩ := HA.out.n.R.two
  have hne := HA.out.n.ne
  have hne2 := Ne.symm hne
  clear hret hx
  conv => arg 2; whnf
  rw [e2, e5, e6, e7]
  clear e2 e5 e6 e7
  subst hlf
  obtain ⟨bi, oi, rfl, hbi, hci⟩ := HA.out.i.rd.2 (by simp [nints])
  have i0 : W.cell? ⟨bi, oi, none⟩ = some (.int .i64 f) := hci 0 _ rfl
  clear hci hnl
  by_cases hf : L.length ≤ f
  · have hw : wordOf caps4 L [100, 114, 111, 112] [f] = (.err 1, L) := by unfold wordOf; rw [if_neg (by decide), if_pos rfl]; exact if_pos hf
    have HW := Lib.hid hw
    have df : decide (L.length ≤ f) = true := decide_eq_true hf
    have df2 : (L.length : Int) ≤ (f : Int) := by omega
    clear hw
    go_upto_region 39 with (fail)
    go_quiet (fail)
    go_upto_region 40 with (fail)
    obtain ⟨W0, hW0⟩ : ∃ z, z = W.drewN nq := ⟨_, rfl⟩
    have HA0 := Lib.hid (HA.out.below (W' := W0) (by rw [hW0]; repeat (first | exact Below.refl _ _ | exact below_drewN (Below.refl _ _) _ | refine Below.drew ?_)))
    rw [← hW0]
    clear hW0 n0 n1 nf0 nf1 nz r0 r1 rf0 rf1 rz HA
    have HA := HA0
    clear HA0
    obtain ⟨n0, n1, nf0, nf1, nz⟩ := HA.out.n.N.two
    obtain ⟨r0, r1, rf0, rf1, rz⟩ := HA.out.n.R.two
    go_upto_region 40 with (fail)
    go_region_held3 (fun w' => w'.cell? ⟨nb, 0, none⟩ = some (.slice C 4 cc) ∧ w'.cell? ⟨nb, 1, none⟩ = some (.slice P L.length cp)) (go_keep)
      (first | (go_simp; go_at_call 58; refine (nameS_any 1 _ (by decide)).mono ?_; rintro e w1 ⟨sn, rfl, hsn, hb1⟩; have HA1 := Lib.hid (HA.out.below ((Below.refl _ _).drew.trans hb1)); have HSN := Lib.hid hsn; clear hb1 hsn; obtain ⟨m0, m1, mf0, mf1, mz⟩ := HA1.out.n.N.two; obtain ⟨t0, t1, tf0, tf1, tz⟩ := HA1.out.n.R.two; dsimp only))
    all_goals
      go_wp2
      obtain ⟨q1, q2, q3⟩ := HA1.out.n.ends HA1.out.n.flows
      exact HRET.out _ _ sn P cp ⟨rfl, rfl, rfl, rfl, trivial⟩ (by rw [HW.out]; exact HSN.out) (by rw [HW.out]; exact q1) (by rw [HW.out]; exact q2) q3
  · have hw : wordOf caps4 L [100, 114, 111, 112] [f] = (.ok [111, 107], L.eraseIdx f) := word_drop (by simpa using hf)
    have df : decide (L.length ≤ f) = false := decide_eq_false hf
    have df2 : ¬ (L.length : Int) ≤ (f : Int) := by omega
    obtain ⟨L1, hL1⟩ : ∃ L1, L1 = L.eraseIdx f := ⟨_, rfl⟩
    rw [← hL1] at hw
    have HW := Lib.hid hw
    have HF6 := Lib.hid (Nat.not_le.1 hf)
    clear hw hf
    go_upto_region 39 with (fail)
    go_quiet (fail)
    go_upto_region 41 with (fail)
    obtain ⟨W0, hW0⟩ : ∃ z, z = W.drewN nq := ⟨_, rfl⟩
    have HA0 := Lib.hid (HA.out.below (W' := W0) (by rw [hW0]; repeat (first | exact Below.refl _ _ | exact below_drewN (Below.refl _ _) _ | refine Below.drew ?_)))
    have i0 : W0.cell? ⟨bi, oi, none⟩ = some (.int .i64 f) := by rw [hW0]; exact i0
    have hbi : bi < W0.heap.size := by rw [hW0]; exact hbi
    rw [← hW0]
    clear hW0 n0 n1 nf0 nf1 nz r0 r1 rf0 rf1 rz HA
    have HA := HA0
    clear HA0
    obtain ⟨n0, n1, nf0, nf1, nz⟩ := HA.out.n.N.two
    obtain ⟨r0, r1, rf0, rf1, rz⟩ := HA.out.n.R.two
    have hid0 : Hid (∀ W', Below W0.heap.size W0 W' → W'.cell? ⟨bi, oi, none⟩ = some (.int .i64 f)) := Lib.hid fun W' hb' => (hb'.cell (p := ⟨bi, oi, none⟩) hbi).trans i0
    have hrb : rb ≠ bi := fun e => by
      subst e
      have := HA.out.n.R.cell oi
      rw [i0] at this
      match oi, this with
      | 0, e => cases e
      | 1, e => cases e
      | m + 2, e => simp at e
    go_region_held3 (fun w' => w'.cell? ⟨nb, 0, none⟩ = some (.slice C 4 cc) ∧ w'.cell? ⟨nb, 1, none⟩ = some (.slice P L.length cp) ∧ w'.cell? ⟨bi, oi, none⟩ = some (.int .i64 f)) (go_keep)
      (first | (go_simp; go_at_call 19; refine (fwithout_any _ b1 C cc P cp L (HA.out.n.flows.below (Below.refl _ _).drew) (by omega) f HF6.out).mono ?_; rintro e w1 ⟨P1, cp1, rfl, hF, hb1⟩; have hb2 : Below W0.heap.size W0 w1 := (Below.refl _ _).drew.trans hb1; rw [← hL1] at hF; have HA1 := Lib.hid (HA.out.below hb2); have HF := Lib.hid hF; obtain ⟨m0, m1, mf0, mf1, mz⟩ := HA1.out.n.N.two; obtain ⟨t0, t1, tf0, tf1, tz⟩ := HA1.out.n.R.two; have ic := hid0.out w1 hb2; clear hb1 hb2 hF; dsimp only))
    all_goals
      subst hL1
      go_wp2
      obtain ⟨q1, q2, q3⟩ := HA1.out.n.ends HF.out
      exact HRET.out _ _ ⟨#[111, 107]⟩ P1 cp1 ⟨rfl, rfl, rfl, rfl, trivial⟩ (by rw [HW.out]; rfl) (by rw [HW.out]; exact q1) (by rw [HW.out]; exact q2) q3
end Go.Proofs.YtaijpiebjhhkjaaGreatDoor
/- fairref2.Line: rates, least (printed by gen_sline4.py). -/
namespace Go.Proofs.YtaijpiebjhhkjaaGreatDoor
open Go.RowKit
theorem fracW_ne (t b : Int) : fracW t b ≠ [] := by
  have h : ∀ n : Int, Lib.itoa n ≠ [] := fun n e => by
    unfold Lib.itoa at e
    split at e
    · cases e
    · have := congrArg List.length e
      rw [Lib.decDigits_length] at this
      have h2 := Lib.nDigits_pos n.toNat
      simp at this
      omega
  unfold fracW
  split
  · exact h t
  · simp
theorem join_ne {c : UInt8} {l : List (List UInt8)} (h : l ≠ []) (hw : ∀ w ∈ l, w ≠ []) : RN.joinAt c l ≠ [] := by
  cases l with
  | nil => exact absurd rfl h
  | cons w l =>
    have := hw w List.mem_cons_self
    cases l with
    | nil => exact this
    | cons v l => simp [RN.joinAt]
theorem joinW_snoc (l : List (List UInt8)) (w : List UInt8) : RN.joinAt 32 (l ++ [w]) = (if l = [] then w else RN.joinAt 32 l ++ 32 :: w) := by
  split
  · rename_i h; rw [h]; rfl
  · rename_i h; exact join_snoc 32 l w h
theorem frs_at {w : World} {B : Nat} {A : Option Addr} {c : Nat} {Q : List Rat} (h : Frs w B A c (Q.map frQ)) {k : Nat} (hk : k < Q.length) :
    ∃ b off, A = some ⟨b, off, none⟩ ∧ b < B ∧ w.cell? ⟨b, off + k * 2, none⟩ = some (.int .i64 Q[k].num) ∧ w.cell? ⟨b, off + k * 2 + 1, none⟩ = some (.int .i64 Q[k].den) := by
  obtain ⟨b, off, e, hb, hc⟩ := h.rd.2 (by rw [List.length_map]; omega)
  have hat := frCells_at (Q.map frQ) k (frQ Q[k]) (by simp [hk])
  exact ⟨b, off, e, hb, hc _ _ hat.1, hc _ _ hat.2⟩
/-- the rates told, so far -/
abbrev ratesW (R : List Rat) : List (List UInt8) := R.map fun q => fracW q.num q.den
theorem ratesW_take (R : List Rat) {k : Nat} (hk : k < R.length) : ratesW (R.take (k + 1)) = ratesW (R.take k) ++ [fracW R[k].num R[k].den] := by
  rw [ratesW, ← List.take_append_getElem hk, List.map_append]; rfl
theorem ratesW_len (R : List Rat) (hq : ∀ q ∈ R, QIn q ∧ 0 < q) (k : Nat) : (RN.joinAt 32 (ratesW (R.take k))).length ≤ 42 * k := by
  refine Nat.le_trans (join_len 32 _ 41 ?_) ?_
  · intro x hx
    obtain ⟨q, hq', rfl⟩ := List.mem_map.1 hx
    exact frac_short (hq q (List.mem_of_mem_take hq')).1
  · rw [List.length_map, List.length_take]
    have : min k R.length ≤ k := Nat.min_le_left _ _
    omega
set_option maxHeartbeats 8000000 in
set_option maxRecDepth 100000 in
theorem sl_rates (w : World) (b1 : Nat) (C : Option Addr) (cc : Nat) (P : Option Addr) (cp : Nat) (L : List (List Int)) (nb rb : Nat) (x0 : ByteArray) (T : List ByteArray) (A : Option Addr) (c' : Nat) (l : List Nat) (A2 : Option Addr) (c2 : Nat) (R : List Rat) (A3 : Option Addr) (c3 : Nat) (hR : R = ratesOf caps4 L) (hq : ∀ q ∈ R, QIn q ∧ 0 < q) (hR6 : R.length ≤ 6) (W : World) (HA : Hid (SLa w W b1 C cc P cp L nb rb x0 T A c' l A2 c2)) (hx : x0.data.toList = [114, 97, 116, 101, 115]) (HR : Hid (Frs W W.heap.size A3 c3 (R.map frQ))) (a : Act) (hst : FrS a 256 [(2, .pointer (some ⟨nb, 0, none⟩)), (5, .pointer (some ⟨rb, 0, none⟩)), (6, .slice A (T.length + 1) c'), (7, .slice A2 l.length c2), (13, .slice A3 R.length c3)]) (Q : Exit → Act → World → Prop)
    (hret : SLret w b1 C cc rb (wordOf caps4 L x0.data.toList l) Q) : (Code.dr 9 slCode).wp Tryz.prog Q a W := by
  obtain ⟨x, rfl, hxx⟩ := sl_open hst
  obtain ⟨e2, e5, e6, e7, e13, _⟩ := hxx
  obtain ⟨b, off, rfl, hb, hc⟩ := HA.out.t.head
  have f0 : (x0.toList == [97, 100, 100]) = false := bytes_ne (by rw [hx]; decide)
  have f1 : (x0.toList == [100, 114, 111, 112]) = false := bytes_ne (by rw [hx]; decide)
  have f2 : (x0.toList == [114, 97, 116, 101, 115]) = true := bytes_eq hx
  have f3 : (x0.toList == [108, 101, 97, 115, 116]) = false := bytes_ne (by rw [hx]; decide)
  have f4 : (x0.toList == [105, 110, 100, 101, 120]) = false := bytes_ne (by rw [hx]; decide)
  have f5 : (x0.toList == [115, 112, 108, 105, 116]) = false := bytes_ne (by rw [hx]; decide)
  rw [hx] at hret
  have HRET := Lib.hid hret
  have hnl : (nints l).length = l.length := by simp [nints]
  obtain ⟨n0, n1, nf0, nf1, nz⟩ := HA.out.n.N.two
  obtain ⟨r0, r1, rf0, rf1, rz⟩ := HA.out.n.R.two
  have hne := HA.out.n.ne
  have hne2 := Ne.symm hne
  clear hret hx
  conv => arg 2; whnf
  rw [e2, e5, e6, e7, e13]
  clear e2 e5 e6 e7 e13
  have hw : wordOf caps4 L [114, 97, 116, 101, 115] l = (.ok (toldW (ratesW R)), L) := word_rates hR.symm
  have HW := Lib.hid hw; have HQ := Lib.hid hq
  clear hw hR hq hnl
  clear n0 n1 nf0 nf1 nz r0 r1 rf0 rf1 rz
  go_wp2
  go_loopw [15, 16] (fun v15 v16 wr => ∃ (k : Nat) (t : ByteArray), k ≤ R.length ∧ v16 = .int .i64 k ∧ v15 = .string t ∧ Hid (t.data.toList = RN.joinAt 32 (ratesW (R.take k))) ∧ Hid (Below W.heap.size W wr)) (fun _ v16 _ => R.length - (intOf v16).toNat)
  case atStart => exact ⟨0, ⟨#[]⟩, Nat.zero_le _, rfl, rfl, Lib.hid rfl, Lib.hid (Below.refl _ _)⟩
  case round =>
    obtain ⟨k, t, hk, rfl, rfl, HT, HB⟩ := hrel
    have hts : t.size ≤ 252 := by rw [← bytes_len, HT.out]; have := ratesW_len R HQ.out k; omega
    by_cases hlt : k < R.length
    · obtain ⟨b3, o3, rfl, hb3, y0, y1⟩ := frs_at HR.out hlt
      have c0 := (HB.out.cell (p := ⟨b3, o3 + k * 2, none⟩) hb3).trans y0
      have c1 := (HB.out.cell (p := ⟨b3, o3 + k * 2 + 1, none⟩) hb3).trans y1
      have hin := HQ.out _ (List.getElem_mem hlt)
      have htk := ratesW_take R hlt
      clear y0 y1
      generalize R[k] = q at c0 c1 hin htk
      have hq0 : 0 ≤ q.num := Rat.num_nonneg.2 (by have := hin.2; grind)
      have hqb := qin_bounds hin.1
      have hfs := frac_short hin.1
      have HQ0 := Lib.hid hq0; have HQB := Lib.hid hqb; have HTK := Lib.hid htk; have HFS := Lib.hid hfs
      have HQD : Hid ((0 : Int) ≤ (q.den : Int)) := Lib.hid (by omega)
      have d0 : decide (k < R.length) = true := decide_eq_true hlt
      have i0 : (0 : Int) ≤ (k : Int) := by omega
      have i1 : (k : Int) < (R.length : Int) := by omega
      clear hin htk hq0 hqb hfs
      by_cases hk0 : k = 0
      · have d1 : decide (0 < k) = false := decide_eq_false (by omega)
        have d2 : decide ((0 : Int) < (k : Int)) = false := decide_eq_false (by omega)
        have HK0 : Hid (RN.joinAt 32 (ratesW (R.take k)) = [] ∧ ratesW (R.take k) = []) := Lib.hid (by rw [hk0]; exact ⟨rfl, rfl⟩)
        clear hk0
        go_wp2_with fail
        refine (toldS_any q.num q.den wr HQ0.out HQB.out.2.1 HQD.out HQB.out.2.2.2).mono ?_; rintro e w1 ⟨s1, rfl, hs1, hb1⟩
        have HB1 := Lib.hid (HB.out.trans (hb1.mono HB.out.size))
        have hsz : s1.size ≤ 41 := by rw [← bytes_len, hs1]; exact HFS.out
        have fa : ¬ 9223372036854775807 < t.size + s1.size := by omega
        have HN : Hid ((t ++ s1).data.toList = RN.joinAt 32 (ratesW (R.take (k + 1)))) := Lib.hid (by rw [bytes_app, HT.out, hs1, HTK.out, joinW_snoc, if_pos HK0.out.2, HK0.out.1]; rfl)
        clear hb1 hs1
        go_wp2
        go_roundw
        case rel => exact ⟨k + 1, t ++ s1, by omega, by go_num, rfl, HN, HB1⟩
        case measure => (simp [intOf] <;> omega)
      · have d1 : decide (0 < k) = true := decide_eq_true (by omega)
        have d2 : (0 : Int) < (k : Int) := by omega
        have HK0 : Hid (¬ ratesW (R.take k) = []) := Lib.hid (fun e => by have := congrArg List.length e; rw [List.length_map, List.length_take, List.length_nil] at this; omega)
        have fa1 : ¬ 9223372036854775807 < t.size + 1 := by omega
        clear hk0
        go_wp2_with fail
        refine (toldS_any q.num q.den wr HQ0.out HQB.out.2.1 HQD.out HQB.out.2.2.2).mono ?_; rintro e w1 ⟨s1, rfl, hs1, hb1⟩
        have HB1 := Lib.hid (HB.out.trans (hb1.mono HB.out.size))
        have hsz : s1.size ≤ 41 := by rw [← bytes_len, hs1]; exact HFS.out
        have fa : ¬ 9223372036854775807 < t.size + 1 + s1.size := by omega
        have HN : Hid ((t ++ ⟨#[32]⟩ ++ s1).data.toList = RN.joinAt 32 (ratesW (R.take (k + 1)))) := Lib.hid (by rw [bytes_app, bytes_app, HT.out, hs1, HTK.out, joinW_snoc, if_neg HK0.out]; simp)
        clear hb1 hs1
        go_wp2
        go_roundw
        case rel => exact ⟨k + 1, t ++ ⟨#[32]⟩ ++ s1, by omega, by go_num, rfl, HN, HB1⟩
        case measure => (simp [intOf] <;> omega)
    · have hkk : R.take k = R := List.take_of_length_le (by omega)
      have d0 : decide (k < R.length) = false := decide_eq_false hlt
      have d00 : decide ((k : Int) < (R.length : Int)) = false := decide_eq_false (by omega)
      rw [hkk] at HT
      have HA1 := Lib.hid (HA.out.below HB.out)
      obtain ⟨n0, n1, nf0, nf1, nz⟩ := HA1.out.n.N.two
      obtain ⟨r0, r1, rf0, rf1, rz⟩ := HA1.out.n.R.two
      by_cases hR0 : R = []
      · have hem : t.toList.isEmpty = true := by rw [ByteArray.toList_eq, HT.out, hR0]; rfl
        have HX : Hid (toldW (ratesW R) = [45]) := Lib.hid (by rw [hR0]; rfl)
        clear hkk hR0
        go_upto_region 53 with (fail)
        go_region
        all_goals
          go_wp2
          obtain ⟨q1, q2, q3⟩ := HA1.out.n.ends HA1.out.n.flows
          exact HRET.out _ _ ⟨#[45]⟩ P cp ⟨rfl, rfl, rfl, rfl, trivial⟩ (by rw [HW.out]; exact HX.out.symm) (by rw [HW.out]; exact q1) (by rw [HW.out]; exact q2.below (Below.refl _ _).drew) q3.drew
      · have hrn : ratesW R ≠ [] := fun e => hR0 (List.map_eq_nil_iff.1 e)
        have hem : t.toList.isEmpty = false := by
          rw [ByteArray.toList_eq, HT.out]
          have := join_ne (c := 32) hrn (fun w hw => by obtain ⟨q, _, rfl⟩ := List.mem_map.1 hw; exact fracW_ne _ _)
          cases hj : RN.joinAt 32 (ratesW R) with
          | nil => exact absurd hj this
          | cons x l => rfl
        have HX : Hid (toldW (ratesW R) = RN.joinAt 32 (ratesW R)) := Lib.hid (by unfold toldW; rw [if_neg hrn])
        clear hkk hR0 hrn
        go_upto_region 53 with (fail)
        go_region
        all_goals
          go_wp2
          obtain ⟨q1, q2, q3⟩ := HA1.out.n.ends HA1.out.n.flows
          exact HRET.out _ _ t P cp ⟨rfl, rfl, rfl, rfl, trivial⟩ (by rw [HW.out, HT.out]; exact HX.out.symm) (by rw [HW.out]; exact q1) (by rw [HW.out]; exact q2.below (Below.refl _ _).drew) q3.drew
set_option maxHeartbeats 8000000 in
set_option maxRecDepth 100000 in
theorem sl_least (w : World) (b1 : Nat) (C : Option Addr) (cc : Nat) (P : Option Addr) (cp : Nat) (L : List (List Int)) (nb rb : Nat) (x0 : ByteArray) (T : List ByteArray) (A : Option Addr) (c' : Nat) (l : List Nat) (A2 : Option Addr) (c2 : Nat) (R : List Rat) (A3 : Option Addr) (c3 : Nat) (hR : R = ratesOf caps4 L) (hq : ∀ q ∈ R, QIn q ∧ 0 < q) (hR6 : R.length ≤ 6) (W : World) (HA : Hid (SLa w W b1 C cc P cp L nb rb x0 T A c' l A2 c2)) (hx : x0.data.toList = [108, 101, 97, 115, 116]) (hRL : R.length = L.length) (HR : Hid (Frs W W.heap.size A3 c3 (R.map frQ))) (a : Act) (hst : FrS a 256 [(2, .pointer (some ⟨nb, 0, none⟩)), (5, .pointer (some ⟨rb, 0, none⟩)), (6, .slice A (T.length + 1) c'), (7, .slice A2 l.length c2), (13, .slice A3 R.length c3)]) (Q : Exit → Act → World → Prop)
    (hret : SLret w b1 C cc rb (wordOf caps4 L x0.data.toList l) Q) : (Code.dr 9 slCode).wp Tryz.prog Q a W := by
  obtain ⟨x, rfl, hxx⟩ := sl_open hst
  obtain ⟨e2, e5, e6, e7, e13, _⟩ := hxx
  obtain ⟨b, off, rfl, hb, hc⟩ := HA.out.t.head
  have f0 : (x0.toList == [97, 100, 100]) = false := bytes_ne (by rw [hx]; decide)
  have f1 : (x0.toList == [100, 114, 111, 112]) = false := bytes_ne (by rw [hx]; decide)
  have f2 : (x0.toList == [114, 97, 116, 101, 115]) = false := bytes_ne (by rw [hx]; decide)
  have f3 : (x0.toList == [108, 101, 97, 115, 116]) = true := bytes_eq hx
  have f4 : (x0.toList == [105, 110, 100, 101, 120]) = false := bytes_ne (by rw [hx]; decide)
  have f5 : (x0.toList == [115, 112, 108, 105, 116]) = false := bytes_ne (by rw [hx]; decide)
  rw [hx] at hret
  have HRET := Lib.hid hret
  have hnl : (nints l).length = l.length := by simp [nints]
  obtain ⟨n0, n1, nf0, nf1, nz⟩ := HA.out.n.N.two
  obtain ⟨r0, r1, rf0, rf1, rz⟩ := HA.out.n.R.two
  have hne := HA.out.n.ne
  have hne2 := Ne.symm hne
  clear hret hx
  conv => arg 2; whnf
  rw [e2, e5, e6, e7, e13]
  clear e2 e5 e6 e7 e13
  by_cases hR0 : R.length = 0
  · have hL0 : L = [] := List.length_eq_zero_iff.1 (by omega)
    have hw : wordOf caps4 L [108, 101, 97, 115, 116] l = (.err 5, L) := by unfold wordOf; rw [if_neg (by decide), if_neg (by decide), if_neg (by decide), if_pos rfl, if_pos hL0]
    have HW := Lib.hid hw
    have d0 : ((R.length : Int) == 0) = true := by rw [hR0]; rfl
    clear hw hR hq hnl hL0 hR0 hRL
    go_upto_region 56 with (fail)
    go_region_held3 (fun w' => w'.cell? ⟨nb, 0, none⟩ = some (.slice C 4 cc) ∧ w'.cell? ⟨nb, 1, none⟩ = some (.slice P L.length cp)) (go_keep)
      (first | (go_simp; go_at_call 58; refine (nameS_any 5 _ (by decide)).mono ?_; rintro e w1 ⟨sn, rfl, hsn, hb1⟩; have HA1 := Lib.hid (HA.out.below ((Below.refl _ _).drew.trans hb1)); have HSN := Lib.hid hsn; clear hb1 hsn; obtain ⟨m0, m1, mf0, mf1, mz⟩ := HA1.out.n.N.two; obtain ⟨t0, t1, tf0, tf1, tz⟩ := HA1.out.n.R.two; dsimp only))
    all_goals
      go_wp2
      obtain ⟨q1, q2, q3⟩ := HA1.out.n.ends HA1.out.n.flows
      exact HRET.out _ _ sn P cp ⟨rfl, rfl, rfl, rfl, trivial⟩ (by rw [HW.out]; exact HSN.out) (by rw [HW.out]; exact q1) (by rw [HW.out]; exact q2) q3
  · have hLn : L ≠ [] := fun e => hR0 (by rw [hRL, e]; rfl)
    have HLQ : Hid (∀ q, q ∈ R → (∀ p ∈ R, q ≤ p) → wordOf caps4 L [108, 101, 97, 115, 116] l = (.ok (fracW q.num q.den), L)) := Lib.hid fun q h1 h2 => word_least hLn (by rw [leastOf, ← hR]; exact least_is h1 h2)
    have HQ := Lib.hid hq
    have d0 : ((R.length : Int) == 0) = false := beq_eq_false_iff_ne.2 (by omega)
    have hlt0 : 0 < R.length := by omega
    have i00 : (0 : Int) < (R.length : Int) := by omega
    obtain ⟨b3, o3, rfl, hb3, y0, y1⟩ := frs_at HR.out hlt0
    rw [Nat.zero_mul, Nat.add_zero] at y0 y1
    have hmem0 : R[0] ∈ R := List.getElem_mem hlt0
    generalize R[0] = q0 at y0 y1 hmem0
    have HM0 := Lib.hid hmem0
    have HBX : Hid (Blk (W.alloc (.cells #[.int .i64 q0.num, .int .i64 q0.den] 37)) W.heap.size 37 #[.int .i64 q0.num, .int .i64 q0.den]) := Lib.hid (Blk.new _ _ _)
    have HBW : Hid (Below W.heap.size W (W.alloc (.cells #[.int .i64 q0.num, .int .i64 q0.den] 37))) := Lib.hid ((Below.refl _ _).alloc (Nat.le_refl _) _)
    obtain ⟨w1, hw1⟩ : ∃ z, z = W.alloc (.cells #[.int .i64 q0.num, .int .i64 q0.den] 37) := ⟨_, rfl⟩
    rw [← hw1] at HBX HBW
    clear hR hq hnl hR0 hRL hLn hmem0
    go_upto_region 58 with (fail)
    rw [← hw1]
    clear hw1
    have jr : rb ≠ W.heap.size := Nat.ne_of_lt rz
    have jn : nb ≠ W.heap.size := Nat.ne_of_lt nz
    have j3 : b3 ≠ W.heap.size := Nat.ne_of_lt hb3
    have HLE : Hid (W.heap.size ≤ W.heap.size) := Lib.hid (Nat.le_refl _)
    obtain ⟨bb, hbb⟩ : ∃ z, z = W.heap.size := ⟨_, rfl⟩
    have HLB : Hid (W.heap.size ≤ bb) := Lib.hid (by rw [hbb]; exact Nat.le_refl _)
    rw [← hbb] at jr jn j3
    have HBX2 : Hid (Blk w1 bb 37 #[.int .i64 q0.num, .int .i64 q0.den]) := Lib.hid (by rw [hbb]; exact HBX.out)
    rw [← hbb]
    clear HBX hbb HLE n0 n1 nf0 nf1 nz r0 r1 rf0 rf1 rz y0 y1 hlt0 i00
    have jr2 := Ne.symm jr; have jn2 := Ne.symm jn; have j32 := Ne.symm j3
    go_wp2
    go_loopw [19] (fun v19 wr => ∃ (k : Nat) (q : Rat), k ≤ R.length ∧ v19 = .int .i64 k ∧ Hid (q ∈ R) ∧ Hid (∀ p ∈ R.take k, q ≤ p) ∧ Hid (Blk wr bb 37 #[.int .i64 q.num, .int .i64 q.den]) ∧ Hid (Below W.heap.size W wr)) (fun v19 _ => R.length - (intOf v19).toNat)
    case atStart => exact ⟨0, q0, Nat.zero_le _, rfl, HM0, Lib.hid (fun p h => by cases h), HBX2, HBW⟩
    case round =>
      clear HM0 HBX2 HBW
      obtain ⟨k, q, hk, rfl, HM, HLEQ, HX, HB⟩ := hrel
      obtain ⟨x0', x1', xf0, xf1, xz⟩ := HX.out.two
      by_cases hlt : k < R.length
      · obtain ⟨b3', o3', he3, _, y0, y1⟩ := frs_at HR.out hlt
        injection he3 with he3
        injection he3 with he1 he2
        subst he1 he2
        have HC : Hid (∀ W', Below W.heap.size W W' → W'.cell? ⟨b3, o3 + k * 2, none⟩ = some (.int .i64 R[k].num) ∧ W'.cell? ⟨b3, o3 + k * 2 + 1, none⟩ = some (.int .i64 R[k].den)) := Lib.hid fun W' hb' => ⟨(hb'.cell (p := ⟨b3, o3 + k * 2, none⟩) hb3).trans y0, (hb'.cell (p := ⟨b3, o3 + k * 2 + 1, none⟩) hb3).trans y1⟩
        have hmk : R[k] ∈ R := List.getElem_mem hlt
        have htk : R.take (k + 1) = R.take k ++ [R[k]] := (List.take_append_getElem hlt).symm
        clear y0 y1
        generalize R[k] = p at HC hmk htk
        obtain ⟨c0, c1⟩ := HC.out wr HB.out
        have HMK := Lib.hid hmk; have HTK := Lib.hid htk
        have d1 : decide (k < R.length) = true := decide_eq_true hlt
        have i0 : (0 : Int) ≤ (k : Int) := by omega
        have i1 : (k : Int) < (R.length : Int) := by omega
        clear hmk htk
        by_cases hlp : p < q
        · have HO : Hid (ordQ p q = -1) := Lib.hid (by unfold ordQ; rw [if_pos hlp])
          have HN : Hid (∀ z ∈ R.take (k + 1), p ≤ z) := Lib.hid fun z hz => by
            rw [HTK.out] at hz
            rcases List.mem_append.1 hz with h | h
            · have := HLEQ.out z h; grind
            · rw [List.mem_singleton.1 h]; exact Rat.le_refl
          clear hlp
          go_upto_region 61 with (fail)
          go_region_held3 (fun w' => w'.cell? ⟨b3, o3 + k * 2, none⟩ = some (.int .i64 p.num) ∧ w'.cell? ⟨b3, o3 + k * 2 + 1, none⟩ = some (.int .i64 p.den) ∧ w'.cell? ⟨bb, 0, none⟩ = some (.int .i64 q.num) ∧ w'.cell? ⟨bb, 1, none⟩ = some (.int .i64 q.den)) (go_keep)
            (first | (go_simp; go_at_call 51; refine (refOrder_q p q _ _ (HQ.out p HMK.out).1 (HQ.out q HM.out).1 HO.out).mono ?_; rintro e w2 ⟨rfl, hb2⟩; have hb3' : Below wr.heap.size wr w2 := (Below.refl _ _).drew.trans hb2; have HB2 := Lib.hid (HB.out.trans (hb3'.mono HB.out.size)); have HX2 := Lib.hid (HX.out.go hb3'); obtain ⟨z0, z1, zf0, zf1, zz⟩ := HX2.out.two; obtain ⟨u0, u1⟩ := HC.out w2 HB2.out; clear hb2 hb3'; dsimp only))
          all_goals
            go_wp2
            go_roundw
            case rel => exact ⟨k + 1, p, by omega, by go_num, HMK, HN, Lib.hid ((HX2.out.s2_0 _).s2_1 _), Lib.hid ((HB2.out.setCell (p := ⟨bb, 0, none⟩) HLB.out _).setCell (p := ⟨bb, 1, none⟩) HLB.out _)⟩
            case measure => (simp [intOf] <;> omega)
        · obtain ⟨ov, hov⟩ : ∃ ov, ordQ p q = ov := ⟨_, rfl⟩
          have ho0 : decide (ov < 0) = false := decide_eq_false (by rw [← hov]; unfold ordQ; rw [if_neg hlp]; split <;> decide)
          have HO := Lib.hid hov
          have HN : Hid (∀ z ∈ R.take (k + 1), q ≤ z) := Lib.hid fun z hz => by
            rw [HTK.out] at hz
            rcases List.mem_append.1 hz with h | h
            · exact HLEQ.out z h
            · rw [List.mem_singleton.1 h]; grind
          clear hlp hov
          go_upto_region 61 with (fail)
          go_region_held3 (fun w' => w'.cell? ⟨b3, o3 + k * 2, none⟩ = some (.int .i64 p.num) ∧ w'.cell? ⟨b3, o3 + k * 2 + 1, none⟩ = some (.int .i64 p.den) ∧ w'.cell? ⟨bb, 0, none⟩ = some (.int .i64 q.num) ∧ w'.cell? ⟨bb, 1, none⟩ = some (.int .i64 q.den)) (go_keep)
            (first | (go_simp; go_at_call 51; refine (refOrder_q p q _ _ (HQ.out p HMK.out).1 (HQ.out q HM.out).1 HO.out).mono ?_; rintro e w2 ⟨rfl, hb2⟩; have hb3' : Below wr.heap.size wr w2 := (Below.refl _ _).drew.trans hb2; have HB2 := Lib.hid (HB.out.trans (hb3'.mono HB.out.size)); have HX2 := Lib.hid (HX.out.go hb3'); obtain ⟨z0, z1, zf0, zf1, zz⟩ := HX2.out.two; obtain ⟨u0, u1⟩ := HC.out w2 HB2.out; clear hb2 hb3'; dsimp only))
          all_goals
            go_wp2
            go_roundw
            case rel => exact ⟨k + 1, q, by omega, by go_num, HM, HN, HX2, HB2⟩
            case measure => (simp [intOf] <;> omega)
      · have hkk : R.take k = R := List.take_of_length_le (by omega)
        rw [hkk] at HLEQ
        have HW := Lib.hid (HLQ.out q HM.out HLEQ.out)
        have d1 : decide (k < R.length) = false := decide_eq_false hlt
        have d11 : decide ((k : Int) < (R.length : Int)) = false := decide_eq_false (by omega)
        have HA1 := Lib.hid (HA.out.below HB.out)
        obtain ⟨n0, n1, nf0, nf1, nz⟩ := HA1.out.n.N.two
        have hq0 : 0 ≤ q.num := Rat.num_nonneg.2 (by have := (HQ.out q HM.out).2; grind)
        have hqb := qin_bounds (HQ.out q HM.out).1
        have HQ0 := Lib.hid hq0; have HQB := Lib.hid hqb
        have HQD : Hid ((0 : Int) ≤ (q.den : Int)) := Lib.hid (by omega)
        clear hkk hq0 hqb
        go_upto_region 63 with (fail)
        go_region_held3 (fun w' => w'.cell? ⟨nb, 0, none⟩ = some (.slice C 4 cc) ∧ w'.cell? ⟨nb, 1, none⟩ = some (.slice P L.length cp) ∧ w'.cell? ⟨bb, 0, none⟩ = some (.int .i64 q.num) ∧ w'.cell? ⟨bb, 1, none⟩ = some (.int .i64 q.den)) (go_keep)
          (first | (go_simp; go_at_call 29; refine (toldS_any q.num q.den _ HQ0.out HQB.out.2.1 HQD.out HQB.out.2.2.2).mono ?_; rintro e w2 ⟨s1, rfl, hs1, hb2⟩; have hb3' : Below wr.heap.size wr w2 := (Below.refl _ _).drew.trans hb2; have HA2 := Lib.hid (HA1.out.below hb3'); have HX2 := Lib.hid (HX.out.go hb3'); have HS1 := Lib.hid hs1; obtain ⟨z0, z1, zf0, zf1, zz⟩ := HX2.out.two; obtain ⟨m0, m1, mf0, mf1, mz⟩ := HA2.out.n.N.two; obtain ⟨t0, t1, tf0, tf1, tz⟩ := HA2.out.n.R.two; clear hb2 hb3' hs1; dsimp only))
        all_goals
          go_wp2
          obtain ⟨q1, q2, q3⟩ := HA2.out.n.ends HA2.out.n.flows
          exact HRET.out _ _ s1 P cp ⟨rfl, rfl, rfl, rfl, trivial⟩ (by rw [HW.out]; exact HS1.out) (by rw [HW.out]; exact q1) (by rw [HW.out]; exact q2) q3
end Go.Proofs.YtaijpiebjhhkjaaGreatDoor
/- fairref2.Line: index, split (printed by gen_sline5.py). -/
namespace Go.Proofs.YtaijpiebjhhkjaaGreatDoor
open Go.RowKit
theorem idxErr_nat (l : List Int) : ∃ e : Nat, e ≤ 8 ∧ idxErr l = e := by
  have hf : fewErr l 1000 = 5 ∨ fewErr l 1000 = 4 ∨ fewErr l 1000 = 1 ∨ fewErr l 1000 = 0 := by
    unfold fewErr
    split
    · exact .inl rfl
    · split
      · exact .inr (.inl rfl)
      · split
        · exact .inr (.inr (.inl rfl))
        · exact .inr (.inr (.inr rfl))
  unfold idxErr
  split
  · rcases hf with h | h | h | h
    · exact ⟨5, by decide, h⟩
    · exact ⟨4, by decide, h⟩
    · exact ⟨1, by decide, h⟩
    · exact ⟨0, by decide, h⟩
  · split
    · exact ⟨5, by decide, rfl⟩
    · exact ⟨0, by decide, rfl⟩
/-- what an index is made of -/
theorem idx_made {l : List Int} (he : idxErr l = 0) : 0 < l.length ∧ l.length ≤ 6 ∧ (∀ a ∈ l, 0 ≤ a ∧ a ≤ 1000) ∧ 0 ≤ tot l ∧ tot l ≤ 6000 ∧ 0 ≤ sqs l ∧ sqs l ≤ 6000000 ∧ 0 ≤ tot l * tot l ∧ tot l * tot l ≤ 36000000 ∧ 0 < (l.length : Int) * sqs l ∧ (l.length : Int) * sqs l ≤ 36000000 ∧ 0 ≤ idxT l ∧ idxT l ≤ 1000000000 ∧ 0 ≤ idxB l ∧ idxB l ≤ 100000000 := by
  have hin := idx_in l he
  obtain ⟨hf, ht⟩ := idx_parts he
  obtain ⟨h0, h6, hbad⟩ := few_ok hf
  have hb := badTo_in hbad
  have s1 := tot_bound l 1000 hb
  have s2 := sqs_bd l hb
  have hq : sqs l ≠ 0 := fun h => ht ((tot_sq l fun a ha => (hb a ha).1).1 h)
  have m1 : 0 ≤ tot l * tot l ∧ tot l * tot l ≤ 6000 * 6000 := ⟨Int.mul_nonneg s1.1 s1.1, Int.mul_le_mul (by omega) (by omega) s1.1 (by omega)⟩
  have m2 : 0 < (l.length : Int) * sqs l ∧ (l.length : Int) * sqs l ≤ 6 * 6000000 := ⟨Int.mul_pos (by omega) (by omega), Int.mul_le_mul (by omega) (by omega) s2.1 (by omega)⟩
  have ht0 : 0 ≤ idxT l := by unfold idxT lowT; exact Int.tdiv_nonneg m1.1 (Int.natCast_nonneg _)
  unfold FracIn at hin
  exact ⟨h0, h6, hb, s1.1, by omega, s2.1, by omega, m1.1, by omega, m2.1, by omega, ht0, by omega, by omega, by omega⟩
theorem sqs_take {l : List Int} (hb : ∀ a ∈ l, 0 ≤ a ∧ a ≤ 1000) (h6 : l.length ≤ 6) (k : Nat) : 0 ≤ sqs (l.take k) ∧ sqs (l.take k) ≤ 6000000 := by
  have := sqs_bd (l.take k) fun a ha => hb a (List.mem_of_mem_take ha)
  have h2 : (l.take k).length ≤ 6 := by rw [List.length_take]; omega
  omega
set_option maxHeartbeats 8000000 in
set_option maxRecDepth 100000 in
theorem sl_index (w : World) (b1 : Nat) (C : Option Addr) (cc : Nat) (P : Option Addr) (cp : Nat) (L : List (List Int)) (nb rb : Nat) (x0 : ByteArray) (T : List ByteArray) (A : Option Addr) (c' : Nat) (l : List Nat) (A2 : Option Addr) (c2 : Nat) (W : World) (HA : Hid (SLa w W b1 C cc P cp L nb rb x0 T A c' l A2 c2)) (hx : x0.data.toList = [105, 110, 100, 101, 120]) (a : Act) (hst : FrS a 256 [(2, .pointer (some ⟨nb, 0, none⟩)), (5, .pointer (some ⟨rb, 0, none⟩)), (6, .slice A (T.length + 1) c'), (7, .slice A2 l.length c2)]) (Q : Exit → Act → World → Prop)
    (hret : SLret w b1 C cc rb (wordOf caps4 L x0.data.toList l) Q) : (Code.dr 9 slCode).wp Tryz.prog Q a W := by
  obtain ⟨x, rfl, hxx⟩ := sl_open hst
  obtain ⟨e2, e5, e6, e7, _⟩ := hxx
  obtain ⟨b, off, rfl, hb, hc⟩ := HA.out.t.head
  have f0 : (x0.toList == [97, 100, 100]) = false := bytes_ne (by rw [hx]; decide)
  have f1 : (x0.toList == [100, 114, 111, 112]) = false := bytes_ne (by rw [hx]; decide)
  have f2 : (x0.toList == [114, 97, 116, 101, 115]) = false := bytes_ne (by rw [hx]; decide)
  have f3 : (x0.toList == [108, 101, 97, 115, 116]) = false := bytes_ne (by rw [hx]; decide)
  have f4 : (x0.toList == [105, 110, 100, 101, 120]) = true := bytes_eq hx
  have f5 : (x0.toList == [115, 112, 108, 105, 116]) = false := bytes_ne (by rw [hx]; decide)
  rw [hx] at hret
  have HRET := Lib.hid hret
  have hnl : (nints l).length = l.length := by simp [nints]
  obtain ⟨n0, n1, nf0, nf1, nz⟩ := HA.out.n.N.two
  obtain ⟨r0, r1, rf0, rf1, rz⟩ := HA.out.n.R.two
  have hne := HA.out.n.ne
  have hne2 := Ne.symm hne
  clear hret hx
  conv => arg 2; whnf
  rw [e2, e5, e6, e7]
  clear e2 e5 e6 e7
  obtain ⟨er, her8, her⟩ := idxErr_nat (nints l)
  have hw0 : wordOf caps4 L [105, 110, 100, 101, 120] l = (idxOf (nints l), L) := word_index
  have hwg := refWeights_is A2 c2 (nints l) W.heap.size W HA.out.i er her
  rw [nints_len] at hwg
  have HWG := Lib.hid hwg
  clear hwg
  by_cases he : er = 0
  · subst he
    have her0 : idxErr (nints l) = 0 := her
    have hw : wordOf caps4 L [105, 110, 100, 101, 120] l = (.ok (fracW (idxT (nints l)) (idxB (nints l))), L) := by rw [hw0]; unfold idxOf; rw [if_pos her0]
    have HW := Lib.hid hw
    obtain ⟨g0, g6, gb, t0', t1', s0, s1, p0, p1, m0', m1', x0a, x1a, x2a, x3a⟩ := idx_made her0
    have HGB := Lib.hid gb
    have htt := total_any A2 c2 (nints l) W.heap.size W HA.out.i (fun a ha => by have := gb a ha; omega) (by omega)
    rw [nints_len] at htt
    have HTT := Lib.hid htt
    rw [nints_len] at g0 g6 m0' m1'
    have HST := Lib.hid fun k => sqs_take (l := nints l) gb (by rw [nints_len]; exact g6) k
    have HX0 := Lib.hid x0a; have HX1 := Lib.hid x1a; have HX2 := Lib.hid x2a; have HX3 := Lib.hid x3a
    have HTI : Hid (lowT (tot (nints l) * tot (nints l)) ((l.length : Int) * sqs (nints l)) = idxT (nints l) ∧ lowB (tot (nints l) * tot (nints l)) ((l.length : Int) * sqs (nints l)) = idxB (nints l)) := Lib.hid (by unfold idxT idxB; rw [nints_len]; exact ⟨rfl, rfl⟩)
    clear hw hw0 gb htt x0a x1a x2a x3a her her0 her8
    go_wp2_with fail
    refine HWG.out.mono ?_; rintro e w1 ⟨rfl, hw1⟩
    obtain rfl := hw1
    go_wp2_with fail
    refine HTT.out.mono ?_; rintro e w1 ⟨rfl, hw1⟩
    obtain rfl := hw1
    clear HWG HTT
    generalize tot (nints l) = T0 at t0' t1' p0 p1 HTI ⊢
    go_wp2
    go_loopw [22, 23] (fun v22 v23 wr => ∃ k : Nat, k ≤ l.length ∧ v23 = .int .i64 k ∧ v22 = .int .i64 (sqs ((nints l).take k)) ∧ Hid (Below W.heap.size W wr)) (fun _ v23 _ => l.length - (intOf v23).toNat)
    case atStart => exact ⟨0, Nat.zero_le _, rfl, rfl, Lib.hid (Below.refl _ _)⟩
    case round =>
      obtain ⟨k, hk, rfl, rfl, HB⟩ := hrel
      by_cases hlt : k < l.length
      · obtain ⟨bi, oi, z, rfl, hbi, hz, hzm, HT, _⟩ := HA.out.i.elem (k := k) (by rw [nints_len]; exact hlt)
        have c0 := (HB.out.cell (p := ⟨bi, oi + k, none⟩) hbi).trans hz
        have hzb := HGB.out z hzm
        have hz2 := sq_bd hzb.1 hzb.2
        have hs := HST.out k
        have HN : Hid (sqs ((nints l).take (k + 1)) = sqs ((nints l).take k) + z * z) := Lib.hid (by rw [HT.out, sqs_snoc])
        generalize sqs ((nints l).take k) = S1 at hs HN ⊢
        have d0 : decide (k < l.length) = true := decide_eq_true hlt
        have i0 : (0 : Int) ≤ (k : Int) := by omega
        have i1 : (k : Int) < (l.length : Int) := by omega
        have q1 : IntKind.i64.wrap (z * z) = z * z := IntWalk.i64_in _ (by omega)
        have q2 : IntKind.i64.wrap (S1 + z * z) = S1 + z * z := IntWalk.i64_in _ (by omega)
        clear hz hzm HT
        go_upto_region 73 with (fail)
        go_quiet (fail)
        go_wp2
        go_roundw
        case rel => exact ⟨k + 1, by omega, by go_num, by rw [HN.out], Lib.hid (below_drewN HB.out _)⟩
        case measure => (simp [intOf] <;> omega)
      · have hkk : (nints l).take k = nints l := List.take_of_length_le (by rw [nints_len]; omega)
        have d0 : decide (k < l.length) = false := decide_eq_false hlt
        have d00 : decide ((k : Int) < (l.length : Int)) = false := decide_eq_false (by omega)
        rw [hkk]
        have HA1 := Lib.hid (HA.out.below HB.out)
        clear hkk n0 n1 nf0 nf1 nz r0 r1 rf0 rf1 rz
        obtain ⟨n0, n1, nf0, nf1, nz⟩ := HA1.out.n.N.two
        generalize sqs (nints l) = S0 at s0 s1 m0' m1' HTI ⊢
        have q1 : IntKind.i64.wrap (T0 * T0) = T0 * T0 := IntWalk.i64_in _ (by omega)
        have q2 : IntKind.i64.wrap ((l.length : Int) * S0) = (l.length : Int) * S0 := IntWalk.i64_in _ (by omega)
        have HT0 : Hid (-1000000000000000000 ≤ T0 * T0 ∧ T0 * T0 ≤ 1000000000000000000 ∧ 0 < (l.length : Int) * S0 ∧ (l.length : Int) * S0 ≤ 1000000000000000000) := Lib.hid ⟨by omega, by omega, by omega, by omega⟩
        clear p0 p1 m0' m1'
        go_upto_region 74 with (fail)
        go_region_held3 (fun w' => w'.cell? ⟨nb, 0, none⟩ = some (.slice C 4 cc) ∧ w'.cell? ⟨nb, 1, none⟩ = some (.slice P L.length cp)) (go_keep)
          (first
            | (go_simp; go_at_call 30; refine (refLow_any (T0 * T0) ((l.length : Int) * S0) _ HT0.out.1 HT0.out.2.1 HT0.out.2.2.1 HT0.out.2.2.2).mono ?_; rintro e w2 ⟨rfl, hb2⟩; have hb3' : Below wr.heap.size wr w2 := (Below.refl _ _).drew.trans hb2; have HA2 := Lib.hid (HA1.out.below hb3'); obtain ⟨m0, m1, mf0, mf1, mz⟩ := HA2.out.n.N.two; rw [HTI.out.1, HTI.out.2]; clear hb2 hb3'; dsimp only)
            | (go_simp; go_at_call 29; refine (toldS_any (idxT (nints l)) (idxB (nints l)) w2 HX0.out (by have := HX1.out; omega) HX2.out (by have := HX3.out; omega)).mono ?_; rintro e w3 ⟨s1', rfl, hs1, hb2⟩; have HA3 := Lib.hid (HA2.out.below hb2); have HS1 := Lib.hid hs1; obtain ⟨m0, m1, mf0, mf1, mz⟩ := HA3.out.n.N.two; obtain ⟨t0, t1, tf0, tf1, tz⟩ := HA3.out.n.R.two; clear hb2 hs1; dsimp only))
        all_goals
          go_wp2
          obtain ⟨q1, q2, q3⟩ := HA3.out.n.ends HA3.out.n.flows
          exact HRET.out _ _ s1' P cp ⟨rfl, rfl, rfl, rfl, trivial⟩ (by rw [HW.out]; exact HS1.out) (by rw [HW.out]; exact q1) (by rw [HW.out]; exact q2) q3
  · have hw : wordOf caps4 L [105, 110, 100, 101, 120] l = (.err er, L) := by rw [hw0]; unfold idxOf; rw [if_neg (by rw [her]; omega), her]
    have HW := Lib.hid hw
    have d7 : ((er : Int) == 0) = false := beq_eq_false_iff_ne.2 (by omega)
    clear hw hw0 her
    go_wp2_with fail
    refine HWG.out.mono ?_; rintro e w1 ⟨rfl, hw1⟩
    obtain rfl := hw1
    go_upto_region 67 with (fail)
    go_region_held3 (fun w' => w'.cell? ⟨nb, 0, none⟩ = some (.slice C 4 cc) ∧ w'.cell? ⟨nb, 1, none⟩ = some (.slice P L.length cp)) (go_keep)
      (first | (go_simp; go_at_call 58; refine (nameS_any er _ her8).mono ?_; rintro e w1 ⟨sn, rfl, hsn, hb1⟩; have HA1 := Lib.hid (HA.out.below ((Below.refl _ _).drew.trans hb1)); have HSN := Lib.hid hsn; clear hb1 hsn; obtain ⟨m0, m1, mf0, mf1, mz⟩ := HA1.out.n.N.two; obtain ⟨t0, t1, tf0, tf1, tz⟩ := HA1.out.n.R.two; dsimp only))
    all_goals
      go_wp2
      obtain ⟨q1, q2, q3⟩ := HA1.out.n.ends HA1.out.n.flows
      exact HRET.out _ _ sn P cp ⟨rfl, rfl, rfl, rfl, trivial⟩ (by rw [HW.out]; exact HSN.out) (by rw [HW.out]; exact q1) (by rw [HW.out]; exact q2) q3
/-- numbers told, so far -/
abbrev numsW (R : List Int) : List (List UInt8) := R.map Lib.itoa
theorem numsW_take (R : List Int) {k : Nat} (hk : k < R.length) : numsW (R.take (k + 1)) = numsW (R.take k) ++ [Lib.itoa R[k]] := by
  rw [numsW, ← List.take_append_getElem hk, List.map_append]; rfl
theorem numsW_len (R : List Int) (hq : ∀ q ∈ R, 0 ≤ q ∧ q ≤ 10000001) (k : Nat) : (RN.joinAt 32 (numsW (R.take k))).length ≤ 21 * k := by
  refine Nat.le_trans (join_len 32 _ 20 ?_) ?_
  · intro x hx
    obtain ⟨q, hq', rfl⟩ := List.mem_map.1 hx
    have := hq q (List.mem_of_mem_take hq')
    exact itoa_len (by omega) (by omega)
  · rw [List.length_map, List.length_take]
    have : min k R.length ≤ k := Nat.min_le_left _ _
    omega
theorem itoa_ne (n : Int) : Lib.itoa n ≠ [] := fun e => by
  unfold Lib.itoa at e
  split at e
  · cases e
  · have := congrArg List.length e
    rw [Lib.decDigits_length] at this
    have h2 := Lib.nDigits_pos n.toNat
    simp at this
    omega
set_option maxHeartbeats 8000000 in
set_option maxRecDepth 100000 in
theorem sl_split (w : World) (b1 : Nat) (C : Option Addr) (cc : Nat) (P : Option Addr) (cp : Nat) (L : List (List Int)) (nb rb : Nat) (x0 : ByteArray) (T : List ByteArray) (A : Option Addr) (c' : Nat) (l : List Nat) (A2 : Option Addr) (c2 : Nat) (m : Nat) (r : List Nat) (hlr : l = m :: r) (hr0 : r ≠ []) (hm : m < 10000) (hrl : r.length ≤ 100000) (W : World) (HA : Hid (SLa w W b1 C cc P cp L nb rb x0 T A c' l A2 c2)) (hx : x0.data.toList = [115, 112, 108, 105, 116]) (a : Act) (hst : FrS a 256 [(2, .pointer (some ⟨nb, 0, none⟩)), (5, .pointer (some ⟨rb, 0, none⟩)), (6, .slice A (T.length + 1) c'), (7, .slice A2 l.length c2)]) (Q : Exit → Act → World → Prop)
    (hret : SLret w b1 C cc rb (wordOf caps4 L x0.data.toList l) Q) : (Code.dr 9 slCode).wp Tryz.prog Q a W := by
  obtain ⟨x, rfl, hxx⟩ := sl_open hst
  obtain ⟨e2, e5, e6, e7, _⟩ := hxx
  obtain ⟨b, off, rfl, hb, hc⟩ := HA.out.t.head
  have f0 : (x0.toList == [97, 100, 100]) = false := bytes_ne (by rw [hx]; decide)
  have f1 : (x0.toList == [100, 114, 111, 112]) = false := bytes_ne (by rw [hx]; decide)
  have f2 : (x0.toList == [114, 97, 116, 101, 115]) = false := bytes_ne (by rw [hx]; decide)
  have f3 : (x0.toList == [108, 101, 97, 115, 116]) = false := bytes_ne (by rw [hx]; decide)
  have f4 : (x0.toList == [105, 110, 100, 101, 120]) = false := bytes_ne (by rw [hx]; decide)
  have f5 : (x0.toList == [115, 112, 108, 105, 116]) = true := bytes_eq hx
  rw [hx] at hret
  have HRET := Lib.hid hret
  have hnl : (nints l).length = l.length := by simp [nints]
  obtain ⟨n0, n1, nf0, nf1, nz⟩ := HA.out.n.N.two
  obtain ⟨r0, r1, rf0, rf1, rz⟩ := HA.out.n.R.two
  have hne := HA.out.n.ne
  have hne2 := Ne.symm hne
  clear hret hx
  subst hlr
  have hw0 : wordOf caps4 L [115, 112, 108, 105, 116] (m :: r) = (splOf (nints (m :: r)), L) := word_split
  obtain ⟨rt, hrt⟩ : ∃ z, z = nints r := ⟨_, rfl⟩
  have hrl2 : rt.length = r.length := by rw [hrt]; simp [nints]
  have hrp : 1 ≤ rt.length := by rw [hrl2]; exact List.length_pos_iff.2 hr0
  have hsp : splOf (nints (m :: r)) = (if splitErr (m : Int) rt = 0 then .ok (toldW (numsW (splitL (m : Int) rt))) else .err (splitErr (m : Int) rt)) := by rw [hrt]; rfl
  have hse : splitErr (m : Int) rt = idxErr rt := by
    unfold splitErr
    split
    · rfl
    · rename_i h
      rw [if_neg (by omega)]
      exact (Classical.not_not.1 h).symm
  have hsl : splitL (m : Int) rt = PG.parts m rt := by
    unfold splitL
    rw [if_neg (by omega), show max (m : Int) (-(m : Int)) = m by omega]
  rw [hse, hsl] at hsp
  obtain ⟨bi, oi, rfl, hbi, hci⟩ := HA.out.i.rd.2 (by simp [nints])
  have i0 : W.cell? ⟨bi, oi, none⟩ = some (.int .i64 m) := hci 0 _ rfl
  have hcap := HA.out.i.le; have hcm := HA.out.i.cap
  rw [hnl, List.length_cons] at hcap
  have HI : Hid (∀ (W' : World) (c : Nat), Below W.heap.size W W' → rt.length ≤ c → c ≤ maxLen → Ints W' W'.heap.size (some ⟨bi, oi + 1, none⟩) c rt) := Lib.hid fun W' c hb' h1 h2 =>
    ⟨⟨by simp, fun _ => ⟨bi, oi + 1, rfl, Nat.lt_of_lt_of_le hbi hb'.size, fun j u hu => by
      have hj : ((nints (m :: r)).map (Value.int .i64))[j + 1]? = some u := by rw [hrt] at hu; simpa [nints] using hu
      rw [Nat.add_assoc, Nat.add_comm 1 j]
      exact (hb'.cell (p := ⟨bi, oi + (j + 1), none⟩) hbi).trans (hci (j + 1) u hj)⟩⟩, h1, h2⟩
  have hcm1 : c2 - 1 ≤ maxLen := by omega
  have hcap1 : rt.length ≤ c2 - 1 := by omega
  rw [List.length_cons, ← hrl2] at e7
  have f1a : (1 : Int) ≤ (rt.length : Int) + 1 := by omega
  have f2a : (rt.length : Int) + 1 ≤ (c2 : Int) := by omega
  have f3a : c2 ≠ 1 := by omega
  have f4a : (0 : Int) < (rt.length : Int) + 1 := by omega
  have HCM := Lib.hid hcm1; have HCAP := Lib.hid hcap1
  have hrs : rt.length ≤ 100000 := by omega
  obtain ⟨er, her8, her⟩ := idxErr_nat rt
  have HWG := Lib.hid (refWeights_is (some ⟨bi, oi + 1, none⟩) (c2 - 1) rt W.heap.size W (HI.out W _ (Below.refl _ _) hcap1 hcm1) er her)
  have HW0 := Lib.hid hw0; have HSP := Lib.hid hsp; have HER := Lib.hid her
  clear hnl hse hsl hci hrt hcm hcm1 hcap1 hw0 hsp her hrl2 hrl hr0 hcap
  conv => arg 2; whnf
  rw [e2, e5, e6, e7]
  clear e2 e5 e6 e7
  go_upto_region 75 with (fail)
  go_wp2_with fail
  refine HWG.out.mono ?_; rintro e w1 ⟨rfl, hw1⟩
  obtain rfl := hw1
  clear HWG
  by_cases he : er = 0
  · subst he
    have her0 : idxErr rt = 0 := HER.out
    have hwe := weighs_of her0
    obtain ⟨hfe, _⟩ := idx_parts her0
    obtain ⟨_, hr6, _⟩ := few_ok hfe
    obtain ⟨SL, hSL⟩ : ∃ z, z = PG.parts (m : Int) rt := ⟨_, rfl⟩
    have hsn : SL.length = rt.length := by rw [hSL, PG.parts_len]
    have HSB : Hid (∀ a ∈ SL, 0 ≤ a ∧ a ≤ 10000001) := Lib.hid (by rw [hSL]; exact parts_bd hwe (by omega) (by omega))
    have hs6 : SL.length ≤ 6 := by omega
    have hs1 : 1 ≤ SL.length := by omega
    have HW : Hid (wordOf caps4 L [115, 112, 108, 105, 116] (m :: r) = (.ok (toldW (numsW SL)), L)) := Lib.hid (by rw [HW0.out, HSP.out, if_pos her0, ← hSL])
    have HSPL : Hid (∀ W', Below W.heap.size W W' → Calls Tryz.prog 61 #[.int .i64 (m : Int), .slice (some ⟨bi, oi + 1, none⟩) rt.length (c2 - 1)] W' fun e w' => ∃ A5 c5, e = .returned (.slice A5 SL.length c5) ∧ Ints w' w'.heap.size A5 c5 SL ∧ Below W'.heap.size W' w') := Lib.hid fun W' hb' => by
      refine (refSplit_any (m : Int) (some ⟨bi, oi + 1, none⟩) (c2 - 1) rt W' (HI.out W' _ hb' HCAP.out HCM.out) hwe (by omega) (by omega)).mono ?_
      rintro e w2 ⟨v, rfl, ho, hb2⟩
      obtain ⟨A5, c5, rfl, _, hi5⟩ := owns_ints ho
      exact ⟨A5, c5, by rw [hSL], by rw [hSL]; exact hi5, hb2⟩
    clear her0 hwe hfe hr6 hSL hsn HW0 HSP HER HI
    go_upto_region 78 with (fail)
    go_region_held3 (fun w' => w'.cell? ⟨bi, oi, none⟩ = some (.int .i64 m)) (go_keep)
      (first | (go_simp; go_at_call 61; refine (HSPL.out _ (Below.refl _ _).drew).mono ?_; rintro e w2 ⟨A5, c5, rfl, hi5, hb2⟩; have hb3' : Below W.heap.size W w2 := (Below.refl _ _).drew.trans hb2; have HA2 := Lib.hid (HA.out.below hb3'); have HI5 := Lib.hid hi5; have i02 : w2.cell? ⟨bi, oi, none⟩ = some (.int .i64 m) := (hb3'.cell (p := ⟨bi, oi, none⟩) hbi).trans i0; clear hb2 hb3' hi5; dsimp only))
    all_goals
      clear n0 n1 nf0 nf1 nz r0 r1 rf0 rf1 rz i0 HSPL
      go_wp2
      go_loopw [26, 27] (fun v26 v27 wr => ∃ (k : Nat) (t : ByteArray), k ≤ SL.length ∧ v27 = .int .i64 k ∧ v26 = .string t ∧ Hid (t.data.toList = RN.joinAt 32 (numsW (SL.take k))) ∧ wr = w2) (fun _ v27 _ => SL.length - (intOf v27).toNat)
      case atStart => exact ⟨0, ⟨#[]⟩, Nat.zero_le _, rfl, rfl, Lib.hid rfl, rfl⟩
      case round =>
        obtain ⟨k, t, hk, rfl, rfl, HT, hww⟩ := hrel
        obtain rfl := hww.symm
        have hts : t.size ≤ 126 := by rw [← bytes_len, HT.out]; have := numsW_len SL HSB.out k; omega
        by_cases hlt : k < SL.length
        · obtain ⟨b5, o5, z, rfl, hb5, hz, hzm, hzt, _⟩ := HI5.out.elem hlt
          have hzb := HSB.out z hzm
          have htk : numsW (SL.take (k + 1)) = numsW (SL.take k) ++ [Lib.itoa z] := by rw [hzt.out, numsW, List.map_append]; rfl
          obtain ⟨n, rfl⟩ : ∃ n : Nat, z = n := ⟨z.toNat, by omega⟩
          rw [itoa_nat] at htk
          have hln := itoa_len (n := (n : Int)) (by omega) (by omega)
          rw [itoa_nat] at hln
          have HTK := Lib.hid htk; have HLN := Lib.hid hln
          have hn63 : n ≤ 9223372036854775807 := by omega
          have d0 : decide (k < SL.length) = true := decide_eq_true hlt
          have i0 : (0 : Int) ≤ (k : Int) := by omega
          have i1 : (k : Int) < (SL.length : Int) := by omega
          clear hzt hzm htk hln hzb
          by_cases hk0 : k = 0
          · have d1 : decide (0 < k) = false := decide_eq_false (by omega)
            have d2 : decide ((0 : Int) < (k : Int)) = false := decide_eq_false (by omega)
            have HK0 : Hid (RN.joinAt 32 (numsW (SL.take k)) = [] ∧ numsW (SL.take k) = []) := Lib.hid (by rw [hk0]; exact ⟨rfl, rfl⟩)
            clear hk0
            go_wp2_with fail
            refine (digits_any n w2 hn63).mono ?_; rintro e w3 ⟨s1, rfl, hs1', hw3⟩
            obtain rfl := hw3
            have hsz : s1.size ≤ 20 := by rw [← bytes_len, hs1']; exact HLN.out
            have fa : ¬ 9223372036854775807 < t.size + s1.size := by omega
            have HN : Hid ((t ++ s1).data.toList = RN.joinAt 32 (numsW (SL.take (k + 1)))) := Lib.hid (by rw [bytes_app, HT.out, hs1', HTK.out, joinW_snoc, if_pos HK0.out.2, HK0.out.1]; rfl)
            clear hs1'
            go_wp2
            go_roundw
            case rel => exact ⟨k + 1, t ++ s1, by omega, by go_num, rfl, HN, trivial⟩
            case measure => (simp [intOf] <;> omega)
          · have d1 : decide (0 < k) = true := decide_eq_true (by omega)
            have d2 : (0 : Int) < (k : Int) := by omega
            have HK0 : Hid (¬ numsW (SL.take k) = []) := Lib.hid (fun e => by have := congrArg List.length e; rw [List.length_map, List.length_take, List.length_nil] at this; omega)
            have fa1 : ¬ 9223372036854775807 < t.size + 1 := by omega
            clear hk0
            go_wp2_with fail
            refine (digits_any n w2 hn63).mono ?_; rintro e w3 ⟨s1, rfl, hs1', hw3⟩
            obtain rfl := hw3
            have hsz : s1.size ≤ 20 := by rw [← bytes_len, hs1']; exact HLN.out
            have fa : ¬ 9223372036854775807 < t.size + 1 + s1.size := by omega
            have HN : Hid ((t ++ ⟨#[32]⟩ ++ s1).data.toList = RN.joinAt 32 (numsW (SL.take (k + 1)))) := Lib.hid (by rw [bytes_app, bytes_app, HT.out, hs1', HTK.out, joinW_snoc, if_neg HK0.out]; simp)
            clear hs1'
            go_wp2
            go_roundw
            case rel => exact ⟨k + 1, t ++ ⟨#[32]⟩ ++ s1, by omega, by go_num, rfl, HN, trivial⟩
            case measure => (simp [intOf] <;> omega)
        · have hkk : SL.take k = SL := List.take_of_length_le (by omega)
          have d0 : decide (k < SL.length) = false := decide_eq_false hlt
          have d00 : decide ((k : Int) < (SL.length : Int)) = false := decide_eq_false (by omega)
          rw [hkk] at HT
          obtain ⟨n0, n1, nf0, nf1, nz⟩ := HA2.out.n.N.two
          obtain ⟨r0, r1, rf0, rf1, rz⟩ := HA2.out.n.R.two
          have HX : Hid (toldW (numsW SL) = RN.joinAt 32 (numsW SL)) := Lib.hid (by unfold toldW; rw [if_neg (fun e => by have := congrArg List.length e; rw [List.length_map, List.length_nil] at this; omega)])
          clear hkk
          go_upto_region 87 with (fail)
          go_region
          all_goals
            go_wp2
            obtain ⟨q1, q2, q3⟩ := HA2.out.n.ends HA2.out.n.flows
            exact HRET.out _ _ t P cp ⟨rfl, rfl, rfl, rfl, trivial⟩ (by rw [HW.out, HT.out]; exact HX.out.symm) (by rw [HW.out]; exact q1) (by rw [HW.out]; exact q2.below (Below.refl _ _).drew) q3.drew
  · have hw : wordOf caps4 L [115, 112, 108, 105, 116] (m :: r) = (.err er, L) := by rw [HW0.out, HSP.out, if_neg (by rw [HER.out]; omega), HER.out]
    have HW := Lib.hid hw
    have d7 : ((er : Int) == 0) = false := beq_eq_false_iff_ne.2 (by omega)
    clear hw HW0 HSP HER HI
    go_upto_region 77 with (fail)
    go_region_held3 (fun w' => w'.cell? ⟨nb, 0, none⟩ = some (.slice C 4 cc) ∧ w'.cell? ⟨nb, 1, none⟩ = some (.slice P L.length cp)) (go_keep)
      (first | (go_simp; go_at_call 58; refine (nameS_any er _ her8).mono ?_; rintro e w1 ⟨sn, rfl, hsn, hb1⟩; have HA1 := Lib.hid (HA.out.below ((Below.refl _ _).drew.trans hb1)); have HSN := Lib.hid hsn; clear hb1 hsn; obtain ⟨m0, m1, mf0, mf1, mz⟩ := HA1.out.n.N.two; obtain ⟨t0, t1, tf0, tf1, tz⟩ := HA1.out.n.R.two; dsimp only))
    all_goals
      go_wp2
      obtain ⟨q1, q2, q3⟩ := HA1.out.n.ends HA1.out.n.flows
      exact HRET.out _ _ sn P cp ⟨rfl, rfl, rfl, rfl, trivial⟩ (by rw [HW.out]; exact HSN.out) (by rw [HW.out]; exact q1) (by rw [HW.out]; exact q2) q3
end Go.Proofs.YtaijpiebjhhkjaaGreatDoor
/- fairref2.Line, whole. -/
namespace Go.Proofs.YtaijpiebjhhkjaaGreatDoor
open Go.RowKit
theorem lines_parts (L : List (List Int)) (line : List UInt8) (x0 : List UInt8) (T : List (List UInt8)) (hc : RN.cutAt 32 line = x0 :: T) :
    (RN.nums T = none → lineOf caps4 L line = (.bad, L)) ∧ (∀ l many more, RN.nums T = some l → ManyIs x0 many more → (many < 0 ∨ (decide (many < 0) = false ∧ (l.length : Int) < many) ∨ (decide (many < 0) = false ∧ decide ((l.length : Int) < many) = false ∧ many < (l.length : Int) ∧ more = false)) → lineOf caps4 L line = (.bad, L)) ∧
    (∀ l n more, RN.nums T = some l → wantOf x0 = some (n, more) → ¬ (l.length < n ∨ (n < l.length ∧ more = false)) → lineOf caps4 L line = wordOf caps4 L x0 l) := by
  refine ⟨fun h => ?_, fun l many more h hm hb => ?_, fun l n more h hw hb => lineOf_go hc hw h hb⟩
  · rw [lineOf_is hc, h]; split <;> simp_all
  · rw [lineOf_is hc, h]
    rcases hm with ⟨n, hw, rfl⟩ | ⟨hw, rfl, rfl⟩
    · rw [hw]
      refine if_pos ?_
      rcases hb with hb | ⟨_, hb⟩ | ⟨_, _, hb, rfl⟩
      · omega
      · exact .inl (by omega)
      · exact .inr ⟨by omega, rfl⟩
    · rw [hw]
theorem rates_all {L : List (List Int)} (hL : L = [] ∨ netErr caps4 L = 0) {R : List Rat} (hR : R = ratesOf caps4 L) : (∀ q ∈ R, QIn q ∧ 0 < q) ∧ R.length = L.length := by
  subst hR
  by_cases h0 : L = []
  · subst h0
    have : ratesOf caps4 [] = [] := if_pos rfl
    rw [this]
    exact ⟨by simp, rfl⟩
  · have ok := netOk_of (hL.resolve_left h0)
    obtain ⟨K, hK⟩ := fillR_is ok
    rw [ratesOf_some h0]
    exact ⟨fun q hq => ⟨(hK.rates ok q hq).1, (hK.rates ok q hq).2.1⟩, hK.len ok⟩
set_option maxHeartbeats 4000000 in
set_option maxRecDepth 100000 in
theorem lineS_any (w : World) (b1 : Nat) (C : Option Addr) (cc : Nat) (P : Option Addr) (cp : Nat) (L : List (List Int)) (hF : FlowsAt w b1 C cc P cp L) (hL : L = [] ∨ netErr caps4 L = 0) (h6 : L.length ≤ 6) (s : ByteArray) (hs : s.size ≤ 10000) :
    Calls Tryz.prog 28 #[.agg #[.slice C 4 cc, .slice P L.length cp], .string s] w fun e w' => ∃ (sv : ByteArray) (P' : Option Addr) (cp' : Nat), e = .returned (.tuple #[.string sv, .agg #[.slice C 4 cc, .slice P' (lineOf caps4 L s.data.toList).2.length cp']]) ∧ sv.data.toList = ansOf (lineOf caps4 L s.data.toList).1 ∧ FlowsAt w' b1 C cc P' cp' (lineOf caps4 L s.data.toList).2 ∧ Below w.heap.size w w' := by
  go_enter Tryz.func28, Tryz.ntmps28
  have fin : ∀ rb, SLret w b1 C cc rb (lineOf caps4 L s.data.toList) (bodyPost Tryz.prog Tryz.f28 (fun e w' => ∃ (sv : ByteArray) (P' : Option Addr) (cp' : Nat), e = .returned (.tuple #[.string sv, .agg #[.slice C 4 cc, .slice P' (lineOf caps4 L s.data.toList).2.length cp']]) ∧ sv.data.toList = ansOf (lineOf caps4 L s.data.toList).1 ∧ FlowsAt w' b1 C cc P' cp' (lineOf caps4 L s.data.toList).2 ∧ Below w.heap.size w w')) := by
    intro rb a' W' sv P' cp' hst hsv hblk hF' hB
    obtain ⟨x, rfl, hx⟩ := sl_open hst
    obtain ⟨e4, e5, _⟩ := hx
    rw [e4, e5]
    obtain ⟨c0, c1, _, _, _⟩ := hblk.two
    exact bodyPost_ret (v := .tuple #[.string sv, .agg #[.slice C 4 cc, .slice P' (lineOf caps4 L s.data.toList).2.length cp']]) (by simp [results, Tryz.results28, go_sem, c0, c1]) rfl ⟨sv, P', cp', rfl, hsv, hF', hB⟩
  refine wp_cutc 2 slCode rfl (sl_p1 w b1 C cc P cp L hF s (by omega) _ _ fun a1 W1 nb rb S A c' hcut HT1 HS1 hst1 => ?_)
  have hwsz : ∀ y ∈ S, y.size ≤ 1000000 := fun y hy => by
    have := cut_size 32 s.data.toList y.data.toList (by rw [← hcut]; exact List.mem_map_of_mem hy)
    rw [bytes_len, bytes_len] at this
    omega
  have hSl : S.length ≤ 10001 := by
    have := cut_len 32 s.data.toList
    rw [← hcut, bytes_len, List.length_map] at this
    omega
  obtain ⟨x0, T, rfl⟩ : ∃ x T, S = x :: T := by
    cases S with
    | nil => exact absurd hcut.symm (RN.cutAt_ne _ _)
    | cons x T => exact ⟨x, T, rfl⟩
  have hcut2 : RN.cutAt 32 s.data.toList = x0.data.toList :: wordsOf T := hcut.symm
  obtain ⟨k1, k2, k3⟩ := lines_parts L s.data.toList x0.data.toList (wordsOf T) hcut2
  rw [List.length_cons] at hst1 hSl
  refine wp_cutc 0 (Code.dr 2 slCode) rfl (sl_p2 w b1 C cc P cp L nb rb x0 T A c' (fun y hy => hwsz y (List.mem_cons_of_mem _ hy)) (by omega) W1 HS1 HT1 a1 hst1 _ _ (fun h => by have := fin rb; rw [k1 h] at this; rw [k1 h]; exact this) fun a2 W2 l A2 c2 hl HI2 HT2 HS2 hst2 => ?_)
  have hsm := RN.nums_small hl
  have hll := RN.nums_len hl
  rw [List.length_map] at hll
  have HA2 := Lib.hid (SLa.mk HS2.out HT2.out HI2.out)
  refine wp_cutc 2 (Code.dr 3 slCode) rfl (sl_p3 w b1 C cc P cp L nb rb x0 T A c' l A2 c2 W2 HA2 a2 hst2 _ _ fun a3 many more hM hst3 => ?_)
  by_cases hb : many < 0 ∨ (decide (many < 0) = false ∧ (l.length : Int) < many) ∨ (decide (many < 0) = false ∧ decide ((l.length : Int) < many) = false ∧ many < (l.length : Int) ∧ more = false)
  · refine wp_cutc 0 (Code.dr 6 slCode) rfl (sl_p4bad w b1 C cc P cp L nb rb x0 T A c' l A2 c2 many more W2 HA2 hb a3 hst3 _ _ ?_)
    have := fin rb
    rw [k2 l many more hl hM hb] at this
    rw [k2 l many more hl hM hb]
    exact this
  · obtain ⟨n, hw, rfl⟩ : ∃ n : Nat, wantOf x0.data.toList = some (n, more) ∧ many = n := by
      rcases hM with h | ⟨_, rfl, _⟩
      · exact h
      · exact absurd (.inl (by decide)) hb
    have d1 : decide ((n : Int) < 0) = false := decide_eq_false (by omega)
    have e2 : ¬ (l.length : Int) < (n : Int) := fun h => hb (.inr (.inl ⟨d1, h⟩))
    have d2 : decide ((l.length : Int) < (n : Int)) = false := decide_eq_false e2
    have d3 : decide ((n : Int) < (l.length : Int)) = false ∨ ((n : Int) < (l.length : Int) ∧ more = true) := by
      by_cases h : (n : Int) < (l.length : Int)
      · refine .inr ⟨h, ?_⟩
        cases more with
        | true => rfl
        | false => exact absurd (.inr (.inr ⟨d1, d2, h, rfl⟩)) hb
      · exact .inl (decide_eq_false h)
    have hnb : ¬ (l.length < n ∨ (n < l.length ∧ more = false)) := by
      rintro (h | ⟨h, rfl⟩)
      · omega
      · exact hb (.inr (.inr ⟨d1, d2, by omega, rfl⟩))
    have hlw := k3 l n more hl hw hnb
    refine wp_cutc 0 (Code.dr 6 slCode) rfl (sl_p4go nb rb T A c' l A2 c2 n more W2 d1 d2 d3 a3 hst3 _ _ fun a4 hst4 => ?_)
    refine wp_cutc 1 (Code.dr 7 slCode) rfl (sl_p5 w b1 C cc P cp L nb rb x0 T A c' l A2 c2 hL W2 HA2 a4 hst4 _ _ fun a5 W5 R A3 c3 hR HF5 HA5 hst5 => ?_)
    obtain ⟨hq, hRL⟩ := rates_all hL hR
    have fin2 := fin rb
    rw [hlw] at fin2 ⊢
    have hst5' : FrS a5 256 [(2, .pointer (some ⟨nb, 0, none⟩)), (5, .pointer (some ⟨rb, 0, none⟩)), (6, .slice A (T.length + 1) c'), (7, .slice A2 l.length c2)] := hst5.mono fun h => ⟨h.1, h.2.1, h.2.2.1, h.2.2.2.1, trivial⟩
    rcases want_word hw with ⟨hx, rfl⟩ | ⟨hx, rfl, rfl⟩ | hx | hx | hx | ⟨hx, rfl⟩
    · exact sl_add w b1 C cc P cp L nb rb x0 T A c' l A2 c2 W5 HA5 hx h6 a5 hst5' _ fin2
    · obtain ⟨f, rfl⟩ : ∃ f, l = [f] := by
        have : l.length = 1 := by
          have h1 : ¬ l.length < 1 := fun h => hnb (.inl h)
          have h2 : ¬ 1 < l.length := fun h => hnb (.inr ⟨h, rfl⟩)
          omega
        exact List.length_eq_one_iff.1 this
      exact sl_drop w b1 C cc P cp L nb rb x0 T A c' [f] A2 c2 f rfl W5 HA5 hx h6 a5 hst5' _ fin2
    · exact sl_rates w b1 C cc P cp L nb rb x0 T A c' l A2 c2 R A3 c3 hR hq (by omega) W5 HA5 hx HF5 a5 hst5 _ fin2
    · exact sl_least w b1 C cc P cp L nb rb x0 T A c' l A2 c2 R A3 c3 hR hq (by omega) W5 HA5 hx hRL HF5 a5 hst5 _ fin2
    · exact sl_index w b1 C cc P cp L nb rb x0 T A c' l A2 c2 W5 HA5 hx a5 hst5' _ fin2
    · obtain ⟨m, r, rfl⟩ : ∃ m r, l = m :: r := by
        cases l with
        | nil => exact absurd (.inl (by decide)) hnb
        | cons m r => exact ⟨m, r, rfl⟩
      refine sl_split w b1 C cc P cp L nb rb x0 T A c' (m :: r) A2 c2 m r rfl (fun e => hnb (.inl (by rw [e]; simp))) (hsm m List.mem_cons_self) ?_ W5 HA5 hx a5 hst5' _ fin2
      rw [List.length_cons] at hll
      omega
end Go.Proofs.YtaijpiebjhhkjaaGreatDoor
/- Plain: what stays right while a session is answered; its lines, cut. -/
namespace Go.Proofs.YtaijpiebjhhkjaaGreatDoor
open Go.RowKit
/-- flows that are right -/
def Lok (L : List (List Int)) : Prop := L.length ≤ 6 ∧ ∀ p ∈ L, pathErr 4 p = 0
theorem firstFrom_nil {f : Nat → Int} : ∀ n i, (∀ j, i ≤ j → j < i + n → f j = 0) → firstFrom f n i = 0
  | 0, _, _ => rfl
  | n + 1, i, h => by
    unfold firstFrom
    rw [if_pos (h i (Nat.le_refl _) (by omega))]
    exact firstFrom_nil n (i + 1) fun j h1 h2 => h j (by omega) (by omega)
theorem Lok.net {L : List (List Int)} (h : Lok L) : L = [] ∨ netErr caps4 L = 0 := by
  by_cases h0 : L = []
  · exact .inl h0
  · right
    have hl : L.length ≠ 0 := fun e => h0 (List.length_eq_zero_iff.1 e)
    have h6 := h.1
    have h4 : caps4.length = 4 := rfl
    have hlk : linksErr caps4 = 0 := by decide
    unfold netErr
    rw [if_neg (by omega), if_neg (by omega), if_pos hlk]
    refine firstFrom_nil _ _ fun j _ hj => ?_
    refine h.2 _ ?_
    have hj2 : j < L.length := by omega
    simp [hj2]
theorem Lok.line {L : List (List Int)} (h : Lok L) (s : List UInt8) : Lok (lineOf caps4 L s).2 := by
  unfold lineOf
  split
  · exact h
  · split
    · split
      · exact h
      · unfold wordOf
        split
        · split
          · rename_i he
            unfold addE at he
            rw [if_neg (by decide)] at he
            have h6 : L.length ≠ 6 := fun e => by rw [if_pos e] at he; exact absurd he (by decide)
            rw [if_neg h6] at he
            have := h.1
            refine ⟨by simp; omega, fun p hp => ?_⟩
            rcases List.mem_append.1 hp with hp | hp
            · exact h.2 p hp
            · rw [List.mem_singleton.1 hp]; exact he
          · exact h
        split
        · split
          · exact h
          · refine ⟨Nat.le_trans (List.length_eraseIdx_le _ _) h.1, fun p hp => h.2 p (List.mem_of_mem_eraseIdx hp)⟩
        split
        · exact h
        split
        · split <;> exact h
        split <;> exact h
    · exact h
theorem Lok.sess : ∀ (ls : List (List UInt8)) {L : List (List Int)}, Lok L → Lok (sessL caps4 L ls)
  | [], _, h => h
  | _ :: r, _, h => Lok.sess r (h.line _)
theorem lok_nil : Lok [] := ⟨by decide, by simp⟩
theorem sess_len (ls : List (List UInt8)) : ∀ k, k ≤ ls.length → (sessOut caps4 [] (ls.take k)).length ≤ 301 * k
  | 0, _ => by simp [sessOut]
  | k + 1, hk => by
    have ih := sess_len ls k (by omega)
    have hx : ls[k]? = some ls[k] := List.getElem?_eq_getElem (by omega)
    rw [List.take_add_one, hx, Option.toList_some, sessOut_snoc, List.length_append, List.length_append]
    have hL := (lok_nil.sess (ls.take k))
    obtain ⟨h1, h2⟩ := rates_all hL.net rfl
    have := ans_short caps4 (sessL caps4 [] (ls.take k)) (fun q hq => (h1 q hq).1) (by rw [h2]; exact hL.1) (trimNl ls[k])
    simp only [List.length_cons, List.length_nil]
    omega
/-- a text's pieces, without the last if it is none -/
theorem cut_ends (t : List UInt8) {S : List ByteArray} (h : wordsOf S = RN.cutAt 10 t) : ∃ (S' : List ByteArray) (e : ByteArray), S = S' ++ [e] ∧ ((e.data.toList = [] ∧ wordsOf S' = (lns t).map trimNl) ∨ (e.data.toList ≠ [] ∧ wordsOf S = (lns t).map trimNl)) := by
  have hne : S ≠ [] := fun e => by subst e; exact RN.cutAt_ne 10 t h.symm
  refine ⟨S.dropLast, S.getLast hne, (List.dropLast_concat_getLast hne).symm, ?_⟩
  obtain ⟨S', e, rfl⟩ : ∃ S' e, S = S' ++ [e] := ⟨_, _, (List.dropLast_concat_getLast hne).symm⟩
  rw [List.getLast_append_of_ne_nil _ (by simp)]
  rw [List.dropLast_concat]
  show (e.data.toList = [] ∧ _) ∨ (e.data.toList ≠ [] ∧ _)
  rw [cut_lns] at h
  by_cases hc : t = [] ∨ t.getLast? = some 10
  · rw [if_pos hc, wordsOf_snoc] at h
    obtain ⟨q1, q2⟩ := List.append_inj' h rfl
    injection q2 with q2
    exact .inl ⟨q2, q1⟩
  · rw [if_neg hc, List.append_nil] at h
    refine .inr ⟨?_, h⟩
    intro he
    have ht : t ≠ [] := fun e => hc (.inl e)
    have hl := lns_ne ht
    have hlast : (lns t).getLast hl ∈ lns t := List.getLast_mem hl
    have hlen : (lns t).length ≠ 0 := fun e => hl (List.length_eq_zero_iff.1 e)
    have hk : (lns t)[(lns t).length - 1]? = some ((lns t).getLast hl) := by
      rw [List.getElem?_eq_getElem (by omega), List.getLast_eq_getElem]
    have hflat := lns_flat t
    have hx : e.data.toList = trimNl ((lns t).getLast hl) := by
      rw [wordsOf_snoc] at h
      have := congrArg List.getLast? h
      rw [List.getLast?_concat, List.getLast?_map, List.getLast?_eq_some_getLast hl] at this
      simpa using this
    rcases lns_whole t _ _ hk with ⟨a, h1, _⟩ | ⟨_, h2, h3⟩
    · apply hc
      right
      rw [← hflat, ← List.dropLast_concat_getLast hl, List.flatten_append, h1]
      simp
    · rw [hx] at he
      unfold trimNl at he
      rw [if_neg] at he
      · exact h2 he
      · intro hg
        exact h3 (List.mem_of_getLast? hg)
end Go.Proofs.YtaijpiebjhhkjaaGreatDoor
