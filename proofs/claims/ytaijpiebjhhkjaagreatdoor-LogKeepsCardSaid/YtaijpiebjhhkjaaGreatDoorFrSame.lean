/- fairsame.Fracs: are two slices of fractions the same? -/
import Derived.Test.YtaijpiebjhhkjaaGreatDoorLibF
import Derived.Test.YtaijpiebjhhkjaaGreatDoorLibA
namespace Go.Proofs.YtaijpiebjhhkjaaGreatDoor
open Go.RowKit
instance (a b : Fr) : Decidable (a = b) := decidable_of_decidable_of_iff (p := a.t = b.t ∧ a.b = b.b) ⟨fun h => by cases a; cases b; simp_all, fun h => by subst h; exact ⟨rfl, rfl⟩⟩
theorem take_same {S T : List Fr} {k : Nat} (h1 : S.take k = T.take k) {a b : Fr} (ha : S[k]? = some a) (hb : T[k]? = some b) (hab : a = b) : S.take (k + 1) = T.take (k + 1) := by
  rw [List.take_add_one, List.take_add_one, h1, ha, hb, hab]
set_option maxHeartbeats 1000000 in
set_option maxRecDepth 100000 in
theorem sameFr_any (A A' : Option Addr) (c c' n n' : Nat) (S T : List Fr) (B B' : Nat) (w : World) (h : Frs w B A c S) (h' : Frs w B' A' c' T) (hn : n = S.length) (hn' : n' = T.length) (hB : B ≤ w.heap.size) (hB' : B' ≤ w.heap.size) (bb : Bool) (hb : decide (S = T) = bb) :
    Calls Tryz.prog 25 #[.slice A n c, .slice A' n' c'] w fun e w' => e = .returned (.bool bb) ∧ Below w.heap.size w w' := by
  subst hn hn'
  have HS := Lib.hid h; have HT := Lib.hid h'; have HBB := Lib.hid hb
  have hm := h.cap; have hl := h.le; have hm' := h'.cap; have hl' := h'.le
  unfold maxLen at hm hm'
  clear h h' hb
  by_cases hlen : S.length = T.length
  · have hd : ((S.length : Int) != (T.length : Int)) = false := by rw [hlen]; simp
    have HLEN := Lib.hid hlen
    clear hlen
    go_enter Tryz.func25, Tryz.ntmps25
    go_wp2
    go_loopw [5] (fun i wr => ∃ k : Nat, k ≤ S.length ∧ i = .int .i64 k ∧ Hid (S.take k = T.take k) ∧ Hid (Below w.heap.size w wr)) (fun i _ => S.length - (intOf i).toNat)
    case atStart => exact ⟨0, Nat.zero_le _, rfl, Lib.hid (by simp), Lib.hid (Below.refl _ _)⟩
    case round =>
      obtain ⟨k, hk, rfl, HE, HB⟩ := hrel
      have hB1 := HB.out.size
      by_cases hlt : k < S.length
      · have k0 : (0 : Int) ≤ (k : Int) := by omega
        have hkT : k < T.length := by have := HLEN.out; omega
        have k1 : (k : Int) < (T.length : Int) := by omega
        obtain ⟨b, off, s, rfl, hbs, c0, c1, HX⟩ := (HS.out.below HB.out hB).elem hlt
        obtain ⟨b', off', t, rfl, hbt, d0, d1, HY⟩ := (HT.out.below HB.out hB').elem hkT
        have hz : b < wr.heap.size := by omega
        have hz' : b' < wr.heap.size := by omega
        obtain ⟨s1, s2⟩ := s
        obtain ⟨t1, t2⟩ := t
        simp only at c0 c1 d0 d1
        by_cases e1 : s1 = t1
        · by_cases e2 : s2 = t2
          · have HN := Lib.hid (take_same HE.out HX.out HY.out (by rw [e1, e2]))
            subst e1 e2
            clear HX HY
            go_wp2_with fail
            go_quiet (fail)
            go_wp2
            go_roundw
            case rel => exact ⟨k + 1, by omega, by go_num, HN, Lib.hid (below_drewN HB.out _)⟩
            case measure => simp [intOf]; omega
          · have HF : Hid (bb = false) := Lib.hid (by
              rw [← HBB.out]; refine decide_eq_false fun e => ?_
              have hx := HX.out; have hy := HY.out
              rw [e, hy] at hx
              injection hx with hx
              injection hx with _ hx
              exact e2 hx.symm)
            have f1 : (s2 == t2) = false := beq_eq_false_iff_ne.2 e2
            subst e1
            clear HX HY e2
            go_wp2_with fail
            go_quiet (fail)
            go_wp2
            go_ret
            exact ⟨by rw [HF.out]; rfl, below_drewN HB.out _⟩
        · have HF : Hid (bb = false) := Lib.hid (by
            rw [← HBB.out]; refine decide_eq_false fun e => ?_
            have hx := HX.out; have hy := HY.out
            rw [e, hy] at hx
            injection hx with hx
            injection hx with hx _
            exact e1 hx.symm)
          have f1 : (s1 == t1) = false := beq_eq_false_iff_ne.2 e1
          clear HX HY e1
          go_wp2_with fail
          go_quiet (fail)
          go_wp2
          go_ret
          exact ⟨by rw [HF.out]; rfl, below_drewN HB.out _⟩
      · obtain rfl : k = S.length := by omega
        have HF : Hid (bb = true) := Lib.hid (by
          rw [← HBB.out]; refine decide_eq_true ?_
          have := HE.out
          rwa [List.take_length, List.take_of_length_le (by rw [HLEN.out]; exact Nat.le_refl _)] at this)
        go_wp2
        go_ret
        exact ⟨by rw [HF.out]; rfl, HB.out⟩
  · have hd : ((S.length : Int) != (T.length : Int)) = true := by rw [bne_iff_ne]; omega
    have HF : Hid (bb = false) := Lib.hid (by rw [← HBB.out]; exact decide_eq_false fun e => hlen (by rw [e]))
    clear hlen
    go_enter Tryz.func25, Tryz.ntmps25
    go_wp2
    go_ret
    exact ⟨by rw [HF.out]; rfl, Below.refl _ _⟩
/-- a slice of fractions that is written out -/
theorem Frs.blk1 {w : World} {g B : Nat} {t b : Int} (h : Blk w g 37 #[.int .i64 t, .int .i64 b]) (hB : g < B) : Frs w B (some ⟨g, 0, none⟩) 1 [⟨t, b⟩] := by
  refine ⟨⟨by simp [frCells, Fr.cells], fun _ => ⟨g, 0, rfl, hB, fun j u hu => ?_⟩⟩, by simp, by simp [maxLen]⟩
  rw [Nat.zero_add, h.cell]
  simpa [frCells, Fr.cells] using hu
theorem Frs.blk2 {w : World} {g B : Nat} {t b t' b' : Int} (h : Blk w g 37 #[.int .i64 t, .int .i64 b, .int .i64 t', .int .i64 b']) (hB : g < B) : Frs w B (some ⟨g, 0, none⟩) 2 [⟨t, b⟩, ⟨t', b'⟩] := by
  refine ⟨⟨by simp [frCells, Fr.cells], fun _ => ⟨g, 0, rfl, hB, fun j u hu => ?_⟩⟩, by simp, by simp [maxLen]⟩
  rw [Nat.zero_add, h.cell]
  simpa [frCells, Fr.cells] using hu
end Go.Proofs.YtaijpiebjhhkjaaGreatDoor
