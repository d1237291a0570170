/- Slices of bools; fairsame.Bools. -/
import Derived.Test.YtblanfaghnflkaaDoorLibA
namespace Go.Proofs.YtblanfaghnflkaaDoor
open Go.RowKit
/-- a slice of bools that reads as the list l -/
structure Bls (w : World) (B : Nat) (A : Option Addr) (c : Nat) (l : List Bool) : Prop where
  rd : Reads w B 1 A l.length (l.map Value.bool)
  le : l.length ≤ c
  cap : c ≤ maxLen
theorem Bls.more {w : World} {B C : Nat} {A : Option Addr} {c : Nat} {l : List Bool} (h : Bls w B A c l) (hC : B ≤ C) : Bls w C A c l := ⟨h.rd.more hC, h.le, h.cap⟩
theorem Bls.below {w w' : World} {B C : Nat} {A : Option Addr} {c : Nat} {l : List Bool} (h : Bls w B A c l) (hb : Below C w w') (hC : B ≤ C) : Bls w' B A c l := ⟨h.rd.below' hb hC, h.le, h.cap⟩
theorem Bls.at' {w w' : World} {A : Option Addr} {c : Nat} {l : List Bool} (h : Bls w w.heap.size A c l) (hb : Below w.heap.size w w') : Bls w' w'.heap.size A c l := (h.below hb (Nat.le_refl _)).more hb.size
theorem bls_none (w : World) (B : Nat) : Bls w B none 0 [] := ⟨Reads.none_, Nat.le_refl _, by simp [maxLen]⟩
theorem Bls.elem {w : World} {B : Nat} {A : Option Addr} {c : Nat} {l : List Bool} (h : Bls w B A c l) {k : Nat} (hk : k < l.length) :
    ∃ b off x, A = some ⟨b, off, none⟩ ∧ b < B ∧ w.cell? ⟨b, off + k, none⟩ = some (.bool x) ∧ Hid (l[k]? = some x) := by
  obtain ⟨b, off, e, hb, hc⟩ := h.rd.2 (by omega)
  exact ⟨b, off, l[k], e, hb, hc k _ (by simp [hk]), List.getElem?_eq_getElem hk⟩
theorem owns_bls {w : World} {base n : Nat} {v : Value} {l : List Bool} (h : w.ownsRow base 4 1 v n (l.map Value.bool)) : ∃ A c, v = .slice A l.length c ∧ n = l.length ∧ Bls w w.heap.size A c l := by
  obtain ⟨A, c, rfl, h1, h2, h3⟩ := owns_reads h
  have hn : n = l.length := by have := h3.1; simp at this; omega
  subst hn
  exact ⟨A, c, rfl, rfl, ⟨h3, h1, h2⟩⟩
theorem take_bool {S T : List Bool} {k : Nat} (h1 : S.take k = T.take k) {a b : Bool} (ha : S[k]? = some a) (hb : T[k]? = some b) (hab : a = b) : S.take (k + 1) = T.take (k + 1) := by
  rw [List.take_add_one, List.take_add_one, h1, ha, hb, hab]
set_option maxHeartbeats 1000000 in
set_option maxRecDepth 100000 in
theorem sameBl_any (A A' : Option Addr) (c c' n n' : Nat) (S T : List Bool) (B B' : Nat) (w : World) (h : Bls w B A c S) (h' : Bls w B' A' c' T) (hn : n = S.length) (hn' : n' = T.length) (hB : B ≤ w.heap.size) (hB' : B' ≤ w.heap.size) (bb : Bool) (hb : decide (S = T) = bb) :
    Calls Tryd.prog 60 #[.slice A n c, .slice A' n' c'] w fun e w' => e = .returned (.bool bb) ∧ Below w.heap.size w w' := by
  subst hn hn'
  have HS := Lib.hid h; have HT := Lib.hid h'; have HBB := Lib.hid hb
  have hm := h.cap; have hl := h.le; have hm' := h'.cap; have hl' := h'.le
  unfold maxLen at hm hm'
  clear h h' hb
  by_cases hlen : S.length = T.length
  · have hd : ((S.length : Int) != (T.length : Int)) = false := by rw [hlen]; simp
    have HLEN := Lib.hid hlen
    clear hlen
    go_enter Tryd.func60, Tryd.ntmps60
    go_wp2
    go_loopw [5] (fun i wr => ∃ k : Nat, k ≤ S.length ∧ i = .int .i64 k ∧ Hid (S.take k = T.take k) ∧ Hid (Below w.heap.size w wr)) (fun i _ => S.length - (intOf i).toNat)
    case atStart => exact ⟨0, Nat.zero_le _, rfl, Lib.hid (by simp), Lib.hid (Below.refl _ _)⟩
    case round =>
      obtain ⟨k, hk, rfl, HE, HB⟩ := hrel
      have hB1 := HB.out.size
      by_cases hlt : k < S.length
      · have k0 : (0 : Int) ≤ (k : Int) := by omega
        have hkT : k < T.length := by have := HLEN.out; omega
        have k1 : (k : Int) < (T.length : Int) := by omega
        obtain ⟨b, off, s, rfl, hbs, c0, HX⟩ := (HS.out.below HB.out hB).elem hlt
        obtain ⟨b', off', t, rfl, hbt, d0, HY⟩ := (HT.out.below HB.out hB').elem hkT
        have hz : b < wr.heap.size := by omega
        have hz' : b' < wr.heap.size := by omega
        by_cases e1 : s = t
        · have HN := Lib.hid (take_bool HE.out HX.out HY.out e1)
          subst e1
          clear HX HY
          cases s
          all_goals
            go_wp2_with fail
            go_quiet (fail)
            go_wp2
            go_roundw
            case rel => exact ⟨k + 1, by omega, by go_num, HN, Lib.hid (below_drewN HB.out _)⟩
            case measure => simp [intOf]; omega
        · have HF : Hid (bb = false) := Lib.hid (by
            rw [← HBB.out]; refine decide_eq_false fun e => ?_
            have hx := HX.out; have hy := HY.out
            rw [e, hy] at hx
            injection hx with hx
            exact e1 hx.symm)
          have ht : t = !s := by cases s <;> cases t <;> simp_all
          subst ht
          clear HX HY e1
          cases s
          all_goals
            go_wp2_with fail
            go_quiet (fail)
            go_wp2
            go_ret
            exact ⟨by rw [HF.out]; rfl, below_drewN HB.out _⟩
      · obtain rfl : k = S.length := by omega
        have HF : Hid (bb = true) := Lib.hid (by
          rw [← HBB.out]; refine decide_eq_true ?_
          have := HE.out
          rwa [List.take_length, List.take_of_length_le (by rw [HLEN.out]; exact Nat.le_refl _)] at this)
        go_wp2
        go_ret
        exact ⟨by rw [HF.out]; rfl, HB.out⟩
  · have hd : ((S.length : Int) != (T.length : Int)) = true := by rw [bne_iff_ne]; omega
    have HF : Hid (bb = false) := Lib.hid (by rw [← HBB.out]; exact decide_eq_false fun e => hlen (by rw [e]))
    clear hlen
    go_enter Tryd.func60, Tryd.ntmps60
    go_wp2
    go_ret
    exact ⟨by rw [HF.out]; rfl, Below.refl _ _⟩
end Go.Proofs.YtblanfaghnflkaaDoor
