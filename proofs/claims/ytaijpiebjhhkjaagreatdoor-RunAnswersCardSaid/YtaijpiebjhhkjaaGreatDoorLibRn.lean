/- Several texts in one: RefNet, RefUsers, RefWith. -/
import Derived.Test.YtaijpiebjhhkjaaGreatDoorLibM
import Derived.Test.YtaijpiebjhhkjaaGreatDoorLibL
import Derived.BigRegion
/- The reference's nets: In, Links. -/
namespace Go.Proofs.YtaijpiebjhhkjaaGreatDoor
open Go.RowKit
set_option maxHeartbeats 400000 in
theorem refIn_any (A : Option Addr) (c n : Nat) (l : List Int) (B : Nat) (w : World) (h : Ints w B A c l) (hn : n = l.length) (x : Int) (bb : Bool) (hb : inL l x = bb) :
    Calls Tryz.prog 45 #[.slice A n c, .int .i64 x] w fun e w' => e = .returned (.bool bb) ∧ w = w' := by
  subst hn
  have H := Lib.hid h
  have hm := h.cap
  have hl := h.le
  have HB := Lib.hid hb
  clear h hb
  unfold maxLen at hm
  go_enter Tryz.func45, Tryz.ntmps45
  go_wp2
  go_loop [5] (fun i => ∃ k : Nat, k ≤ l.length ∧ i = .int .i64 k ∧ Hid (inL (l.take k) x = false)) (fun i => l.length - (intOf i).toNat)
  case atStart => exact ⟨0, Nat.zero_le _, rfl, Lib.hid (by simp [inL])⟩
  case round =>
    obtain ⟨k, hk, rfl, HN⟩ := hrel
    by_cases hlt : k < l.length
    · obtain ⟨b, off, a, rfl, _, hc, _, HT, HX⟩ := H.out.elem hlt
      have k0 : (0 : Int) ≤ (k : Int) := by omega
      have HP := inL_take (x := x) HT.out
      rw [HN.out] at HP
      clear HT HX
      by_cases hax : a = x
      · subst hax
        have HQ : Hid (bb = true) := Lib.hid (by rw [← HB.out]; exact inL_of_take (k := k + 1) (by rw [HP]; simp))
        clear HP
        go_wp2
        go_ret
        exact ⟨by rw [HQ.out]; rfl, rfl⟩
      · have hb2 : (a == x) = false := beq_eq_false_iff_ne.2 hax
        rw [hb2] at HP
        have HQ : Hid (inL (l.take (k + 1)) x = false) := Lib.hid HP
        clear HP hax
        go_wp2
        go_round
        case rel => exact ⟨k + 1, by omega, by go_num, HQ⟩
        case measure => simp [intOf]; omega
    · have HQ : Hid (bb = false) := Lib.hid (by rw [← HB.out]; have := HN.out; rwa [List.take_of_length_le (by omega)] at this)
      go_wp2
      go_ret
      exact ⟨by rw [HQ.out]; rfl, rfl⟩
set_option maxHeartbeats 1000000 in
theorem refLinks_any (A : Option Addr) (c : Nat) (l : List Int) (B : Nat) (w : World) (h : Ints w B A c l) :
    Calls Tryz.prog 16 #[.slice A l.length c] w fun e w' => e = .returned (.int .i64 (linksErr l)) ∧ w = w' := by
  unfold linksErr
  have H := Lib.hid h
  have hm := h.cap
  have hle := h.le
  clear h
  unfold maxLen at hm
  by_cases h0 : l.length = 0
  · rw [if_pos h0, h0]
    go_enter Tryz.func16, Tryz.ntmps16
    go_wp2
    go_ret
    exact ⟨rfl, rfl⟩
  · rw [if_neg h0]
    have e1 : ((l.length : Int) == 0) = false := beq_eq_false_iff_ne.2 (by omega)
    by_cases h6 : 6 < l.length
    · rw [if_pos h6]
      have e2 : (6 : Int) < l.length := by omega
      clear h6 H
      generalize l.length = n at *
      go_enter Tryz.func16, Tryz.ntmps16
      go_wp2
      go_ret
      exact ⟨rfl, rfl⟩
    · rw [if_neg h6]
      have e2 : decide ((6 : Int) < (l.length : Int)) = false := decide_eq_false (by omega)
      obtain ⟨ev, hev⟩ : ∃ ev : Int, (if l.any badCap = true then 1 else 0) = ev := ⟨_, rfl⟩
      rw [hev]
      have HE := Lib.hid hev
      clear hev
      go_enter Tryz.func16, Tryz.ntmps16
      go_wp2
      go_loop [3] (fun i => ∃ k : Nat, k ≤ l.length ∧ i = .int .i64 k ∧ Hid ((l.take k).any badCap = false)) (fun i => l.length - (intOf i).toNat)
      case atStart => exact ⟨0, Nat.zero_le _, rfl, Lib.hid (by simp)⟩
      case round =>
        obtain ⟨k, hk, rfl, HN⟩ := hrel
        by_cases hlt : k < l.length
        · obtain ⟨b, off, a, rfl, _, hc, _, HT, HX⟩ := H.out.elem hlt
          have k0 : (0 : Int) ≤ (k : Int) := by omega
          have HP := any_take_succ l badCap k a HT.out
          rw [HN.out, Bool.false_or] at HP
          clear HT HX
          cases hb : badCap a
          · have HQ : Hid ((l.take (k + 1)).any badCap = false) := Lib.hid (HP.trans hb)
            have q : 1 ≤ a ∧ a ≤ 1000 := by simp only [badCap, Bool.or_eq_false_iff, decide_eq_false_iff_not] at hb; omega
            obtain ⟨q1, q2⟩ := q
            have q3 : decide (a < 1) = false := decide_eq_false (by omega)
            have q4 : decide (1000 < a) = false := decide_eq_false (by omega)
            clear HP hb
            go_wp2
            go_round
            case rel => exact ⟨k + 1, by omega, by go_num, HQ⟩
            case measure => simp [intOf]; omega
          · have HQ : Hid (ev = 1) := Lib.hid (by rw [← HE.out, if_pos (any_of_take l badCap (k + 1) (HP.trans hb))])
            have q : a < 1 ∨ (¬ a < 1 ∧ 1000 < a) := by simp only [badCap, Bool.or_eq_true, decide_eq_true_eq] at hb; omega
            clear HP hb
            rcases q with q | ⟨q, q2⟩
            all_goals
              go_wp2
              go_ret
              exact ⟨by rw [HQ.out]; rfl, rfl⟩
        · have HQ : Hid (ev = 0) := Lib.hid (by rw [← HE.out]; have := HN.out; rw [List.take_of_length_le (by omega)] at this; rw [this]; rfl)
          go_wp2
          go_ret
          exact ⟨by rw [HQ.out]; rfl, rfl⟩
set_option maxHeartbeats 2000000 in
theorem refPath_any (n : Int) (A : Option Addr) (c : Nat) (l : List Int) (B : Nat) (w : World) (h : Ints w B A c l) :
    Calls Tryz.prog 21 #[.int .i64 n, .slice A l.length c] w fun e w' => e = .returned (.int .i64 (pathErr n l)) ∧ ∃ d, w' = w.drewN d := by
  unfold pathErr
  have hm := h.cap
  have hle := h.le
  unfold maxLen at hm
  by_cases h0 : l.length = 0
  · rw [if_pos h0, h0]
    clear h
    go_enter Tryz.func21, Tryz.ntmps21
    go_wp2
    go_ret
    exact ⟨rfl, 0, rfl⟩
  · rw [if_neg h0]
    have e1 : ((l.length : Int) == 0) = false := beq_eq_false_iff_ne.2 (by omega)
    obtain ⟨ev, hev⟩ : ∃ ev, firstFrom (pathAt n l) (l.length - 0) 0 = ev := ⟨_, rfl⟩
    rw [hev]
    have HEV := Lib.hid hev
    have H0 := Lib.hid h
    clear hev h
    go_enter Tryz.func21, Tryz.ntmps21
    go_wp2
    go_loopw [5] (fun i wr => ∃ k d : Nat, k ≤ l.length ∧ i = .int .i64 k ∧ Hid (firstFrom (pathAt n l) (l.length - k) k = ev) ∧ Hid (wr = w.drewN d) ∧ Hid (Ints wr B A c l)) (fun i _ => l.length - (intOf i).toNat)
    case atStart => exact ⟨0, 0, Nat.zero_le _, rfl, HEV, Lib.hid rfl, H0⟩
    case round =>
      clear HEV H0
      obtain ⟨k, d, hk, rfl, HEV, HB, H⟩ := hrel
      by_cases hlt : k < l.length
      · obtain ⟨b, off, a, rfl, _, hc, _, HT, HX⟩ := H.out.elem hlt
        have k0 : (0 : Int) ≤ (k : Int) := by omega
        have k1 : (k : Int) ≤ (c : Int) := by omega
        have k2 : (k : Int) < l.length := by omega
        have hs := HEV.out
        rw [firstFrom_step hlt] at hs
        have hp : pathAt n l k = if a < 0 ∨ n ≤ a then 1 else if inL (l.take k) a then 7 else 0 := by unfold pathAt; rw [HX.out]
        clear HT HX
        by_cases ha : a < 0
        · rw [if_pos (.inl ha)] at hp
          rw [hp, if_neg (by decide)] at hs
          clear hp
          subst hs
          go_wp2
          go_ret
          exact ⟨rfl, d, HB.out⟩
        · by_cases hb : n ≤ a
          · rw [if_pos (.inr hb)] at hp
            rw [hp, if_neg (by decide)] at hs
            clear hp
            subst hs
            go_wp2
            go_ret
            exact ⟨rfl, d, HB.out⟩
          · rw [if_neg (by omega)] at hp
            have e5 : decide (n ≤ a) = false := decide_eq_false hb
            have HK := Lib.hid (H.out.take (Nat.le_of_lt hlt) (c' := c) (by omega) (by unfold maxLen; omega))
            cases hi : inL (l.take k) a
            · rw [hi, if_neg (by decide)] at hp
              rw [hp, if_pos rfl] at hs
              have HS := Lib.hid hs
              have HI := Lib.hid hi
              clear hs hi hp
              go_wp2_with fail
              go_quiet ((go_at_call 45; exact quiet_left (refIn_any _ _ _ _ _ _ (HK.out.below (below_drewN (Below.refl B _) _) (Nat.le_refl _)) (by rw [List.length_take]; omega) _ _ HI.out)))
              go_wp2
              go_roundw
              case rel => exact ⟨k + 1, d + nq, by omega, by go_num, HS, Lib.hid (by rw [HB.out, World.drewN_drewN]), Lib.hid (H.out.below (below_drewN (Below.refl B _) _) (Nat.le_refl _))⟩
              case measure => simp [intOf]; omega
            · rw [hi, if_pos rfl] at hp
              rw [hp, if_neg (by decide)] at hs
              clear hp
              subst hs
              have HI := Lib.hid hi
              clear hi
              go_wp2_with fail
              go_quiet ((go_at_call 45; exact quiet_left (refIn_any _ _ _ _ _ _ (HK.out.below (below_drewN (Below.refl B _) _) (Nat.le_refl _)) (by rw [List.length_take]; omega) _ _ HI.out)))
              go_wp2
              go_ret
              exact ⟨rfl, d + nq, by rw [HB.out, World.drewN_drewN]⟩
      · obtain rfl : k = l.length := by omega
        have hs := HEV.out
        rw [firstFrom_end] at hs
        subst hs
        go_wp2
        go_ret
        exact ⟨rfl, d, HB.out⟩
theorem refPath_quiet {n : Int} {A : Option Addr} {c : Nat} {l : List Int} {B : Nat} {w : World} {a : Nat} {ev : Int} (h : Ints w B A c l) (he : pathErr n l = ev) :
    Calls Tryz.prog 21 #[.int .i64 n, .slice A l.length c] (w.drewN a) fun e w' => e = .returned (.int .i64 ev) ∧ ∃ m, w' = w.drewN m :=
  (refPath_any n A c l B (w.drewN a) (h.below (below_drewN (Below.refl B _) _) (Nat.le_refl _))).mono fun _ _ ⟨h1, d, h2⟩ => ⟨by rw [h1, he], a + d, by rw [h2, World.drewN_drewN]⟩
end Go.Proofs.YtaijpiebjhhkjaaGreatDoor
/- The reference's users of a link. -/
namespace Go.Proofs.YtaijpiebjhhkjaaGreatDoor
open Go.RowKit
set_option maxHeartbeats 4000000 in
set_option maxRecDepth 100000 in
theorem refUsers_any (x : Int) (Cv : Value) (P : Option Addr) (cp m : Nat) (paths : List (List Int)) (us : List Nat) (B : Nat) (w : World) (hB : B ≤ w.heap.size) (hp : Rows2 w B P cp paths) (hn : paths.length ≤ 1000) (hus : users paths x = us) (hm : m = paths.length) :
    Calls Tryz.prog 48 #[.agg #[Cv, .slice P m cp], .int .i64 x] w fun e w' => ∃ A c, e = .returned (.slice A us.length c) ∧ w'.ownsRow w.heap.size 3 1 (.slice A us.length c) us.length ((us.map fun (i : Nat) => (i : Int)).map (Value.int .i64)) ∧ us.length ≤ c ∧ c ≤ maxLen ∧ Below w.heap.size w w' := by
  subst hus hm
  have hpm := hp.cap; have hpl := hp.le
  unfold maxLen at hpm
  have HP := Lib.hid hp
  clear hp
  have HN0 := Lib.hid (Blk.new w 42 #[Cv, .slice P paths.length cp])
  have HB0 : Hid (Below w.heap.size w (w.alloc (.cells #[Cv, .slice P paths.length cp] 42))) := Lib.hid ((Below.refl _ _).alloc (Nat.le_refl _) _)
  go_enter Tryz.func48, Tryz.ntmps48
  go_wp2
  go_loopw [5, 6] (fun v i wr => ∃ k : Nat, k ≤ paths.length ∧ i = .int .i64 k ∧ Hid (wr.ownsRow w.heap.size 3 1 v (usersTo paths x k).length (idxs (usersTo paths x k))) ∧ Hid (Below w.heap.size w wr) ∧ Hid (Blk wr w.heap.size 42 #[Cv, .slice P paths.length cp])) (fun _ i _ => paths.length - (intOf i).toNat)
  case atStart => exact ⟨0, Nat.zero_le _, rfl, Lib.hid (World.ownsRow_nil _ _ _ _), HB0, HN0⟩
  case round =>
    clear HB0 HN0
    obtain ⟨k, hk, rfl, HO, HB, HN⟩ := hrel
    have hsz := HB.out.size
    obtain ⟨n0, n1, nf0, nf1, nz⟩ := HN.out.two
    by_cases hlt : k < paths.length
    · obtain ⟨b, off, A', c', l, rfl, hb, hcell, hi, HX⟩ := (HP.out.below HB.out hB).elem hlt
      have k0 : (0 : Int) ≤ (k : Int) := by omega
      have k1 : (k : Int) < (paths.length : Int) := by omega
      have hul := usersTo_le paths x k
      cases hin : inL l x
      · have HU := Lib.hid (usersTo_no HX.out hin)
        have HI := Lib.hid hi
        have HN2 := Lib.hid hin
        clear hi hin HX
        go_wp2_with fail
        refine (refIn_any _ _ _ _ _ _ HI.out rfl _ _ HN2.out).mono ?_; rintro e w' ⟨rfl, rfl⟩
        go_wp2
        go_roundw
        case rel => exact ⟨k + 1, by omega, by go_num, by rw [HU.out]; exact HO, HB, HN⟩
        case measure => simp [intOf]; omega
      · have HU := Lib.hid (usersTo_yes HX.out hin)
        have HI := Lib.hid hi
        have HN2 := Lib.hid hin
        clear hi hin HX
        go_wp2_with fail
        refine (refIn_any _ _ _ _ _ _ HI.out rfl _ _ HN2.out).mono ?_; rintro e w' ⟨rfl, rfl⟩
        go_wp2_with (at_builtin; refine wpList_push wr _ rfl (.tmp 23) (.tmp 25) 22 rfl w.heap.size 3 (.int .i64 0) 1 8 Tryz.underlying22 Tryz.info_int rfl (by omega) _ _ _ rfl HO.out rfl rfl (by simp [Value.oneCell']) (by omega) (by omega) hsz ?_; intro v' w1 hown1 hg1)
        have HO1 := Lib.hid hown1
        have HB1 := Lib.hid (below_push HB.out HO.out hg1 (Nat.le_refl _) hsz)
        have HN1 := Lib.hid (HN.out.grown hg1 fun e => own_blk_ne HO.out HN.out (by decide) e.symm)
        clear hown1 hg1
        go_wp2
        go_roundw
        case rel => exact ⟨k + 1, by omega, by go_num, by rw [HU.out]; exact Lib.hid (by simpa [idxs] using HO1.out), HB1, HN1⟩
        case measure => simp [intOf]; omega
    · obtain rfl : k = paths.length := by omega
      have hv := HO.out
      have e1 : usersTo paths x paths.length = users paths x := rfl
      rw [e1, idxs_mapL] at hv
      obtain ⟨A, c, rfl, hn2, hi⟩ := owns_ints hv
      have h1 := hi.le; have h2 := hi.cap
      rw [List.length_map] at h1 hv
      have HV := Lib.hid hv
      clear hv hi hn2
      rw [List.length_map]
      go_wp2
      go_ret
      exact ⟨A, c, rfl, HV.out, h1, h2, HB.out⟩
end Go.Proofs.YtaijpiebjhhkjaaGreatDoor
/- The reference's nets with a flow more, and one fewer. -/
namespace Go.Proofs.YtaijpiebjhhkjaaGreatDoor
open Go.RowKit
/-- slices that read as the lists -/
structure RowsAt (w : World) (B : Nat) (vs : List Value) (L : List (List Int)) : Prop where
  len : vs.length = L.length
  row : ∀ (i : Nat) (l : List Int), L[i]? = some l → ∃ A c, vs[i]? = some (.slice A l.length c) ∧ Ints w B A c l
theorem RowsAt.one {w : World} {B : Nat} {vs : List Value} {L : List (List Int)} (h : RowsAt w B vs L) : ∀ u ∈ vs, u.oneCell' = true := fun u hu => by
  obtain ⟨i, hi, e⟩ := List.getElem_of_mem hu
  have hl : i < L.length := by rw [← h.len]; exact hi
  obtain ⟨A, c, h1, _⟩ := h.row i _ (List.getElem?_eq_getElem hl)
  rw [List.getElem?_eq_getElem hi, e] at h1
  injection h1 with h1
  rw [h1]; rfl
theorem RowsAt.below {w w' : World} {B C : Nat} {vs : List Value} {L : List (List Int)} (h : RowsAt w B vs L) (hb : Below C w w') (hC : B ≤ C) : RowsAt w' B vs L :=
  ⟨h.len, fun i l hl => by obtain ⟨A, c, h1, h2⟩ := h.row i l hl; exact ⟨A, c, h1, h2.below hb hC⟩⟩
theorem RowsAt.nil (w : World) (B : Nat) : RowsAt w B [] [] := ⟨rfl, fun i l h => by simp at h⟩
theorem RowsAt.append {w : World} {B : Nat} {vs us : List Value} {L M : List (List Int)} (h : RowsAt w B vs L) (k : RowsAt w B us M) : RowsAt w B (vs ++ us) (L ++ M) := by
  refine ⟨by rw [List.length_append, List.length_append, h.len, k.len], fun i l hl => ?_⟩
  by_cases hi : i < L.length
  · rw [List.getElem?_append_left hi] at hl
    obtain ⟨A, c, h1, h2⟩ := h.row i l hl
    exact ⟨A, c, by rw [List.getElem?_append_left (by rw [h.len]; exact hi)]; exact h1, h2⟩
  · rw [List.getElem?_append_right (by omega)] at hl
    obtain ⟨A, c, h1, h2⟩ := k.row _ l hl
    exact ⟨A, c, by rw [List.getElem?_append_right (by rw [h.len]; omega), h.len]; exact h1, h2⟩
theorem RowsAt.single {w : World} {B : Nat} {A : Option Addr} {c : Nat} {l : List Int} (h : Ints w B A c l) : RowsAt w B [.slice A l.length c] [l] := by
  refine ⟨rfl, fun i m hm => ?_⟩
  match i, hm with
  | 0, hm => injection hm with hm; subst hm; exact ⟨A, c, rfl, h⟩
  | i + 1, hm => simp at hm
theorem RowsAt.take {w : World} {B : Nat} {vs : List Value} {L : List (List Int)} (h : RowsAt w B vs L) (k : Nat) : RowsAt w B (vs.take k) (L.take k) := by
  refine ⟨by rw [List.length_take, List.length_take, h.len], fun i l hl => ?_⟩
  have hi : i < k := by
    apply Classical.byContradiction
    intro hc
    rw [List.getElem?_take, if_neg hc] at hl; cases hl
  rw [List.getElem?_take_of_lt hi] at hl ⊢
  exact h.row i l hl
theorem RowsAt.drop {w : World} {B : Nat} {vs : List Value} {L : List (List Int)} (h : RowsAt w B vs L) (k : Nat) : RowsAt w B (vs.drop k) (L.drop k) := by
  refine ⟨by rw [List.length_drop, List.length_drop, h.len], fun i l hl => ?_⟩
  rw [List.getElem?_drop] at hl ⊢
  exact h.row _ l hl
theorem rows_vals {w : World} {B b off c : Nat} {L : List (List Int)} (h : Rows2 w B (some ⟨b, off, none⟩) c L) (h0 : 0 < L.length) : ∃ vs, RowsAt w B vs L ∧ ∀ j u, vs[j]? = some u → w.cell? ⟨b, off + j, none⟩ = some u := by
  obtain ⟨b', off', e, hb, hc⟩ := h.rd h0
  injection e with e
  injection e with e1 e2
  subst e1 e2
  refine ⟨(List.range L.length).map fun j => (w.cell? ⟨b, off + j, none⟩).getD (.bool false), ⟨by simp, fun i l hl => ?_⟩, fun j u hu => ?_⟩
  · obtain ⟨A, c', h1, h2⟩ := hc i l hl
    have hi := (List.getElem?_eq_some_iff.1 hl).1
    exact ⟨A, c', by simp [hi, h1], h2⟩
  · have hj : j < L.length := by have := (List.getElem?_eq_some_iff.1 hu).1; simpa using this
    obtain ⟨A, c', h1, h2⟩ := hc j _ (List.getElem?_eq_getElem hj)
    have : (w.cell? ⟨b, off + j, none⟩).getD (.bool false) = u := by simpa [hj] using hu
    rw [← this, h1]; rfl
theorem rows_own {w : World} {base B n : Nat} {v : Value} {vs : List Value} {L : List (List Int)} (ho : w.ownsRow base 22 1 v n vs) (h : RowsAt w B vs L) (hB : B ≤ w.heap.size) : ∃ A c, v = .slice A L.length c ∧ Rows2 w w.heap.size A c L := by
  obtain ⟨A, c, rfl, h1, h2, h3⟩ := owns_reads ho
  have hn : n = L.length := by have := ho.1; rw [Nat.mul_one, h.len] at this; exact this.symm
  subst hn
  refine ⟨A, c, rfl, ⟨fun h0 => ?_, h1, h2⟩⟩
  obtain ⟨b, off, e, hb, hc⟩ := h3.2 h0
  refine ⟨b, off, e, hb, fun j l hl => ?_⟩
  obtain ⟨A', c', k1, k2⟩ := h.row j l hl
  exact ⟨A', c', hc j _ k1, k2.more hB⟩
/-- append of what lies anywhere, at a step of a region that draws its order -/
theorem step_appN {P : Program} {ops : Array Oper} {o : Oper} {a : Act} {K : Act → World → Prop} {Q : Exit → Act → World → Prop} {E : Prop} {W : World} (hgd : o.guard = none) (s x : Operand) (t : TypeId)
    (ho : o.op = .call { callee := .builtin .append, args := #[s, x], argTypes := #[t, t] })
    (base : Nat) (e : TypeId) (z : Value) (bytes : Nat) (ht : P.underlying t = some (.slice e)) (hinfo : (P.info? e).map (fun i => (i.zero, i.size, i.bytes)) = some (some z, 1, bytes))
    (hzs : z.cells.size = 1) (v : Value) (n : Nat) (xs : List Value) (hs : a.eval s = v) (hown : W.ownsRow base e 1 v n xs) (ad : Addr) (m c : Nat) (news : List Value)
    (hx : a.eval x = .slice (some ad) m c) (hnews : ∀ j u, news[j]? = some u → W.cell? (ad.add j) = some u) (hl : news.length = m) (h1 : ∀ u ∈ news, u.oneCell' = true) (hn : n + m ≤ 1000000) (hb : bytes ≤ 64) (hbase : base ≤ W.heap.size)
    (h : ∀ v' w', w'.ownsRow base e 1 v' (n + m) (xs ++ news) → W.grownBy w' v.ownBlock → K (a.put o.dst v') w') :
    if Region.wanted o (yielded ops a.tmps) = true then Oper.wp P o a W K Q else E := by
  obtain ⟨i, hi, hz, h2, h3⟩ := info_parts hinfo
  have hbb : (n + m) * bytes ≤ 1000000 * 64 := Nat.mul_le_mul hn hb
  have hw : Region.wanted o (yielded ops a.tmps) = true := by simp [Region.wanted, hgd]
  rw [if_pos hw]
  refine wp_append_own W s x t ho base e i z 1 bytes ht hi hz h2 h3 hzs Nat.one_pos v n xs hs hown ad m c news hx (by rw [hl, Nat.mul_one]) hnews h1 (by simp only [maxLen]; omega) (by omega) hbase ?_
  intro v' w' p1 p2 _
  exact h v' w' p1 p2
theorem addr_add' {b off j : Nat} : (⟨b, off, none⟩ : Addr).add j = ⟨b, off + j, none⟩ := by unfold Addr.add; split <;> simp_all
set_option maxHeartbeats 8000000 in
set_option maxRecDepth 100000 in
theorem refWith_g (C : Option Addr) (cc nc : Nat) (b off cp m : Nat) (paths : List (List Int)) (vs : List Value) (A : Option Addr) (c k : Nat) (path : List Int) (B : Nat) (w : World) (hB : B ≤ w.heap.size) (hvs : RowsAt w B vs paths) (hcells : ∀ j u, vs[j]? = some u → w.cell? ⟨b, off + j, none⟩ = some u) (hb : b < w.heap.size) (_ : paths.length ≤ cp) (hpm : cp ≤ maxLen) (hi : Ints w B A c path) (h6 : paths.length ≤ 1000) (hm : m = paths.length) (hk : k = path.length) :
    Calls Tryz.prog 22 #[.agg #[.slice C nc cc, .slice (some ⟨b, off, none⟩) m cp], .slice A k c] w fun e w' => ∃ P1 cp1, e = .returned (.agg #[.slice C nc cc, .slice P1 (paths ++ [path]).length cp1]) ∧ (∃ vs, w'.ownsRow w.heap.size 22 1 (.slice P1 (paths ++ [path]).length cp1) (paths ++ [path]).length vs ∧ RowsAt w' B vs (paths ++ [path])) ∧ Below w.heap.size w w' := by
  subst hm hk
  have HV := Lib.hid hvs; have HI := Lib.hid hi
  have HONE := Lib.hid hvs.one
  have HVL := Lib.hid hvs.len
  have hB0 : Below w.heap.size w (((w.alloc (.cells #[.slice C nc cc, .slice (some ⟨b, off, none⟩) paths.length cp] 42)).alloc (.cells #[.slice none 0 0, .slice none 0 0] 42)).alloc (.cells #[.slice C nc cc, .slice none 0 0] 42)) := (((Below.refl _ _).alloc (Nat.le_refl _) _).alloc (by simp) _).alloc (by simp; omega) _
  obtain ⟨w3, hw3⟩ : ∃ x, x = (((w.alloc (.cells #[.slice C nc cc, .slice (some ⟨b, off, none⟩) paths.length cp] 42)).alloc (.cells #[.slice none 0 0, .slice none 0 0] 42)).alloc (.cells #[.slice C nc cc, .slice none 0 0] 42)) := ⟨_, rfl⟩
  have HC3 := Lib.hid (show ∀ j u, vs[j]? = some u → w3.cell? ((⟨b, off, none⟩ : Addr).add j) = some u from fun j u hu => by rw [addr_add', hw3]; exact (hB0.cell (p := ⟨b, off + j, none⟩) (by show b < _; omega)).trans (hcells j u hu))
  have HR3 := Lib.hid (show Blk w3 (w.heap.size + 1) 42 #[.slice none 0 0, .slice none 0 0] from by rw [hw3]; exact (Blk.new' _ _ _ (by simp)).alloc _)
  have HM3 := Lib.hid (show Blk w3 (w.heap.size + 1 + 1) 42 #[.slice C nc cc, .slice none 0 0] from by rw [hw3]; exact Blk.new' _ _ _ (by simp))
  have HB3 := Lib.hid (show Below w.heap.size w w3 from by rw [hw3]; exact hB0)
  have HN3 := Lib.hid (show Blk w3 w.heap.size 42 #[.slice C nc cc, .slice (some ⟨b, off, none⟩) paths.length cp] from by rw [hw3]; exact ((Blk.new _ _ _).alloc _).alloc _)
  have hpmx := hpm
  unfold maxLen at hpmx
  have hBz := HB3.out.size
  have hz3 := HM3.out.lt
  obtain ⟨i0, hi0, hz0, hz1, hz2⟩ := info_parts Tryz.info_row
  have HONEP : ((Value.slice A path.length c).oneCell') = true := rfl
  clear hvs hcells hi hB0 hpm
  go_enter Tryz.func22, Tryz.ntmps22
  go_upto_region 3 with (fail)
  rw [← hw3]
  clear hw3
  obtain ⟨m0, m1, mf0, mf1, mz⟩ := HM3.out.two
  obtain ⟨n0, n1, nf0, nf1, nz⟩ := HN3.out.two
  go_upto_region 4 with (at_builtin; refine wpList_append_own _ rfl (.tmp 10) (.tmp 12) 23 rfl w.heap.size 22 i0 (.slice none 0 0) 1 24 Tryz.underlying23 hi0 hz0 hz1 hz2 rfl (by omega) (.slice none 0 0) 0 [] rfl (World.ownsRow_nil _ _ _ _) ⟨b, off, none⟩ paths.length cp vs rfl (by rw [HVL.out, Nat.mul_one]) HC3.out HONE.out (by simp only [maxLen]; omega) (by omega) hBz ?_; intro v6 wm hown6 hgrow6 _; rw [Nat.zero_add, List.nil_append] at hown6; obtain ⟨A6, c6, rfl, hl6, hm6, _⟩ := owns_reads hown6; have HO6 := Lib.hid hown6; have HBM : Hid (Below w.heap.size w wm) := Lib.hid (HB3.out.grown hgrow6 hBz (fun k hk => by cases hk)); have HMM : Hid (Blk wm (w.heap.size + 1 + 1) 42 _) := Lib.hid (HM3.out.grown hgrow6 (fun e => by cases e)); have HRM : Hid (Blk wm (w.heap.size + 1) 42 _) := Lib.hid (HR3.out.grown hgrow6 (fun e => by cases e)); clear hown6 hgrow6 m0 m1 mf0 mf1 mz n0 n1 nf0 nf1 nz; obtain ⟨m0, m1, mf0, mf1, mz⟩ := HMM.out.two)
  unfold maxLen at hm6
  have hmo : (w.heap.size + 1 + 1 : Nat) ≠ w.heap.size + 1 := by omega
  have HM5 := Lib.hid (HMM.out.s2_1 (.slice A6 paths.length c6))
  have HO5 := Lib.hid (own_farB HO6.out (own_blk_ne HO6.out HMM.out (by decide)) (k := 1) (.slice A6 paths.length c6))
  have HR5 := Lib.hid (HRM.out.far (p := ⟨w.heap.size + 1 + 1, 1, none⟩) hmo.symm (.slice A6 paths.length c6))
  have HB5 := Lib.hid (HBM.out.setCell (p := ⟨w.heap.size + 1 + 1, 1, none⟩) (show w.heap.size ≤ w.heap.size + 1 + 1 by omega) (.slice A6 paths.length c6))
  obtain ⟨w5, hw5⟩ : ∃ x, x = wm.setCell ⟨w.heap.size + 1 + 1, 1, none⟩ (.slice A6 paths.length c6) := ⟨_, rfl⟩
  rw [← hw5] at HM5 HO5 HR5 HB5 ⊢
  have hz5 := HB5.out.size
  clear hw5 m0 m1 mf0 mf1 mz
  obtain ⟨m0, m1, mf0, mf1, mz⟩ := HM5.out.two
  go_upto_region 5 with (at_builtin; refine wpList_push w5 _ rfl (.tmp 16) (.tmp 18) 23 rfl w.heap.size 22 (.slice none 0 0) 1 24 Tryz.underlying23 Tryz.info_row rfl (by omega) _ _ _ rfl HO5.out rfl rfl (by simp [Value.oneCell']) (by omega) (by decide) hz5 ?_; intro v7 w7 hown7 hg7; obtain ⟨A7, c7, rfl, hl7, hm7, _⟩ := owns_reads hown7; have HO7 := Lib.hid hown7; have HB7 := Lib.hid (below_push HB5.out HO5.out hg7 (Nat.le_refl _) hz5); have HM7 := Lib.hid (HM5.out.grown hg7 fun e => own_blk_ne HO5.out HM5.out (by decide) e.symm); have HR7 := Lib.hid (HR5.out.grown hg7 fun e => own_blk_ne HO5.out HR5.out (by decide) e.symm); clear hown7 hg7 m0 m1 mf0 mf1 mz; obtain ⟨m0, m1, mf0, mf1, mz⟩ := HM7.out.two)
  have HM8 := Lib.hid (HM7.out.s2_1 (.slice A7 (paths.length + 1) c7))
  have HO8 := Lib.hid (own_farB HO7.out (own_blk_ne HO7.out HM7.out (by decide)) (k := 1) (.slice A7 (paths.length + 1) c7))
  have HR8 := Lib.hid (HR7.out.far (p := ⟨w.heap.size + 1 + 1, 1, none⟩) hmo.symm (.slice A7 (paths.length + 1) c7))
  have HB8 := Lib.hid (HB7.out.setCell (p := ⟨w.heap.size + 1 + 1, 1, none⟩) (show w.heap.size ≤ w.heap.size + 1 + 1 by omega) (.slice A7 (paths.length + 1) c7))
  obtain ⟨w8, hw8⟩ : ∃ x, x = w7.setCell ⟨w.heap.size + 1 + 1, 1, none⟩ (.slice A7 (paths.length + 1) c7) := ⟨_, rfl⟩
  rw [← hw8] at HM8 HO8 HR8 HB8 ⊢
  clear hw8 m0 m1 mf0 mf1 mz
  have hne8 := own_blk_ne HO8.out HR8.out (by decide)
  have HOF := Lib.hid (own_farB (own_farB HO8.out hne8 (k := 0) (.slice C nc cc)) hne8 (k := 1) (.slice A7 (paths.length + 1) c7))
  have HBF := Lib.hid ((HB8.out.setCell (p := ⟨w.heap.size + 1, 0, none⟩) (Nat.le_succ _) (.slice C nc cc)).setCell (p := ⟨w.heap.size + 1, 1, none⟩) (Nat.le_succ _) (.slice A7 (paths.length + 1) c7))
  have HRW := Lib.hid ((HV.out.append (RowsAt.single HI.out)).below HBF.out hB)
  have HROW : Hid (∃ vs, ((w8.setCell ⟨w.heap.size + 1, 0, none⟩ (.slice C nc cc)).setCell ⟨w.heap.size + 1, 1, none⟩ (.slice A7 (paths.length + 1) c7)).ownsRow w.heap.size 22 1 (.slice A7 (paths.length + 1) c7) (paths.length + 1) vs ∧ RowsAt ((w8.setCell ⟨w.heap.size + 1, 0, none⟩ (.slice C nc cc)).setCell ⟨w.heap.size + 1, 1, none⟩ (.slice A7 (paths.length + 1) c7)) B vs (paths ++ [path])) := Lib.hid ⟨_, HOF.out, HRW.out⟩
  clear hne8
  obtain ⟨m0, m1, mf0, mf1, mz⟩ := HM8.out.two
  obtain ⟨r0, r1, rf0, rf1, rz⟩ := HR8.out.two
  go_wp2
  refine bodyPost_ret (v := .agg #[.slice C nc cc, .slice A7 (paths.length + 1) c7]) (by simp [results, Tryz.results22, go_sem, *]) rfl ⟨A7, c7, rfl, by simpa using HROW.out, HBF.out⟩
theorem refWith_any (C : Option Addr) (cc nc : Nat) (P : Option Addr) (cp m : Nat) (paths : List (List Int)) (A : Option Addr) (c k : Nat) (path : List Int) (B : Nat) (w : World) (hB : B ≤ w.heap.size) (hp : Rows2 w B P cp paths) (hi : Ints w B A c path) (h0 : 0 < paths.length) (h6 : paths.length ≤ 1000) (hm : m = paths.length) (hk : k = path.length) :
    Calls Tryz.prog 22 #[.agg #[.slice C nc cc, .slice P m cp], .slice A k c] w fun e w' => ∃ P1 cp1, e = .returned (.agg #[.slice C nc cc, .slice P1 (paths ++ [path]).length cp1]) ∧ (∃ vs, w'.ownsRow B 22 1 (.slice P1 (paths ++ [path]).length cp1) (paths ++ [path]).length vs ∧ RowsAt w' B vs (paths ++ [path])) ∧ Below w.heap.size w w' := by
  subst hm hk
  obtain ⟨b, off, rfl, hb, _⟩ := hp.rd h0
  obtain ⟨vs, hvs, hcells⟩ := rows_vals hp h0
  refine (refWith_g C cc nc b off cp _ paths vs A c _ path B w hB hvs hcells (by omega) hp.le hp.cap hi h6 rfl rfl).mono ?_
  rintro e w' ⟨P1, cp1, rfl, ⟨us, h1, h2⟩, h3⟩
  exact ⟨P1, cp1, rfl, ⟨us, own_baseB h1 hB, h2⟩, h3⟩
/-- with a flow, of a net that has none -/
theorem refWith_none (C : Option Addr) (cc nc : Nat) (A : Option Addr) (c k : Nat) (path : List Int) (B : Nat) (w : World) (hB : B ≤ w.heap.size) (hi : Ints w B A c path) (hk : k = path.length) :
    Calls Tryz.prog 22 #[.agg #[.slice C nc cc, .slice none 0 0], .slice A k c] w fun e w' => ∃ P1 cp1, e = .returned (.agg #[.slice C nc cc, .slice P1 1 cp1]) ∧ (∃ vs, w'.ownsRow w.heap.size 22 1 (.slice P1 1 cp1) 1 vs ∧ RowsAt w' B vs [path]) ∧ Below w.heap.size w w' := by
  subst hk
  have HI := Lib.hid hi
  have hB0 : Below w.heap.size w (((w.alloc (.cells #[.slice C nc cc, .slice none 0 0] 42)).alloc (.cells #[.slice none 0 0, .slice none 0 0] 42)).alloc (.cells #[.slice C nc cc, .slice none 0 0] 42)) := (((Below.refl _ _).alloc (Nat.le_refl _) _).alloc (by simp) _).alloc (by simp; omega) _
  obtain ⟨w3, hw3⟩ : ∃ x, x = (((w.alloc (.cells #[.slice C nc cc, .slice none 0 0] 42)).alloc (.cells #[.slice none 0 0, .slice none 0 0] 42)).alloc (.cells #[.slice C nc cc, .slice none 0 0] 42)) := ⟨_, rfl⟩
  have HR3 := Lib.hid (show Blk w3 (w.heap.size + 1) 42 #[.slice none 0 0, .slice none 0 0] from by rw [hw3]; exact (Blk.new' _ _ _ (by simp)).alloc _)
  have HM3 := Lib.hid (show Blk w3 (w.heap.size + 1 + 1) 42 #[.slice C nc cc, .slice none 0 0] from by rw [hw3]; exact Blk.new' _ _ _ (by simp))
  have HB3 := Lib.hid (show Below w.heap.size w w3 from by rw [hw3]; exact hB0)
  have HN3 := Lib.hid (show Blk w3 w.heap.size 42 #[.slice C nc cc, .slice none 0 0] from by rw [hw3]; exact ((Blk.new _ _ _).alloc _).alloc _)
  have hBz := HB3.out.size
  have hz3 := HM3.out.lt
  have hmo : (w.heap.size + 1 + 1 : Nat) ≠ w.heap.size + 1 := by omega
  clear hi hB0
  go_enter Tryz.func22, Tryz.ntmps22
  go_upto_region 3 with (fail)
  rw [← hw3]
  clear hw3
  obtain ⟨m0, m1, mf0, mf1, mz⟩ := HM3.out.two
  obtain ⟨n0, n1, nf0, nf1, nz⟩ := HN3.out.two
  go_upto_region 4 with (fail)
  have HM5 := Lib.hid (HM3.out.s2_1 (.slice none 0 0))
  have HR5 := Lib.hid (HR3.out.far (p := ⟨w.heap.size + 1 + 1, 1, none⟩) hmo.symm (.slice none 0 0))
  have HB5 := Lib.hid (HB3.out.setCell (p := ⟨w.heap.size + 1 + 1, 1, none⟩) (show w.heap.size ≤ w.heap.size + 1 + 1 by omega) (.slice none 0 0))
  obtain ⟨w5, hw5⟩ : ∃ x, x = w3.setCell ⟨w.heap.size + 1 + 1, 1, none⟩ (.slice none 0 0) := ⟨_, rfl⟩
  rw [← hw5] at HM5 HR5 HB5 ⊢
  have hz5 := HB5.out.size
  clear hw5 m0 m1 mf0 mf1 mz
  obtain ⟨m0, m1, mf0, mf1, mz⟩ := HM5.out.two
  go_upto_region 5 with (at_builtin; refine wpList_push w5 _ rfl (.tmp 16) (.tmp 18) 23 rfl w.heap.size 22 (.slice none 0 0) 1 24 Tryz.underlying23 Tryz.info_row rfl (by omega) (.slice none 0 0) 0 [] rfl (World.ownsRow_nil _ _ _ _) rfl rfl (by simp [Value.oneCell']) (by omega) (by decide) hz5 ?_; intro v7 w7 hown7 hg7; rw [Nat.zero_add, List.nil_append] at hown7; obtain ⟨A7, c7, rfl, hl7, hm7, _⟩ := owns_reads hown7; have HO7 := Lib.hid hown7; have HB7 : Hid (Below w.heap.size w w7) := Lib.hid (HB5.out.grown hg7 hz5 (fun k hk => by cases hk)); have HM7 := Lib.hid (HM5.out.grown hg7 fun e => by cases e); have HR7 := Lib.hid (HR5.out.grown hg7 fun e => by cases e); clear hown7 hg7 m0 m1 mf0 mf1 mz; obtain ⟨m0, m1, mf0, mf1, mz⟩ := HM7.out.two)
  have HM8 := Lib.hid (HM7.out.s2_1 (.slice A7 1 c7))
  have HO8 := Lib.hid (own_farB HO7.out (own_blk_ne HO7.out HM7.out (by decide)) (k := 1) (.slice A7 1 c7))
  have HR8 := Lib.hid (HR7.out.far (p := ⟨w.heap.size + 1 + 1, 1, none⟩) hmo.symm (.slice A7 1 c7))
  have HB8 := Lib.hid (HB7.out.setCell (p := ⟨w.heap.size + 1 + 1, 1, none⟩) (show w.heap.size ≤ w.heap.size + 1 + 1 by omega) (.slice A7 1 c7))
  obtain ⟨w8, hw8⟩ : ∃ x, x = w7.setCell ⟨w.heap.size + 1 + 1, 1, none⟩ (.slice A7 1 c7) := ⟨_, rfl⟩
  rw [← hw8] at HM8 HO8 HR8 HB8 ⊢
  clear hw8 m0 m1 mf0 mf1 mz
  have hne8 := own_blk_ne HO8.out HR8.out (by decide)
  have HOF := Lib.hid (own_farB (own_farB HO8.out hne8 (k := 0) (.slice C nc cc)) hne8 (k := 1) (.slice A7 1 c7))
  have HBF := Lib.hid ((HB8.out.setCell (p := ⟨w.heap.size + 1, 0, none⟩) (Nat.le_succ _) (.slice C nc cc)).setCell (p := ⟨w.heap.size + 1, 1, none⟩) (Nat.le_succ _) (.slice A7 1 c7))
  have HRW := Lib.hid ((RowsAt.single HI.out).below HBF.out hB)
  have HROW : Hid (∃ vs, ((w8.setCell ⟨w.heap.size + 1, 0, none⟩ (.slice C nc cc)).setCell ⟨w.heap.size + 1, 1, none⟩ (.slice A7 1 c7)).ownsRow w.heap.size 22 1 (.slice A7 1 c7) 1 vs ∧ RowsAt ((w8.setCell ⟨w.heap.size + 1, 0, none⟩ (.slice C nc cc)).setCell ⟨w.heap.size + 1, 1, none⟩ (.slice A7 1 c7)) B vs [path]) := Lib.hid ⟨_, HOF.out, HRW.out⟩
  clear hne8
  obtain ⟨m0, m1, mf0, mf1, mz⟩ := HM8.out.two
  obtain ⟨r0, r1, rf0, rf1, rz⟩ := HR8.out.two
  go_wp2
  refine bodyPost_ret (v := .agg #[.slice C nc cc, .slice A7 1 c7]) (by simp [results, Tryz.results22, go_sem, *]) rfl ⟨A7, c7, rfl, HROW.out, HBF.out⟩
theorem erase_split {α : Type} (L : List α) (f : Nat) : L.eraseIdx f = L.take f ++ L.drop (f + 1) := List.eraseIdx_eq_take_drop_succ L f
set_option maxHeartbeats 8000000 in
set_option maxRecDepth 100000 in
theorem refWithout_g (C : Option Addr) (cc nc : Nat) (b off cp m : Nat) (paths : List (List Int)) (vs : List Value) (f : Nat) (B : Nat) (w : World) (hB : B ≤ w.heap.size) (hvs : RowsAt w B vs paths) (hcells : ∀ j u, vs[j]? = some u → w.cell? ⟨b, off + j, none⟩ = some u) (hb : b < w.heap.size) (hpl : paths.length ≤ cp) (hpm : cp ≤ maxLen) (hf : f < paths.length) (h6 : paths.length ≤ 1000) (hm : m = paths.length) :
    Calls Tryz.prog 19 #[.agg #[.slice C nc cc, .slice (some ⟨b, off, none⟩) m cp], .int .i64 f] w fun e w' => ∃ P1 cp1, e = .returned (.agg #[.slice C nc cc, .slice P1 (paths.eraseIdx f).length cp1]) ∧ (∃ vs, w'.ownsRow w.heap.size 22 1 (.slice P1 (paths.eraseIdx f).length cp1) (paths.eraseIdx f).length vs ∧ RowsAt w' B vs (paths.eraseIdx f)) ∧ Below w.heap.size w w' := by
  subst hm
  have HV := Lib.hid hvs
  have HONE := Lib.hid hvs.one
  have HVL := Lib.hid hvs.len
  have hel : (paths.eraseIdx f).length = paths.length - 1 := by rw [List.length_eraseIdx, if_pos hf]
  have HEL := Lib.hid hel
  have hB0 : Below w.heap.size w (((w.alloc (.cells #[.slice C nc cc, .slice (some ⟨b, off, none⟩) paths.length cp] 42)).alloc (.cells #[.slice none 0 0, .slice none 0 0] 42)).alloc (.cells #[.slice C nc cc, .slice none 0 0] 42)) := (((Below.refl _ _).alloc (Nat.le_refl _) _).alloc (by simp) _).alloc (by simp; omega) _
  obtain ⟨w3, hw3⟩ : ∃ x, x = (((w.alloc (.cells #[.slice C nc cc, .slice (some ⟨b, off, none⟩) paths.length cp] 42)).alloc (.cells #[.slice none 0 0, .slice none 0 0] 42)).alloc (.cells #[.slice C nc cc, .slice none 0 0] 42)) := ⟨_, rfl⟩
  have HC0 := Lib.hid (show ∀ (W : World), Below w.heap.size w W → ∀ j u, vs[j]? = some u → W.cell? ⟨b, off + j, none⟩ = some u from fun W hW j u hu => (hW.cell (p := ⟨b, off + j, none⟩) (by show b < _; omega)).trans (hcells j u hu))
  have HCT := Lib.hid (show ∀ (W : World), Below w.heap.size w W → ∀ j u, (vs.take f)[j]? = some u → W.cell? ((⟨b, off, none⟩ : Addr).add j) = some u from fun W hW j u hu => by
    rw [addr_add']
    refine HC0.out W hW j u ?_
    have hj : j < f := by have := (List.getElem?_eq_some_iff.1 hu).1; rw [List.length_take] at this; omega
    rwa [List.getElem?_take_of_lt hj] at hu)
  have HCD := Lib.hid (show ∀ (W : World), Below w.heap.size w W → ∀ j u, (vs.drop (f + 1))[j]? = some u → W.cell? ((⟨b, off + (f + 1), none⟩ : Addr).add j) = some u from fun W hW j u hu => by
    rw [addr_add', Nat.add_assoc]
    refine HC0.out W hW _ u ?_
    rwa [List.getElem?_drop] at hu)
  have HTL : Hid ((vs.take f).length = f) := Lib.hid (by rw [List.length_take, HVL.out]; omega)
  have HDL : Hid ((vs.drop (f + 1)).length = paths.length - (f + 1)) := Lib.hid (by rw [List.length_drop, HVL.out])
  have HTO : Hid (∀ u ∈ vs.take f, u.oneCell' = true) := Lib.hid fun u hu => HONE.out u (List.mem_of_mem_take hu)
  have HDO : Hid (∀ u ∈ vs.drop (f + 1), u.oneCell' = true) := Lib.hid fun u hu => HONE.out u (List.mem_of_mem_drop hu)
  have HR3 := Lib.hid (show Blk w3 (w.heap.size + 1) 42 #[.slice none 0 0, .slice none 0 0] from by rw [hw3]; exact (Blk.new' _ _ _ (by simp)).alloc _)
  have HM3 := Lib.hid (show Blk w3 (w.heap.size + 1 + 1) 42 #[.slice C nc cc, .slice none 0 0] from by rw [hw3]; exact Blk.new' _ _ _ (by simp))
  have HB3 := Lib.hid (show Below w.heap.size w w3 from by rw [hw3]; exact hB0)
  have HN3 := Lib.hid (show Blk w3 w.heap.size 42 #[.slice C nc cc, .slice (some ⟨b, off, none⟩) paths.length cp] from by rw [hw3]; exact ((Blk.new _ _ _).alloc _).alloc _)
  have hpmx := hpm
  unfold maxLen at hpmx
  have hBz := HB3.out.size
  have hz3 := HM3.out.lt
  have f0 : (0 : Int) ≤ (f : Int) := by omega
  have f1 : (f : Int) ≤ (cp : Int) := by omega
  have f2 : (f : Int) + 1 ≤ (paths.length : Int) := by omega
  have f3 : IntKind.i64.wrap ((f : Int) + 1) = (f : Int) + 1 := IntWalk.i64_in _ (by omega)
  have f5 : ((f : Int) + 1).toNat = f + 1 := by omega
  have f6 : (0 : Int) ≤ (f : Int) + 1 := by omega
  clear hvs hcells hB0 hel hpm
  go_enter Tryz.func19, Tryz.ntmps19
  go_upto_region 3 with (fail)
  rw [← hw3]
  clear hw3
  obtain ⟨m0, m1, mf0, mf1, mz⟩ := HM3.out.two
  obtain ⟨n0, n1, nf0, nf1, nz⟩ := HN3.out.two
  go_cut [5] (fun s5 wx => s5 = .pointer (some ⟨w.heap.size + 1 + 1, 0, none⟩) ∧ ∃ A6 c6, Hid (Blk wx (w.heap.size + 1 + 1) 42 #[.slice C nc cc, .slice A6 f c6]) ∧ Hid (wx.ownsRow w.heap.size 22 1 (.slice A6 f c6) f (vs.take f)) ∧ Hid (Blk wx (w.heap.size + 1) 42 #[.slice none 0 0, .slice none 0 0]) ∧ Hid (Blk wx w.heap.size 42 #[.slice C nc cc, .slice (some ⟨b, off, none⟩) paths.length cp]) ∧ Hid (Below w.heap.size w wx))
  case first =>
    go_region_law (refine step_appN rfl (.tmp 10) (.tmp 14) 23 rfl w.heap.size 22 (.slice none 0 0) 24 Tryz.underlying23 Tryz.info_row rfl (.slice none 0 0) 0 [] (by simp [Act.eval, Act.put]) (World.ownsRow_nil _ _ _ _) ⟨b, off, none⟩ f cp (vs.take f) (by simp [Act.eval, Act.put]) (HCT.out _ (by repeat (first | with_reducible exact HB3.out | with_reducible apply Below.drew))) HTL.out HTO.out (by omega) (by decide) (by first | exact hBz | (simp; exact hBz)) ?_; intro v6 wm hown6 hgrow6; rw [Nat.zero_add, List.nil_append] at hown6; obtain ⟨A6, c6, rfl, hl6, hm6, _⟩ := owns_reads hown6; have HO6 := Lib.hid hown6; have HBM : Hid (Below w.heap.size w wm) := Lib.hid (Below.grown (by repeat (first | with_reducible exact HB3.out | with_reducible apply Below.drew)) hgrow6 (by first | exact hBz | (simp; exact hBz)) (fun k hk => by cases hk)); have HMM : Hid (Blk wm (w.heap.size + 1 + 1) 42 #[.slice C nc cc, .slice none 0 0]) := Lib.hid (Blk.grown (by repeat (first | with_reducible exact HM3.out | with_reducible apply Blk.drew)) hgrow6 (fun e => by cases e)); have HRM : Hid (Blk wm (w.heap.size + 1) 42 #[.slice none 0 0, .slice none 0 0]) := Lib.hid (Blk.grown (by repeat (first | with_reducible exact HR3.out | with_reducible apply Blk.drew)) hgrow6 (fun e => by cases e)); have HNM : Hid (Blk wm w.heap.size 42 #[.slice C nc cc, .slice (some ⟨b, off, none⟩) paths.length cp]) := Lib.hid (Blk.grown (by repeat (first | with_reducible exact HN3.out | with_reducible apply Blk.drew)) hgrow6 (fun e => by cases e)); clear hown6 hgrow6; obtain ⟨p0, p1, pf0, pf1, pz⟩ := HMM.out.two)
    all_goals
      go_wp2
      go_meet
      exact ⟨rfl, A6, c6, Lib.hid (HMM.out.s2_1 _), Lib.hid (own_farB HO6.out (own_blk_ne HO6.out HMM.out (by decide)) _), Lib.hid (HRM.out.far (p := ⟨w.heap.size + 1 + 1, 1, none⟩) (show w.heap.size + 1 ≠ w.heap.size + 1 + 1 by omega) _), Lib.hid (HNM.out.far (p := ⟨w.heap.size + 1 + 1, 1, none⟩) (show w.heap.size ≠ w.heap.size + 1 + 1 by omega) _), Lib.hid (HBM.out.setCell (p := ⟨w.heap.size + 1 + 1, 1, none⟩) (show w.heap.size ≤ w.heap.size + 1 + 1 by omega) _)⟩
  case rest =>
    clear HM3 HR3 HN3 m0 m1 mf0 mf1 mz n0 n1 nf0 nf1 nz HB3 hBz hz3
    obtain ⟨rfl, A6, c6, HM5, HO5, HR5, HN5, HB5⟩ := hcut
    obtain ⟨w5, hw5⟩ : ∃ x, x = wc := ⟨_, rfl⟩
    rw [← hw5] at HM5 HO5 HR5 HN5 HB5 ⊢
    clear hw5
    have hBz := HB5.out.size
    obtain ⟨m0, m1, mf0, mf1, mz⟩ := HM5.out.two
    obtain ⟨n0, n1, nf0, nf1, nz⟩ := HN5.out.two
    obtain ⟨A7', c7', e7, hl7', hm7', _⟩ := owns_reads HO5.out
    clear e7 hl7' hm7'
    go_upto_region 4 with (fail)
    go_cut [5] (fun s5 wx => s5 = .pointer (some ⟨w.heap.size + 1 + 1, 0, none⟩) ∧ ∃ A7 c7, Hid (Blk wx (w.heap.size + 1 + 1) 42 #[.slice C nc cc, .slice A7 (paths.length - 1) c7]) ∧ Hid (wx.ownsRow w.heap.size 22 1 (.slice A7 (paths.length - 1) c7) (paths.length - 1) (vs.take f ++ vs.drop (f + 1))) ∧ Hid (Blk wx (w.heap.size + 1) 42 #[.slice none 0 0, .slice none 0 0]) ∧ Hid (Below w.heap.size w wx))
    case first =>
      by_cases hc : cp = f + 1
      · subst hc
        have hlen0 : f + 0 = paths.length - 1 := by omega
        go_region_law (refine step_appN rfl (.tmp 18) (.tmp 23) 23 rfl w.heap.size 22 (.slice none 0 0) 24 Tryz.underlying23 Tryz.info_row rfl (.slice A6 f c6) f (vs.take f) (by simp [Act.eval, Act.put]) (own_below HO5.out (by repeat (first | with_reducible exact Below.refl _ _ | with_reducible apply Below.drew))) ⟨b, off, none⟩ 0 (f + 1 - (f + 1)) (vs.drop (f + 1)) (by simp [Act.eval, Act.put]) (fun j u hu => by have := (List.getElem?_eq_some_iff.1 hu).1; have := HDL.out; omega) (by rw [HDL.out]; omega) HDO.out (by omega) (by decide) (by first | exact hBz | (simp; exact hBz)) ?_; intro v6 wm hown6 hgrow6; rw [hlen0] at hown6; obtain ⟨A7, c7, rfl, hl6, hm6, _⟩ := owns_reads hown6; have HO7 := Lib.hid hown6; have HBM : Hid (Below w.heap.size w wm) := Lib.hid (Below.grown (by repeat (first | with_reducible exact HB5.out | with_reducible apply Below.drew)) hgrow6 (by first | exact hBz | (simp; exact hBz)) (fun k hk => (HO5.out.lt k hk).1)); have HMM : Hid (Blk wm (w.heap.size + 1 + 1) 42 #[.slice C nc cc, .slice A6 f c6]) := Lib.hid (Blk.grown (by repeat (first | with_reducible exact HM5.out | with_reducible apply Blk.drew)) hgrow6 (fun e => own_blk_ne HO5.out HM5.out (by decide) e.symm)); have HRM : Hid (Blk wm (w.heap.size + 1) 42 #[.slice none 0 0, .slice none 0 0]) := Lib.hid (Blk.grown (by repeat (first | with_reducible exact HR5.out | with_reducible apply Blk.drew)) hgrow6 (fun e => own_blk_ne HO5.out HR5.out (by decide) e.symm)); clear hown6 hgrow6; obtain ⟨p0, p1, pf0, pf1, pz⟩ := HMM.out.two)
        all_goals
          go_wp2
          go_meet
          exact ⟨rfl, A7, c7, Lib.hid (HMM.out.s2_1 _), Lib.hid (own_farB HO7.out (own_blk_ne HO7.out HMM.out (by decide)) _), Lib.hid (HRM.out.far (p := ⟨w.heap.size + 1 + 1, 1, none⟩) (show w.heap.size + 1 ≠ w.heap.size + 1 + 1 by omega) _), Lib.hid (HBM.out.setCell (p := ⟨w.heap.size + 1 + 1, 1, none⟩) (show w.heap.size ≤ w.heap.size + 1 + 1 by omega) _)⟩
      · have hlen0 : f + (paths.length - (f + 1)) = paths.length - 1 := by omega
        go_region_law (refine step_appN rfl (.tmp 18) (.tmp 23) 23 rfl w.heap.size 22 (.slice none 0 0) 24 Tryz.underlying23 Tryz.info_row rfl (.slice A6 f c6) f (vs.take f) (by simp [Act.eval, Act.put]) (own_below HO5.out (by repeat (first | with_reducible exact Below.refl _ _ | with_reducible apply Below.drew))) ⟨b, off + (f + 1), none⟩ (paths.length - (f + 1)) (cp - (f + 1)) (vs.drop (f + 1)) (by simp [Act.eval, Act.put]) (HCD.out _ (by repeat (first | with_reducible exact HB5.out | with_reducible apply Below.drew))) HDL.out HDO.out (by omega) (by decide) (by first | exact hBz | (simp; exact hBz)) ?_; intro v6 wm hown6 hgrow6; rw [hlen0] at hown6; obtain ⟨A7, c7, rfl, hl6, hm6, _⟩ := owns_reads hown6; have HO7 := Lib.hid hown6; have HBM : Hid (Below w.heap.size w wm) := Lib.hid (Below.grown (by repeat (first | with_reducible exact HB5.out | with_reducible apply Below.drew)) hgrow6 (by first | exact hBz | (simp; exact hBz)) (fun k hk => (HO5.out.lt k hk).1)); have HMM : Hid (Blk wm (w.heap.size + 1 + 1) 42 #[.slice C nc cc, .slice A6 f c6]) := Lib.hid (Blk.grown (by repeat (first | with_reducible exact HM5.out | with_reducible apply Blk.drew)) hgrow6 (fun e => own_blk_ne HO5.out HM5.out (by decide) e.symm)); have HRM : Hid (Blk wm (w.heap.size + 1) 42 #[.slice none 0 0, .slice none 0 0]) := Lib.hid (Blk.grown (by repeat (first | with_reducible exact HR5.out | with_reducible apply Blk.drew)) hgrow6 (fun e => own_blk_ne HO5.out HR5.out (by decide) e.symm)); clear hown6 hgrow6; obtain ⟨p0, p1, pf0, pf1, pz⟩ := HMM.out.two)
        all_goals
          go_wp2
          go_meet
          exact ⟨rfl, A7, c7, Lib.hid (HMM.out.s2_1 _), Lib.hid (own_farB HO7.out (own_blk_ne HO7.out HMM.out (by decide)) _), Lib.hid (HRM.out.far (p := ⟨w.heap.size + 1 + 1, 1, none⟩) (show w.heap.size + 1 ≠ w.heap.size + 1 + 1 by omega) _), Lib.hid (HBM.out.setCell (p := ⟨w.heap.size + 1 + 1, 1, none⟩) (show w.heap.size ≤ w.heap.size + 1 + 1 by omega) _)⟩
    case rest =>
      clear HM5 HO5 HR5 HN5 HB5 m0 m1 mf0 mf1 mz n0 n1 nf0 nf1 nz
      obtain ⟨rfl, A7, c7, HM8, HO8, HR8, HB8⟩ := hcut
      obtain ⟨w8, hw8⟩ : ∃ x, x = wc := ⟨_, rfl⟩
      rw [← hw8] at HM8 HO8 HR8 HB8 ⊢
      clear hw8
      have hne8 := own_blk_ne HO8.out HR8.out (by decide)
      have HOF := Lib.hid (own_farB (own_farB HO8.out hne8 (k := 0) (.slice C nc cc)) hne8 (k := 1) (.slice A7 (paths.length - 1) c7))
      have HBF := Lib.hid ((HB8.out.setCell (p := ⟨w.heap.size + 1, 0, none⟩) (Nat.le_succ _) (.slice C nc cc)).setCell (p := ⟨w.heap.size + 1, 1, none⟩) (Nat.le_succ _) (.slice A7 (paths.length - 1) c7))
      have HRW := Lib.hid (((HV.out.take f).append (HV.out.drop (f + 1))).below HBF.out hB)
      have herase := erase_split paths f
      rw [← herase] at HRW
      clear herase
      have HROW : Hid (∃ vs, ((w8.setCell ⟨w.heap.size + 1, 0, none⟩ (.slice C nc cc)).setCell ⟨w.heap.size + 1, 1, none⟩ (.slice A7 (paths.length - 1) c7)).ownsRow w.heap.size 22 1 (.slice A7 (paths.length - 1) c7) (paths.length - 1) vs ∧ RowsAt ((w8.setCell ⟨w.heap.size + 1, 0, none⟩ (.slice C nc cc)).setCell ⟨w.heap.size + 1, 1, none⟩ (.slice A7 (paths.length - 1) c7)) B vs (paths.eraseIdx f)) := Lib.hid ⟨_, HOF.out, HRW.out⟩
      clear hne8
      obtain ⟨m0, m1, mf0, mf1, mz⟩ := HM8.out.two
      obtain ⟨r0, r1, rf0, rf1, rz⟩ := HR8.out.two
      go_wp2
      refine bodyPost_ret (v := .agg #[.slice C nc cc, .slice A7 (paths.length - 1) c7]) (by simp [results, Tryz.results19, go_sem, *]) rfl ⟨A7, c7, by rw [HEL.out], by rw [HEL.out]; exact HROW.out, HBF.out⟩
theorem refWithout_any (C : Option Addr) (cc nc : Nat) (P : Option Addr) (cp m : Nat) (paths : List (List Int)) (f : Nat) (B : Nat) (w : World) (hB : B ≤ w.heap.size) (hp : Rows2 w B P cp paths) (hf : f < paths.length) (h6 : paths.length ≤ 1000) (hm : m = paths.length) :
    Calls Tryz.prog 19 #[.agg #[.slice C nc cc, .slice P m cp], .int .i64 f] w fun e w' => ∃ P1 cp1, e = .returned (.agg #[.slice C nc cc, .slice P1 (paths.eraseIdx f).length cp1]) ∧ (∃ vs, w'.ownsRow B 22 1 (.slice P1 (paths.eraseIdx f).length cp1) (paths.eraseIdx f).length vs ∧ RowsAt w' B vs (paths.eraseIdx f)) ∧ Below w.heap.size w w' := by
  subst hm
  have h0 : 0 < paths.length := by omega
  obtain ⟨b, off, rfl, hb, _⟩ := hp.rd h0
  obtain ⟨vs, hvs, hcells⟩ := rows_vals hp h0
  refine (refWithout_g C cc nc b off cp _ paths vs f B w hB hvs hcells (by omega) hp.le hp.cap hf h6 rfl).mono ?_
  rintro e w' ⟨P1, cp1, rfl, ⟨us, h1, h2⟩, h3⟩
  exact ⟨P1, cp1, rfl, ⟨us, own_baseB h1 hB, h2⟩, h3⟩
end Go.Proofs.YtaijpiebjhhkjaaGreatDoor
