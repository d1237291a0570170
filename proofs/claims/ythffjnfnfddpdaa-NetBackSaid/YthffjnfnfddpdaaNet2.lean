/- net.Check, net.Over. -/
import Derived.Test.YthffjnfnfddpdaaNet1
namespace Go.Proofs.Ythffjnfnfddpdaa
open Go.RowKit
/-- a net by value -/
structure NetAt (w : World) (B : Nat) (v : Value) (caps : List Int) (paths : List (List Int)) : Prop where
  ex : ∃ C cc P cp, v = .agg #[.slice C caps.length cc, .slice P paths.length cp] ∧ Ints w B C cc caps ∧ Rows2 w B P cp paths
theorem NetAt.mk' {w : World} {B : Nat} {C : Option Addr} {cc : Nat} {caps : List Int} {P : Option Addr} {cp : Nat} {paths : List (List Int)} (hc : Ints w B C cc caps) (hp : Rows2 w B P cp paths) : NetAt w B (.agg #[.slice C caps.length cc, .slice P paths.length cp]) caps paths :=
  ⟨_, _, _, _, rfl, hc, hp⟩
theorem NetAt.below {w w' : World} {B D : Nat} {v : Value} {caps : List Int} {paths : List (List Int)} (h : NetAt w B v caps paths) (hb : Below D w w') (hB : B ≤ D) : NetAt w' B v caps paths := by
  obtain ⟨C, cc, P, cp, e, h1, h2⟩ := h.ex
  exact ⟨C, cc, P, cp, e, h1.below hb hB, h2.below hb hB⟩
theorem NetAt.more {w : World} {B D : Nat} {v : Value} {caps : List Int} {paths : List (List Int)} (h : NetAt w B v caps paths) (hB : B ≤ D) : NetAt w D v caps paths := by
  obtain ⟨C, cc, P, cp, e, h1, h2⟩ := h.ex
  exact ⟨C, cc, P, cp, e, h1.more hB, h2.more hB⟩
theorem NetAt.at' {w w' : World} {v : Value} {caps : List Int} {paths : List (List Int)} (h : NetAt w w.heap.size v caps paths) (hb : Below w.heap.size w w') : NetAt w' w'.heap.size v caps paths := (h.below hb (Nat.le_refl _)).more hb.size
set_option maxHeartbeats 4000000 in
set_option maxRecDepth 100000 in
theorem ncheck_in (C : Option Addr) (cc : Nat) (caps : List Int) (P : Option Addr) (cp : Nat) (paths : List (List Int)) (B : Nat) (w : World) (hB : B ≤ w.heap.size) (hc : Ints w B C cc caps) (hp : Rows2 w B P cp paths)
    (c0 : 0 < caps.length) (p0 : 0 < paths.length) (c6 : caps.length ≤ 6) (p6 : paths.length ≤ 6) :
    Calls Try.prog 47 #[.agg #[.slice C caps.length cc, .slice P paths.length cp]] w fun e w' => e = .returned (errVal (if linksErr caps = 0 then firstFrom (fun i => pathErr caps.length (paths.getD i [])) (paths.length - 0) 0 else linksErr caps)) ∧ Below w.heap.size w w' := by
  have e1 : ((caps.length : Int) == 0) = false := beq_eq_false_iff_ne.2 (by omega)
  have e2 : ((paths.length : Int) == 0) = false := beq_eq_false_iff_ne.2 (by omega)
  have e3 : decide ((6 : Int) < (caps.length : Int)) = false := decide_eq_false (by omega)
  have e4 : decide ((6 : Int) < (paths.length : Int)) = false := decide_eq_false (by omega)
  obtain ⟨v, hv⟩ : ∃ v, v = Value.agg #[.slice C caps.length cc, .slice P paths.length cp] := ⟨_, rfl⟩
  have HB0 : Hid (Below w.heap.size w (w.alloc (.cells #[.slice C caps.length cc, .slice P paths.length cp] 56))) := Lib.hid ((Below.refl _ _).alloc (Nat.le_refl _) _)
  have HC := Lib.hid (hc.below HB0.out hB)
  have HP := Lib.hid hp
  have HL := Lib.hid fun (W : World) (h : Ints W B C cc caps) => links_all C cc caps B W h
  clear hc hp hv
  by_cases hl : linksErr caps = 0
  · rw [if_pos hl]
    rw [hl, errVal_zero] at HL
    clear hl
    obtain ⟨ev, hev⟩ : ∃ ev, firstFrom (fun i => pathErr caps.length (paths.getD i [])) (paths.length - 0) 0 = ev := ⟨_, rfl⟩
    rw [hev]
    have HEV := Lib.hid hev
    clear hev
    go_enter Try.func47, Try.ntmps47
    go_wp2_with fail
    refine (HL.out _ HC.out).mono ?_; rintro e w' ⟨rfl, rfl⟩
    go_wp2
    go_loop [40] (fun i => ∃ k : Nat, k ≤ paths.length ∧ i = .int .i64 k ∧ Hid (firstFrom (fun i => pathErr caps.length (paths.getD i [])) (paths.length - k) k = ev)) (fun i => paths.length - (intOf i).toNat)
    case atStart => exact ⟨0, Nat.zero_le _, rfl, HEV⟩
    case round =>
      clear HEV
      obtain ⟨k, hk, rfl, HEV⟩ := hrel
      by_cases hlt : k < paths.length
      · obtain ⟨b, off, A', c', l, rfl, hb, hcell, hi, HX⟩ := HP.out.elem hlt
        have hs := HEV.out
        rw [firstFrom_step hlt] at hs
        have hg : paths.getD k [] = l := by simp [HX.out]
        have k0 : (0 : Int) ≤ (k : Int) := by omega
        have hp := path_all caps.length A' c' l B _ (hi.below HB0.out hB)
        have hbw : b < w.heap.size := by omega
        simp only [hg] at hs
        by_cases hz : pathErr caps.length l = 0
        · rw [if_pos hz] at hs
          rw [hz, errVal_zero] at hp
          have HQ := Lib.hid hp
          have HS := Lib.hid hs
          clear hp hs hz hg hi HX
          go_wp2_with fail
          refine HQ.out.mono ?_; rintro e w' ⟨rfl, rfl⟩
          go_wp2
          go_round
          case rel => exact ⟨k + 1, by omega, by go_num, HS⟩
          case measure => simp [intOf]; omega
        · rw [if_neg hz] at hs
          rw [hs] at hp
          rw [hs] at hz
          rw [errVal_pos hz] at hp
          have HQ := Lib.hid hp
          have HZ := Lib.hid hz
          clear hp hs hz hg hi HX
          go_wp2_with fail
          refine HQ.out.mono ?_; rintro e w' ⟨rfl, rfl⟩
          go_wp2
          go_ret
          exact ⟨by rw [errVal_pos HZ.out]; rfl, HB0.out⟩
      · obtain rfl : k = paths.length := by omega
        have hs := HEV.out
        rw [firstFrom_end] at hs
        subst hs
        go_wp2
        go_ret
        exact ⟨rfl, HB0.out⟩
  · rw [if_neg hl]
    rw [errVal_pos hl] at HL ⊢
    clear hl
    go_enter Try.func47, Try.ntmps47
    go_wp2_with fail
    refine (HL.out _ HC.out).mono ?_; rintro e w' ⟨rfl, rfl⟩
    go_wp2
    go_ret
    exact ⟨rfl, HB0.out⟩
set_option maxHeartbeats 1000000 in
theorem ncheck_all (C : Option Addr) (cc : Nat) (caps : List Int) (P : Option Addr) (cp : Nat) (paths : List (List Int)) (B : Nat) (w : World) (hB : B ≤ w.heap.size) (hc : Ints w B C cc caps) (hp : Rows2 w B P cp paths) :
    Calls Try.prog 47 #[.agg #[.slice C caps.length cc, .slice P paths.length cp]] w fun e w' => e = .returned (errVal (netErr caps paths)) ∧ Below w.heap.size w w' := by
  unfold netErr
  have hm1 := hc.le; have hm2 := hc.cap; have hm3 := hp.le; have hm4 := hp.cap
  unfold maxLen at hm2 hm4
  by_cases h0 : caps.length = 0 ∨ paths.length = 0
  · rw [if_pos h0]
    clear hc hp
    by_cases c0 : caps.length = 0
    · rw [c0]
      generalize paths.length = n at *
      go_enter Try.func47, Try.ntmps47
      go_wp2
      go_ret
      exact ⟨rfl, (Below.refl _ _).alloc (Nat.le_refl _) _⟩
    · have p0 : paths.length = 0 := by omega
      have e1 : ((caps.length : Int) == 0) = false := beq_eq_false_iff_ne.2 (by omega)
      rw [p0]
      clear h0 c0 p0
      generalize caps.length = n at *
      go_enter Try.func47, Try.ntmps47
      go_wp2
      go_ret
      exact ⟨rfl, (Below.refl _ _).alloc (Nat.le_refl _) _⟩
  · rw [if_neg h0]
    have e1 : ((caps.length : Int) == 0) = false := beq_eq_false_iff_ne.2 (by omega)
    have e2 : ((paths.length : Int) == 0) = false := beq_eq_false_iff_ne.2 (by omega)
    by_cases h6 : 6 < caps.length ∨ 6 < paths.length
    · rw [if_pos h6]
      clear hc hp
      by_cases c6 : 6 < caps.length
      · have e3 : (6 : Int) < caps.length := by omega
        clear h0 h6 c6
        generalize caps.length = m at *
        generalize paths.length = n at *
        go_enter Try.func47, Try.ntmps47
        go_wp2
        go_ret
        exact ⟨rfl, (Below.refl _ _).alloc (Nat.le_refl _) _⟩
      · have e3 : decide ((6 : Int) < (caps.length : Int)) = false := decide_eq_false (by omega)
        have e4 : (6 : Int) < paths.length := by omega
        clear h0 h6 c6
        generalize caps.length = m at *
        generalize paths.length = n at *
        go_enter Try.func47, Try.ntmps47
        go_wp2
        go_ret
        exact ⟨rfl, (Below.refl _ _).alloc (Nat.le_refl _) _⟩
    · rw [if_neg h6]
      exact ncheck_in C cc caps P cp paths B w hB hc hp (by omega) (by omega) (by omega) (by omega)
set_option maxHeartbeats 4000000 in
set_option maxRecDepth 100000 in
theorem over_any (x : Int) (Cv : Value) (P : Option Addr) (cp : Nat) (paths : List (List Int)) (B : Nat) (w : World) (hB : B ≤ w.heap.size) (hp : Rows2 w B P cp paths) (hn : paths.length ≤ 1000) :
    Calls Try.prog 79 #[.agg #[Cv, .slice P paths.length cp], .int .i64 x] w fun e w' => ∃ v, e = .returned v ∧ w'.ownsRow w.heap.size 3 1 v (users paths x).length (idxs (users paths x)) ∧ Below w.heap.size w w' := by
  have HP := Lib.hid hp
  clear hp
  go_enter Try.func79, Try.ntmps79
  go_wp2
  go_loopw [5, 11] (fun v i wr => ∃ k : Nat, k ≤ paths.length ∧ i = .int .i64 k ∧ Hid (wr.ownsRow w.heap.size 3 1 v (usersTo paths x k).length (idxs (usersTo paths x k))) ∧ Hid (Below w.heap.size w wr)) (fun _ i _ => paths.length - (intOf i).toNat)
  case atStart => exact ⟨0, Nat.zero_le _, rfl, Lib.hid (World.ownsRow_nil _ _ _ _), Lib.hid ((Below.refl _ _).alloc (Nat.le_refl _) _)⟩
  case round =>
    obtain ⟨k, hk, rfl, HO, HB⟩ := hrel
    have hsz := HB.out.size
    by_cases hlt : k < paths.length
    · obtain ⟨b, off, A', c', l, rfl, hb, hcell, hi, HX⟩ := (HP.out.below HB.out hB).elem hlt
      have k0 : (0 : Int) ≤ (k : Int) := by omega
      have hul := usersTo_le paths x k
      cases hin : inL l x
      · have HU := Lib.hid (usersTo_no HX.out hin)
        have HI := Lib.hid hi
        have HN := Lib.hid hin
        clear hi hin HX
        go_wp2_with fail
        refine (containsL_any _ _ _ _ _ _ HI.out rfl _ _ HN.out).mono ?_; rintro e w' ⟨rfl, rfl⟩
        go_wp2
        go_roundw
        case rel => exact ⟨k + 1, by omega, by go_num, by rw [HU.out]; exact HO, HB⟩
        case measure => simp [intOf]; omega
      · have HU := Lib.hid (usersTo_yes HX.out hin)
        have HI := Lib.hid hi
        have HN := Lib.hid hin
        clear hi hin HX
        go_wp2_with fail
        refine (containsL_any _ _ _ _ _ _ HI.out rfl _ _ HN.out).mono ?_; rintro e w' ⟨rfl, rfl⟩
        go_wp2_with (at_builtin; refine wpList_push wr _ rfl (.tmp 19) (.tmp 21) 38 rfl w.heap.size 3 (.int .i64 0) 1 8 Try.underlying38 Try.info_int rfl (by omega) _ _ _ rfl HO.out rfl rfl (by simp [Value.oneCell']) (by omega) (by omega) hsz ?_; intro v' w1 hown1 hg1)
        have HO1 := Lib.hid hown1
        have HB1 := Lib.hid (below_push HB.out HO.out hg1 (Nat.le_refl _) hsz)
        clear hown1 hg1
        go_wp2
        go_roundw
        case rel => exact ⟨k + 1, by omega, by go_num, by rw [HU.out]; exact Lib.hid (by simpa [idxs] using HO1.out), HB1⟩
        case measure => simp [intOf]; omega
    · obtain rfl : k = paths.length := by omega
      go_wp2
      go_ret
      exact ⟨_, rfl, HO.out, HB.out⟩
end Go.Proofs.Ythffjnfnfddpdaa
