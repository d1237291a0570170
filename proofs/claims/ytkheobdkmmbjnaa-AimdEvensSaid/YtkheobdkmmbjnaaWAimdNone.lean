/- The walk of AimdNone: it returns true for every input. -/
import Derived.Test.YtkheobdkmmbjnaaAimdAll
import Derived.Test.YtkheobdkmmbjnaaGap
namespace Go.Proofs.Ytkheobdkmmbjnaa
open Go.RowKit
attribute [local go_sem ↓] run_min_mn run_max_mx
theorem ares_ok {l : List Int} {limit up t : Int} {m : List Int} {b : Nat} (h : ARes l limit up t = .ok (m, b)) : AimdOk l limit up ∧ 0 ≤ t ∧ t ≤ 60 ∧ PA.steps limit up t.toNat l = some (m, b) := by
  unfold ARes at h
  split at h
  · cases h
  · rename_i ht
    split at h
    · cases h
    · rename_i ok
      refine ⟨Classical.not_not.1 ok, by omega, by omega, ?_⟩
      cases hs : PA.steps limit up t.toNat l with
      | none => rw [hs] at h; cases h
      | some r => rw [hs] at h; cases h; rfl
theorem ares_zero {l : List Int} {limit up : Int} {m : List Int} {b : Nat} (h : ARes l limit up 0 = .ok (m, b)) : AimdOk l limit up ∧ m = l ∧ b = 0 := by
  obtain ⟨ok, _, _, hs⟩ := ares_ok h
  simp [PA.steps] at hs
  exact ⟨ok, hs.1.symm, hs.2.symm⟩
theorem ares_one {l : List Int} {limit up : Int} (ok : AimdOk l limit up) : ARes l limit up 1 = match PA.step l limit up with | none => .error 4 | some (m, b) => .ok (m, if b then 1 else 0) := by
  unfold ARes
  rw [if_neg (by omega), if_neg (fun h => h ok)]
  show (match PA.steps limit up 1 l with | none => _ | some r => _) = _
  simp only [PA.steps]
  cases PA.step l limit up with
  | none => rfl
  | some r => rfl
theorem sres_ok {l : List Int} {limit up : Int} (ok : AimdOk l limit up) : SRes l limit up = match PA.step l limit up with | none => .error 4 | some (m, b) => .ok (m, b) := by
  unfold SRes
  rw [if_neg (fun h => h ok)]
  cases PA.step l limit up <;> rfl
theorem ares_zero' {l : List Int} {limit up : Int} (ok : AimdOk l limit up) : ARes l limit up 0 = .ok (l, 0) := by
  unfold ARes
  rw [if_neg (by omega), if_neg (fun h => h ok)]
  rfl
/-- what Run and Step say of one step -/
theorem one_alike {l m1 m2 : List Int} {limit up : Int} {b1 : Nat} {b2 : Bool} (h1 : ARes l limit up 1 = .ok (m1, b1)) (h2 : SRes l limit up = .ok (m2, b2)) : m1 = m2 := by
  have ok := (ares_ok h1).1
  rw [ares_one ok] at h1; rw [sres_ok ok] at h2
  cases hs : PA.step l limit up with
  | none => rw [hs] at h1; cases h1
  | some r => rw [hs] at h1 h2; cases h1; cases h2; rfl
theorem one_err {l m : List Int} {limit up er : Int} {b : Nat} (h1 : ARes l limit up 1 = .ok (m, b)) (h2 : SRes l limit up = .error er) : False := by
  have ok := (ares_ok h1).1
  rw [ares_one ok] at h1; rw [sres_ok ok] at h2
  cases hs : PA.step l limit up with
  | none => rw [hs] at h1; cases h1
  | some r => rw [hs] at h2; cases h2
theorem one_err' {l m : List Int} {limit up er : Int} {b : Bool} (ok : AimdOk l limit up) (h1 : ARes l limit up 1 = .error er) (h2 : SRes l limit up = .ok (m, b)) : False := by
  rw [ares_one ok] at h1; rw [sres_ok ok] at h2
  cases hs : PA.step l limit up with
  | none => rw [hs] at h2; cases h2
  | some r => rw [hs] at h1; cases h1
theorem no_none {l : List Int} {limit up er : Int} (h : ARes l limit up 0 = .error er) : ¬ AimdOk l limit up := fun ok => by rw [ares_zero' ok] at h; cases h
set_option maxHeartbeats 1000000 in
set_option maxRecDepth 100000 in
theorem aimdNone_walk (A : Option Addr) (cp : Nat) (l : List Int) (w : World) (hi : Ints w w.heap.size A cp l) (_ : ∀ n ∈ l, (Lit.int .i64 n).wf = true) (limit : Int) (_ : (Lit.int .i64 limit).wf = true) (up : Int) (_ : (Lit.int .i64 up).wf = true) :
    Calls Try.prog 13 #[.slice A l.length cp, .int .i64 limit, .int .i64 up] w fun e w' => e = .returned (.bool true) ∧ Below w.heap.size w w' := by
  have HI := Lib.hid hi; clear hi
  go_enter Try.func13, Try.ntmps13
  go_wp2_with fail
  refine (aRun_all A cp l limit up 0 w HI.out).mono ?_
  rintro e w1 ⟨hb1, ⟨m0, b0, hA0, v0, rfl, ho0⟩ | ⟨er0, hA0, rfl⟩⟩
  · obtain ⟨ok, rfl, rfl⟩ := ares_zero hA0
    have HO0 := Lib.hid ho0
    have HK := Lib.hid ok
    clear hA0 ho0 ok
    go_wp2_with fail
    refine (aRun_all A cp m0 limit up 1 w1 ((HI.out.below hb1 (Nat.le_refl _)).more hb1.size)).mono ?_
    rintro e w2 ⟨hb2, h2⟩
    have hw2 := hb1.trans (hb2.mono hb1.size)
    have HO0 := Lib.hid (own_below HO0.out hb2)
    rcases h2 with ⟨m1, b1, hA1, v1, rfl, ho1⟩ | ⟨er1, hA1, rfl⟩
    · have HO1 := Lib.hid ho1; clear ho1
      go_wp2_with fail
      refine (aStep_all A cp m0 limit up w2 ((HI.out.below hw2 (Nat.le_refl _)).more hw2.size)).mono ?_
      rintro e w3 ⟨hb3, h3⟩
      have hw3 := hw2.trans (hb3.mono hw2.size)
      have HO0 := Lib.hid (own_below HO0.out hb3)
      have HO1 := Lib.hid (own_below HO1.out hb3)
      rcases h3 with ⟨m2, b2, hA2, v2, rfl, ho2⟩ | ⟨er2, hA2, rfl⟩
      · obtain rfl := one_alike hA1 hA2
        have HO2 := Lib.hid ho2; clear ho2 hA1 hA2
        go_wp2_with fail
        refine (cuts_all A cp m0 limit up 0 w3 ((HI.out.below hw3 (Nat.le_refl _)).more hw3.size)).mono ?_
        rintro e w4 ⟨hb4, ⟨m4, b4, hA4, rfl⟩ | ⟨er4, hA4, rfl⟩⟩
        · obtain ⟨_, _, rfl⟩ := ares_zero hA4
          have hw4 := hw3.trans (hb4.mono hw3.size)
          obtain ⟨A0, c0, rfl, hn0, hi0⟩ := owns_ints (own_below HO0.out hb4)
          obtain ⟨A1, c1, rfl, hn1, hi1⟩ := owns_ints (own_below HO1.out hb4)
          obtain ⟨A2, c2, rfl, hn2, hi2⟩ := owns_ints (own_below HO2.out hb4)
          have I0 := Lib.hid hi0
          have I1 := Lib.hid hi1
          have I2 := Lib.hid hi2
          have IL := Lib.hid (HI.out.below hw4 (Nat.le_refl _))
          clear hi0 hi1 hi2 hA4 HO0 HO1 HO2 hn0 hn1 hn2
          go_wp2_with fail
          go_quiet (first | (go_at_call 38; with_reducible exact sameInts_quiet (sameInts_eq A0 A c0 cp m0 _ _ _ (I0.out.drewN _) (IL.out.drewN _))) | (go_at_call 38; with_reducible exact sameInts_quiet (sameInts_eq A1 A2 c1 c2 m1 _ _ _ (I1.out.drewN _) (I2.out.drewN _))))
          go_wp2
          go_ret
          exact ⟨rfl, below_drewN hw4 _⟩
        · exact absurd HK.out (no_none hA4)
      · exact (one_err hA1 hA2).elim
    · go_wp2_with fail
      refine (aStep_all A cp m0 limit up w2 ((HI.out.below hw2 (Nat.le_refl _)).more hw2.size)).mono ?_
      rintro e w3 ⟨hb3, h3⟩
      have hw3 := hw2.trans (hb3.mono hw2.size)
      have HO0 := Lib.hid (own_below HO0.out hb3)
      rcases h3 with ⟨m2, b2, hA2, v2, rfl, ho2⟩ | ⟨er2, hA2, rfl⟩
      · exact (one_err' HK.out hA1 hA2).elim
      · clear hA1 hA2
        go_wp2_with fail
        refine (cuts_all A cp m0 limit up 0 w3 ((HI.out.below hw3 (Nat.le_refl _)).more hw3.size)).mono ?_
        rintro e w4 ⟨hb4, ⟨m4, b4, hA4, rfl⟩ | ⟨er4, hA4, rfl⟩⟩
        · obtain ⟨_, _, rfl⟩ := ares_zero hA4
          have hw4 := hw3.trans (hb4.mono hw3.size)
          obtain ⟨A0, c0, rfl, hn0, hi0⟩ := owns_ints (own_below HO0.out hb4)
          have I0 := Lib.hid hi0
          have IL := Lib.hid (HI.out.below hw4 (Nat.le_refl _))
          clear hi0 hA4 HO0 hn0
          go_wp2_with fail
          go_quiet (first | (go_at_call 38; with_reducible exact sameInts_quiet (sameInts_eq A0 A c0 cp m0 _ _ _ (I0.out.drewN _) (IL.out.drewN _))) | (go_at_call 38; with_reducible exact sameInts_quiet (sameInts_eq none none 0 0 [] 0 0 _ ⟨Reads.none_, Nat.le_refl _, by simp⟩ ⟨Reads.none_, Nat.le_refl _, by simp⟩)))
          go_wp2
          go_ret
          exact ⟨rfl, below_drewN hw4 _⟩
        · exact absurd HK.out (no_none hA4)
  · have no := no_none hA0
    go_wp2_with fail
    refine (aRun_all A cp l limit up 1 w1 ((HI.out.below hb1 (Nat.le_refl _)).more hb1.size)).mono ?_
    rintro e w2 ⟨hb2, h2⟩
    have hw2 := hb1.trans (hb2.mono hb1.size)
    rcases h2 with ⟨m1, b1, hA1, v1, rfl, ho1⟩ | ⟨er1, hA1, rfl⟩
    · exact absurd (ares_ok hA1).1 no
    · clear hA1 hA0
      go_wp2_with fail
      refine (aStep_all A cp l limit up w2 ((HI.out.below hw2 (Nat.le_refl _)).more hw2.size)).mono ?_
      rintro e w3 ⟨hb3, h3⟩
      have hw3 := hw2.trans (hb3.mono hw2.size)
      rcases h3 with ⟨m2, b2, hA2, v2, rfl, ho2⟩ | ⟨er2, hA2, rfl⟩
      · unfold SRes at hA2
        rw [if_pos no] at hA2; cases hA2
      · clear hA2
        go_wp2
        go_ret
        exact ⟨rfl, hw3⟩
end Go.Proofs.Ytkheobdkmmbjnaa
