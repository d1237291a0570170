/- want.check: what is wrong with a net, and wants. -/
import Derived.Test.YtblanfaghnflkaaDoorGrow
import Derived.Test.YtblanfaghnflkaaDoorWantOwn
namespace Go.Proofs.YtblanfaghnflkaaDoor
open Go.RowKit
theorem want1_any (x : Int) (w : World) : Calls Tryd.prog 126 #[.int .i64 x] w fun e w' => e = .returned (.bool (badCap x)) ∧ w = w' := by
  unfold badCap
  by_cases h : x < 1
  · have : decide (x < 1) = true := decide_eq_true h
    rw [this, Bool.true_or]
    go_enter Tryd.func126, Tryd.ntmps126
    go_wp2
    go_ret
    exact ⟨rfl, rfl⟩
  · have e1 : decide (x < 1) = false := decide_eq_false h
    rw [e1, Bool.false_or]
    obtain ⟨b, hb⟩ : ∃ b, decide (1000 < x) = b := ⟨_, rfl⟩
    rw [hb]
    go_enter Tryd.func126, Tryd.ntmps126
    go_wp2
    go_ret
    exact ⟨rfl, rfl⟩
set_option maxHeartbeats 2000000 in
theorem wcheck_er (C : Option Addr) (cc : Nat) (caps : List Int) (P : Option Addr) (cp : Nat) (paths : List (List Int)) (A : Option Addr) (c : Nat) (want : List Int) (B : Nat) (w : World) (er : Int) (hB : B ≤ w.heap.size)
    (hc : Ints w B C cc caps) (hp : Rows2 w B P cp paths) (hi : Ints w B A c want) (he : wantsErr caps paths want = er) (h0 : er ≠ 0) :
    Calls Tryd.prog 109 #[.agg #[.slice C caps.length cc, .slice P paths.length cp], .slice A want.length c] w fun e w' => e = .returned (.iface 119 (.int .i64 er)) ∧ Below w.heap.size w w' := by
  have HB0 : Hid (Below w.heap.size w (w.alloc (.cells #[.slice C caps.length cc, .slice P paths.length cp] 43))) := Lib.hid ((Below.refl _ _).alloc (Nat.le_refl _) _)
  have HN0 := Lib.hid (Blk.new w 43 #[.slice C caps.length cc, .slice P paths.length cp])
  unfold wantsErr at he
  by_cases h1 : netErr caps paths = 0
  · rw [if_pos h1] at he
    have HA := Lib.hid (ncheck_ok C cc caps P cp paths B (w.alloc (.cells #[.slice C caps.length cc, .slice P paths.length cp] 43)) (by simp; omega) (hc.below HB0.out hB) (hp.below HB0.out hB) h1)
    clear h1 hc hp
    by_cases hl : want.length = paths.length
    · rw [if_pos hl] at he
      have hb : want.any badCap = true := by
        cases hb : want.any badCap
        · rw [hb] at he; exact absurd he.symm h0
        · rfl
      have HCF := Lib.hid (fun (W : World) (hW : Below w.heap.size w W) => contains_any A c want B W (hi.below hW hB) 126 #[] badCap (fun _ _ => by kernel_rfl) fun x _ => want1_any x W)
      rw [hb] at HCF he
      rw [if_pos rfl] at he
      subst he
      have hd : ((want.length : Int) != (paths.length : Int)) = false := by rw [hl]; simp
      clear hi h0 hl hb
      go_enter Tryd.func109, Tryd.ntmps109
      go_wp2_with fail
      refine HA.out.mono ?_; rintro e w1 ⟨rfl, hb1⟩
      have HB1 := Lib.hid (HB0.out.trans (hb1.mono HB0.out.size)); have HN1 := Lib.hid (HN0.out.go hb1)
      obtain ⟨n0, n1, _, _, nz⟩ := HN1.out.two
      clear hb1
      go_wp2_with fail
      refine (HCF.out _ HB1.out).mono ?_; rintro e w' ⟨rfl, rfl⟩
      go_wp2
      go_ret
      exact ⟨rfl, HB1.out⟩
    · rw [if_neg hl] at he
      subst he
      have hd : ((want.length : Int) != (paths.length : Int)) = true := by rw [bne_iff_ne]; omega
      clear hi h0 hl
      go_enter Tryd.func109, Tryd.ntmps109
      go_wp2_with fail
      refine HA.out.mono ?_; rintro e w1 ⟨rfl, hb1⟩
      have HB1 := Lib.hid (HB0.out.trans (hb1.mono HB0.out.size)); have HN1 := Lib.hid (HN0.out.go hb1)
      obtain ⟨n0, n1, _, _, nz⟩ := HN1.out.two
      clear hb1
      go_wp2
      go_ret
      exact ⟨rfl, HB1.out⟩
  · rw [if_neg h1] at he
    have HA := Lib.hid (ncheck_er C cc caps P cp paths B (w.alloc (.cells #[.slice C caps.length cc, .slice P paths.length cp] 43)) er (by simp; omega) (hc.below HB0.out hB) (hp.below HB0.out hB) he h0)
    clear hc hp hi he h0 h1 HN0
    go_enter Tryd.func109, Tryd.ntmps109
    go_wp2_with fail
    refine HA.out.mono ?_; rintro e w1 ⟨rfl, hb1⟩
    have HB1 := Lib.hid (HB0.out.trans (hb1.mono HB0.out.size))
    clear hb1
    go_wp2
    go_ret
    exact ⟨rfl, HB1.out⟩
set_option maxHeartbeats 2000000 in
theorem wcheck_ok (C : Option Addr) (cc : Nat) (caps : List Int) (P : Option Addr) (cp : Nat) (paths : List (List Int)) (A : Option Addr) (c : Nat) (want : List Int) (B : Nat) (w : World) (hB : B ≤ w.heap.size)
    (hc : Ints w B C cc caps) (hp : Rows2 w B P cp paths) (hi : Ints w B A c want) (he : wantsErr caps paths want = 0) :
    Calls Tryd.prog 109 #[.agg #[.slice C caps.length cc, .slice P paths.length cp], .slice A want.length c] w fun e w' => e = .returned .nilIface ∧ Below w.heap.size w w' := by
  have HB0 : Hid (Below w.heap.size w (w.alloc (.cells #[.slice C caps.length cc, .slice P paths.length cp] 43))) := Lib.hid ((Below.refl _ _).alloc (Nat.le_refl _) _)
  have HN0 := Lib.hid (Blk.new w 43 #[.slice C caps.length cc, .slice P paths.length cp])
  obtain ⟨h1, hl, _⟩ := wants_ok he
  have hb : want.any badCap = false := by
    unfold wantsErr at he
    rw [if_pos h1, if_pos hl] at he
    cases hb : want.any badCap
    · rfl
    · rw [hb] at he; exact absurd he (by decide)
  have HA := Lib.hid (ncheck_ok C cc caps P cp paths B (w.alloc (.cells #[.slice C caps.length cc, .slice P paths.length cp] 43)) (by simp; omega) (hc.below HB0.out hB) (hp.below HB0.out hB) h1)
  have HCF := Lib.hid (fun (W : World) (hW : Below w.heap.size w W) => contains_any A c want B W (hi.below hW hB) 126 #[] badCap (fun _ _ => by kernel_rfl) fun x _ => want1_any x W)
  rw [hb] at HCF
  have hd : ((want.length : Int) != (paths.length : Int)) = false := by rw [hl]; simp
  clear hc hp hi he h1 hl hb
  go_enter Tryd.func109, Tryd.ntmps109
  go_wp2_with fail
  refine HA.out.mono ?_; rintro e w1 ⟨rfl, hb1⟩
  have HB1 := Lib.hid (HB0.out.trans (hb1.mono HB0.out.size)); have HN1 := Lib.hid (HN0.out.go hb1)
  obtain ⟨n0, n1, _, _, nz⟩ := HN1.out.two
  clear hb1
  go_wp2_with fail
  refine (HCF.out _ HB1.out).mono ?_; rintro e w' ⟨rfl, rfl⟩
  go_wp2
  go_ret
  exact ⟨rfl, HB1.out⟩
end Go.Proofs.YtblanfaghnflkaaDoor
