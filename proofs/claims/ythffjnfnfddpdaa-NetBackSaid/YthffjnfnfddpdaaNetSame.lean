/- net.Users; two nets, or lists of lists, that are the same. -/
import Derived.Test.YthffjnfnfddpdaaNet2
import Derived.Test.YthffjnfnfddpdaaGap
namespace Go.Proofs.Ythffjnfnfddpdaa
open Go.RowKit
theorem own_base2 {w : World} {base base' e size n : Nat} {v : Value} {xs : List Value} (h : w.ownsRow base e size v n xs) (hb : base' ≤ base) : w.ownsRow base' e size v n xs := by
  refine ⟨h.1, ?_⟩
  rcases h.2 with h | ⟨g, cap, cur, rfl, h1, h2⟩
  · exact .inl h
  · exact .inr ⟨g, cap, cur, rfl, Nat.le_trans hb h1, h2⟩
theorem Ints.nil' (w : World) (B : Nat) : Ints w B none 0 [] := ⟨Reads.none_, Nat.le_refl _, by simp [maxLen]⟩
theorem Rows2.nil' (w : World) (B : Nat) : Rows2 w B none 0 [] := ⟨fun h => absurd h (by simp), Nat.le_refl _, by simp [maxLen]⟩
theorem sameInts_n (A A' : Option Addr) (c c' n n' : Nat) (l : List Int) (B B' : Nat) (w : World) (h : Ints w B A c l) (h' : Ints w B' A' c' l) (hn : n = l.length) (hn' : n' = l.length) :
    Calls Try.prog 38 #[.slice A n c, .slice A' n' c'] w fun e w' => e = .returned (.bool true) ∧ Below w.heap.size w w' := by
  subst hn hn'
  refine (sameInts_eq A A' c c' l B B' w h h').mono ?_
  rintro e w' ⟨rfl, n, rfl⟩
  exact ⟨rfl, below_drewN (Below.refl _ _) n⟩
theorem Rows2.drewN {w : World} {B : Nat} {A : Option Addr} {c : Nat} {L : List (List Int)} (h : Rows2 w B A c L) (n : Nat) : Rows2 (w.drewN n) B A c L := h.below (below_drewN (Below.refl B _) n) (Nat.le_refl _)
set_option maxHeartbeats 2000000 in
theorem sameLists_eq (A A' : Option Addr) (c c' : Nat) (L : List (List Int)) (B B' : Nat) (w : World) (h : Rows2 w B A c L) (h' : Rows2 w B' A' c' L) :
    Calls Try.prog 83 #[.slice A L.length c, .slice A' L.length c'] w fun e w' => e = .returned (.bool true) ∧ ∃ n, w' = w.drewN n := by
  have hm := Nat.le_trans h.le h.cap
  unfold maxLen at hm
  have H := Lib.hid h; clear h
  have H' := Lib.hid h'; clear h'
  go_enter Try.func83, Try.ntmps83
  go_wp2
  go_loopw [5] (fun i wr => ∃ k n : Nat, k ≤ L.length ∧ i = .int .i64 k ∧ wr = w.drewN n) (fun i _ => L.length - (intOf i).toNat)
  case atStart => exact ⟨0, 0, Nat.zero_le _, rfl, rfl⟩
  case round =>
    obtain ⟨k, n, hk, rfl, hwr⟩ := hrel
    have HR := Lib.hid (h := (show Rows2 wr B A c L by rw [hwr]; exact H.out.drewN n))
    have HR' := Lib.hid (h := (show Rows2 wr B' A' c' L by rw [hwr]; exact H'.out.drewN n))
    have HW := Lib.hid hwr
    clear hwr
    by_cases hlt : k < L.length
    · obtain ⟨b, off, A1, c1, l, rfl, _, hc, hi, HX⟩ := HR.out.elem hlt
      obtain ⟨b', off', A2, c2, l', rfl, _, hc', hi', HX'⟩ := HR'.out.elem hlt
      obtain rfl : l = l' := Option.some.inj (HX.out.symm.trans HX'.out)
      have k0 : (0 : Int) ≤ (k : Int) := by omega
      have k1 : (k : Int) < L.length := by omega
      have HI := Lib.hid hi
      have HI' := Lib.hid hi'
      clear HX HX' hi hi'
      go_wp2
      go_quiet ((go_at_call 38; exact sameInts_quiet (sameInts_eq A1 A2 c1 c2 l _ _ _ (HI.out.drewN _) (HI'.out.drewN _))))
      go_wp2
      go_roundw
      case rel => exact ⟨k + 1, n + nq, by omega, by go_num, by rw [HW.out, World.drewN_drewN]⟩
      case measure => simp [intOf]; omega
    · go_wp2
      go_ret
      exact ⟨rfl, n, HW.out⟩
theorem sameLists_n (A A' : Option Addr) (c c' n n' : Nat) (L : List (List Int)) (B B' : Nat) (w : World) (h : Rows2 w B A c L) (h' : Rows2 w B' A' c' L) (hn : n = L.length) (hn' : n' = L.length) :
    Calls Try.prog 83 #[.slice A n c, .slice A' n' c'] w fun e w' => e = .returned (.bool true) ∧ Below w.heap.size w w' := by
  subst hn hn'
  refine (sameLists_eq A A' c c' L B B' w h h').mono ?_
  rintro e w' ⟨rfl, n, rfl⟩
  exact ⟨rfl, below_drewN (Below.refl _ _) n⟩
set_option maxHeartbeats 2000000 in
theorem sameNet_n (C C' P P' : Option Addr) (cc cc' cp cp' m m' n n' : Nat) (caps : List Int) (L : List (List Int)) (B B' : Nat) (w : World) (hc : Ints w B C cc caps) (hc' : Ints w B' C' cc' caps) (hp : Rows2 w B P cp L) (hp' : Rows2 w B' P' cp' L)
    (hB : B ≤ w.heap.size) (hB' : B' ≤ w.heap.size) (h1 : m = caps.length) (h2 : m' = caps.length) (h3 : n = L.length) (h4 : n' = L.length) :
    Calls Try.prog 37 #[.agg #[.slice C m cc, .slice P n cp], .agg #[.slice C' m' cc', .slice P' n' cp']] w fun e w' => e = .returned (.bool true) ∧ Below w.heap.size w w' := by
  have HB0 := Lib.hid (((Below.refl w.heap.size w).alloc (Nat.le_refl _) (.cells #[.slice C m cc, .slice P n cp] 56)).alloc (by simp) (.cells #[.slice C' m' cc', .slice P' n' cp'] 56))
  have HX := Lib.hid ((Blk.new w 56 #[.slice C m cc, .slice P n cp]).alloc (.cells #[.slice C' m' cc', .slice P' n' cp'] 56))
  have HY := Lib.hid (Blk.new' (w.alloc (.cells #[.slice C m cc, .slice P n cp] 56)) 56 #[.slice C' m' cc', .slice P' n' cp'] (g := w.heap.size + 1) (by simp))
  have H1 := Lib.hid (sameInts_n C C' cc cc' m m' caps B B' _ (hc.below HB0.out hB) (hc'.below HB0.out hB') h1 h2)
  have HP := Lib.hid hp
  have HP' := Lib.hid hp'
  have H3 := Lib.hid h3
  have H4 := Lib.hid h4
  clear hc hc' hp hp' h1 h2 h3 h4
  go_enter Try.func37, Try.ntmps37
  go_wp2_with fail
  refine H1.out.mono ?_; rintro e w1 ⟨rfl, hb1⟩
  have HX1 := Lib.hid (HX.out.go hb1)
  have HY1 := Lib.hid (HY.out.go hb1)
  have HB1 := Lib.hid (HB0.out.trans (hb1.mono HB0.out.size))
  obtain ⟨x0, x1, _, _, xz⟩ := HX1.out.two
  obtain ⟨y0, y1, _, _, yz⟩ := HY1.out.two
  clear hb1 H1
  go_wp2_with fail
  refine (sameLists_n P P' cp cp' n n' L B B' _ (HP.out.below HB1.out hB) (HP'.out.below HB1.out hB') H3.out H4.out).mono ?_; rintro e w2 ⟨rfl, hb2⟩
  have HB2 := Lib.hid (HB1.out.trans (hb2.mono HB1.out.size))
  clear hb2
  go_wp2
  go_ret
  exact ⟨rfl, HB2.out⟩
def usersErr (caps : List Int) (paths : List (List Int)) (link : Int) : Int := if netErr caps paths = 0 then (if link < 0 ∨ (caps.length : Int) ≤ link then 1 else 0) else netErr caps paths
set_option maxHeartbeats 2000000 in
theorem users_no (C : Option Addr) (cc : Nat) (caps : List Int) (P : Option Addr) (cp : Nat) (paths : List (List Int)) (link : Int) (B : Nat) (w : World) (er : Int) (hB : B ≤ w.heap.size)
    (hc : Ints w B C cc caps) (hp : Rows2 w B P cp paths) (he : usersErr caps paths link = er) (h0 : er ≠ 0) :
    Calls Try.prog 34 #[.agg #[.slice C caps.length cc, .slice P paths.length cp], .int .i64 link] w fun e w' => e = .returned (.tuple #[.slice none 0 0, .iface 103 (.int .i64 er)]) ∧ Below w.heap.size w w' := by
  have HB0 := Lib.hid ((Below.refl w.heap.size w).alloc (Nat.le_refl _) (.cells #[.slice C caps.length cc, .slice P paths.length cp] 56))
  have HX := Lib.hid (Blk.new w 56 #[.slice C caps.length cc, .slice P paths.length cp])
  have HCK := Lib.hid (ncheck_all C cc caps P cp paths B _ (by simp; omega) (hc.below HB0.out hB) (hp.below HB0.out hB))
  clear hc hp
  unfold usersErr at he
  by_cases h1 : netErr caps paths = 0
  · rw [if_pos h1] at he
    rw [h1, errVal_zero] at HCK
    clear h1
    by_cases hf : link < 0 ∨ (caps.length : Int) ≤ link
    · rw [if_pos hf] at he
      subst he
      clear h0
      have hf' : link < 0 ∨ (¬ link < 0 ∧ (caps.length : Int) ≤ link) := by omega
      clear hf
      rcases hf' with hf | ⟨hf0, hf⟩
      all_goals
        go_enter Try.func34, Try.ntmps34
        go_wp2_with fail
        refine HCK.out.mono ?_; rintro e w1 ⟨rfl, hb1⟩
        have HX1 := Lib.hid (HX.out.go hb1)
        have HB1 := Lib.hid (HB0.out.trans (hb1.mono HB0.out.size))
        obtain ⟨x0, x1, _, _, xz⟩ := HX1.out.two
        clear hb1 HCK
        go_wp2
        go_ret2
        exact ⟨rfl, HB1.out⟩
    · rw [if_neg hf] at he; exact absurd he.symm h0
  · rw [if_neg h1] at he
    rw [he, errVal_pos h0] at HCK
    clear h1 he h0
    go_enter Try.func34, Try.ntmps34
    go_wp2_with fail
    refine HCK.out.mono ?_; rintro e w1 ⟨rfl, hb1⟩
    have HB1 := Lib.hid (HB0.out.trans (hb1.mono HB0.out.size))
    clear hb1 HCK
    go_wp2
    go_ret2
    exact ⟨rfl, HB1.out⟩
set_option maxHeartbeats 2000000 in
theorem users_yes (C : Option Addr) (cc : Nat) (caps : List Int) (P : Option Addr) (cp : Nat) (paths : List (List Int)) (link : Int) (B : Nat) (w : World) (hB : B ≤ w.heap.size)
    (hc : Ints w B C cc caps) (hp : Rows2 w B P cp paths) (he : usersErr caps paths link = 0) :
    Calls Try.prog 34 #[.agg #[.slice C caps.length cc, .slice P paths.length cp], .int .i64 link] w fun e w' => ∃ v, e = .returned (.tuple #[v, .nilIface]) ∧ w'.ownsRow w.heap.size 3 1 v (users paths link).length (idxs (users paths link)) ∧ Below w.heap.size w w' := by
  have HB0 := Lib.hid ((Below.refl w.heap.size w).alloc (Nat.le_refl _) (.cells #[.slice C caps.length cc, .slice P paths.length cp] 56))
  have HX := Lib.hid (Blk.new w 56 #[.slice C caps.length cc, .slice P paths.length cp])
  have HCK := Lib.hid (ncheck_all C cc caps P cp paths B _ (by simp; omega) (hc.below HB0.out hB) (hp.below HB0.out hB))
  have HP := Lib.hid hp
  unfold usersErr at he
  have h1 : netErr caps paths = 0 := by
    apply Decidable.byContradiction; intro h; rw [if_neg h] at he; exact h he
  rw [if_pos h1] at he
  rw [h1, errVal_zero] at HCK
  obtain ⟨k0, k1, k2, k3, _, _⟩ := netErr_ok h1
  have hl : ¬ (link < 0 ∨ (caps.length : Int) ≤ link) := by
    intro h; rw [if_pos h] at he; exact absurd he (by decide)
  have l0 : ¬ link < 0 := by omega
  have l1 : decide ((caps.length : Int) ≤ link) = false := decide_eq_false (by omega)
  clear hc hp he h1 hl
  go_enter Try.func34, Try.ntmps34
  go_wp2_with fail
  refine HCK.out.mono ?_; rintro e w1 ⟨rfl, hb1⟩
  have HX1 := Lib.hid (HX.out.go hb1)
  have HB1 := Lib.hid (HB0.out.trans (hb1.mono HB0.out.size))
  obtain ⟨x0, x1, _, _, xz⟩ := HX1.out.two
  clear hb1 HCK
  have hsz := HB1.out.size
  go_wp2_with fail
  refine (over_any link _ P cp paths B w1 (Nat.le_trans hB hsz) (HP.out.below HB1.out hB) (by omega)).mono ?_; rintro e w2 ⟨v, rfl, hv, hb2⟩
  have HV := Lib.hid (show w2.ownsRow w.heap.size 3 1 v (users paths link).length (idxs (users paths link)) from own_base2 hv hsz)
  have HB2 := Lib.hid (HB1.out.trans (hb2.mono hsz))
  clear hv hb2
  go_wp2
  go_ret2
  exact ⟨v, rfl, HV.out, HB2.out⟩
end Go.Proofs.Ythffjnfnfddpdaa
