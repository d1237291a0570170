/- Package net: what is wrong; who goes over a link. -/
import Derived.Test.YthffjnfnfddpdaaPlNet
import Derived.Test.YthffjnfnfddpdaaRows2
import Derived.Test.YthffjnfnfddpdaaErr
import Derived.Test.YthffjnfnfddpdaaSort
namespace Go.Proofs.Ythffjnfnfddpdaa
open Go.RowKit
set_option maxHeartbeats 400000 in
set_option maxRecDepth 100000 in
theorem index_any (A : Option Addr) (c : Nat) (l : List Int) (B : Nat) (w : World) (h : Ints w B A c l) (x : Int) :
    Calls Try.prog 109 #[.slice A l.length c, .int .i64 x] w fun e w' => ∃ j : Int, e = .returned (.int .i64 j) ∧ Hid (decide (0 ≤ j) = inL l x) ∧ w = w' := by
  have H := Lib.hid h
  have hm := h.cap
  have hl := h.le
  clear h
  unfold maxLen at hm
  go_enter Try.func109, Try.ntmps109
  go_wp2
  go_loop [8] (fun i => ∃ k : Nat, k ≤ l.length ∧ i = .int .i64 k ∧ Hid (inL (l.take k) x = false)) (fun i => l.length - (intOf i).toNat)
  case atStart => exact ⟨0, Nat.zero_le _, rfl, Lib.hid (by simp [inL])⟩
  case round =>
    obtain ⟨k, hk, rfl, HN⟩ := hrel
    by_cases hlt : k < l.length
    · obtain ⟨b, off, a, rfl, _, hc, _, HT, HX⟩ := H.out.elem hlt
      have k0 : (0 : Int) ≤ (k : Int) := by omega
      have HP := inL_take (x := x) HT.out
      rw [HN.out] at HP
      clear HT HX
      by_cases hax : x = a
      · subst hax
        have HQ : Hid (inL l x = true) := Lib.hid (inL_of_take (k := k + 1) (by rw [HP]; simp))
        clear HP
        go_wp2
        go_ret
        exact ⟨_, rfl, Lib.hid (by rw [HQ.out]; simp), rfl⟩
      · have hb : (x == a) = false := beq_eq_false_iff_ne.2 hax
        have hb2 : (a == x) = false := beq_eq_false_iff_ne.2 fun e => hax e.symm
        rw [hb2] at HP
        have HQ : Hid (inL (l.take (k + 1)) x = false) := Lib.hid HP
        clear HP hax hb2
        go_wp2
        go_round
        case rel => exact ⟨k + 1, by omega, by go_num, HQ⟩
        case measure => simp [intOf]; omega
    · have HQ : Hid (inL l x = false) := Lib.hid (by have := HN.out; rwa [List.take_of_length_le (by omega)] at this)
      go_wp2
      go_ret
      exact ⟨_, rfl, Lib.hid (by rw [HQ.out]; rfl), rfl⟩
theorem containsL_any (A : Option Addr) (c n : Nat) (l : List Int) (B : Nat) (w : World) (h : Ints w B A c l) (hn : n = l.length) (x : Int) (bb : Bool) (hb : inL l x = bb) :
    Calls Try.prog 95 #[.slice A n c, .int .i64 x] w fun e w' => e = .returned (.bool bb) ∧ w = w' := by
  subst hb hn
  have HI := Lib.hid (index_any A c l B w h x)
  clear h
  go_enter Try.func95, Try.ntmps95
  go_wp2_with fail
  refine HI.out.mono ?_; rintro e w' ⟨j, rfl, hj, rfl⟩
  go_wp2
  go_ret
  exact ⟨by rw [← hj.out]; rfl, rfl⟩
theorem links1_any (x : Int) (w : World) : Calls Try.prog 106 #[.int .i64 x] w fun e w' => e = .returned (.bool (badCap x)) ∧ w = w' := by
  unfold badCap
  by_cases h : x < 1
  · have : decide (x < 1) = true := decide_eq_true h
    rw [this, Bool.true_or]
    go_enter Try.func106, Try.ntmps106
    go_wp2
    go_ret
    exact ⟨rfl, rfl⟩
  · have e1 : decide (x < 1) = false := decide_eq_false h
    rw [e1, Bool.false_or]
    obtain ⟨b, hb⟩ : ∃ b, decide (1000 < x) = b := ⟨_, rfl⟩
    rw [hb]
    go_enter Try.func106, Try.ntmps106
    go_wp2
    go_ret
    exact ⟨rfl, rfl⟩
set_option maxHeartbeats 1000000 in
theorem links_all (A : Option Addr) (c : Nat) (l : List Int) (B : Nat) (w : World) (h : Ints w B A c l) :
    Calls Try.prog 90 #[.slice A l.length c] w fun e w' => e = .returned (errVal (linksErr l)) ∧ w = w' := by
  unfold linksErr
  by_cases h0 : l.length = 0
  · rw [if_pos h0, h0]
    clear h
    go_enter Try.func90, Try.ntmps90
    go_wp2
    go_ret
    exact ⟨rfl, rfl⟩
  · rw [if_neg h0]
    have hc := h.le
    have hm := h.cap
    unfold maxLen at hm
    have e1 : ((l.length : Int) == 0) = false := beq_eq_false_iff_ne.2 (by omega)
    have e3 : ¬ (l.length : Int) = 0 := by omega
    by_cases h6 : 6 < l.length
    · rw [if_pos h6]
      clear h
      have e2 : (6 : Int) < l.length := by omega
      clear h6
      generalize l.length = n at *
      go_enter Try.func90, Try.ntmps90
      go_wp2
      go_ret
      exact ⟨rfl, rfl⟩
    · rw [if_neg h6]
      have e2 : decide ((6 : Int) < (l.length : Int)) = false := decide_eq_false (by omega)
      obtain ⟨b, hb⟩ : ∃ b, l.any badCap = b := ⟨_, rfl⟩
      have HC := Lib.hid (contains_any A c l B w h 106 #[] badCap (fun _ _ => by kernel_rfl) fun x _ => links1_any x w)
      rw [hb] at HC ⊢
      clear h hb
      cases b
      · go_enter Try.func90, Try.ntmps90
        go_wp2_with fail
        refine HC.out.mono ?_; rintro e w' ⟨rfl, rfl⟩
        go_wp2
        go_ret
        exact ⟨rfl, rfl⟩
      · go_enter Try.func90, Try.ntmps90
        go_wp2_with fail
        refine HC.out.mono ?_; rintro e w' ⟨rfl, rfl⟩
        go_wp2
        go_ret
        exact ⟨rfl, rfl⟩
theorem Ints.take {w : World} {B : Nat} {A : Option Addr} {c : Nat} {l : List Int} (h : Ints w B A c l) {k c' : Nat} (hk : k ≤ l.length) (hc : k ≤ c') (hm : c' ≤ maxLen) : Ints w B A c' (l.take k) := by
  have e : (l.take k).length = k := by rw [List.length_take]; omega
  refine ⟨⟨by simp, fun hn => ?_⟩, by rw [e]; exact hc, hm⟩
  rw [e] at hn
  obtain ⟨b, off, rfl, hb, hcell⟩ := h.rd.2 (by omega)
  refine ⟨b, off, rfl, hb, fun j u hu => hcell j u ?_⟩
  rw [List.map_take] at hu
  have hj : j < k := by have := (List.getElem?_eq_some_iff.1 hu).1; rw [List.length_take] at this; omega
  rwa [List.getElem?_take_of_lt hj] at hu
set_option maxHeartbeats 2000000 in
set_option maxRecDepth 100000 in
theorem path_all (n : Int) (A : Option Addr) (c : Nat) (l : List Int) (B : Nat) (w : World) (h : Ints w B A c l) :
    Calls Try.prog 80 #[.int .i64 n, .slice A l.length c] w fun e w' => e = .returned (errVal (pathErr n l)) ∧ w = w' := by
  unfold pathErr
  by_cases h0 : l.length = 0
  · rw [if_pos h0, h0]
    clear h
    go_enter Try.func80, Try.ntmps80
    go_wp2
    go_ret
    exact ⟨rfl, rfl⟩
  · rw [if_neg h0]
    have e1 : ((l.length : Int) == 0) = false := beq_eq_false_iff_ne.2 (by omega)
    have e3 : ¬ (l.length : Int) = 0 := by omega
    obtain ⟨ev, hev⟩ : ∃ ev, firstFrom (pathAt n l) (l.length - 0) 0 = ev := ⟨_, rfl⟩
    rw [hev]
    have HEV := Lib.hid hev
    have H := Lib.hid h
    have hm := h.cap
    have hle := h.le
    unfold maxLen at hm
    clear hev h
    go_enter Try.func80, Try.ntmps80
    go_wp2
    go_loop [13] (fun i => ∃ k : Nat, k ≤ l.length ∧ i = .int .i64 k ∧ Hid (firstFrom (pathAt n l) (l.length - k) k = ev)) (fun i => l.length - (intOf i).toNat)
    case atStart => exact ⟨0, Nat.zero_le _, rfl, HEV⟩
    case round =>
      clear HEV
      obtain ⟨k, hk, rfl, HEV⟩ := hrel
      by_cases hlt : k < l.length
      · obtain ⟨b, off, a, rfl, _, hc, _, HT, HX⟩ := H.out.elem hlt
        have k0 : (0 : Int) ≤ (k : Int) := by omega
        have k1 : (k : Int) ≤ (c : Int) := by omega
        have hs := HEV.out
        rw [firstFrom_step hlt] at hs
        have hp : pathAt n l k = if a < 0 ∨ n ≤ a then 1 else if inL (l.take k) a then 7 else 0 := by unfold pathAt; rw [HX.out]
        clear HT HX
        by_cases ha : a < 0
        · rw [if_pos (.inl ha)] at hp
          rw [hp, if_neg (by decide)] at hs
          clear hp
          subst hs
          go_wp2
          go_ret
          exact ⟨rfl, rfl⟩
        · by_cases hb : n ≤ a
          · rw [if_pos (.inr hb)] at hp
            rw [hp, if_neg (by decide)] at hs
            clear hp
            subst hs
            go_wp2
            go_ret
            exact ⟨rfl, rfl⟩
          · rw [if_neg (by omega)] at hp
            have e5 : decide (n ≤ a) = false := decide_eq_false hb
            have HK := Lib.hid (H.out.take (Nat.le_of_lt hlt) (c' := c) (by omega) (by unfold maxLen; omega))
            cases hi : inL (l.take k) a
            · rw [hi, if_neg (by decide)] at hp
              rw [hp, if_pos rfl] at hs
              clear hp
              have HS := Lib.hid hs
              have HI := Lib.hid hi
              clear hs hi
              go_wp2_with fail
              refine (containsL_any _ _ _ _ _ _ HK.out (by rw [List.length_take]; omega) _ _ HI.out).mono ?_; rintro e w' ⟨rfl, rfl⟩
              go_wp2
              go_round
              case rel => exact ⟨k + 1, by omega, by go_num, HS⟩
              case measure => simp [intOf]; omega
            · rw [hi, if_pos rfl] at hp
              rw [hp, if_neg (by decide)] at hs
              clear hp
              subst hs
              have HI := Lib.hid hi
              clear hi
              go_wp2_with fail
              refine (containsL_any _ _ _ _ _ _ HK.out (by rw [List.length_take]; omega) _ _ HI.out).mono ?_; rintro e w' ⟨rfl, rfl⟩
              go_wp2
              go_ret
              exact ⟨rfl, rfl⟩
      · obtain rfl : k = l.length := by omega
        have hs := HEV.out
        rw [firstFrom_end] at hs
        subst hs
        go_wp2
        go_ret
        exact ⟨rfl, rfl⟩
end Go.Proofs.Ythffjnfnfddpdaa
