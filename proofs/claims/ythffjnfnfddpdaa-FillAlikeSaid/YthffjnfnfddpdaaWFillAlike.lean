/- The walk of FillAlike: it returns true for every input. -/
import Derived.Test.YthffjnfnfddpdaaLibK
import Derived.Test.YthffjnfnfddpdaaLibN
import Derived.Test.YthffjnfnfddpdaaPushH
namespace Go.Proofs.Ythffjnfnfddpdaa
open Go.RowKit
def sameP (m : Nat) : List (List Int) := List.replicate m [0]
theorem sameP_len (m : Nat) : (sameP m).length = m := by simp [sameP]
theorem sameP_succ (m : Nat) : sameP (m + 1) = sameP m ++ [[0]] := by unfold sameP; exact List.replicate_succ'
theorem sameP_at {m f : Nat} (h : f < m) : (sameP m).getD f [] = [0] := by unfold sameP; simp [List.getD_eq_getElem?_getD, h]
theorem alike_net {x : Int} {m : Nat} (h1 : 1 ≤ m) (h6 : m ≤ 6) : netErr [x] (sameP m) = if x < 1 ∨ 1000 < x then 1 else 0 := by
  unfold netErr
  rw [sameP_len]
  rw [if_neg (by simp; omega), if_neg (by simp; omega)]
  by_cases hx : x < 1 ∨ 1000 < x
  · have : linksErr [x] = 1 := by
      unfold linksErr
      rw [if_neg (by simp), if_neg (by simp), if_pos]
      simp only [List.any_cons, List.any_nil, Bool.or_false, badCap, Bool.or_eq_true, decide_eq_true_eq]; exact hx
    rw [this, if_neg (by decide), if_pos hx]
  · have : linksErr [x] = 0 := by
      unfold linksErr
      rw [if_neg (by simp), if_neg (by simp), if_neg]
      simp only [List.any_cons, List.any_nil, Bool.or_false, badCap, Bool.or_eq_true, decide_eq_true_eq]; exact hx
    rw [this, if_pos rfl, if_neg hx]
    refine firstFrom_all fun j _ hj => ?_
    rw [sameP_at (by omega)]
    show pathErr 1 [0] = 0
    decide
theorem leftTo_free {st : St} (h : ∀ u, st.at_ u = none) (c : Rat) (us : List Nat) : leftTo st c us = c := by
  induction us generalizing c with
  | nil => rfl
  | cons u us ih =>
    show leftTo st (leftStep st c u) us = c
    have : leftStep st c u = c := by unfold leftStep; rw [h]
    rw [this]; exact ih c
theorem alike_ends {x : Int} {m : Nat} (h1 : 1 ≤ m) (h6 : m ≤ 6) (hx : 1 ≤ x ∧ x ≤ 1000) : FillEnds [x] (sameP m) 1 (List.replicate m ((x : Rat) / (m : Rat))) := by
  have hn : netErr [x] (sameP m) = 0 := by rw [alike_net h1 h6, if_neg (by omega)]
  have ok := netOk_of hn
  have hat : ∀ u, St.at_ (List.replicate (sameP m).length none) u = none := fun u => by
    unfold St.at_
    rw [List.getD_eq_getElem?_getD, List.getElem?_replicate]
    split <;> rfl
  have hu : users (sameP m) (0 : Nat) = List.range m := by
    unfold users usersTo
    rw [sameP_len, List.filter_eq_self]
    intro f hf
    rw [sameP_at (List.mem_range.1 hf)]; rfl
  have hfree : freeL (sameP m) (List.replicate (sameP m).length none) 0 = m := by
    unfold freeL freeOf
    rw [hu, List.countP_eq_length.2 (fun u _ => by rw [hat]; rfl)]; simp
  have hsh : share [x] (sameP m) (List.replicate (sameP m).length none) 0 = some ((x : Rat) / (m : Rat)) := by
    unfold share
    rw [hfree, if_neg (by omega)]
    unfold leftOf
    rw [leftTo_free hat]; rfl
  have hb : bestTo (share [x] (sameP m) (List.replicate (sameP m).length none)) ([x] : List Int).length = some ((x : Rat) / (m : Rat)) := by
    show minO none (share _ _ _ 0) = _
    rw [hsh]; rfl
  have hinv := FInv.start ok
  have h2 : fillSt [x] (sameP m) 1 = List.replicate m (some ((x : Rat) / (m : Rat))) := by
    show roundSt [x] (sameP m) (List.replicate (sameP m).length none) = _
    have hl := (hinv.next ok hb).1.len.trans (sameP_len m)
    apply List.ext_getElem
    · rw [hl]; simp
    · intro f hf1 hf2
      have hfm : f < m := by omega
      have := round_at hinv hb (f := f) (by rw [sameP_len]; exact hfm)
      rw [if_pos ((out_iff hb).2 ⟨by rw [sameP_len]; exact hfm, hat f, 0, ⟨by simp, hsh⟩, by rw [sameP_at hfm]; rfl⟩)] at this
      unfold St.at_ at this
      rw [List.getD_eq_getElem?_getD, List.getElem?_eq_getElem hf1] at this
      simpa using this
  refine ⟨?_, fun j hj => ?_, ?_⟩
  · rw [h2]; simp [allDone]
  · obtain rfl : j = 0 := by omega
    show allDone (List.replicate (sameP m).length none) = false
    rw [sameP_len]
    obtain ⟨d, rfl⟩ : ∃ d, m = d + 1 := ⟨m - 1, by omega⟩
    simp [allDone, List.replicate_succ]
  · rw [h2]; simp
theorem of_div (x : Int) (m : Nat) (w : World) (h1 : 1 ≤ m) (h6 : m ≤ 6) (hx : 1 ≤ x ∧ x ≤ 1000) :
    Calls Try.prog 31 #[.int .i64 x, .int .i64 m] w fun e w' => e = .returned (.tuple #[.agg #[.int .i64 ((x : Rat) / (m : Rat)).num, .int .i64 ((x : Rat) / (m : Rat)).den], .nilIface]) ∧ Below w.heap.size w w' := by
  have e : mkRat x (m : Int).toNat = (x : Rat) / (m : Rat) := by rw [Int.toNat_natCast]; exact Rat.mkRat_eq_div x m
  refine of_in x m _ _ w ⟨by omega, by omega, by omega, by omega⟩ ?_ ?_
  · rw [low_num _ _ (by omega), e]
  · rw [low_den _ _ (by omega), e]
theorem lit_own {w : World} {g : Nat} {x : Value} {e : TypeId} (h : Blk w g e #[x]) : w.ownsRow g e 1 (.slice (some ⟨g, 0, none⟩) 1 1) 1 [x] :=
  ⟨rfl, .inr ⟨g, 1, #[x], rfl, Nat.le_refl _, h, Nat.le_refl _, by simp [maxLen], rfl, rfl⟩⟩
set_option maxHeartbeats 8000000 in
set_option maxRecDepth 100000 in
theorem fillAlike_in (x : Int) (m : Nat) (w : World) (h1 : 1 ≤ m) (h6 : m ≤ 6) :
    Calls Try.prog 9 #[.int .i64 x, .int .i64 m] w fun e w' => e = .returned (.bool true) ∧ Below w.heap.size w w' := by
  have m1 : (1 : Int) ≤ (m : Int) := by omega
  have m6 : (m : Int) ≤ 6 := by omega
  have d1 : decide ((m : Int) < 1) = false := decide_eq_false (by omega)
  have d2 : decide ((6 : Int) < (m : Int)) = false := decide_eq_false (by omega)
  have HB0 := Lib.hid (((Below.refl w.heap.size w).alloc (Nat.le_refl _) (.cells #[.int .i64 x] 3)).alloc (by simp) (.cells #[.slice (some ⟨w.heap.size, 0, none⟩) 1 1, .slice none 0 0] 56))
  have HX0 := Lib.hid ((Blk.new w 3 #[.int .i64 x]).alloc (.cells #[.slice (some ⟨w.heap.size, 0, none⟩) 1 1, .slice none 0 0] 56))
  have HN0 := Lib.hid (Blk.new' (w.alloc (.cells #[.int .i64 x] 3)) 56 #[.slice (some ⟨w.heap.size, 0, none⟩) 1 1, .slice none 0 0] (g := w.heap.size + 1) (by simp))
  have HO0 : Hid (NetOwn ((w.alloc (.cells #[.int .i64 x] 3)).alloc (.cells #[.slice (some ⟨w.heap.size, 0, none⟩) 1 1, .slice none 0 0] 56)) w.heap.size (.slice (some ⟨w.heap.size, 0, none⟩) 1 1) (.slice none 0 0) [] [x] (sameP 0)) := Lib.hid
    ⟨lit_own HX0.out, World.ownsRow_nil _ _ _ _, fun i u l h => by simp at h, fun i u h => by simp at h, fun i j u u' h => by simp at h⟩
  go_enter Try.func9, Try.ntmps9
  go_wp2
  go_loopw [6] (fun i wr => ∃ (k : Nat) (pv : Value) (vs : List Value), k ≤ m ∧ i = .int .i64 k ∧ Hid (NetOwn wr w.heap.size (.slice (some ⟨w.heap.size, 0, none⟩) 1 1) pv vs [x] (sameP k)) ∧ Hid (Blk wr (w.heap.size + 1) 56 #[.slice (some ⟨w.heap.size, 0, none⟩) 1 1, pv]) ∧ Hid (Below w.heap.size w wr)) (fun i _ => m - (intOf i).toNat)
  case atStart => exact ⟨0, _, [], Nat.zero_le _, rfl, HO0, HN0, HB0⟩
  case round =>
    clear HO0 HN0 HB0 HX0
    obtain ⟨k, pv, vs, hk, rfl, HO, HN, HB⟩ := hrel
    have hB1 := HB.out.size
    obtain ⟨P, cp, rfl, _⟩ := HO.out.rows
    have hsl := sameP_len k
    have HLT := Lib.hid HO.out.lt
    obtain ⟨n0, n1, nf0, nf1, nz⟩ := HN.out.two
    by_cases hlt : k < m
    · have k0 : (0 : Int) ≤ (k : Int) := by omega
      have HO2 := Lib.hid (HO.out.below ((Below.refl wr.heap.size wr).alloc (Nat.le_refl _) (.cells #[.int .i64 0] 3)))
      have HN2 := Lib.hid (HN.out.alloc (.cells #[.int .i64 0] 3))
      have HB2 := Lib.hid (HB.out.alloc hB1 (.cells #[.int .i64 0] 3))
      have HU2 := Lib.hid (lit_own (Blk.new wr 3 #[.int .i64 0]))
      have hB2 := HB2.out.size
      have HS := Lib.hid (sameP_succ k)
      have hkl : (sameP k).length ≤ 1000000 := by omega
      have hne : w.heap.size ≠ w.heap.size + 1 := by omega
      clear hsl
      go_wp2_with (at_builtin; refine wpList_pushH2 (wr.alloc (.cells #[.int .i64 0] 3)) _ (wr.heap.size + 1) (by simp) rfl (.tmp 29) (.tmp 31) 54 rfl w.heap.size 38 (.slice none 0 0) 1 24 Try.underlying54 Try.info_row rfl (by omega) _ _ _ rfl HO2.out.own rfl rfl (by simp [Value.oneCell']) hkl (by decide) hB2 ?_; intro v' w7 hown7 hg7; have HO7 := Lib.hid (HO2.out.push (l := [0]) HLT.out HU2.out hB1 hown7 hg7); have HB7 := Lib.hid (below_push HB2.out HO2.out.own hg7 (Nat.le_refl _) hB2); have HN7 := Lib.hid (HN2.out.grown hg7 fun e => own_blk_ne HO2.out.own HN2.out (by decide) e.symm); clear hown7 hg7; obtain ⟨P7, c7, hv7, _⟩ := HO7.out.rows; rw [← HS.out, sameP_len] at hv7; subst hv7; obtain ⟨y0, y1, yf0, yf1, yz⟩ := HN7.out.two)
      rw [← HS.out] at HO7
      go_roundw
      case rel => exact ⟨k + 1, _, _, by omega, by go_num, Lib.hid (HO7.out.far HN7.out (by decide) (by decide) 1 _), Lib.hid (HN7.out.s2_1 _), Lib.hid (HB7.out.setCell (p := ⟨w.heap.size + 1, 1, none⟩) (Nat.le_succ _) _)⟩
      case measure => simp [intOf]; omega
    · obtain rfl : k = m := by omega
      obtain ⟨C1, cc1, e1, _, hi1⟩ := owns_ints HO.out.capO
      injection e1 with e1 e3 e2
      subst e1 e2
      obtain ⟨P', cp', e4, hp1⟩ := HO.out.rows
      injection e4 with e4 e6 e5
      clear e3 e6
      subst e4 e5
      have HI1 := Lib.hid hi1; have HP1 := Lib.hid hp1
      rw [hsl] at n1
      have hnet := alike_net (x := x) h1 h6
      clear hi1 hp1 hsl
      by_cases hx : x < 1 ∨ 1000 < x
      · rw [if_pos hx] at hnet
        have HNE := Lib.hid hnet
        clear hnet
        go_wp2_with fail
        refine (frates_no _ 1 [x] _ cp k (sameP k) wr.heap.size wr 1 (Nat.le_refl _) HI1.out HP1.out (sameP_len k).symm HNE.out (by decide)).mono ?_; rintro e w2 ⟨rfl, hb2⟩
        have HB2 := Lib.hid (HB.out.trans (hb2.mono hB1))
        clear hb2
        by_cases hx1 : x < 1
        · go_wp2
          go_ret
          exact ⟨rfl, HB2.out⟩
        · have hx2 : 1000 < x := by omega
          clear hx
          go_wp2
          go_ret
          exact ⟨rfl, HB2.out⟩
      · rw [if_neg hx] at hnet
        have hx' : 1 ≤ x ∧ x ≤ 1000 := by omega
        have HNE := Lib.hid hnet
        have HKE := Lib.hid (alike_ends h1 h6 hx')
        have HOF := Lib.hid fun W => of_div x k W h1 h6 hx'
        have hRl : (List.replicate k ((x : Rat) / (k : Rat))).length = k := by simp
        have HRA := Lib.hid fun (j : Nat) (hj : j < k) => (show (List.replicate k ((x : Rat) / (k : Rat))).getD j 0 = (x : Rat) / (k : Rat) by simp [List.getD_eq_getElem?_getD, hj])
        obtain ⟨R, hR⟩ : ∃ R, List.replicate k ((x : Rat) / (k : Rat)) = R := ⟨_, rfl⟩
        obtain ⟨q, hq⟩ : ∃ q, (x : Rat) / (k : Rat) = q := ⟨_, rfl⟩
        rw [hR] at HKE hRl HRA
        rw [hq] at HOF HRA
        have HRL := Lib.hid hRl
        clear hnet hR hq hRl hx
        have HF := Lib.hid fun (W : World) (hB : wr.heap.size ≤ W.heap.size) (h1 : Ints W wr.heap.size (some ⟨w.heap.size, 0, none⟩) 1 [x]) (h2 : Rows2 W wr.heap.size P cp (sameP k)) => (show Calls Try.prog 43 #[.agg #[.slice (some ⟨w.heap.size, 0, none⟩) 1 1, .slice P k cp]] W fun e w' => ∃ A c, e = .returned (.tuple #[.slice A k c, .nilIface]) ∧ Frs w' w'.heap.size A c (R.map frQ) ∧ Below W.heap.size W w' from by
          have := frates_yes (some ⟨w.heap.size, 0, none⟩) 1 [x] P cp k (sameP k) wr.heap.size W 1 R hB h1 h2 (sameP_len k).symm HNE.out HKE.out
          rwa [HRL.out] at this)
        go_wp2_with fail
        refine (HF.out wr (Nat.le_refl _) HI1.out HP1.out).mono ?_; rintro e w2 ⟨A2, c2, rfl, hf2, hb2⟩
        have HB2 := Lib.hid (HB.out.trans (hb2.mono hB1)); have HF2 := Lib.hid hf2; have HN2 := Lib.hid (HN.out.go hb2)
        have HI2 := Lib.hid (HI1.out.below hb2 (Nat.le_refl _)); have HP2 := Lib.hid (HP1.out.below hb2 (Nat.le_refl _))
        have hz2 := hb2.size
        have hm2 := hf2.cap; have hl2 := hf2.le
        rw [List.length_map, HRL.out] at hl2
        unfold maxLen at hm2
        clear hb2 hf2 n0 n1 nf0 nf1 nz HF
        go_wp2_with fail
        refine (HOF.out _).mono ?_; rintro e w3 ⟨rfl, hb3⟩
        have HG3 := Lib.hid (Blk.new w3 44 #[.int .i64 q.num, .int .i64 q.den])
        have hb4 := hb3.trans ((Below.refl w2.heap.size w3).alloc hb3.size (.cells #[.int .i64 q.num, .int .i64 q.den] 44))
        have hz3 := hb4.size
        have HB4 := Lib.hid (HB2.out.trans (hb4.mono HB2.out.size)); have HF4 := Lib.hid (HF2.out.at' hb4); have HN4 := Lib.hid (HN2.out.go hb4)
        have HI4 := Lib.hid (HI2.out.below hb4 hz2); have HP4 := Lib.hid (HP2.out.below hb4 hz2)
        obtain ⟨n0, n1, _, _, nz⟩ := HN4.out.two
        have hz4 := HB4.out.size
        rw [sameP_len] at n1
        clear hb3 hb4 HB2 HF2 HN2 HI2 HP2
        go_wp2_with fail
        refine (frounds_yes _ 1 [x] _ cp k (sameP k) wr.heap.size _ 1 R (by omega) HI4.out HP4.out (sameP_len k).symm HNE.out HKE.out).mono ?_; rintro e w5 ⟨A5, c5, rfl, _, hb5⟩
        have HB5 := Lib.hid (HB4.out.trans (hb5.mono hz4)); have HF5 := Lib.hid (HF4.out.below hb5 (Nat.le_refl _)); have HG5 := Lib.hid (HG3.out.go hb5)
        have hz5 := hb5.size
        obtain ⟨g0, g1, _, _, gz⟩ := HG5.out.two
        clear hb5 n0 n1 nz HB4 HF4 HG3
        go_wp2
        go_loopw [13] (fun i wr => ∃ j d : Nat, j ≤ k ∧ i = .int .i64 j ∧ Hid (wr = w5.drewN d)) (fun i _ => k - (intOf i).toNat)
        case atStart => exact ⟨0, 0, Nat.zero_le _, rfl, Lib.hid rfl⟩
        case round =>
          clear g0 g1 gz
          obtain ⟨j, d, hj, rfl, HD⟩ := hrel
          have HBD : Hid (Below w5.heap.size w5 wr) := Lib.hid (by rw [HD.out]; exact below_drewN (Below.refl _ _) _)
          by_cases hjl : j < k
          · have j0 : (0 : Int) ≤ (j : Int) := by omega
            have j1 : (j : Int) < (k : Int) := by omega
            have HGJ := Lib.hid (HG5.out.go HBD.out)
            obtain ⟨g0, g1, _, _, gz⟩ := HGJ.out.two
            obtain ⟨b, off, rfl, hb, c0, c1⟩ := frs_q (HF5.out.below HBD.out hz5) (show j < R.length by rw [HRL.out]; exact hjl)
            rw [HRA.out j hjl] at c0 c1
            have hbz : b < wr.heap.size := by have := HBD.out.size; omega
            go_wp2_with fail
            go_quiet (fail)
            go_wp2
            go_roundw
            case rel => exact ⟨j + 1, d + nq, by omega, by go_num, Lib.hid (by rw [HD.out, World.drewN_drewN])⟩
            case measure => simp [intOf]; omega
          · obtain rfl : j = k := by omega
            go_wp2
            go_ret
            exact ⟨rfl, HB5.out.trans (HBD.out.mono (by have := HB5.out.size; omega))⟩
theorem fillAlike_walk (x : Int) (_ : (Lit.int .i64 x).wf = true) (m : Int) (_ : (Lit.int .i64 m).wf = true) (w : World) :
    Calls Try.prog 9 #[.int .i64 x, .int .i64 m] w fun e w' => e = .returned (.bool true) ∧ Below w.heap.size w w' := by
  by_cases h1 : m < 1
  · go_enter Try.func9, Try.ntmps9
    go_wp2
    go_ret
    exact ⟨rfl, Below.refl _ _⟩
  · by_cases h6 : 6 < m
    · have d1 : decide (m < 1) = false := decide_eq_false h1
      go_enter Try.func9, Try.ntmps9
      go_wp2
      go_ret
      exact ⟨rfl, Below.refl _ _⟩
    · obtain ⟨k, rfl⟩ := Int.eq_ofNat_of_zero_le (show 0 ≤ m by omega)
      exact fillAlike_in x k w (by omega) (by omega)
end Go.Proofs.Ythffjnfnfddpdaa
