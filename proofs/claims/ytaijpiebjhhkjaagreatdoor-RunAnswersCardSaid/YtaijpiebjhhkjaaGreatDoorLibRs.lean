/- Several texts in one: RefFew, Total, GivePart, Seek, RefSplit. -/
import Derived.Test.YtaijpiebjhhkjaaGreatDoorLibA
import Derived.Test.YtaijpiebjhhkjaaGreatDoorLibG
import Derived.Test.YtaijpiebjhhkjaaGreatDoorLibS
/- The reference's Few: the fault of shares, up to a bound. -/
namespace Go.Proofs.YtaijpiebjhhkjaaGreatDoor
open Go.RowKit
set_option maxHeartbeats 1000000 in
theorem refFew (A : Option Addr) (c : Nat) (l : List Int) (most : Int) (B : Nat) (w : World) (h : Ints w B A c l) :
    Calls Tryz.prog 86 #[.slice A l.length c, .int .i64 most] w fun e w' => e = .returned (.int .i64 (fewErr l most)) ∧ w = w' := by
  have hm := Nat.le_trans h.le h.cap
  unfold maxLen at hm
  have H := Lib.hid h; clear h
  by_cases h0 : l.length = 0
  · have e : fewErr l most = 5 := by unfold fewErr; rw [if_pos h0]
    have hl : ((l.length : Int) == 0) = true := by simp [h0]
    rw [e, h0]; clear e
    go_enter Tryz.func86, Tryz.ntmps86
    go_wp2
    go_ret
    exact ⟨rfl, rfl⟩
  · have hz : ((l.length : Int) == 0) = false := beq_eq_false_iff_ne.2 (by omega)
    by_cases hlen : 6 < l.length
    · have e : fewErr l most = 4 := by unfold fewErr; rw [if_neg h0, if_pos hlen]
      rw [e]; clear e
      go_enter Tryz.func86, Tryz.ntmps86
      go_wp2
      go_ret
      exact ⟨rfl, rfl⟩
    · have e : fewErr l most = if l.any (badTo most) then 1 else 0 := by unfold fewErr; rw [if_neg h0, if_neg hlen]
      have E := Lib.hid e; clear e
      go_enter Tryz.func86, Tryz.ntmps86
      go_wp2
      go_loop [5] (fun i => ∃ k : Nat, k ≤ l.length ∧ i = .int .i64 k ∧ Hid ((l.take k).any (badTo most) = false)) (fun i => l.length - (intOf i).toNat)
      case atStart => exact ⟨0, Nat.zero_le _, rfl, Lib.hid (by simp)⟩
      case round =>
        obtain ⟨k, hk, rfl, HN⟩ := hrel
        by_cases hlt : k < l.length
        · obtain ⟨b, off, x, rfl, _, hc, hx, HT, HX⟩ := H.out.elem hlt
          cases hbx : badTo most x
          · obtain ⟨x0, x1⟩ := (badTo_iff most x).1 hbx
            have HN' : Hid ((l.take (k + 1)).any (badTo most) = false) := Lib.hid (by rw [HT.out]; simp [HN.out, hbx])
            clear HN HT HX hbx
            go_wp2
            go_round
            case rel => exact ⟨k + 1, by omega, by go_num, HN'⟩
            case measure => simp [intOf]; omega
          · have hb : fewErr l most = 1 := by
              rw [E.out, List.any_eq_true.2 ⟨x, hx, hbx⟩]; rfl
            have hxx := badTo_true hbx
            have HB := Lib.hid hb
            clear HN HT HX hb hbx
            by_cases h1 : x < 0
            · go_wp2
              go_ret
              exact ⟨by rw [HB.out]; rfl, rfl⟩
            · have h2 : most < x := by omega
              go_wp2
              go_ret
              exact ⟨by rw [HB.out]; rfl, rfl⟩
        · have hk' : k = l.length := by omega
          subst hk'
          have hn := HN.out
          rw [List.take_length] at hn
          have hzz : fewErr l most = 0 := by rw [E.out, hn]; rfl
          have HZ := Lib.hid hzz
          clear hzz hn HN
          go_wp2
          go_ret
          exact ⟨by rw [HZ.out]; rfl, rfl⟩
theorem refFew_is (A : Option Addr) (c : Nat) (l : List Int) (most : Int) (B : Nat) (w : World) (h : Ints w B A c l) (y : Int) (hy : fewErr l most = y) :
    Calls Tryz.prog 86 #[.slice A l.length c, .int .i64 most] w fun e w' => e = .returned (.int .i64 y) ∧ w = w' := by
  subst hy; exact refFew A c l most B w h
end Go.Proofs.YtaijpiebjhhkjaaGreatDoor
/- fairref1.Total: the sum of a list. -/
namespace Go.Proofs.YtaijpiebjhhkjaaGreatDoor
open Go.RowKit
set_option maxHeartbeats 400000 in
theorem total_any (A : Option Addr) (c : Nat) (l : List Int) (B : Nat) (w : World) (h : Ints w B A c l) (hb : ∀ a ∈ l, -100000 ≤ a ∧ a ≤ 100000) (hlen : l.length ≤ 60) :
    Calls Tryz.prog 60 #[.slice A l.length c] w fun e w' => e = .returned (.int .i64 (tot l)) ∧ w = w' := by
  have H := Lib.hid h; clear h
  have HB := Lib.hid hb; clear hb
  go_enter Tryz.func60, Tryz.ntmps60
  go_wp2
  go_loop [3, 4] (fun s i => ∃ k : Nat, k ≤ l.length ∧ i = .int .i64 k ∧ s = .int .i64 (tot (l.take k))) (fun _ i => l.length - (intOf i).toNat)
  case atStart => exact ⟨0, Nat.zero_le _, rfl, rfl⟩
  case round =>
    obtain ⟨k, hk, rfl, rfl⟩ := hrel
    by_cases hlt : k < l.length
    · obtain ⟨b, off, x, rfl, _, hc, hx, HT, HX⟩ := H.out.elem hlt
      have h1 := tot_range_take l 100000 HB.out k
      have h2 := HB.out x hx
      have h3 : (l.take k).length ≤ k := List.length_take_le _ _
      go_wp2
      go_round
      case rel => exact ⟨k + 1, by omega, by go_num, by rw [HT.out, tot_snoc]⟩
      case measure => simp [intOf]; omega
    · go_wp2
      go_ret
      exact ⟨by rw [List.take_of_length_le (by omega)]; rfl, rfl⟩
end Go.Proofs.YtaijpiebjhhkjaaGreatDoor
/- give.Part; the reference's weights. -/
namespace Go.Proofs.YtaijpiebjhhkjaaGreatDoor
open Go.RowKit
attribute [local go_sem ↓] run_min_mn run_max_mx
set_option maxHeartbeats 1000000 in
theorem refWeights_is (A : Option Addr) (c : Nat) (l : List Int) (B : Nat) (w : World) (h : Ints w B A c l) (y : Int) (hy : idxErr l = y) :
    Calls Tryz.prog 59 #[.slice A l.length c] w fun e w' => e = .returned (.int .i64 y) ∧ w = w' := by
  have H := Lib.hid h
  by_cases hf : fewErr l 1000 = 0
  · obtain ⟨h0, h6, hbad⟩ := few_ok hf
    have hb := badTo_in hbad
    have HF := Lib.hid (refFew_is A c l 1000 B w h 0 hf)
    have HT := Lib.hid (total_any A c l B w h (fun a ha => by have := hb a ha; omega) (by omega))
    unfold idxErr at hy
    rw [if_neg (show ¬ fewErr l 1000 ≠ 0 from fun x => x hf)] at hy
    clear h hf hbad hb
    by_cases ht : tot l = 0
    · rw [if_pos ht] at hy
      subst hy
      rw [ht] at HT
      clear ht
      go_enter Tryz.func59, Tryz.ntmps59
      go_wp2_with fail
      refine HF.out.mono ?_; rintro e w' ⟨rfl, rfl⟩
      go_wp2_with fail
      refine HT.out.mono ?_; rintro e w' ⟨rfl, rfl⟩
      go_wp2
      go_ret
      exact ⟨rfl, rfl⟩
    · rw [if_neg ht] at hy
      subst hy
      generalize tot l = T at *
      have hb : (T == 0) = false := beq_eq_false_iff_ne.2 ht
      go_enter Tryz.func59, Tryz.ntmps59
      go_wp2_with fail
      refine HF.out.mono ?_; rintro e w' ⟨rfl, rfl⟩
      go_wp2_with fail
      refine HT.out.mono ?_; rintro e w' ⟨rfl, rfl⟩
      go_wp2
      go_ret
      exact ⟨rfl, rfl⟩
  · have e : fewErr l 1000 = y := by unfold idxErr at hy; rwa [if_pos hf] at hy
    have HF := Lib.hid (refFew_is A c l 1000 B w h y e)
    have hb : (y == 0) = false := beq_eq_false_iff_ne.2 (by rw [← e]; exact hf)
    clear h hf hy e
    go_enter Tryz.func59, Tryz.ntmps59
    go_wp2_with fail
    refine HF.out.mono ?_; rintro e w' ⟨rfl, rfl⟩
    go_wp2
    go_ret
    exact ⟨rfl, rfl⟩
theorem splitN (m : Int) (A : Option Addr) (c n : Nat) (l : List Int) (w : World) (h : Ints w w.heap.size A c l) (he : splitErr m l = 0) (hn : n = l.length) :
    Calls Tryz.prog 119 #[.int .i64 m, .slice A n c] w fun e w' => ∃ A' c', e = .returned (.tuple #[.slice A' n c', .nilIface]) ∧ Ints w' w'.heap.size A' c' (splitL m l) ∧ Below w.heap.size w w' := by
  subst hn
  refine (split_yes m A c l w h he).mono ?_
  rintro e w' ⟨v, rfl, ho, hb⟩
  obtain ⟨A', c', hv, hl, hi⟩ := owns_ints ho
  subst hv
  exact ⟨A', c', by rw [← hl], hi, hb⟩
end Go.Proofs.YtaijpiebjhhkjaaGreatDoor
/- The search for the best of those not taken; rows under way. -/
namespace Go.Proofs.YtaijpiebjhhkjaaGreatDoor
open Go.RowKit
theorem Tryz.info_bool' : (Tryz.prog.info? 4).map (fun i => (i.zero, i.size, i.bytes)) = some (some (.bool false), 1, 1) := by kernel_rfl
theorem gots_zero (key : Nat → Int) (n : Nat) : (PR.takens key n 0).map Value.bool = List.replicate n (.bool false) := by rw [PR.takens_zero]; simp
/-- how far the search for the best has come: the first k looked at, none or the best of them -/
def Seek (key : Nat → Int) (n t k : Nat) (v : Int) : Prop := (v = -1 ∧ ∀ j, j < k → PR.taken key n t j = true) ∨ ∃ b : Nat, v = b ∧ PR.Best key (PR.taken key n t) k b
theorem Seek.zero (key : Nat → Int) (n t : Nat) : Seek key n t 0 (-1) := .inl ⟨rfl, fun _ h => by omega⟩
theorem Seek.done {key : Nat → Int} {n t : Nat} {v : Int} (h : Seek key n t n v) (ht : t < n) : ∃ b : Nat, v = b ∧ b < n ∧ PR.rank key n b = t := by
  rcases h with ⟨_, h⟩ | ⟨b, rfl, h⟩
  · exact absurd h (PR.some_free ht)
  · exact ⟨b, rfl, h.1, h.rank ht⟩
theorem Seek.skip {key : Nat → Int} {n t k : Nat} {v : Int} (h : Seek key n t k v) (hk : PR.taken key n t k = true) : Seek key n t (k + 1) v := by
  rcases h with ⟨rfl, h⟩ | ⟨b, rfl, h⟩
  · refine .inl ⟨rfl, fun j hj => ?_⟩
    rcases Nat.lt_or_ge j k with h1 | h1
    · exact h j h1
    · obtain rfl : j = k := by omega
      exact hk
  · exact .inr ⟨b, rfl, h.skip hk⟩
theorem Seek.take {key : Nat → Int} {n t k : Nat} (h : Seek key n t k (-1)) (hk : PR.taken key n t k = false) : Seek key n t (k + 1) k := by
  rcases h with ⟨_, h⟩ | ⟨b, hb, _⟩
  · exact .inr ⟨k, rfl, PR.Best.first h hk⟩
  · omega
theorem Seek.turn {key : Nat → Int} {n t k b : Nat} (h : Seek key n t k (b : Int)) (hk : PR.taken key n t k = false) (hlt : key b < key k) : Seek key n t (k + 1) k := by
  rcases h with ⟨hb, _⟩ | ⟨b', hb, h⟩
  · omega
  · obtain rfl : b = b' := by omega
    exact .inr ⟨k, rfl, h.turn hk hlt⟩
theorem Seek.stay {key : Nat → Int} {n t k b : Nat} (h : Seek key n t k (b : Int)) (hlt : ¬ key b < key k) : Seek key n t (k + 1) b := by
  rcases h with ⟨hb, _⟩ | ⟨b', hb, h⟩
  · omega
  · obtain rfl : b = b' := by omega
    exact .inr ⟨b, rfl, h.stay hlt⟩
theorem Seek.lt {key : Nat → Int} {n t k b : Nat} (h : Seek key n t k (b : Int)) : b < k := by
  rcases h with ⟨hb, _⟩ | ⟨b', hb, h⟩
  · omega
  · obtain rfl : b = b' := by omega
    exact h.1
theorem Seek.form {key : Nat → Int} {n t k : Nat} {v : Int} (h : Seek key n t k v) : v = -1 ∨ ∃ b : Nat, v = b := by
  rcases h with ⟨hb, _⟩ | ⟨b', hb, _⟩
  · exact .inl hb
  · exact .inr ⟨b', hb⟩
/-- so much more for the first k -/
def addTo (f : Nat → Int) (q : Int) (n k : Nat) : List Int := (List.range n).map fun i => if i < k then f i + q else f i
theorem addTo_zero (f : Nat → Int) (q : Int) (n : Nat) : addTo f q n 0 = (List.range n).map f := by simp [addTo]
theorem addTo_at (f : Nat → Int) (q : Int) (n k : Nat) (h : k < n) : (addTo f q n k)[k]? = some (f k) := by simp [addTo, h]
theorem addTo_set (f : Nat → Int) (q : Int) (n k : Nat) (_ : k < n) : (addTo f q n k).set k (f k + q) = addTo f q n (k + 1) := by
  apply List.ext_getElem
  · simp [addTo]
  · intro i h1 h2
    rw [List.getElem_set]
    by_cases e : k = i
    · subst e; rw [if_pos rfl]; simp [addTo]
    · rw [if_neg e]
      simp only [addTo, List.getElem_map, List.getElem_range]
      by_cases h3 : i < k
      · rw [if_pos h3, if_pos (by omega)]
      · rw [if_neg h3, if_neg (by omega)]
theorem addTo_all (f : Nat → Int) (q : Int) (n : Nat) : addTo f q n n = (List.range n).map fun i => f i + q := by
  apply List.ext_getElem
  · simp [addTo]
  · intro i h1 h2
    have : i < n := by simpa [addTo] using h1
    simp [addTo, this]
theorem add_cell {w : World} {base g cap n k : Nat} {f : Nat → Int} {q : Int} (h : w.ownsRow base 3 1 (.slice (some ⟨g, 0, none⟩) n cap) n ((addTo f q n k).map (Value.int .i64))) (hk : k < n) :
    w.cell? ⟨g, k, none⟩ = some (.int .i64 (f k)) ∧ w.frozen? ⟨g, k, none⟩ = false ∧ (w.setCell ⟨g, k, none⟩ (.int .i64 (f k + q))).ownsRow base 3 1 (.slice (some ⟨g, 0, none⟩) n cap) n ((addTo f q n (k + 1)).map (Value.int .i64)) := by
  have h1 := h.cellAt k (by omega)
  rw [List.getElem?_map, addTo_at f q n k hk] at h1
  have h2 := (h.stored k (.int .i64 (f k + q))).1
  rw [← List.map_set, addTo_set f q n k hk] at h2
  exact ⟨h1, h.frozenAt k, h2⟩
theorem taken_cell {w : World} {base g cap n t k : Nat} {key : Nat → Int} (h : w.ownsRow base 4 1 (.slice (some ⟨g, 0, none⟩) n cap) n ((PR.takens key n t).map Value.bool)) (hk : k < n) :
    w.cell? ⟨g, k, none⟩ = some (.bool (PR.taken key n t k)) ∧ w.frozen? ⟨g, k, none⟩ = false := by
  have h1 := h.cellAt k (by omega)
  rw [List.getElem?_map, PR.takens_at hk] at h1
  exact ⟨h1, h.frozenAt k⟩
theorem taken_set {w : World} {base g cap n t b : Nat} {key : Nat → Int} (h : w.ownsRow base 4 1 (.slice (some ⟨g, 0, none⟩) n cap) n ((PR.takens key n t).map Value.bool)) (hb : b < n) (hr : PR.rank key n b = t) :
    (w.setCell ⟨g, b, none⟩ (.bool true)).ownsRow base 4 1 (.slice (some ⟨g, 0, none⟩) n cap) n ((PR.takens key n (t + 1)).map Value.bool) := by
  have h2 := (h.stored b (.bool true)).1
  rw [← List.map_set, PR.takens_set hb hr] at h2
  exact h2
end Go.Proofs.YtaijpiebjhhkjaaGreatDoor
/- fairref2.Split: the reference's. -/
namespace Go.Proofs.YtaijpiebjhhkjaaGreatDoor
open Go.RowKit
theorem range_snoc' (f : Nat → Int) (k : Nat) : ((List.range (k + 1)).map f).map (Value.int .i64) = ((List.range k).map f).map (Value.int .i64) ++ [.int .i64 (f k)] := by rw [List.range_succ]; simp
set_option maxHeartbeats 8000000 in
set_option maxRecDepth 100000 in
theorem refSplit_any (m : Int) (A : Option Addr) (c : Nat) (l : List Int) (w : World) (h : Ints w w.heap.size A c l) (hw : Weighs l) (m0 : 0 ≤ m) (m1 : m ≤ 10000) :
    Calls Tryz.prog 61 #[.int .i64 m, .slice A l.length c] w fun e w' => ∃ v, e = .returned v ∧ w'.ownsRow w.heap.size 3 1 v l.length ((PG.parts m l).map (Value.int .i64)) ∧ Below w.heap.size w w' := by
  have HW := Lib.hid hw
  have H := Lib.hid h
  have hm := Nat.le_trans h.le h.cap
  unfold maxLen at hm
  have h0 := hw.pos
  have h6 := hw.six
  have t0 := hw.sum
  have t1 := (tot_bound l 1000 hw.bd).2
  have HS := Lib.hid (total_any A c l w.heap.size w h (fun a ha => by have := hw.bd a ha; omega) (by omega))
  obtain ⟨T, hT⟩ : ∃ T, tot l = T := ⟨_, rfl⟩
  rw [hT] at t0 t1 HS
  have HTE := Lib.hid hT
  have hTz : ¬ T = 0 := by omega
  have hl6 : l.length ≤ 1000000 := by omega
  clear h hw hT
  go_enter Tryz.func61, Tryz.ntmps61
  go_wp2_with fail
  refine HS.out.mono ?_; rintro e w' ⟨rfl, rfl⟩
  clear HS
  go_wp2
  go_loopw [6, 7, 8] (fun v s i wr => ∃ k : Nat, k ≤ l.length ∧ i = .int .i64 k ∧ s = .int .i64 (m - tot ((List.range k).map (PG.base m l))) ∧ Hid (wr.ownsRow w.heap.size 3 1 v k (((List.range k).map (PG.base m l)).map (Value.int .i64))) ∧ Below w.heap.size w wr)
    (fun _ _ i _ => l.length - (intOf i).toNat)
  case atStart => exact ⟨0, Nat.zero_le _, rfl, by simp [tot], Lib.hid (World.ownsRow_nil _ _ _ _), Below.refl _ _⟩
  case round =>
    obtain ⟨k, hk, rfl, rfl, HO, hbel⟩ := hrel
    by_cases hlt : k < l.length
    · obtain ⟨b, off, x, rfl, hbb, hc0, hx, _, HX⟩ := H.out.elem hlt
      have hc : wr.cell? ⟨b, off + k, none⟩ = some (.int .i64 x) := (hbel.cell (p := ⟨b, off + k, none⟩) hbb).trans hc0
      obtain ⟨p0, p1, b0, b1, _, _⟩ := HW.out.base m0 m1 k hlt
      obtain ⟨s0, s1⟩ := base_take_bd HW.out m0 m1 k hk
      have hbe : PG.base m l k = m * x / T := by unfold PG.base; rw [HX.out, HTE.out]
      have HTS : Hid (tot ((List.range (k + 1)).map (PG.base m l)) = tot ((List.range k).map (PG.base m l)) + PG.base m l k) := Lib.hid (by rw [List.range_succ, List.map_append]; exact tot_snoc _ _)
      rw [HX.out] at p0 p1
      rw [hbe] at b0 b1 HTS
      have HV := Lib.hid hbe
      clear HX hx hc0 hbe
      generalize tot ((List.range k).map (PG.base m l)) = Q at *
      go_wp2_with (at_builtin; refine wpList_push wr _ rfl (.tmp 30) (.tmp 32) 22 rfl w.heap.size 3 (.int .i64 0) 1 8 Tryz.underlying22 Tryz.info_int rfl (by omega) _ k _ rfl HO.out rfl rfl (by simp [Value.oneCell']) (by omega) (by omega) hbel.size ?_; intro v' w1 hown1 hg1)
      go_roundw
      case rel => exact ⟨k + 1, by omega, by go_num, by rw [HTS.out]; first | rfl | go_num | (congr 1; omega), Lib.hid (by rw [range_snoc', HV.out]; exact hown1), below_push hbel HO.out hg1 (Nat.le_refl _) hbel.size⟩
      case measure => simp [intOf]; omega
    · obtain rfl : k = l.length := by omega
      obtain ⟨z0, z1⟩ := PG.left_bounds m l HW.out.sum
      have hlf : m - tot ((List.range l.length).map (PG.base m l)) = PG.left m l := rfl
      rw [hlf]
      have hmx : max 1 l.length = l.length := by omega
      rw [hmx] at z1
      have hpi := parts_incs m l
      obtain ⟨L, hL⟩ : ∃ L : Nat, (L : Int) = PG.left m l := ⟨(PG.left m l).toNat, by omega⟩
      rw [← hL] at z1 hpi ⊢
      rw [Int.toNat_natCast] at hpi
      have HPI := Lib.hid hpi
      clear hL hlf hmx z0 hpi
      obtain ⟨g, cap, rfl, hg0, hg1, hcap, hcm⟩ := own_form HO.out h0
      have hsz := hbel.size
      obtain ⟨wo, rfl⟩ : ∃ wo : World, wo = wr := ⟨_, rfl⟩
      have hL1 : L < l.length := by omega
      go_wp2_with (refine wpList_makeN wo rfl (.tmp 38) (.tmp 38) 84 rfl w.heap.size 4 (.bool false) 1 Tryz.underlying84 Tryz.info_bool' rfl l.length rfl rfl hl6 (by decide) hsz ?_; intro w2 hown2 hgr2 hsz2)
      have hgb : g ≠ wo.heap.size := by omega
      have HO6 : Hid (w2.ownsRow w.heap.size 3 1 (.slice (some ⟨g, 0, none⟩) l.length cap) l.length ((PR.incs (PG.base m l) (PG.rest m l) l.length 0).map (Value.int .i64))) := Lib.hid (by rw [PR.incs_zero]; exact HO.out.kept hgr2 (.inr (by simp [Value.ownBlock])))
      have HOB : Hid (w2.ownsRow w.heap.size 4 1 (.slice (some ⟨wo.heap.size, 0, none⟩) l.length l.length) l.length ((PR.takens (PG.rest m l) l.length 0).map Value.bool)) := Lib.hid (by rw [gots_zero]; exact hown2)
      have HB2 := Lib.hid (below_none hbel hgr2 hsz)
      clear hown2 hgr2 hsz2 HO
      go_loopw [7] (fun vk wx => ∃ t : Nat, t ≤ L ∧ vk = .int .i64 ((L : Int) - t) ∧ Hid (wx.ownsRow w.heap.size 3 1 (.slice (some ⟨g, 0, none⟩) l.length cap) l.length ((PR.incs (PG.base m l) (PG.rest m l) l.length t).map (Value.int .i64))) ∧ Hid (wx.ownsRow w.heap.size 4 1 (.slice (some ⟨wo.heap.size, 0, none⟩) l.length l.length) l.length ((PR.takens (PG.rest m l) l.length t).map Value.bool)) ∧ Hid (Below w.heap.size w wx))
        (fun vk _ => (intOf vk).toNat)
      case atStart => exact ⟨0, Nat.zero_le _, by simp, HO6, HOB, HB2⟩
      case round =>
        obtain ⟨t, ht, rfl, HO, HOB, HBL⟩ := hrel
        clear HO6 HB2
        by_cases hlt : t < L
        · have hpos : (0 : Int) < (L : Int) - t := by omega
          obtain ⟨wo2, rfl⟩ : ∃ wo2 : World, wo2 = wr := ⟨_, rfl⟩
          go_wp2_with fail
          have HI := Lib.hid (H.out.below HBL.out (Nat.le_refl _))
          go_loopw [11, 12] (fun vb vi wx => ∃ (k d : Nat) (v : Int), k ≤ l.length ∧ vi = .int .i64 k ∧ vb = .int .i64 v ∧ Hid (Seek (PG.rest m l) l.length t k v) ∧ wx = wo2.drewN d) (fun _ vi _ => l.length - (intOf vi).toNat)
          case atStart => exact ⟨0, 0, -1, Nat.zero_le _, rfl, rfl, Lib.hid (Seek.zero _ _ _), rfl⟩
          case round =>
            obtain ⟨k, d, v, hk, rfl, rfl, HSK, rfl⟩ := hrel
            by_cases hlk : k < l.length
            · obtain ⟨b, off, x, rfl, hbb, hc, hx, _, HX⟩ := HI.out.elem hlk
              obtain ⟨cg, fg⟩ := taken_cell HOB.out hlk
              have hk0 : (0 : Int) ≤ (k : Int) := by omega
              have hk1 : (k : Int) < l.length := by omega
              obtain ⟨tk, htk⟩ : ∃ b, PR.taken (PG.rest m l) l.length t k = b := ⟨_, rfl⟩
              rw [htk] at cg
              have HTK := Lib.hid htk
              clear htk hx
              cases tk with
              | true =>
                have HN := Lib.hid (HSK.out.skip HTK.out)
                clear HSK
                go_wp2_with fail
                go_quiet (fail)
                go_wp2
                go_roundw
                case rel => exact ⟨k + 1, _, v, by omega, by go_num, rfl, HN, rfl⟩
                case measure => simp [intOf]; omega
              | false =>
                rcases HSK.out.form with rfl | ⟨vb, rfl⟩
                · have HN := Lib.hid (HSK.out.take HTK.out)
                  clear HSK
                  go_wp2_with fail
                  go_quiet (fail)
                  go_wp2
                  go_roundw
                  case rel => exact ⟨k + 1, _, k, by omega, by go_num, rfl, HN, rfl⟩
                  case measure => simp [intOf]; omega
                · have hvl := HSK.out.lt
                  obtain ⟨z, hcz, _, HZ⟩ := HI.out.here (k := vb) (by omega)
                  have hzk : l.getD vb 0 = z := by
                    have := HZ.out
                    simp [this]
                  have hvn : ¬ (vb : Int) < 0 := by omega
                  have hvd : decide ((vb : Int) < 0) = false := decide_eq_false hvn
                  have hv0 : (0 : Int) ≤ (vb : Int) := by omega
                  have hv1 : (vb : Int) < l.length := by omega
                  obtain ⟨x0, x1, _, _, rx0, rx1⟩ := HW.out.base m0 m1 k hlk
                  obtain ⟨z0, z1, _, _, rz0, rz1⟩ := HW.out.base m0 m1 vb (by omega)
                  have ex : PG.rest m l k = m * x % T := by unfold PG.rest; rw [HX.out, HTE.out]
                  have ez : PG.rest m l vb = m * z % T := by unfold PG.rest; rw [hzk, HTE.out]
                  rw [HX.out] at x0 x1
                  rw [hzk] at z0 z1
                  have wx1 : IntKind.i64.wrap (m * x) = m * x := IntWalk.i64_in _ (by omega)
                  have wz1 : IntKind.i64.wrap (m * z) = m * z := IntWalk.i64_in _ (by omega)
                  have tx : (m * x).tmod T = PG.rest m l k := by rw [Int.tmod_eq_emod_of_nonneg x0, ex]
                  have tz : (m * z).tmod T = PG.rest m l vb := by rw [Int.tmod_eq_emod_of_nonneg z0, ez]
                  clear hzk HX HZ ex ez
                  by_cases hxz : PG.rest m l vb < PG.rest m l k
                  · have HN := Lib.hid (HSK.out.turn HTK.out hxz)
                    clear HSK
                    generalize PG.rest m l k = rk at *
                    generalize PG.rest m l vb = rv at *
                    go_wp2_with fail
                    go_quiet (fail)
                    go_wp2
                    go_roundw
                    case rel => exact ⟨k + 1, _, k, by omega, by go_num, rfl, HN, rfl⟩
                    case measure => simp [intOf]; omega
                  · have HN := Lib.hid (HSK.out.stay hxz)
                    clear HSK
                    generalize PG.rest m l k = rk at *
                    generalize PG.rest m l vb = rv at *
                    have hxd : decide (rv < rk) = false := decide_eq_false hxz
                    go_wp2_with fail
                    go_quiet (fail)
                    go_wp2
                    go_roundw
                    case rel => exact ⟨k + 1, _, vb, by omega, by go_num, rfl, HN, rfl⟩
                    case measure => simp [intOf]; omega
            · obtain rfl : k = l.length := by omega
              obtain ⟨b, rfl, hb, hrk⟩ := HSK.out.done (by omega)
              have HOd := own_below HO.out (below_drewN (Below.refl _ _) d)
              have HBd := own_below HOB.out (below_drewN (Below.refl _ _) d)
              obtain ⟨cg, fg⟩ := taken_cell HBd hb
              have sg := taken_set HBd hb hrk
              obtain ⟨c6, f6, s6⟩ := incs_cell (own_far (k := b) HOd (g := wo.heap.size) (by simpa [Value.ownBlock] using hgb) (.bool true)) hb hrk
              have S6 := Lib.hid s6
              have SB := Lib.hid (own_far (k := b) sg (g := g) (by simpa [Value.ownBlock] using fun e => hgb e.symm) (.int .i64 (PG.base m l b + 1)))
              have SL := Lib.hid (((below_drewN HBL.out d).setCell (p := ⟨wo.heap.size, b, none⟩) hsz (.bool true)).setCell (p := ⟨g, b, none⟩) hg0 (.int .i64 (PG.base m l b + 1)))
              obtain ⟨_, _, b0, b1, _, _⟩ := HW.out.base m0 m1 b hb
              obtain ⟨tb, htb⟩ : ∃ x, PR.taken (PG.rest m l) l.length t b = x := ⟨_, rfl⟩
              rw [htb] at cg
              clear HOd HBd sg s6 hrk htb HSK
              generalize PG.base m l b = z at *
              have hb0 : (0 : Int) ≤ (b : Int) := by omega
              have hb1 : (b : Int) < l.length := by omega
              go_wp2
              go_roundw
              case rel => exact ⟨t + 1, by omega, by first | rfl | go_num | (congr 1; omega), S6, SB, SL⟩
              case measure => simp [intOf]; omega
        · obtain rfl : t = L := by omega
          have hz0 : (t : Int) - t = 0 := by omega
          rw [hz0]
          have HF := Lib.hid HO.out
          rw [← HPI.out] at HF
          go_wp2
          go_ret
          exact ⟨_, rfl, HF.out, HBL.out⟩
end Go.Proofs.YtaijpiebjhhkjaaGreatDoor
