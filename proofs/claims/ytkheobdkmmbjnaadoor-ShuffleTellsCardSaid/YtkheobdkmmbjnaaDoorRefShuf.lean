/- fairref2.Shuffle: the reference's. -/
import Derived.Test.YtkheobdkmmbjnaaDoorShufStep
import Derived.Test.YtkheobdkmmbjnaaDoorMake
namespace Go.Proofs.YtkheobdkmmbjnaaDoor
open Go.RowKit
theorem Tryd.info_bool' : (Tryd.prog.info? 4).map (fun i => (i.zero, i.size, i.bytes)) = some (some (.bool false), 1, 1) := by kernel_rfl
def leftOf (l : List Int) (p : Int) (i : Nat) : Int := l.getD i 0 - PS.tk l p i
theorem gots_zero (key : Nat → Int) (n : Nat) : (PR.takens key n 0).map Value.bool = List.replicate n (.bool false) := by rw [PR.takens_zero]; simp
/-- how far the search for the best has come: the first k looked at, none or the best of them -/
def Seek (key : Nat → Int) (n t k : Nat) (v : Int) : Prop := (v = -1 ∧ ∀ j, j < k → PR.taken key n t j = true) ∨ ∃ b : Nat, v = b ∧ PR.Best key (PR.taken key n t) k b
theorem Seek.zero (key : Nat → Int) (n t : Nat) : Seek key n t 0 (-1) := .inl ⟨rfl, fun _ h => by omega⟩
theorem Seek.done {key : Nat → Int} {n t : Nat} {v : Int} (h : Seek key n t n v) (ht : t < n) : ∃ b : Nat, v = b ∧ b < n ∧ PR.rank key n b = t := by
  rcases h with ⟨_, h⟩ | ⟨b, rfl, h⟩
  · exact absurd h (PR.some_free ht)
  · exact ⟨b, rfl, h.1, h.rank ht⟩
theorem Seek.skip {key : Nat → Int} {n t k : Nat} {v : Int} (h : Seek key n t k v) (hk : PR.taken key n t k = true) : Seek key n t (k + 1) v := by
  rcases h with ⟨rfl, h⟩ | ⟨b, rfl, h⟩
  · refine .inl ⟨rfl, fun j hj => ?_⟩
    rcases Nat.lt_or_ge j k with h1 | h1
    · exact h j h1
    · obtain rfl : j = k := by omega
      exact hk
  · exact .inr ⟨b, rfl, h.skip hk⟩
theorem Seek.take {key : Nat → Int} {n t k : Nat} (h : Seek key n t k (-1)) (hk : PR.taken key n t k = false) : Seek key n t (k + 1) k := by
  rcases h with ⟨_, h⟩ | ⟨b, hb, _⟩
  · exact .inr ⟨k, rfl, PR.Best.first h hk⟩
  · omega
theorem Seek.turn {key : Nat → Int} {n t k b : Nat} (h : Seek key n t k (b : Int)) (hk : PR.taken key n t k = false) (hlt : key b < key k) : Seek key n t (k + 1) k := by
  rcases h with ⟨hb, _⟩ | ⟨b', hb, h⟩
  · omega
  · obtain rfl : b = b' := by omega
    exact .inr ⟨k, rfl, h.turn hk hlt⟩
theorem Seek.stay {key : Nat → Int} {n t k b : Nat} (h : Seek key n t k (b : Int)) (hlt : ¬ key b < key k) : Seek key n t (k + 1) b := by
  rcases h with ⟨hb, _⟩ | ⟨b', hb, h⟩
  · omega
  · obtain rfl : b = b' := by omega
    exact .inr ⟨b, rfl, h.stay hlt⟩
theorem Seek.lt {key : Nat → Int} {n t k b : Nat} (h : Seek key n t k (b : Int)) : b < k := by
  rcases h with ⟨hb, _⟩ | ⟨b', hb, h⟩
  · omega
  · obtain rfl : b = b' := by omega
    exact h.1
theorem Seek.form {key : Nat → Int} {n t k : Nat} {v : Int} (h : Seek key n t k v) : v = -1 ∨ ∃ b : Nat, v = b := by
  rcases h with ⟨hb, _⟩ | ⟨b', hb, _⟩
  · exact .inl hb
  · exact .inr ⟨b', hb⟩
/-- so much more for the first k -/
def addTo (f : Nat → Int) (q : Int) (n k : Nat) : List Int := (List.range n).map fun i => if i < k then f i + q else f i
theorem addTo_zero (f : Nat → Int) (q : Int) (n : Nat) : addTo f q n 0 = (List.range n).map f := by simp [addTo]
theorem addTo_at (f : Nat → Int) (q : Int) (n k : Nat) (h : k < n) : (addTo f q n k)[k]? = some (f k) := by simp [addTo, h]
theorem addTo_set (f : Nat → Int) (q : Int) (n k : Nat) (_ : k < n) : (addTo f q n k).set k (f k + q) = addTo f q n (k + 1) := by
  apply List.ext_getElem
  · simp [addTo]
  · intro i h1 h2
    rw [List.getElem_set]
    by_cases e : k = i
    · subst e; rw [if_pos rfl]; simp [addTo]
    · rw [if_neg e]
      simp only [addTo, List.getElem_map, List.getElem_range]
      by_cases h3 : i < k
      · rw [if_pos h3, if_pos (by omega)]
      · rw [if_neg h3, if_neg (by omega)]
theorem addTo_all (f : Nat → Int) (q : Int) (n : Nat) : addTo f q n n = (List.range n).map fun i => f i + q := by
  apply List.ext_getElem
  · simp [addTo]
  · intro i h1 h2
    have : i < n := by simpa [addTo] using h1
    simp [addTo, this]
theorem add_cell {w : World} {base g cap n k : Nat} {f : Nat → Int} {q : Int} (h : w.ownsRow base 3 1 (.slice (some ⟨g, 0, none⟩) n cap) n ((addTo f q n k).map (Value.int .i64))) (hk : k < n) :
    w.cell? ⟨g, k, none⟩ = some (.int .i64 (f k)) ∧ w.frozen? ⟨g, k, none⟩ = false ∧ (w.setCell ⟨g, k, none⟩ (.int .i64 (f k + q))).ownsRow base 3 1 (.slice (some ⟨g, 0, none⟩) n cap) n ((addTo f q n (k + 1)).map (Value.int .i64)) := by
  have h1 := h.cellAt k (by omega)
  rw [List.getElem?_map, addTo_at f q n k hk] at h1
  have h2 := (h.stored k (.int .i64 (f k + q))).1
  rw [← List.map_set, addTo_set f q n k hk] at h2
  exact ⟨h1, h.frozenAt k, h2⟩
theorem taken_cell {w : World} {base g cap n t k : Nat} {key : Nat → Int} (h : w.ownsRow base 4 1 (.slice (some ⟨g, 0, none⟩) n cap) n ((PR.takens key n t).map Value.bool)) (hk : k < n) :
    w.cell? ⟨g, k, none⟩ = some (.bool (PR.taken key n t k)) ∧ w.frozen? ⟨g, k, none⟩ = false := by
  have h1 := h.cellAt k (by omega)
  rw [List.getElem?_map, PR.takens_at hk] at h1
  exact ⟨h1, h.frozenAt k⟩
theorem taken_set {w : World} {base g cap n t b : Nat} {key : Nat → Int} (h : w.ownsRow base 4 1 (.slice (some ⟨g, 0, none⟩) n cap) n ((PR.takens key n t).map Value.bool)) (hb : b < n) (hr : PR.rank key n b = t) :
    (w.setCell ⟨g, b, none⟩ (.bool true)).ownsRow base 4 1 (.slice (some ⟨g, 0, none⟩) n cap) n ((PR.takens key n (t + 1)).map Value.bool) := by
  have h2 := (h.stored b (.bool true)).1
  rw [← List.map_set, PR.takens_set hb hr] at h2
  exact h2
set_option maxHeartbeats 8000000 in
set_option maxRecDepth 100000 in
theorem refShuf_any (A : Option Addr) (c : Nat) (l : List Int) (p : Int) (w : World) (h : Ints w w.heap.size A c l) (he : shufErr l p = 0) (y : Int) (hy : PS.all l p = y) :
    Calls Tryd.prog 69 #[.slice A l.length c, .int .i64 p] w fun e w' => ∃ v, e = .returned (.tuple #[v, .int .i64 y]) ∧ w'.ownsRow w.heap.size 3 1 v l.length ((PS.step l p).map (Value.int .i64)) ∧ Below w.heap.size w w' := by
  obtain ⟨⟨h0, h6, hbad⟩, p0, p1⟩ := shuf_ok he
  have hb := shares_in hbad
  have hyb := all_bd hb h6 p0 p1
  rw [hy] at hyb
  obtain ⟨y0, y1⟩ := hyb
  have HY := Lib.hid hy
  have HB := Lib.hid hb
  have H := Lib.hid h
  have hm := Nat.le_trans h.le h.cap
  unfold maxLen at hm
  have hl6 : l.length ≤ 1000000 := by omega
  clear h he hbad hy hb
  go_enter Tryd.func69, Tryd.ntmps69
  go_wp2
  go_loopw [6, 7, 8] (fun v s i wr => ∃ k : Nat, k ≤ l.length ∧ i = .int .i64 k ∧ s = .int .i64 (PS.all (l.take k) p) ∧ Hid (wr.ownsRow w.heap.size 3 1 v k (((List.range k).map (leftOf l p)).map (Value.int .i64))) ∧ Below w.heap.size w wr)
    (fun _ _ i _ => l.length - (intOf i).toNat)
  case atStart => exact ⟨0, Nat.zero_le _, rfl, rfl, Lib.hid (World.ownsRow_nil _ _ _ _), Below.refl _ _⟩
  case round =>
    obtain ⟨k, hk, rfl, rfl, HO, hbel⟩ := hrel
    by_cases hlt : k < l.length
    · obtain ⟨b, off, x, rfl, hbb, hc0, hx, HT, HX⟩ := H.out.elem hlt
      have hc : wr.cell? ⟨b, off + k, none⟩ = some (.int .i64 x) := (hbel.cell (p := ⟨b, off + k, none⟩) hbb).trans hc0
      obtain ⟨x0, x1⟩ := HB.out x hx
      have h3 : (l.take k).length ≤ k := List.length_take_le _ _
      have h4 := all_bd (l := l.take k) (fun a ha => HB.out a (List.mem_of_mem_take ha)) (by omega) p0 p1
      have m0 : 0 ≤ x * p := Int.mul_nonneg x0 p0
      have m1 : x * p ≤ 10000 * 1000 := Int.mul_le_mul x1 p1 p0 (by omega)
      have t0 : 0 ≤ x * p / 1000 ∧ x * p / 1000 ≤ 10000 := by omega
      have HS : Hid (PS.all (l.take (k + 1)) p = PS.all (l.take k) p + x * p / 1000) := Lib.hid (by rw [HT.out, all_snoc])
      have HV : Hid (leftOf l p k = x - x * p / 1000) := Lib.hid (by unfold leftOf PS.tk; rw [HX.out])
      clear HT HX hx hc0
      obtain ⟨t0, t1⟩ := t0
      generalize PS.all (l.take k) p = Q at *
      go_wp2_with (at_builtin; refine wpList_push wr _ rfl (.tmp 31) (.tmp 38) 42 rfl w.heap.size 3 (.int .i64 0) 1 8 Tryd.underlying42 Tryd.info_int rfl (by omega) _ k _ rfl HO.out rfl rfl (by simp [Value.oneCell']) (by omega) (by omega) hbel.size ?_; intro v' w1 hown1 hg1)
      go_roundw
      case rel => exact ⟨k + 1, by omega, by go_num, by rw [HS.out], Lib.hid (by rw [range_snoc, HV.out]; exact hown1), below_push hbel HO.out hg1 (Nat.le_refl _) hbel.size⟩
      case measure => simp [intOf]; omega
    · obtain rfl : k = l.length := by omega
      have e1 : PS.all (l.take l.length) p = y := by rw [List.take_length]; exact HY.out
      rw [e1]; clear e1
      obtain ⟨g, cap, rfl, hg0, hg1, hcap, hcm⟩ := own_form HO.out h0
      have hsz := hbel.size
      obtain ⟨wo, rfl⟩ : ∃ wo : World, wo = wr := ⟨_, rfl⟩
      go_wp2_with (refine wpList_makeN wo rfl (.tmp 41) (.tmp 41) 30 rfl w.heap.size 4 (.bool false) 1 Tryd.underlying30 Tryd.info_bool' rfl l.length rfl rfl hl6 (by decide) hsz ?_; intro w2 hown2 hgr2 hsz2)
      have hgb : g ≠ wo.heap.size := by omega
      have q0 : 0 ≤ y / (l.length : Int) := Int.ediv_nonneg y0 (by omega)
      have q1 : y / (l.length : Int) ≤ y := Int.ediv_le_self _ y0
      have hne : ¬ l = [] := by intro hl; subst hl; simp at h0
      have HO6 : Hid (w2.ownsRow w.heap.size 3 1 (.slice (some ⟨g, 0, none⟩) l.length cap) l.length ((addTo (leftOf l p) (y / l.length) l.length 0).map (Value.int .i64))) := Lib.hid (by rw [addTo_zero]; exact HO.out.kept hgr2 (.inr (by simp [Value.ownBlock])))
      have HOB : Hid (w2.ownsRow w.heap.size 4 1 (.slice (some ⟨wo.heap.size, 0, none⟩) l.length l.length) l.length ((PR.takens (PS.key l) l.length 0).map Value.bool)) := Lib.hid (by rw [gots_zero]; exact hown2)
      have HB2 := Lib.hid (below_none hbel hgr2 hsz)
      clear hown2 hgr2 hsz2 HO
      go_loopw [11] (fun i wx => ∃ k : Nat, k ≤ l.length ∧ i = .int .i64 k ∧ Hid (wx.ownsRow w.heap.size 3 1 (.slice (some ⟨g, 0, none⟩) l.length cap) l.length ((addTo (leftOf l p) (y / l.length) l.length k).map (Value.int .i64))) ∧ Hid (wx.ownsRow w.heap.size 4 1 (.slice (some ⟨wo.heap.size, 0, none⟩) l.length l.length) l.length ((PR.takens (PS.key l) l.length 0).map Value.bool)) ∧ Hid (Below w.heap.size w wx))
        (fun i _ => l.length - (intOf i).toNat)
      case atStart => exact ⟨0, Nat.zero_le _, rfl, HO6, HOB, HB2⟩
      case round =>
        obtain ⟨k, hk, rfl, HO, HOB, HBL⟩ := hrel
        by_cases hlt : k < l.length
        · obtain ⟨c6, f6, s6⟩ := add_cell HO.out hlt
          have hlb : 0 ≤ leftOf l p k ∧ leftOf l p k ≤ 10000 := by
            have hx := HB.out _ (getD_mem l k hlt)
            have h5 := PS.left_mono 0 (l.getD k 0) p hx.1 p0 p1
            have h6 := Int.mul_nonneg hx.1 p0
            unfold leftOf PS.tk
            simp only [Int.zero_mul, Int.zero_ediv] at h5
            omega
          obtain ⟨b0, b1⟩ := hlb
          have S6 := Lib.hid (own_below s6 (Below.refl _ _).drew)
          have SB := Lib.hid (own_below (own_far (k := k) HOB.out (g := g) (by simpa [Value.ownBlock] using fun e => hgb e.symm) (.int .i64 (leftOf l p k + y / l.length))) (Below.refl _ _).drew)
          have SL := Lib.hid ((HBL.out.setCell (p := ⟨g, k, none⟩) hg0 (.int .i64 (leftOf l p k + y / l.length))).drew)
          clear s6
          generalize leftOf l p k = z at *
          have wq : IntKind.i64.wrap (y.tdiv (l.length : Int)) = y / (l.length : Int) := by rw [Int.tdiv_eq_ediv_of_nonneg y0]; exact IntWalk.i64_in _ (by omega)
          have wq2 : IntKind.i64.wrap (z + y / (l.length : Int)) = z + y / (l.length : Int) := IntWalk.i64_in _ (by omega)
          have hk0 : (0 : Int) ≤ (k : Int) := by omega
          have hk1 : (k : Int) < l.length := by omega
          go_wp2
          go_region
          all_goals
            go_wp2
            go_roundw
            case rel => exact ⟨k + 1, by omega, by go_num, S6, SB, SL⟩
            case measure => simp [intOf]; omega
        · obtain rfl : k = l.length := by omega
          have HO3 : Hid (wr.ownsRow w.heap.size 3 1 (.slice (some ⟨g, 0, none⟩) l.length cap) l.length ((PR.incs (shufBase l p) (PS.key l) l.length 0).map (Value.int .i64))) := Lib.hid (by
            rw [PR.incs_zero]
            have e : (fun i => leftOf l p i + y / (l.length : Int)) = shufBase l p := by funext i; unfold leftOf shufBase; rw [HY.out]
            rw [← e, ← addTo_all]; exact HO.out)
          have m0 : 0 ≤ y % (l.length : Int) := Int.emod_nonneg _ (by omega)
          have m1 : y % (l.length : Int) < l.length := Int.emod_lt_of_pos _ (by omega)
          obtain ⟨m, hmm⟩ : ∃ m : Nat, (m : Int) = y % (l.length : Int) := ⟨(y % (l.length : Int)).toNat, by omega⟩
          have wt : y.tmod (l.length : Int) = m := by rw [Int.tmod_eq_emod_of_nonneg y0]; exact hmm.symm
          have hm1 : m < l.length := by omega
          have HM := Lib.hid hmm
          clear hmm m0 m1 HO HO6 HB2
          go_wp2_with fail
          clear wt
          go_loopw [12] (fun vk wx => ∃ t : Nat, t ≤ m ∧ vk = .int .i64 ((m : Int) - t) ∧ Hid (wx.ownsRow w.heap.size 3 1 (.slice (some ⟨g, 0, none⟩) l.length cap) l.length ((PR.incs (shufBase l p) (PS.key l) l.length t).map (Value.int .i64))) ∧ Hid (wx.ownsRow w.heap.size 4 1 (.slice (some ⟨wo.heap.size, 0, none⟩) l.length l.length) l.length ((PR.takens (PS.key l) l.length t).map Value.bool)) ∧ Hid (Below w.heap.size w wx))
            (fun vk _ => (intOf vk).toNat)
          case atStart => exact ⟨0, Nat.zero_le _, by simp, HO3, HOB, HBL⟩
          case round =>
            obtain ⟨t, ht, rfl, HO, HOB, HBL⟩ := hrel
            clear HO3
            by_cases hlt : t < m
            · have hpos : (0 : Int) < (m : Int) - t := by omega
              obtain ⟨wo2, rfl⟩ : ∃ wo2 : World, wo2 = wr := ⟨_, rfl⟩
              go_wp2_with fail
              have HI := Lib.hid (H.out.below HBL.out (Nat.le_refl _))
              go_loopw [13, 14] (fun vb vi wx => ∃ (k d : Nat) (v : Int), k ≤ l.length ∧ vi = .int .i64 k ∧ vb = .int .i64 v ∧ Hid (Seek (PS.key l) l.length t k v) ∧ wx = wo2.drewN d) (fun _ vi _ => l.length - (intOf vi).toNat)
              case atStart => exact ⟨0, 0, -1, Nat.zero_le _, rfl, rfl, Lib.hid (Seek.zero _ _ _), rfl⟩
              case round =>
                obtain ⟨k, d, v, hk, rfl, rfl, HSK, rfl⟩ := hrel
                by_cases hlk : k < l.length
                · obtain ⟨b, off, x, rfl, hbb, hc, hx, _, HX⟩ := HI.out.elem hlk
                  obtain ⟨cg, fg⟩ := taken_cell HOB.out hlk
                  have hk0 : (0 : Int) ≤ (k : Int) := by omega
                  have hk1 : (k : Int) < l.length := by omega
                  obtain ⟨tk, htk⟩ : ∃ b, PR.taken (PS.key l) l.length t k = b := ⟨_, rfl⟩
                  rw [htk] at cg
                  have HTK := Lib.hid htk
                  clear htk hx
                  cases tk with
                  | true =>
                    have HN := Lib.hid (HSK.out.skip HTK.out)
                    clear HSK
                    go_wp2_with fail
                    go_quiet (fail)
                    go_wp2
                    go_roundw
                    case rel => exact ⟨k + 1, _, v, by omega, by go_num, rfl, HN, rfl⟩
                    case measure => simp [intOf]; omega
                  | false =>
                    rcases HSK.out.form with rfl | ⟨vb, rfl⟩
                    · have HN := Lib.hid (HSK.out.take HTK.out)
                      clear HSK
                      go_wp2_with fail
                      go_quiet (fail)
                      go_wp2
                      go_roundw
                      case rel => exact ⟨k + 1, _, k, by omega, by go_num, rfl, HN, rfl⟩
                      case measure => simp [intOf]; omega
                    · have hvl := HSK.out.lt
                      obtain ⟨z, hcz, _, HZ⟩ := HI.out.here (k := vb) (by omega)
                      have hzk : l.getD vb 0 = z := by
                        have := HZ.out
                        simp [this]
                      have hvn : ¬ (vb : Int) < 0 := by omega
                      have hvd : decide ((vb : Int) < 0) = false := decide_eq_false hvn
                      have hv0 : (0 : Int) ≤ (vb : Int) := by omega
                      have hv1 : (vb : Int) < l.length := by omega
                      have hkey : PS.key l vb < PS.key l k ↔ x < z := by unfold PS.key; rw [HX.out, hzk]; omega
                      have HK := Lib.hid hkey
                      clear hkey hzk HX HZ
                      by_cases hxz : x < z
                      · have HN := Lib.hid (HSK.out.turn HTK.out (HK.out.2 hxz))
                        clear HSK HK
                        go_wp2_with fail
                        go_quiet (fail)
                        go_wp2
                        go_roundw
                        case rel => exact ⟨k + 1, _, k, by omega, by go_num, rfl, HN, rfl⟩
                        case measure => simp [intOf]; omega
                      · have HN := Lib.hid (HSK.out.stay (fun h => hxz (HK.out.1 h)))
                        have hxd : decide (x < z) = false := decide_eq_false hxz
                        clear HSK HK
                        go_wp2_with fail
                        go_quiet (fail)
                        go_wp2
                        go_roundw
                        case rel => exact ⟨k + 1, _, vb, by omega, by go_num, rfl, HN, rfl⟩
                        case measure => simp [intOf]; omega
                · obtain rfl : k = l.length := by omega
                  obtain ⟨b, rfl, hb, hrk⟩ := HSK.out.done (by omega)
                  have HOd := own_below HO.out (below_drewN (Below.refl _ _) d)
                  have HBd := own_below HOB.out (below_drewN (Below.refl _ _) d)
                  obtain ⟨cg, fg⟩ := taken_cell HBd hb
                  have sg := taken_set HBd hb hrk
                  obtain ⟨c6, f6, s6⟩ := incs_cell (own_far (k := b) HOd (g := wo.heap.size) (by simpa [Value.ownBlock] using hgb) (.bool true)) hb hrk
                  have S6 := Lib.hid s6
                  have SB := Lib.hid (own_far (k := b) sg (g := g) (by simpa [Value.ownBlock] using fun e => hgb e.symm) (.int .i64 (shufBase l p b + 1)))
                  have SL := Lib.hid (((below_drewN HBL.out d).setCell (p := ⟨wo.heap.size, b, none⟩) hsz (.bool true)).setCell (p := ⟨g, b, none⟩) hg0 (.int .i64 (shufBase l p b + 1)))
                  obtain ⟨b0, b1⟩ := shufBase_bd HB.out h6 p0 p1 b hb
                  obtain ⟨tb, htb⟩ : ∃ x, PR.taken (PS.key l) l.length t b = x := ⟨_, rfl⟩
                  rw [htb] at cg
                  clear HOd HBd sg s6 hrk htb HSK
                  generalize shufBase l p b = z at *
                  have hb0 : (0 : Int) ≤ (b : Int) := by omega
                  have hb1 : (b : Int) < l.length := by omega
                  go_wp2
                  go_roundw
                  case rel => exact ⟨t + 1, by omega, by first | rfl | go_num | (congr 1; omega), S6, SB, SL⟩
                  case measure => simp [intOf]; omega
            · obtain rfl : t = m := by omega
              have hz0 : (t : Int) - t = 0 := by omega
              rw [hz0]
              have hfin : wr.ownsRow w.heap.size 3 1 (.slice (some ⟨g, 0, none⟩) l.length cap) l.length ((PS.step l p).map (Value.int .i64)) := by
                rw [shufStep_incs, HY.out, ← HM.out]; exact HO.out
              have HF := Lib.hid hfin; clear hfin
              go_wp2
              go_ret2
              exact ⟨_, rfl, HF.out, HBL.out⟩
end Go.Proofs.YtkheobdkmmbjnaaDoor
