/- Several texts in one: PlRounds, PlWant, PlKept. -/
import Derived.Test.YtaijpiebjhhkjaaGreatDoorLibJ
import Derived.Test.YtaijpiebjhhkjaaGreatDoorLibO
/- Rates that rise together: their loads may be, they fit; the rounds one by one. Plain. -/
namespace Go.Proofs.YtaijpiebjhhkjaaGreatDoor
section
variable {caps : List Int} {paths : List (List Int)} {K : Nat} {R : List Rat}
theorem FillEnds.ints (h : FillEnds caps paths K R) (ok : NetOk caps paths) : ∃ D : Nat, 0 < D ∧ D ≤ 64 ∧ ∀ u, (0 ≤ R.getD u 0 ∧ R.getD u 0 ≤ 1000) ∧ ∃ z : Int, R.getD u 0 * (D : Rat) = (z : Rat) := by
  obtain ⟨D, h1, h2, _, h3⟩ := (h.finv ok).D ok
  refine ⟨D, h1, h2, fun u => ?_⟩
  by_cases hu : u < R.length
  · have hm : R.getD u 0 ∈ R := by rw [List.getD_eq_getElem?_getD, List.getElem?_eq_getElem hu]; exact List.getElem_mem hu
    have := (h.rates ok _ hm).2
    exact ⟨⟨by grind, this.2⟩, h3 u _ (at_map hu)⟩
  · have e : R.getD u 0 = 0 := by rw [List.getD_eq_getElem?_getD, List.getElem?_eq_none (by omega)]; rfl
    rw [e]
    refine ⟨⟨Rat.le_refl, ?_⟩, 0, ?_⟩
    · decide +kernel
    · rw [Rat.zero_mul]; rfl
theorem addUp_ok {D : Nat} (h0 : 0 < D) (h1 : D ≤ 64) (h : ∀ u, (0 ≤ R.getD u 0 ∧ R.getD u 0 ≤ 1000) ∧ ∃ z : Int, R.getD u 0 * (D : Rat) = (z : Rat)) :
    ∀ (us : List Nat) (c : Rat) (m : Nat), us.length + m ≤ 6 → 0 ≤ c → c ≤ 1000 * (m : Rat) → (∃ z : Int, c * (D : Rat) = (z : Rat)) → ∃ s, us.foldl (addQ R) (some c) = some s := by
  intro us
  induction us with
  | nil => intro c m _ _ _ _; exact ⟨c, rfl⟩
  | cons u us ih =>
    intro c m hm c0 c1 ⟨z, hz⟩
    obtain ⟨⟨r0, r1⟩, y, hy⟩ := h u
    simp only [List.length_cons] at hm
    have hm6 : (m : Rat) ≤ 5 := by exact_mod_cast (by omega : m ≤ 5)
    have hzz : (c + R.getD u 0) * (D : Rat) = ((z + y : Int) : Rat) := by push_cast; rw [← hz, ← hy]; grind
    have hq : QIn (c + R.getD u 0) := qin_of h0 (by omega) hzz (by grind) (by grind)
    have e : addQ R (some c) u = some (c + R.getD u 0) := by show (if _ then _ else _) = _; rw [if_pos hq]
    show ∃ s, us.foldl (addQ R) (addQ R (some c) u) = some s
    rw [e]
    refine ih _ (m + 1) (by omega) (by grind) ?_ ⟨z + y, hzz⟩
    have : ((m + 1 : Nat) : Rat) = (m : Rat) + 1 := by push_cast; rfl
    rw [this]; grind
theorem FillEnds.loads (h : FillEnds caps paths K R) (ok : NetOk caps paths) : ∃ L, loadsTo paths R caps.length = some L := by
  obtain ⟨D, h1, h2, h3⟩ := h.ints ok
  have key : ∀ n, ∃ L, loadsTo paths R n = some L := by
    intro n
    induction n with
    | zero => exact ⟨[], rfl⟩
    | succ n ih =>
      obtain ⟨L, hL⟩ := ih
      obtain ⟨s, hs⟩ := addUp_ok h1 h2 h3 (users paths (n : Int)) 0 0 (by have := users_len paths (n : Int); have := ok.F1; omega) Rat.le_refl (by rw [show ((0 : Nat) : Rat) = 0 from rfl, Rat.mul_zero]; exact Rat.le_refl) ⟨0, by rw [Rat.zero_mul]; rfl⟩
      exact ⟨_, loadsTo_yes hL hs⟩
  exact key caps.length
theorem FillEnds.fitsT (h : FillEnds caps paths K R) (ok : NetOk caps paths) {L : List Rat} (hL : loadsTo paths R caps.length = some L) : fitsB caps R L = true := (fitsB_iff hL (h.len ok)).2 (h.fair ok).1
theorem FillEnds.fairT (h : FillEnds caps paths K R) (ok : NetOk caps paths) {L : List Rat} (hL : loadsTo paths R caps.length = some L) : fairP caps paths R L = true := (fairP_iff ok (h.len ok) hL).2 (h.fair ok)
theorem FillEnds.neckT (h : FillEnds caps paths K R) (ok : NetOk caps paths) {L : List Rat} (hL : loadsTo paths R caps.length = some L) {f : Nat} (hf : f < paths.length) : 0 ≤ neckOf paths R ((fulls caps L).map fun (i : Nat) => (i : Int)) f := by
  rcases neck_iff ok hL hf with ⟨_, h2⟩ | ⟨l, h2, _⟩
  · exact absurd ((h.fair ok).2 f hf) h2
  · rw [h2]; omega
/-- the least share of a round, and of the one ahead of it -/
def bq (caps : List Int) (paths : List (List Int)) (i : Nat) : Rat := (bestTo (share caps paths (fillSt caps paths i)) caps.length).getD 0
def pq (caps : List Int) (paths : List (List Int)) : Nat → Rat
  | 0 => 0
  | i + 1 => bq caps paths i
def outs (caps : List Int) (paths : List (List Int)) (i : Nat) : List Nat := roundOut caps paths (fillSt caps paths i)
/-- in the midst of a round -/
def mid (caps : List Int) (paths : List (List Int)) (i k : Nat) : St := setAll (fillSt caps paths i) (bq caps paths i) ((outs caps paths i).take k)
theorem FillEnds.at_i (h : FillEnds caps paths K R) (ok : NetOk caps paths) {i : Nat} (hi : i < K) : FInv caps paths (fillSt caps paths i) ∧ bestTo (share caps paths (fillSt caps paths i)) caps.length = some (bq caps paths i) := by
  have hf := (finv_at ok i fun j hj => h.2.1 j (by omega)).1
  obtain ⟨b, hb⟩ := best_is hf ok (h.2.1 i hi)
  refine ⟨hf, ?_⟩
  unfold bq; rw [hb]; rfl
theorem mid_zero (i : Nat) : mid caps paths i 0 = fillSt caps paths i := rfl
theorem FillEnds.mid_end (h : FillEnds caps paths K R) (ok : NetOk caps paths) {i : Nat} (hi : i < K) : mid caps paths i (outs caps paths i).length = fillSt caps paths (i + 1) := by
  unfold mid
  rw [List.take_length]
  show _ = roundSt caps paths (fillSt caps paths i)
  unfold roundSt
  rw [(h.at_i ok hi).2]; rfl
theorem FillEnds.out_at (h : FillEnds caps paths K R) (ok : NetOk caps paths) {i k f : Nat} (hi : i < K) (hk : (outs caps paths i)[k]? = some f) :
    f < paths.length ∧ (mid caps paths i k).at_ f = none ∧ mid caps paths i (k + 1) = (mid caps paths i k).set f (some (bq caps paths i)) ∧ (mid caps paths i (k + 1)).countP Option.isSome = (mid caps paths i k).countP Option.isSome + 1 := by
  obtain ⟨hf, hb⟩ := h.at_i ok hi
  have hm : f ∈ outs caps paths i := List.mem_of_getElem? hk
  obtain ⟨h1, h2, _⟩ := (out_iff hb).1 hm
  have hlt : k < (outs caps paths i).length := (List.getElem?_eq_some_iff.1 hk).1
  have htk : (outs caps paths i).take (k + 1) = (outs caps paths i).take k ++ [f] := by rw [List.take_add_one, hk]; rfl
  have hnd : (outs caps paths i).Nodup := out_nodup _ _ _
  have hnk : f ∉ (outs caps paths i).take k := fun hc => by
    obtain ⟨j, hj, e⟩ := List.getElem_of_mem hc
    rw [List.length_take] at hj
    rw [List.getElem_take] at e
    have e2 : (outs caps paths i)[k] = f := by rw [List.getElem?_eq_getElem hlt] at hk; exact Option.some.inj hk
    have := (List.getElem_inj hnd).1 (e.trans e2.symm)
    omega
  have hat : (mid caps paths i k).at_ f = none := by
    unfold mid
    rw [setAll_at _ _ _ _ (by rw [hf.len]; exact h1), if_neg hnk]; exact h2
  have hset : mid caps paths i (k + 1) = (mid caps paths i k).set f (some (bq caps paths i)) := by unfold mid; rw [htk, setAll_snoc]
  refine ⟨h1, hat, hset, ?_⟩
  have hml : f < (mid caps paths i k).length := by unfold mid; rw [setAll_len, hf.len]; exact h1
  rw [hset, List.countP_set hml]
  have : (mid caps paths i k)[f] = none := by
    unfold St.at_ at hat
    rw [List.getD_eq_getElem?_getD, List.getElem?_eq_getElem hml] at hat
    simpa using hat
  rw [this]; simp
theorem FillEnds.stay (h : FillEnds caps paths K R) (ok : NetOk caps paths) {i f : Nat} {q : Rat} (hf : f < paths.length) (hi : i ≤ K) (hq : (fillSt caps paths i).at_ f = some q) : R.getD f 0 = q := by
  have key : ∀ d, i + d ≤ K → (fillSt caps paths (i + d)).at_ f = some q := by
    intro d
    induction d with
    | zero => intro _; exact hq
    | succ d ih =>
      intro hd
      have h1 := ih (by omega)
      obtain ⟨h2, h3⟩ := h.at_i ok (show i + d < K by omega)
      show (roundSt caps paths (fillSt caps paths (i + d))).at_ f = _
      rw [round_at h2 h3 hf, if_neg, h1]
      intro hc
      have := ((out_iff h3).1 hc).2.1
      rw [h1] at this; cases this
  have := key (K - i) (by omega)
  rw [show i + (K - i) = K by omega, h.2.2] at this
  rw [at_map (by rw [h.len ok]; exact hf)] at this
  injection this
theorem FillEnds.rate_out (h : FillEnds caps paths K R) (ok : NetOk caps paths) {i f : Nat} (hi : i < K) (hf : f ∈ outs caps paths i) : R.getD f 0 = bq caps paths i := by
  obtain ⟨h1, h2⟩ := h.at_i ok hi
  have hfl := ((out_iff h2).1 hf).1
  refine h.stay ok hfl (show i + 1 ≤ K by omega) ?_
  show (roundSt caps paths (fillSt caps paths i)).at_ f = _
  have hf' : f ∈ roundOut caps paths (fillSt caps paths i) := hf
  rw [round_at h1 h2 hfl, if_pos hf']
theorem FillEnds.out_pos (h : FillEnds caps paths K R) (ok : NetOk caps paths) {i : Nat} (hi : i < K) : 0 < (outs caps paths i).length := by
  obtain ⟨h1, h2⟩ := h.at_i ok hi
  obtain ⟨l, hl, hs⟩ := bestTo_in h2
  have := free_out h2 hl hs
  have := (share_some hs).1
  show 0 < (roundOut caps paths (fillSt caps paths i)).length
  omega
theorem FillEnds.rise (h : FillEnds caps paths K R) (ok : NetOk caps paths) {i : Nat} (hi : i < K) : pq caps paths i < bq caps paths i := by
  obtain ⟨h1, h2⟩ := h.at_i ok hi
  obtain ⟨_, _, h3, _, h4⟩ := h1.next ok h2
  cases i with
  | zero => exact h3
  | succ j =>
    have hp := h.out_pos ok (show j < K by omega)
    have hm : (outs caps paths j)[0] ∈ outs caps paths j := List.getElem_mem hp
    obtain ⟨h5, h6⟩ := h.at_i ok (show j < K by omega)
    have hfl := ((out_iff h6).1 hm).1
    refine h4 ((outs caps paths j)[0]) (bq caps paths j) ?_
    show (roundSt caps paths (fillSt caps paths j)).at_ _ = _
    have hm' : (outs caps paths j)[0] ∈ roundOut caps paths (fillSt caps paths j) := hm
    rw [round_at h5 h6 hfl, if_pos hm']
theorem FillEnds.bq_in (h : FillEnds caps paths K R) (ok : NetOk caps paths) {i : Nat} (hi : i < K) : QIn (bq caps paths i) := by
  obtain ⟨h1, h2⟩ := h.at_i ok hi
  obtain ⟨l, hl, hs⟩ := bestTo_in h2
  exact h1.share_in ok hl hs
theorem FillEnds.pq_in (h : FillEnds caps paths K R) (ok : NetOk caps paths) {i : Nat} (hi : i ≤ K) : QIn (pq caps paths i) := by
  cases i with
  | zero => exact zero_in
  | succ j => exact h.bq_in ok (by omega)
theorem FillEnds.count_end (h : FillEnds caps paths K R) : (fillSt caps paths K).countP Option.isSome = R.length := by
  rw [h.2.2, List.countP_map]
  exact List.countP_eq_length.2 fun _ _ => rfl
theorem mid_len {i : Nat} (h : FInv caps paths (fillSt caps paths i)) (k : Nat) : (mid caps paths i k).length = paths.length := by unfold mid; rw [setAll_len, h.len]
end
end Go.Proofs.YtaijpiebjhhkjaaGreatDoor
/- Wants in plain words: a link more for each. -/
namespace Go.Proofs.YtaijpiebjhhkjaaGreatDoor
def wideP (paths : List (List Int)) (n : Nat) : List (List Int) := (List.range paths.length).map fun f => paths.getD f [] ++ [((n + f : Nat) : Int)]
theorem wideP_len (paths : List (List Int)) (n : Nat) : (wideP paths n).length = paths.length := by simp [wideP]
theorem wideP_at {paths : List (List Int)} {n f : Nat} (h : f < paths.length) : (wideP paths n).getD f [] = paths.getD f [] ++ [((n + f : Nat) : Int)] := by
  unfold wideP; simp [List.getD_eq_getElem?_getD, h]
def wantsErr (caps : List Int) (paths : List (List Int)) (want : List Int) : Int := if netErr caps paths = 0 then (if want.length = paths.length then (if want.any badCap then 1 else 0) else 3) else netErr caps paths
theorem wants_ok {caps : List Int} {paths : List (List Int)} {want : List Int} (h : wantsErr caps paths want = 0) : netErr caps paths = 0 ∧ want.length = paths.length ∧ ∀ x ∈ want, 1 ≤ x ∧ x ≤ 1000 := by
  unfold wantsErr at h
  split at h
  · rename_i h1
    split at h
    · rename_i h2
      split at h
      · omega
      · rename_i h3
        refine ⟨h1, h2, fun x hx => ?_⟩
        cases hb : badCap x
        · simp only [badCap, Bool.or_eq_false_iff, decide_eq_false_iff_not] at hb; omega
        · exact absurd (List.any_eq_true.2 ⟨x, hx, hb⟩) h3
    · omega
  · rename_i h1; exact absurd h h1
theorem wants_of {caps : List Int} {paths : List (List Int)} {want : List Int} (h : netErr caps paths = 0) (hl : want.length = paths.length) (hx : ∀ x ∈ want, 1 ≤ x ∧ x ≤ 1000) : wantsErr caps paths want = 0 := by
  unfold wantsErr
  rw [if_pos h, if_pos hl, if_neg]
  intro hc
  obtain ⟨x, h1, h2⟩ := List.any_eq_true.1 hc
  have := hx x h1
  simp only [badCap, Bool.or_eq_true, decide_eq_true_eq] at h2; omega
section
variable {caps : List Int} {paths : List (List Int)} {want : List Int}
theorem wide_netOk (h : wantsErr caps paths want = 0) : NetOk (caps ++ want) (wideP paths caps.length) := by
  obtain ⟨h1, h2, h3⟩ := wants_ok h
  obtain ⟨a1, a2, a3, a4, a5, a6⟩ := netErr_ok h1
  refine ⟨by rw [List.length_append]; omega, by rw [List.length_append]; omega, by rw [wideP_len]; exact a3, by rw [wideP_len]; exact a4, fun c hc => ?_, fun p hp => ?_⟩
  · rcases List.mem_append.1 hc with hc | hc
    · exact a5 c hc
    · exact h3 c hc
  · obtain ⟨f, hf, rfl⟩ := List.mem_map.1 hp
    have hf := List.mem_range.1 hf
    refine ⟨by simp, fun l hl => ?_⟩
    rw [List.length_append]
    rcases List.mem_append.1 hl with hl | hl
    · have hm : paths.getD f [] ∈ paths := by rw [List.getD_eq_getElem?_getD, List.getElem?_eq_getElem hf]; exact List.getElem_mem hf
      have := (pathErr_ok (a6 _ hm)).2 l hl
      omega
    · have : l = ((caps.length + f : Nat) : Int) := by simpa using hl
      omega
theorem path_bd (h : wantsErr caps paths want = 0) {f : Nat} (hf : f < paths.length) {l : Int} (hl : l ∈ paths.getD f []) : 0 ≤ l ∧ l < (caps.length : Int) := by
  have hm : paths.getD f [] ∈ paths := by rw [List.getD_eq_getElem?_getD, List.getElem?_eq_getElem hf]; exact List.getElem_mem hf
  exact (pathErr_ok ((netErr_ok (wants_ok h).1).2.2.2.2.2 _ hm)).2 l hl
theorem on_old {f l : Nat} (hf : f < paths.length) (hl : l < caps.length) : inL ((wideP paths caps.length).getD f []) (l : Int) = inL (paths.getD f []) (l : Int) := by
  rw [wideP_at hf, Bool.eq_iff_iff, inL_iff, inL_iff, List.mem_append]
  constructor
  · rintro (h | h)
    · exact h
    · have : (l : Int) = ((caps.length + f : Nat) : Int) := by simpa using h
      omega
  · exact Or.inl
theorem on_new (h : wantsErr caps paths want = 0) {f k : Nat} (hf : f < paths.length) : inL ((wideP paths caps.length).getD f []) ((caps.length + k : Nat) : Int) = decide (f = k) := by
  rw [wideP_at hf, Bool.eq_iff_iff, inL_iff, decide_eq_true_eq, List.mem_append]
  constructor
  · rintro (h1 | h1)
    · have := path_bd h hf h1; omega
    · have : ((caps.length + k : Nat) : Int) = ((caps.length + f : Nat) : Int) := by simpa using h1
      omega
  · rintro rfl; exact Or.inr (by simp)
theorem wcap_old {l : Nat} (hl : l < caps.length) : capQ (caps ++ want) l = capQ caps l := by
  unfold capQ; rw [List.getD_eq_getElem?_getD, List.getD_eq_getElem?_getD, List.getElem?_append_left hl]
theorem wcap_new (k : Nat) : capQ (caps ++ want) (caps.length + k) = capQ want k := by
  unfold capQ; rw [List.getD_eq_getElem?_getD, List.getD_eq_getElem?_getD, List.getElem?_append_right (by omega), Nat.add_sub_cancel_left]
theorem wload_old (x : Nat → Rat) {l : Nat} (hl : l < caps.length) : (netOf (caps ++ want) (wideP paths caps.length)).load x l = (netOf caps paths).load x l := by
  show MM.sm (fun f => if inL ((wideP paths caps.length).getD f []) (l : Int) = true then x f else 0) (wideP paths caps.length).length = MM.sm (fun f => if inL (paths.getD f []) (l : Int) = true then x f else 0) paths.length
  rw [wideP_len]
  refine MM.sm_congr _ fun f hf => ?_
  rw [on_old hf hl]
theorem sm_one (x : Nat → Rat) (k : Nat) : ∀ n, MM.sm (fun f => if f = k then x f else 0) n = if k < n then x k else 0
  | 0 => by simp [MM.sm]
  | n + 1 => by
    simp only [MM.sm]
    rw [sm_one x k n]
    by_cases e : n = k
    · subst e; simp [Rat.zero_add]
    · by_cases h : k < n
      · rw [if_neg e, if_pos h, if_pos (by omega), Rat.add_zero]
      · rw [if_neg e, if_neg h, if_neg (by omega), Rat.add_zero]
theorem wload_new (h : wantsErr caps paths want = 0) (x : Nat → Rat) {k : Nat} (hk : k < paths.length) : (netOf (caps ++ want) (wideP paths caps.length)).load x (caps.length + k) = x k := by
  show MM.sm (fun f => if inL ((wideP paths caps.length).getD f []) ((caps.length + k : Nat) : Int) = true then x f else 0) (wideP paths caps.length).length = x k
  rw [wideP_len]
  have e : ∀ f, f < paths.length → (if inL ((wideP paths caps.length).getD f []) ((caps.length + k : Nat) : Int) = true then x f else 0) = if f = k then x f else 0 := fun f hf => by
    rw [on_new h hf]; simp
  rw [MM.sm_congr _ e, sm_one, if_pos hk]
/-- rates that rise together in the wider net -/
theorem wide_fair (h : wantsErr caps paths want = 0) {x : Nat → Rat} (hx : (netOf (caps ++ want) (wideP paths caps.length)).Fair x) :
    (netOf caps paths).Fits x ∧ ∀ f, f < paths.length → x f ≤ capQ want f ∧ (x f < capQ want f → ∃ l, (netOf caps paths).Neck x f l) := by
  obtain ⟨_, h2, _⟩ := wants_ok h
  obtain ⟨⟨f1, f2⟩, f3⟩ := hx
  have hF : (netOf (caps ++ want) (wideP paths caps.length)).F = paths.length := wideP_len _ _
  have hL : (netOf (caps ++ want) (wideP paths caps.length)).L = caps.length + paths.length := by show (caps ++ want).length = _; rw [List.length_append, h2]
  refine ⟨⟨fun f hf => f1 f (by rw [hF]; exact hf), fun l hl => ?_⟩, fun f hf => ⟨?_, fun hlt => ?_⟩⟩
  · have hl : l < caps.length := hl
    have := f2 l (by rw [hL]; omega)
    rw [wload_old x hl] at this
    have e : (netOf (caps ++ want) (wideP paths caps.length)).cap l = (netOf caps paths).cap l := wcap_old hl
    rwa [e] at this
  · have := f2 (caps.length + f) (by rw [hL]; omega)
    rw [wload_new h x hf] at this
    have e : (netOf (caps ++ want) (wideP paths caps.length)).cap (caps.length + f) = capQ want f := wcap_new f
    rwa [e] at this
  · obtain ⟨l, n1, n2, n3, n4⟩ := f3 f (by rw [hF]; exact hf)
    rw [hL] at n1
    by_cases hl : l < caps.length
    · refine ⟨l, hl, ?_, ?_, fun u hu hon => ?_⟩
      · have n2 : inL ((wideP paths caps.length).getD f []) (l : Int) = true := n2
        rw [on_old hf hl] at n2; exact n2
      · rw [wload_old x hl] at n3
        have e : (netOf (caps ++ want) (wideP paths caps.length)).cap l = (netOf caps paths).cap l := wcap_old hl
        rwa [e] at n3
      · refine n4 u (by rw [hF]; exact hu) ?_
        show inL ((wideP paths caps.length).getD u []) (l : Int) = true
        rw [on_old hu hl]; exact hon
    · obtain ⟨k, rfl⟩ : ∃ k, l = caps.length + k := ⟨l - caps.length, by omega⟩
      have n2 : inL ((wideP paths caps.length).getD f []) ((caps.length + k : Nat) : Int) = true := n2
      rw [on_new h hf] at n2
      have e : f = k := of_decide_eq_true n2
      subst e
      rw [wload_new h x hf] at n3
      have e : (netOf (caps ++ want) (wideP paths caps.length)).cap (caps.length + f) = capQ want f := wcap_new f
      rw [e] at n3
      grind
/-- wants that are great enough change nothing -/
theorem fair_wide (h : wantsErr caps paths want = 0) {x : Nat → Rat} (hx : (netOf caps paths).Fair x) (hw : ∀ f, f < paths.length → x f ≤ capQ want f) : (netOf (caps ++ want) (wideP paths caps.length)).Fair x := by
  obtain ⟨_, h2, _⟩ := wants_ok h
  obtain ⟨⟨f1, f2⟩, f3⟩ := hx
  have hF : (netOf (caps ++ want) (wideP paths caps.length)).F = paths.length := wideP_len _ _
  have hL : (netOf (caps ++ want) (wideP paths caps.length)).L = caps.length + paths.length := by show (caps ++ want).length = _; rw [List.length_append, h2]
  refine ⟨⟨fun f hf => f1 f (by rw [hF] at hf; exact hf), fun l hl => ?_⟩, fun f hf => ?_⟩
  · rw [hL] at hl
    by_cases hlc : l < caps.length
    · rw [wload_old x hlc]
      have e : (netOf (caps ++ want) (wideP paths caps.length)).cap l = (netOf caps paths).cap l := wcap_old hlc
      rw [e]; exact f2 l hlc
    · obtain ⟨k, rfl⟩ : ∃ k, l = caps.length + k := ⟨l - caps.length, by omega⟩
      rw [wload_new h x (by omega)]
      have e : (netOf (caps ++ want) (wideP paths caps.length)).cap (caps.length + k) = capQ want k := wcap_new k
      rw [e]; exact hw k (by omega)
  · rw [hF] at hf
    obtain ⟨l, n1, n2, n3, n4⟩ := f3 f hf
    have n1 : l < caps.length := n1
    refine ⟨l, by rw [hL]; omega, ?_, ?_, fun u hu hon => ?_⟩
    · show inL ((wideP paths caps.length).getD f []) (l : Int) = true
      rw [on_old hf n1]; exact n2
    · rw [wload_old x n1]
      have e : (netOf (caps ++ want) (wideP paths caps.length)).cap l = (netOf caps paths).cap l := wcap_old n1
      rw [e]; exact n3
    · rw [hF] at hu
      refine n4 u hu ?_
      have hon : inL ((wideP paths caps.length).getD u []) (l : Int) = true := hon
      rw [on_old hu n1] at hon; exact hon
theorem pathErr_of {k : Int} {p : List Int} (h0 : 0 < p.length) (h1 : ∀ l ∈ p, 0 ≤ l ∧ l < k) (h2 : p.Nodup) : pathErr k p = 0 := by
  unfold pathErr
  rw [if_neg (by omega)]
  refine firstFrom_all fun j _ hj => ?_
  have hj : j < p.length := by omega
  have hg : p.getD j 0 = p[j] := by simp [hj]
  unfold pathAt
  rw [hg]
  have := h1 p[j] (List.getElem_mem hj)
  rw [if_neg (by omega), if_neg]
  intro hc
  rw [inL_iff, List.mem_take_iff_getElem] at hc
  obtain ⟨i, hi, e⟩ := hc
  rw [List.nodup_iff_pairwise_ne, List.pairwise_iff_getElem] at h2
  exact h2 i j (by omega) hj (by omega) e
theorem netErr_of (h1 : 0 < caps.length) (h2 : caps.length ≤ 6) (h3 : 0 < paths.length) (h4 : paths.length ≤ 6) (h5 : ∀ c ∈ caps, 1 ≤ c ∧ c ≤ 1000) (h6 : ∀ p ∈ paths, pathErr caps.length p = 0) : netErr caps paths = 0 := by
  unfold netErr
  have hl : linksErr caps = 0 := by
    unfold linksErr
    rw [if_neg (by omega), if_neg (by omega), if_neg]
    intro hc
    obtain ⟨x, hx, hb⟩ := List.any_eq_true.1 hc
    have := h5 x hx
    simp only [badCap, Bool.or_eq_true, decide_eq_true_eq] at hb; omega
  rw [if_neg (by omega), if_neg (by omega), if_pos hl]
  refine firstFrom_all fun j _ hj => ?_
  have hj : j < paths.length := by omega
  rw [List.getD_eq_getElem?_getD, List.getElem?_eq_getElem hj]
  exact h6 _ (List.getElem_mem hj)
theorem wide_netErr (h : wantsErr caps paths want = 0) (h6 : caps.length + want.length ≤ 6) : netErr (caps ++ want) (wideP paths caps.length) = 0 := by
  have ok := wide_netOk h
  obtain ⟨h1, _, _⟩ := wants_ok h
  refine netErr_of ok.L0 (by rw [List.length_append]; exact h6) ok.F0 ok.F1 ok.cap fun p hp => ?_
  obtain ⟨a, b⟩ := ok.path p hp
  refine pathErr_of a b ?_
  obtain ⟨f, hf, rfl⟩ := List.mem_map.1 hp
  have hf := List.mem_range.1 hf
  have hm : paths.getD f [] ∈ paths := by rw [List.getD_eq_getElem?_getD, List.getElem?_eq_getElem hf]; exact List.getElem_mem hf
  have hn := path_nodup ((netErr_ok h1).2.2.2.2.2 _ hm)
  rw [List.nodup_append]
  refine ⟨hn, by simp, fun x hx y hy => ?_⟩
  have := path_bd h hf hx
  have : y = ((caps.length + f : Nat) : Int) := by simpa using hy
  omega
end
end Go.Proofs.YtaijpiebjhhkjaaGreatDoor
/- Plain: the records of a log that came about rightly. -/
namespace Go.Proofs.YtaijpiebjhhkjaaGreatDoor.LG
def ints (q : List Nat) : List Int := q.map fun (x : Nat) => (x : Int)
/-- n: how many links -/
structure Ok (n : Nat) (O : List Op) : Prop where
  sm : ∀ o ∈ O, Small o ∧ 0 < o.p.length ∧ o.p.length ≤ 6
  dr : ∀ k o, O[k]? = some o → o.add = false → ∃ f, o.p = [f] ∧ f < (runs (O.take k)).length
  ad : ∀ o ∈ O, o.add = true → pathErr n (ints o.p) = 0
  len : ∀ k, (runs (O.take k)).length ≤ 6
theorem Ok.nil (n : Nat) : Ok n [] := ⟨by simp, by simp, by simp, by simp [runs]⟩
theorem Ok.take {n : Nat} {O : List Op} (h : Ok n O) (m : Nat) : Ok n (O.take m) where
  sm := fun o ho => h.sm o (List.mem_of_mem_take ho)
  dr := fun k o hk ha => by
    rw [List.getElem?_take] at hk
    split at hk
    · rename_i hkm
      obtain ⟨f, hp, hf⟩ := h.dr k o hk ha
      exact ⟨f, hp, by rw [List.take_take, Nat.min_eq_left (by omega)]; exact hf⟩
    · cases hk
  ad := fun o ho => h.ad o (List.mem_of_mem_take ho)
  len := fun k => by rw [List.take_take]; exact h.len _
theorem Ok.all {n : Nat} {O : List Op} (h : Ok n O) : (runs O).length ≤ 6 := by have := h.len O.length; rwa [List.take_length] at this
theorem Ok.snoc {n : Nat} {O : List Op} (h : Ok n O) (o : Op) (h1 : Small o ∧ 0 < o.p.length ∧ o.p.length ≤ 6) (h2 : o.add = false → ∃ f, o.p = [f] ∧ f < (runs O).length) (h3 : o.add = true → pathErr n (ints o.p) = 0) (h4 : (runs (O ++ [o])).length ≤ 6) : Ok n (O ++ [o]) where
  sm := fun x hx => by
    rcases List.mem_append.1 hx with hx | hx
    · exact h.sm x hx
    · rw [List.mem_singleton] at hx; subst hx; exact h1
  dr := fun k x hk ha => by
    by_cases hlt : k < O.length
    · rw [List.getElem?_append_left hlt] at hk
      rw [List.take_append_of_le_length (by omega)]
      exact h.dr k x hk ha
    · rw [List.getElem?_append_right (by omega)] at hk
      have hk0 : k = O.length := by
        have := (List.getElem?_eq_some_iff.1 hk).1
        simp at this; omega
      subst hk0
      simp at hk
      subst hk
      simpa using h2 ha
  ad := fun x hx => by
    rcases List.mem_append.1 hx with hx | hx
    · exact h.ad x hx
    · rw [List.mem_singleton] at hx; subst hx; exact h3
  len := fun k => by
    by_cases hlt : k ≤ O.length
    · rw [List.take_append_of_le_length hlt]; exact h.len k
    · rw [List.take_of_length_le (by simp; omega)]; exact h4
/-- a path that is right, in naturals -/
theorem path_nat {n : Nat} {p : List Int} (_ : n ≤ 6) (h : pathErr n p = 0) : ∃ q : List Nat, p = ints q ∧ (∀ x ∈ q, x < 10) ∧ 0 < q.length ∧ q.length ≤ 6 := by
  obtain ⟨h0, h1⟩ := pathErr_ok h
  have h2 := path_short h
  refine ⟨p.map Int.toNat, ?_, ?_, by simpa using h0, by simp; omega⟩
  · unfold ints
    rw [List.map_map]
    refine (List.map_id p).symm.trans (List.map_congr_left fun x hx => ?_)
    have := h1 x hx
    show x = ((x.toNat : Nat) : Int)
    omega
  · intro x hx
    obtain ⟨y, hy, rfl⟩ := List.mem_map.1 hx
    have := h1 y hy
    omega
theorem Ok.add {n : Nat} {O : List Op} (h : Ok n O) (q : List Nat) (hq : ∀ x ∈ q, x < 10) (h0 : 0 < q.length) (h6 : q.length ≤ 6) (hp : pathErr n (ints q) = 0) (hl : (runs O).length < 6) : Ok n (O ++ [⟨true, q⟩]) ∧ runs (O ++ [⟨true, q⟩]) = runs O ++ [ints q] :=
  have e : runs (O ++ [⟨true, q⟩]) = runs O ++ [ints q] := by rw [runs_snoc]; rfl
  ⟨h.snoc _ ⟨hq, h0, h6⟩ (fun x => by cases x) (fun _ => hp) (by rw [e]; simp; omega), e⟩
theorem Ok.drop {n : Nat} {O : List Op} (h : Ok n O) (f : Nat) (hf : f < (runs O).length) : Ok n (O ++ [⟨false, [f]⟩]) ∧ runs (O ++ [⟨false, [f]⟩]) = (runs O).eraseIdx f :=
  have e : runs (O ++ [⟨false, [f]⟩]) = (runs O).eraseIdx f := by rw [runs_snoc]; rfl
  have h6 := h.all
  ⟨h.snoc _ ⟨fun x hx => by simp at hx; omega, by simp, by simp⟩ (fun _ => ⟨f, rfl, hf⟩) (fun x => by cases x) (by rw [e, List.length_eraseIdx_of_lt hf]; omega), e⟩
theorem runs_paths {n : Nat} : ∀ (O : List Op), (∀ o ∈ O, o.add = true → pathErr n (ints o.p) = 0) → ∀ (L : List (List Int)), (∀ l ∈ L, pathErr n l = 0) → ∀ l ∈ O.foldl step1 L, pathErr n l = 0
  | [], _, L, hL => hL
  | o :: O, h, L, hL => by
    rw [List.foldl_cons]
    refine runs_paths O (fun x hx => h x (List.mem_cons_of_mem _ hx)) _ fun l hl => ?_
    unfold step1 at hl
    split at hl
    · rename_i ha
      rcases List.mem_append.1 hl with hl | hl
      · exact hL l hl
      · rw [List.mem_singleton] at hl; rw [hl]; exact h o List.mem_cons_self ha
    · exact hL l (List.mem_of_mem_eraseIdx hl)
theorem Ok.paths {n : Nat} {O : List Op} (h : Ok n O) : ∀ l ∈ runs O, pathErr n l = 0 := runs_paths O h.ad [] (by simp)
/-- the net that is left -/
theorem Ok.net {O : List Op} {caps : List Int} (h : Ok caps.length O) (hc : linksErr caps = 0) : netErr caps (runs O) = if runs O = [] then 5 else 0 := by
  have hl : 0 < caps.length ∧ caps.length ≤ 6 ∧ ∀ c ∈ caps, 1 ≤ c ∧ c ≤ 1000 := by
    unfold linksErr at hc
    split at hc
    · omega
    · split at hc
      · omega
      · split at hc
        · omega
        · rename_i h1 h2 h3
          refine ⟨by omega, by omega, fun c hcm => ?_⟩
          have : ¬ badCap c = true := fun hb => h3 (List.any_eq_true.2 ⟨c, hcm, hb⟩)
          unfold badCap at this
          simp at this
          omega
  split
  · rename_i h0
    unfold netErr
    rw [if_pos (.inr (by rw [h0]; rfl))]
  · rename_i h0
    exact netErr_of hl.1 hl.2.1 (by cases hh : runs O with | nil => exact absurd hh h0 | cons _ _ => simp) h.all hl.2.2 h.paths
end Go.Proofs.YtaijpiebjhhkjaaGreatDoor.LG
