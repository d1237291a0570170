/- Rates that rise together: their loads may be, they fit; the rounds one by one. Plain. -/
import Derived.Test.YtaijpiebjhhkjaaGreatDoorLibJ
namespace Go.Proofs.YtaijpiebjhhkjaaGreatDoor
section
variable {caps : List Int} {paths : List (List Int)} {K : Nat} {R : List Rat}
theorem FillEnds.ints (h : FillEnds caps paths K R) (ok : NetOk caps paths) : ∃ D : Nat, 0 < D ∧ D ≤ 64 ∧ ∀ u, (0 ≤ R.getD u 0 ∧ R.getD u 0 ≤ 1000) ∧ ∃ z : Int, R.getD u 0 * (D : Rat) = (z : Rat) := by
  obtain ⟨D, h1, h2, _, h3⟩ := (h.finv ok).D ok
  refine ⟨D, h1, h2, fun u => ?_⟩
  by_cases hu : u < R.length
  · have hm : R.getD u 0 ∈ R := by rw [List.getD_eq_getElem?_getD, List.getElem?_eq_getElem hu]; exact List.getElem_mem hu
    have := (h.rates ok _ hm).2
    exact ⟨⟨by grind, this.2⟩, h3 u _ (at_map hu)⟩
  · have e : R.getD u 0 = 0 := by rw [List.getD_eq_getElem?_getD, List.getElem?_eq_none (by omega)]; rfl
    rw [e]
    refine ⟨⟨Rat.le_refl, ?_⟩, 0, ?_⟩
    · decide +kernel
    · rw [Rat.zero_mul]; rfl
theorem addUp_ok {D : Nat} (h0 : 0 < D) (h1 : D ≤ 64) (h : ∀ u, (0 ≤ R.getD u 0 ∧ R.getD u 0 ≤ 1000) ∧ ∃ z : Int, R.getD u 0 * (D : Rat) = (z : Rat)) :
    ∀ (us : List Nat) (c : Rat) (m : Nat), us.length + m ≤ 6 → 0 ≤ c → c ≤ 1000 * (m : Rat) → (∃ z : Int, c * (D : Rat) = (z : Rat)) → ∃ s, us.foldl (addQ R) (some c) = some s := by
  intro us
  induction us with
  | nil => intro c m _ _ _ _; exact ⟨c, rfl⟩
  | cons u us ih =>
    intro c m hm c0 c1 ⟨z, hz⟩
    obtain ⟨⟨r0, r1⟩, y, hy⟩ := h u
    simp only [List.length_cons] at hm
    have hm6 : (m : Rat) ≤ 5 := by exact_mod_cast (by omega : m ≤ 5)
    have hzz : (c + R.getD u 0) * (D : Rat) = ((z + y : Int) : Rat) := by push_cast; rw [← hz, ← hy]; grind
    have hq : QIn (c + R.getD u 0) := qin_of h0 (by omega) hzz (by grind) (by grind)
    have e : addQ R (some c) u = some (c + R.getD u 0) := by show (if _ then _ else _) = _; rw [if_pos hq]
    show ∃ s, us.foldl (addQ R) (addQ R (some c) u) = some s
    rw [e]
    refine ih _ (m + 1) (by omega) (by grind) ?_ ⟨z + y, hzz⟩
    have : ((m + 1 : Nat) : Rat) = (m : Rat) + 1 := by push_cast; rfl
    rw [this]; grind
theorem FillEnds.loads (h : FillEnds caps paths K R) (ok : NetOk caps paths) : ∃ L, loadsTo paths R caps.length = some L := by
  obtain ⟨D, h1, h2, h3⟩ := h.ints ok
  have key : ∀ n, ∃ L, loadsTo paths R n = some L := by
    intro n
    induction n with
    | zero => exact ⟨[], rfl⟩
    | succ n ih =>
      obtain ⟨L, hL⟩ := ih
      obtain ⟨s, hs⟩ := addUp_ok h1 h2 h3 (users paths (n : Int)) 0 0 (by have := users_len paths (n : Int); have := ok.F1; omega) Rat.le_refl (by rw [show ((0 : Nat) : Rat) = 0 from rfl, Rat.mul_zero]; exact Rat.le_refl) ⟨0, by rw [Rat.zero_mul]; rfl⟩
      exact ⟨_, loadsTo_yes hL hs⟩
  exact key caps.length
theorem FillEnds.fitsT (h : FillEnds caps paths K R) (ok : NetOk caps paths) {L : List Rat} (hL : loadsTo paths R caps.length = some L) : fitsB caps R L = true := (fitsB_iff hL (h.len ok)).2 (h.fair ok).1
theorem FillEnds.fairT (h : FillEnds caps paths K R) (ok : NetOk caps paths) {L : List Rat} (hL : loadsTo paths R caps.length = some L) : fairP caps paths R L = true := (fairP_iff ok (h.len ok) hL).2 (h.fair ok)
theorem FillEnds.neckT (h : FillEnds caps paths K R) (ok : NetOk caps paths) {L : List Rat} (hL : loadsTo paths R caps.length = some L) {f : Nat} (hf : f < paths.length) : 0 ≤ neckOf paths R ((fulls caps L).map fun (i : Nat) => (i : Int)) f := by
  rcases neck_iff ok hL hf with ⟨_, h2⟩ | ⟨l, h2, _⟩
  · exact absurd ((h.fair ok).2 f hf) h2
  · rw [h2]; omega
/-- the least share of a round, and of the one ahead of it -/
def bq (caps : List Int) (paths : List (List Int)) (i : Nat) : Rat := (bestTo (share caps paths (fillSt caps paths i)) caps.length).getD 0
def pq (caps : List Int) (paths : List (List Int)) : Nat → Rat
  | 0 => 0
  | i + 1 => bq caps paths i
def outs (caps : List Int) (paths : List (List Int)) (i : Nat) : List Nat := roundOut caps paths (fillSt caps paths i)
/-- in the midst of a round -/
def mid (caps : List Int) (paths : List (List Int)) (i k : Nat) : St := setAll (fillSt caps paths i) (bq caps paths i) ((outs caps paths i).take k)
theorem FillEnds.at_i (h : FillEnds caps paths K R) (ok : NetOk caps paths) {i : Nat} (hi : i < K) : FInv caps paths (fillSt caps paths i) ∧ bestTo (share caps paths (fillSt caps paths i)) caps.length = some (bq caps paths i) := by
  have hf := (finv_at ok i fun j hj => h.2.1 j (by omega)).1
  obtain ⟨b, hb⟩ := best_is hf ok (h.2.1 i hi)
  refine ⟨hf, ?_⟩
  unfold bq; rw [hb]; rfl
theorem mid_zero (i : Nat) : mid caps paths i 0 = fillSt caps paths i := rfl
theorem FillEnds.mid_end (h : FillEnds caps paths K R) (ok : NetOk caps paths) {i : Nat} (hi : i < K) : mid caps paths i (outs caps paths i).length = fillSt caps paths (i + 1) := by
  unfold mid
  rw [List.take_length]
  show _ = roundSt caps paths (fillSt caps paths i)
  unfold roundSt
  rw [(h.at_i ok hi).2]; rfl
theorem FillEnds.out_at (h : FillEnds caps paths K R) (ok : NetOk caps paths) {i k f : Nat} (hi : i < K) (hk : (outs caps paths i)[k]? = some f) :
    f < paths.length ∧ (mid caps paths i k).at_ f = none ∧ mid caps paths i (k + 1) = (mid caps paths i k).set f (some (bq caps paths i)) ∧ (mid caps paths i (k + 1)).countP Option.isSome = (mid caps paths i k).countP Option.isSome + 1 := by
  obtain ⟨hf, hb⟩ := h.at_i ok hi
  have hm : f ∈ outs caps paths i := List.mem_of_getElem? hk
  obtain ⟨h1, h2, _⟩ := (out_iff hb).1 hm
  have hlt : k < (outs caps paths i).length := (List.getElem?_eq_some_iff.1 hk).1
  have htk : (outs caps paths i).take (k + 1) = (outs caps paths i).take k ++ [f] := by rw [List.take_add_one, hk]; rfl
  have hnd : (outs caps paths i).Nodup := out_nodup _ _ _
  have hnk : f ∉ (outs caps paths i).take k := fun hc => by
    obtain ⟨j, hj, e⟩ := List.getElem_of_mem hc
    rw [List.length_take] at hj
    rw [List.getElem_take] at e
    have e2 : (outs caps paths i)[k] = f := by rw [List.getElem?_eq_getElem hlt] at hk; exact Option.some.inj hk
    have := (List.getElem_inj hnd).1 (e.trans e2.symm)
    omega
  have hat : (mid caps paths i k).at_ f = none := by
    unfold mid
    rw [setAll_at _ _ _ _ (by rw [hf.len]; exact h1), if_neg hnk]; exact h2
  have hset : mid caps paths i (k + 1) = (mid caps paths i k).set f (some (bq caps paths i)) := by unfold mid; rw [htk, setAll_snoc]
  refine ⟨h1, hat, hset, ?_⟩
  have hml : f < (mid caps paths i k).length := by unfold mid; rw [setAll_len, hf.len]; exact h1
  rw [hset, List.countP_set hml]
  have : (mid caps paths i k)[f] = none := by
    unfold St.at_ at hat
    rw [List.getD_eq_getElem?_getD, List.getElem?_eq_getElem hml] at hat
    simpa using hat
  rw [this]; simp
theorem FillEnds.stay (h : FillEnds caps paths K R) (ok : NetOk caps paths) {i f : Nat} {q : Rat} (hf : f < paths.length) (hi : i ≤ K) (hq : (fillSt caps paths i).at_ f = some q) : R.getD f 0 = q := by
  have key : ∀ d, i + d ≤ K → (fillSt caps paths (i + d)).at_ f = some q := by
    intro d
    induction d with
    | zero => intro _; exact hq
    | succ d ih =>
      intro hd
      have h1 := ih (by omega)
      obtain ⟨h2, h3⟩ := h.at_i ok (show i + d < K by omega)
      show (roundSt caps paths (fillSt caps paths (i + d))).at_ f = _
      rw [round_at h2 h3 hf, if_neg, h1]
      intro hc
      have := ((out_iff h3).1 hc).2.1
      rw [h1] at this; cases this
  have := key (K - i) (by omega)
  rw [show i + (K - i) = K by omega, h.2.2] at this
  rw [at_map (by rw [h.len ok]; exact hf)] at this
  injection this
theorem FillEnds.rate_out (h : FillEnds caps paths K R) (ok : NetOk caps paths) {i f : Nat} (hi : i < K) (hf : f ∈ outs caps paths i) : R.getD f 0 = bq caps paths i := by
  obtain ⟨h1, h2⟩ := h.at_i ok hi
  have hfl := ((out_iff h2).1 hf).1
  refine h.stay ok hfl (show i + 1 ≤ K by omega) ?_
  show (roundSt caps paths (fillSt caps paths i)).at_ f = _
  have hf' : f ∈ roundOut caps paths (fillSt caps paths i) := hf
  rw [round_at h1 h2 hfl, if_pos hf']
theorem FillEnds.out_pos (h : FillEnds caps paths K R) (ok : NetOk caps paths) {i : Nat} (hi : i < K) : 0 < (outs caps paths i).length := by
  obtain ⟨h1, h2⟩ := h.at_i ok hi
  obtain ⟨l, hl, hs⟩ := bestTo_in h2
  have := free_out h2 hl hs
  have := (share_some hs).1
  show 0 < (roundOut caps paths (fillSt caps paths i)).length
  omega
theorem FillEnds.rise (h : FillEnds caps paths K R) (ok : NetOk caps paths) {i : Nat} (hi : i < K) : pq caps paths i < bq caps paths i := by
  obtain ⟨h1, h2⟩ := h.at_i ok hi
  obtain ⟨_, _, h3, _, h4⟩ := h1.next ok h2
  cases i with
  | zero => exact h3
  | succ j =>
    have hp := h.out_pos ok (show j < K by omega)
    have hm : (outs caps paths j)[0] ∈ outs caps paths j := List.getElem_mem hp
    obtain ⟨h5, h6⟩ := h.at_i ok (show j < K by omega)
    have hfl := ((out_iff h6).1 hm).1
    refine h4 ((outs caps paths j)[0]) (bq caps paths j) ?_
    show (roundSt caps paths (fillSt caps paths j)).at_ _ = _
    have hm' : (outs caps paths j)[0] ∈ roundOut caps paths (fillSt caps paths j) := hm
    rw [round_at h5 h6 hfl, if_pos hm']
theorem FillEnds.bq_in (h : FillEnds caps paths K R) (ok : NetOk caps paths) {i : Nat} (hi : i < K) : QIn (bq caps paths i) := by
  obtain ⟨h1, h2⟩ := h.at_i ok hi
  obtain ⟨l, hl, hs⟩ := bestTo_in h2
  exact h1.share_in ok hl hs
theorem FillEnds.pq_in (h : FillEnds caps paths K R) (ok : NetOk caps paths) {i : Nat} (hi : i ≤ K) : QIn (pq caps paths i) := by
  cases i with
  | zero => exact zero_in
  | succ j => exact h.bq_in ok (by omega)
theorem FillEnds.count_end (h : FillEnds caps paths K R) : (fillSt caps paths K).countP Option.isSome = R.length := by
  rw [h.2.2, List.countP_map]
  exact List.countP_eq_length.2 fun _ _ => rfl
theorem mid_len {i : Nat} (h : FInv caps paths (fillSt caps paths i)) (k : Nat) : (mid caps paths i k).length = paths.length := by unfold mid; rw [setAll_len, h.len]
end
end Go.Proofs.YtaijpiebjhhkjaaGreatDoor
