/- Several texts in one: PlNet, PlNet2, Net1, Net2, NetOwn, NetOwn2. -/
import Derived.Test.YtaijpiebjhhkjaaGreatDoorLibA
import Derived.Deep.RegionLaw
/- Nets in plain words: faults, users. -/
namespace Go.Proofs.YtaijpiebjhhkjaaGreatDoor
/-- the first that is not 0 of f at i, i + 1 .. (so many) -/
def firstFrom (f : Nat → Int) : Nat → Nat → Int
  | 0, _ => 0
  | n + 1, i => if f i = 0 then firstFrom f n (i + 1) else f i
theorem firstFrom_step {f : Nat → Int} {n k : Nat} (h : k < n) : firstFrom f (n - k) k = if f k = 0 then firstFrom f (n - (k + 1)) (k + 1) else f k := by
  obtain ⟨d, hd⟩ : ∃ d, n - k = d + 1 := ⟨n - k - 1, by omega⟩
  rw [hd, show n - (k + 1) = d by omega]; rfl
theorem firstFrom_end {f : Nat → Int} {n : Nat} : firstFrom f (n - n) n = 0 := by rw [Nat.sub_self]; rfl
theorem firstFrom_zero {f : Nat → Int} : ∀ {n i : Nat}, firstFrom f n i = 0 → ∀ j, i ≤ j → j < i + n → f j = 0 := by
  intro n
  induction n with
  | zero => intro i _ j h1 h2; omega
  | succ n ih =>
    intro i h j h1 h2
    unfold firstFrom at h
    split at h
    · rename_i h0
      by_cases e : j = i
      · rw [e]; exact h0
      · exact ih h j (by omega) (by omega)
    · rename_i h0; exact absurd h h0
theorem firstFrom_all {f : Nat → Int} : ∀ {n i : Nat}, (∀ j, i ≤ j → j < i + n → f j = 0) → firstFrom f n i = 0 := by
  intro n
  induction n with
  | zero => intro i _; rfl
  | succ n ih =>
    intro i h
    unfold firstFrom
    rw [if_pos (h i (Nat.le_refl _) (by omega))]
    exact ih fun j h1 h2 => h j (by omega) (by omega)
theorem firstFrom_congr {f g : Nat → Int} : ∀ {n i : Nat}, (∀ j, i ≤ j → j < i + n → f j = g j) → firstFrom f n i = firstFrom g n i := by
  intro n
  induction n with
  | zero => intro i _; rfl
  | succ n ih =>
    intro i h
    unfold firstFrom
    rw [h i (Nat.le_refl _) (by omega), ih fun j h1 h2 => h j (by omega) (by omega)]
def inL (l : List Int) (x : Int) : Bool := l.any fun a => a == x
theorem inL_iff {l : List Int} {x : Int} : inL l x = true ↔ x ∈ l := by
  unfold inL; rw [List.any_eq_true]
  constructor
  · rintro ⟨a, ha, e⟩; rw [beq_iff_eq] at e; rwa [← e]
  · intro h; exact ⟨x, h, by simp⟩
theorem inL_take {l : List Int} {x a : Int} {k : Nat} (h : l.take (k + 1) = l.take k ++ [a]) : inL (l.take (k + 1)) x = (inL (l.take k) x || (a == x)) := by
  unfold inL; rw [h]; simp
theorem inL_of_take {l : List Int} {x : Int} {k : Nat} (h : inL (l.take k) x = true) : inL l x = true := by
  rw [inL_iff] at *; exact List.mem_of_mem_take h
def badCap (n : Int) : Bool := decide (n < 1) || decide (1000 < n)
def linksErr (l : List Int) : Int := if l.length = 0 then 5 else if 6 < l.length then 4 else if l.any badCap then 1 else 0
def pathAt (k : Int) (p : List Int) (i : Nat) : Int := if p.getD i 0 < 0 ∨ k ≤ p.getD i 0 then 1 else if inL (p.take i) (p.getD i 0) then 7 else 0
def pathErr (k : Int) (p : List Int) : Int := if p.length = 0 then 5 else firstFrom (pathAt k p) (p.length - 0) 0
def netErr (caps : List Int) (paths : List (List Int)) : Int :=
  if caps.length = 0 ∨ paths.length = 0 then 5 else if 6 < caps.length ∨ 6 < paths.length then 4 else if linksErr caps = 0 then firstFrom (fun i => pathErr caps.length (paths.getD i [])) (paths.length - 0) 0 else linksErr caps
/-- who goes over a link -/
def usersTo (L : List (List Int)) (x : Int) (n : Nat) : List Nat := (List.range n).filter fun f => inL (L.getD f []) x
def users (L : List (List Int)) (x : Int) : List Nat := usersTo L x L.length
theorem usersTo_yes {L : List (List Int)} {x : Int} {n : Nat} {l : List Int} (h : L[n]? = some l) (hi : inL l x = true) : usersTo L x (n + 1) = usersTo L x n ++ [n] := by
  simp [usersTo, List.range_succ, List.filter_append, h, hi]
theorem usersTo_no {L : List (List Int)} {x : Int} {n : Nat} {l : List Int} (h : L[n]? = some l) (hi : inL l x = false) : usersTo L x (n + 1) = usersTo L x n := by
  simp [usersTo, List.range_succ, List.filter_append, h, hi]
theorem usersTo_le (L : List (List Int)) (x : Int) (n : Nat) : (usersTo L x n).length ≤ n := by
  unfold usersTo
  exact Nat.le_trans (List.length_filter_le _ _) (by simp)
theorem users_mem {L : List (List Int)} {x : Int} {f : Nat} : f ∈ users L x ↔ f < L.length ∧ x ∈ L.getD f [] := by
  unfold users usersTo
  rw [List.mem_filter, List.mem_range, inL_iff]
theorem netErr_ok {caps : List Int} {paths : List (List Int)} (h : netErr caps paths = 0) :
    0 < caps.length ∧ caps.length ≤ 6 ∧ 0 < paths.length ∧ paths.length ≤ 6 ∧ (∀ c ∈ caps, 1 ≤ c ∧ c ≤ 1000) ∧ ∀ p ∈ paths, pathErr caps.length p = 0 := by
  unfold netErr at h
  split at h
  · omega
  · split at h
    · omega
    · split at h
      · rename_i h1 h2 h3
        refine ⟨by omega, by omega, by omega, by omega, fun c hc => ?_, fun p hp => ?_⟩
        · unfold linksErr at h3
          rw [if_neg (by omega), if_neg (by omega)] at h3
          split at h3
          · omega
          · rename_i h4
            cases hb : badCap c
            · simp only [badCap, Bool.or_eq_false_iff, decide_eq_false_iff_not] at hb; omega
            · exact absurd (List.any_eq_true.2 ⟨c, hc, hb⟩) h4
        · obtain ⟨i, hi, e⟩ := List.getElem_of_mem hp
          have := firstFrom_zero h i (Nat.zero_le _) (by omega)
          simpa [hi, e] using this
      · rename_i h1 h2 h3; exact absurd h h3
theorem pathErr_ok {k : Int} {p : List Int} (h : pathErr k p = 0) : 0 < p.length ∧ ∀ l ∈ p, 0 ≤ l ∧ l < k := by
  unfold pathErr at h
  split at h
  · omega
  · refine ⟨by omega, fun l hl => ?_⟩
    obtain ⟨i, hi, e⟩ := List.getElem_of_mem hl
    have := firstFrom_zero h i (Nat.zero_le _) (by omega)
    unfold pathAt at this
    have hg : p.getD i 0 = l := by simp [hi, e]
    rw [hg] at this
    split at this
    · omega
    · omega
end Go.Proofs.YtaijpiebjhhkjaaGreatDoor
/- Nets in plain words: paths are short. -/
namespace Go.Proofs.YtaijpiebjhhkjaaGreatDoor
theorem nodup_short : ∀ (k : Nat) (l : List Int), l.Nodup → (∀ x ∈ l, 0 ≤ x ∧ x < (k : Int)) → l.length ≤ k := by
  intro k
  induction k with
  | zero =>
    intro l _ h
    cases l with
    | nil => simp
    | cons a l => have := h a List.mem_cons_self; omega
  | succ k ih =>
    intro l hn h
    have h1 := ih (l.filter fun x => x != (k : Int)) (hn.filter _) fun x hx => by
      rw [List.mem_filter] at hx
      have := h x hx.1
      have : x ≠ (k : Int) := by simpa using hx.2
      omega
    have h2 : l.length = (l.filter fun x => x != (k : Int)).length + l.count (k : Int) := by
      clear h hn h1 ih
      induction l with
      | nil => rfl
      | cons a l ih =>
        rw [List.count_cons, List.length_cons, ih]
        by_cases e : a = (k : Int)
        · subst e; simp; omega
        · simp [e]; omega
    have h3 : l.count (k : Int) ≤ 1 := List.nodup_iff_count.1 hn _
    omega
theorem path_nodup {k : Int} {p : List Int} (h : pathErr k p = 0) : p.Nodup := by
  unfold pathErr at h
  split at h
  · omega
  · rw [List.nodup_iff_pairwise_ne, List.pairwise_iff_getElem]
    intro i j hi hj hij e
    have hz := firstFrom_zero h j (Nat.zero_le _) (by omega)
    unfold pathAt at hz
    have hg : p.getD j 0 = p[j] := by simp [hj]
    rw [hg] at hz
    split at hz
    · omega
    · split at hz
      · omega
      · rename_i h2
        refine h2 (inL_iff.2 ?_)
        rw [List.mem_take_iff_getElem]
        exact ⟨i, by omega, e⟩
theorem path_short {k : Nat} {p : List Int} (h : pathErr (k : Int) p = 0) : p.length ≤ k := nodup_short k p (path_nodup h) (pathErr_ok h).2
theorem netErr_short {caps : List Int} {paths : List (List Int)} (h : netErr caps paths = 0) : ∀ l ∈ paths, l.length ≤ 6 := fun l hl => by
  obtain ⟨_, h1, _, _, _, h2⟩ := netErr_ok h
  have := path_short (h2 l hl)
  omega
def addErr (caps : List Int) (paths : List (List Int)) (path : List Int) : Int := if netErr caps paths = 0 then (if paths.length = 6 then 4 else pathErr caps.length path) else netErr caps paths
def dropErr (caps : List Int) (paths : List (List Int)) (flow : Int) : Int := if netErr caps paths = 0 then (if flow < 0 ∨ (paths.length : Int) ≤ flow then 1 else if paths.length = 1 then 5 else 0) else netErr caps paths
end Go.Proofs.YtaijpiebjhhkjaaGreatDoor
/- Package net: what is wrong; who goes over a link. -/
namespace Go.Proofs.YtaijpiebjhhkjaaGreatDoor
open Go.RowKit
set_option maxHeartbeats 400000 in
set_option maxRecDepth 100000 in
theorem index_any (A : Option Addr) (c : Nat) (l : List Int) (B : Nat) (w : World) (h : Ints w B A c l) (x : Int) :
    Calls Tryz.prog 97 #[.slice A l.length c, .int .i64 x] w fun e w' => ∃ j : Int, e = .returned (.int .i64 j) ∧ Hid (decide (0 ≤ j) = inL l x) ∧ w = w' := by
  have H := Lib.hid h
  have hm := h.cap
  have hl := h.le
  clear h
  unfold maxLen at hm
  go_enter Tryz.func97, Tryz.ntmps97
  go_wp2
  go_loop [8] (fun i => ∃ k : Nat, k ≤ l.length ∧ i = .int .i64 k ∧ Hid (inL (l.take k) x = false)) (fun i => l.length - (intOf i).toNat)
  case atStart => exact ⟨0, Nat.zero_le _, rfl, Lib.hid (by simp [inL])⟩
  case round =>
    obtain ⟨k, hk, rfl, HN⟩ := hrel
    by_cases hlt : k < l.length
    · obtain ⟨b, off, a, rfl, _, hc, _, HT, HX⟩ := H.out.elem hlt
      have k0 : (0 : Int) ≤ (k : Int) := by omega
      have HP := inL_take (x := x) HT.out
      rw [HN.out] at HP
      clear HT HX
      by_cases hax : x = a
      · subst hax
        have HQ : Hid (inL l x = true) := Lib.hid (inL_of_take (k := k + 1) (by rw [HP]; simp))
        clear HP
        go_wp2
        go_ret
        exact ⟨_, rfl, Lib.hid (by rw [HQ.out]; simp), rfl⟩
      · have hb : (x == a) = false := beq_eq_false_iff_ne.2 hax
        have hb2 : (a == x) = false := beq_eq_false_iff_ne.2 fun e => hax e.symm
        rw [hb2] at HP
        have HQ : Hid (inL (l.take (k + 1)) x = false) := Lib.hid HP
        clear HP hax hb2
        go_wp2
        go_round
        case rel => exact ⟨k + 1, by omega, by go_num, HQ⟩
        case measure => simp [intOf]; omega
    · have HQ : Hid (inL l x = false) := Lib.hid (by have := HN.out; rwa [List.take_of_length_le (by omega)] at this)
      go_wp2
      go_ret
      exact ⟨_, rfl, Lib.hid (by rw [HQ.out]; rfl), rfl⟩
theorem containsL_any (A : Option Addr) (c n : Nat) (l : List Int) (B : Nat) (w : World) (h : Ints w B A c l) (hn : n = l.length) (x : Int) (bb : Bool) (hb : inL l x = bb) :
    Calls Tryz.prog 72 #[.slice A n c, .int .i64 x] w fun e w' => e = .returned (.bool bb) ∧ w = w' := by
  subst hb hn
  have HI := Lib.hid (index_any A c l B w h x)
  clear h
  go_enter Tryz.func72, Tryz.ntmps72
  go_wp2_with fail
  refine HI.out.mono ?_; rintro e w' ⟨j, rfl, hj, rfl⟩
  go_wp2
  go_ret
  exact ⟨by rw [← hj.out]; rfl, rfl⟩
theorem links1_any (x : Int) (w : World) : Calls Tryz.prog 71 #[.int .i64 x] w fun e w' => e = .returned (.bool (badCap x)) ∧ w = w' := by
  unfold badCap
  by_cases h : x < 1
  · have : decide (x < 1) = true := decide_eq_true h
    rw [this, Bool.true_or]
    go_enter Tryz.func71, Tryz.ntmps71
    go_wp2
    go_ret
    exact ⟨rfl, rfl⟩
  · have e1 : decide (x < 1) = false := decide_eq_false h
    rw [e1, Bool.false_or]
    obtain ⟨b, hb⟩ : ∃ b, decide (1000 < x) = b := ⟨_, rfl⟩
    rw [hb]
    go_enter Tryz.func71, Tryz.ntmps71
    go_wp2
    go_ret
    exact ⟨rfl, rfl⟩
set_option maxHeartbeats 1000000 in
theorem links_all (A : Option Addr) (c : Nat) (l : List Int) (B : Nat) (w : World) (h : Ints w B A c l) :
    Calls Tryz.prog 36 #[.slice A l.length c] w fun e w' => e = .returned (errVal (linksErr l)) ∧ w = w' := by
  unfold linksErr
  by_cases h0 : l.length = 0
  · rw [if_pos h0, h0]
    clear h
    go_enter Tryz.func36, Tryz.ntmps36
    go_wp2
    go_ret
    exact ⟨rfl, rfl⟩
  · rw [if_neg h0]
    have hc := h.le
    have hm := h.cap
    unfold maxLen at hm
    have e1 : ((l.length : Int) == 0) = false := beq_eq_false_iff_ne.2 (by omega)
    have e3 : ¬ (l.length : Int) = 0 := by omega
    by_cases h6 : 6 < l.length
    · rw [if_pos h6]
      clear h
      have e2 : (6 : Int) < l.length := by omega
      clear h6
      generalize l.length = n at *
      go_enter Tryz.func36, Tryz.ntmps36
      go_wp2
      go_ret
      exact ⟨rfl, rfl⟩
    · rw [if_neg h6]
      have e2 : decide ((6 : Int) < (l.length : Int)) = false := decide_eq_false (by omega)
      obtain ⟨b, hb⟩ : ∃ b, l.any badCap = b := ⟨_, rfl⟩
      have HC := Lib.hid (contains_any A c l B w h 71 #[] badCap (fun _ _ => by kernel_rfl) fun x _ => links1_any x w)
      rw [hb] at HC ⊢
      clear h hb
      cases b
      · go_enter Tryz.func36, Tryz.ntmps36
        go_wp2_with fail
        refine HC.out.mono ?_; rintro e w' ⟨rfl, rfl⟩
        go_wp2
        go_ret
        exact ⟨rfl, rfl⟩
      · go_enter Tryz.func36, Tryz.ntmps36
        go_wp2_with fail
        refine HC.out.mono ?_; rintro e w' ⟨rfl, rfl⟩
        go_wp2
        go_ret
        exact ⟨rfl, rfl⟩
theorem Ints.take {w : World} {B : Nat} {A : Option Addr} {c : Nat} {l : List Int} (h : Ints w B A c l) {k c' : Nat} (hk : k ≤ l.length) (hc : k ≤ c') (hm : c' ≤ maxLen) : Ints w B A c' (l.take k) := by
  have e : (l.take k).length = k := by rw [List.length_take]; omega
  refine ⟨⟨by simp, fun hn => ?_⟩, by rw [e]; exact hc, hm⟩
  rw [e] at hn
  obtain ⟨b, off, rfl, hb, hcell⟩ := h.rd.2 (by omega)
  refine ⟨b, off, rfl, hb, fun j u hu => hcell j u ?_⟩
  rw [List.map_take] at hu
  have hj : j < k := by have := (List.getElem?_eq_some_iff.1 hu).1; rw [List.length_take] at this; omega
  rwa [List.getElem?_take_of_lt hj] at hu
set_option maxHeartbeats 2000000 in
set_option maxRecDepth 100000 in
theorem path_all (n : Int) (A : Option Addr) (c : Nat) (l : List Int) (B : Nat) (w : World) (h : Ints w B A c l) :
    Calls Tryz.prog 38 #[.int .i64 n, .slice A l.length c] w fun e w' => e = .returned (errVal (pathErr n l)) ∧ w = w' := by
  unfold pathErr
  by_cases h0 : l.length = 0
  · rw [if_pos h0, h0]
    clear h
    go_enter Tryz.func38, Tryz.ntmps38
    go_wp2
    go_ret
    exact ⟨rfl, rfl⟩
  · rw [if_neg h0]
    have e1 : ((l.length : Int) == 0) = false := beq_eq_false_iff_ne.2 (by omega)
    have e3 : ¬ (l.length : Int) = 0 := by omega
    obtain ⟨ev, hev⟩ : ∃ ev, firstFrom (pathAt n l) (l.length - 0) 0 = ev := ⟨_, rfl⟩
    rw [hev]
    have HEV := Lib.hid hev
    have H := Lib.hid h
    have hm := h.cap
    have hle := h.le
    unfold maxLen at hm
    clear hev h
    go_enter Tryz.func38, Tryz.ntmps38
    go_wp2
    go_loop [13] (fun i => ∃ k : Nat, k ≤ l.length ∧ i = .int .i64 k ∧ Hid (firstFrom (pathAt n l) (l.length - k) k = ev)) (fun i => l.length - (intOf i).toNat)
    case atStart => exact ⟨0, Nat.zero_le _, rfl, HEV⟩
    case round =>
      clear HEV
      obtain ⟨k, hk, rfl, HEV⟩ := hrel
      by_cases hlt : k < l.length
      · obtain ⟨b, off, a, rfl, _, hc, _, HT, HX⟩ := H.out.elem hlt
        have k0 : (0 : Int) ≤ (k : Int) := by omega
        have k1 : (k : Int) ≤ (c : Int) := by omega
        have hs := HEV.out
        rw [firstFrom_step hlt] at hs
        have hp : pathAt n l k = if a < 0 ∨ n ≤ a then 1 else if inL (l.take k) a then 7 else 0 := by unfold pathAt; rw [HX.out]
        clear HT HX
        by_cases ha : a < 0
        · rw [if_pos (.inl ha)] at hp
          rw [hp, if_neg (by decide)] at hs
          clear hp
          subst hs
          go_wp2
          go_ret
          exact ⟨rfl, rfl⟩
        · by_cases hb : n ≤ a
          · rw [if_pos (.inr hb)] at hp
            rw [hp, if_neg (by decide)] at hs
            clear hp
            subst hs
            go_wp2
            go_ret
            exact ⟨rfl, rfl⟩
          · rw [if_neg (by omega)] at hp
            have e5 : decide (n ≤ a) = false := decide_eq_false hb
            have HK := Lib.hid (H.out.take (Nat.le_of_lt hlt) (c' := c) (by omega) (by unfold maxLen; omega))
            cases hi : inL (l.take k) a
            · rw [hi, if_neg (by decide)] at hp
              rw [hp, if_pos rfl] at hs
              clear hp
              have HS := Lib.hid hs
              have HI := Lib.hid hi
              clear hs hi
              go_wp2_with fail
              refine (containsL_any _ _ _ _ _ _ HK.out (by rw [List.length_take]; omega) _ _ HI.out).mono ?_; rintro e w' ⟨rfl, rfl⟩
              go_wp2
              go_round
              case rel => exact ⟨k + 1, by omega, by go_num, HS⟩
              case measure => simp [intOf]; omega
            · rw [hi, if_pos rfl] at hp
              rw [hp, if_neg (by decide)] at hs
              clear hp
              subst hs
              have HI := Lib.hid hi
              clear hi
              go_wp2_with fail
              refine (containsL_any _ _ _ _ _ _ HK.out (by rw [List.length_take]; omega) _ _ HI.out).mono ?_; rintro e w' ⟨rfl, rfl⟩
              go_wp2
              go_ret
              exact ⟨rfl, rfl⟩
      · obtain rfl : k = l.length := by omega
        have hs := HEV.out
        rw [firstFrom_end] at hs
        subst hs
        go_wp2
        go_ret
        exact ⟨rfl, rfl⟩
end Go.Proofs.YtaijpiebjhhkjaaGreatDoor
/- net.Check, net.Over. -/
namespace Go.Proofs.YtaijpiebjhhkjaaGreatDoor
open Go.RowKit
/-- a net by value -/
structure NetAt (w : World) (B : Nat) (v : Value) (caps : List Int) (paths : List (List Int)) : Prop where
  ex : ∃ C cc P cp, v = .agg #[.slice C caps.length cc, .slice P paths.length cp] ∧ Ints w B C cc caps ∧ Rows2 w B P cp paths
theorem NetAt.mk' {w : World} {B : Nat} {C : Option Addr} {cc : Nat} {caps : List Int} {P : Option Addr} {cp : Nat} {paths : List (List Int)} (hc : Ints w B C cc caps) (hp : Rows2 w B P cp paths) : NetAt w B (.agg #[.slice C caps.length cc, .slice P paths.length cp]) caps paths :=
  ⟨_, _, _, _, rfl, hc, hp⟩
theorem NetAt.below {w w' : World} {B D : Nat} {v : Value} {caps : List Int} {paths : List (List Int)} (h : NetAt w B v caps paths) (hb : Below D w w') (hB : B ≤ D) : NetAt w' B v caps paths := by
  obtain ⟨C, cc, P, cp, e, h1, h2⟩ := h.ex
  exact ⟨C, cc, P, cp, e, h1.below hb hB, h2.below hb hB⟩
theorem NetAt.more {w : World} {B D : Nat} {v : Value} {caps : List Int} {paths : List (List Int)} (h : NetAt w B v caps paths) (hB : B ≤ D) : NetAt w D v caps paths := by
  obtain ⟨C, cc, P, cp, e, h1, h2⟩ := h.ex
  exact ⟨C, cc, P, cp, e, h1.more hB, h2.more hB⟩
theorem NetAt.at' {w w' : World} {v : Value} {caps : List Int} {paths : List (List Int)} (h : NetAt w w.heap.size v caps paths) (hb : Below w.heap.size w w') : NetAt w' w'.heap.size v caps paths := (h.below hb (Nat.le_refl _)).more hb.size
set_option maxHeartbeats 4000000 in
set_option maxRecDepth 100000 in
theorem ncheck_in (C : Option Addr) (cc : Nat) (caps : List Int) (P : Option Addr) (cp : Nat) (paths : List (List Int)) (B : Nat) (w : World) (hB : B ≤ w.heap.size) (hc : Ints w B C cc caps) (hp : Rows2 w B P cp paths)
    (c0 : 0 < caps.length) (p0 : 0 < paths.length) (c6 : caps.length ≤ 6) (p6 : paths.length ≤ 6) :
    Calls Tryz.prog 33 #[.agg #[.slice C caps.length cc, .slice P paths.length cp]] w fun e w' => e = .returned (errVal (if linksErr caps = 0 then firstFrom (fun i => pathErr caps.length (paths.getD i [])) (paths.length - 0) 0 else linksErr caps)) ∧ Below w.heap.size w w' := by
  have e1 : ((caps.length : Int) == 0) = false := beq_eq_false_iff_ne.2 (by omega)
  have e2 : ((paths.length : Int) == 0) = false := beq_eq_false_iff_ne.2 (by omega)
  have e3 : decide ((6 : Int) < (caps.length : Int)) = false := decide_eq_false (by omega)
  have e4 : decide ((6 : Int) < (paths.length : Int)) = false := decide_eq_false (by omega)
  obtain ⟨v, hv⟩ : ∃ v, v = Value.agg #[.slice C caps.length cc, .slice P paths.length cp] := ⟨_, rfl⟩
  have HB0 : Hid (Below w.heap.size w (w.alloc (.cells #[.slice C caps.length cc, .slice P paths.length cp] 42))) := Lib.hid ((Below.refl _ _).alloc (Nat.le_refl _) _)
  have HC := Lib.hid (hc.below HB0.out hB)
  have HP := Lib.hid hp
  have HL := Lib.hid fun (W : World) (h : Ints W B C cc caps) => links_all C cc caps B W h
  clear hc hp hv
  by_cases hl : linksErr caps = 0
  · rw [if_pos hl]
    rw [hl, errVal_zero] at HL
    clear hl
    obtain ⟨ev, hev⟩ : ∃ ev, firstFrom (fun i => pathErr caps.length (paths.getD i [])) (paths.length - 0) 0 = ev := ⟨_, rfl⟩
    rw [hev]
    have HEV := Lib.hid hev
    clear hev
    go_enter Tryz.func33, Tryz.ntmps33
    go_wp2_with fail
    refine (HL.out _ HC.out).mono ?_; rintro e w' ⟨rfl, rfl⟩
    go_wp2
    go_loop [40] (fun i => ∃ k : Nat, k ≤ paths.length ∧ i = .int .i64 k ∧ Hid (firstFrom (fun i => pathErr caps.length (paths.getD i [])) (paths.length - k) k = ev)) (fun i => paths.length - (intOf i).toNat)
    case atStart => exact ⟨0, Nat.zero_le _, rfl, HEV⟩
    case round =>
      clear HEV
      obtain ⟨k, hk, rfl, HEV⟩ := hrel
      by_cases hlt : k < paths.length
      · obtain ⟨b, off, A', c', l, rfl, hb, hcell, hi, HX⟩ := HP.out.elem hlt
        have hs := HEV.out
        rw [firstFrom_step hlt] at hs
        have hg : paths.getD k [] = l := by simp [HX.out]
        have k0 : (0 : Int) ≤ (k : Int) := by omega
        have hp := path_all caps.length A' c' l B _ (hi.below HB0.out hB)
        have hbw : b < w.heap.size := by omega
        simp only [hg] at hs
        by_cases hz : pathErr caps.length l = 0
        · rw [if_pos hz] at hs
          rw [hz, errVal_zero] at hp
          have HQ := Lib.hid hp
          have HS := Lib.hid hs
          clear hp hs hz hg hi HX
          go_wp2_with fail
          refine HQ.out.mono ?_; rintro e w' ⟨rfl, rfl⟩
          go_wp2
          go_round
          case rel => exact ⟨k + 1, by omega, by go_num, HS⟩
          case measure => simp [intOf]; omega
        · rw [if_neg hz] at hs
          rw [hs] at hp
          rw [hs] at hz
          rw [errVal_pos hz] at hp
          have HQ := Lib.hid hp
          have HZ := Lib.hid hz
          clear hp hs hz hg hi HX
          go_wp2_with fail
          refine HQ.out.mono ?_; rintro e w' ⟨rfl, rfl⟩
          go_wp2
          go_ret
          exact ⟨by rw [errVal_pos HZ.out]; rfl, HB0.out⟩
      · obtain rfl : k = paths.length := by omega
        have hs := HEV.out
        rw [firstFrom_end] at hs
        subst hs
        go_wp2
        go_ret
        exact ⟨rfl, HB0.out⟩
  · rw [if_neg hl]
    rw [errVal_pos hl] at HL ⊢
    clear hl
    go_enter Tryz.func33, Tryz.ntmps33
    go_wp2_with fail
    refine (HL.out _ HC.out).mono ?_; rintro e w' ⟨rfl, rfl⟩
    go_wp2
    go_ret
    exact ⟨rfl, HB0.out⟩
set_option maxHeartbeats 1000000 in
theorem ncheck_all (C : Option Addr) (cc : Nat) (caps : List Int) (P : Option Addr) (cp : Nat) (paths : List (List Int)) (B : Nat) (w : World) (hB : B ≤ w.heap.size) (hc : Ints w B C cc caps) (hp : Rows2 w B P cp paths) :
    Calls Tryz.prog 33 #[.agg #[.slice C caps.length cc, .slice P paths.length cp]] w fun e w' => e = .returned (errVal (netErr caps paths)) ∧ Below w.heap.size w w' := by
  unfold netErr
  have hm1 := hc.le; have hm2 := hc.cap; have hm3 := hp.le; have hm4 := hp.cap
  unfold maxLen at hm2 hm4
  by_cases h0 : caps.length = 0 ∨ paths.length = 0
  · rw [if_pos h0]
    clear hc hp
    by_cases c0 : caps.length = 0
    · rw [c0]
      generalize paths.length = n at *
      go_enter Tryz.func33, Tryz.ntmps33
      go_wp2
      go_ret
      exact ⟨rfl, (Below.refl _ _).alloc (Nat.le_refl _) _⟩
    · have p0 : paths.length = 0 := by omega
      have e1 : ((caps.length : Int) == 0) = false := beq_eq_false_iff_ne.2 (by omega)
      rw [p0]
      clear h0 c0 p0
      generalize caps.length = n at *
      go_enter Tryz.func33, Tryz.ntmps33
      go_wp2
      go_ret
      exact ⟨rfl, (Below.refl _ _).alloc (Nat.le_refl _) _⟩
  · rw [if_neg h0]
    have e1 : ((caps.length : Int) == 0) = false := beq_eq_false_iff_ne.2 (by omega)
    have e2 : ((paths.length : Int) == 0) = false := beq_eq_false_iff_ne.2 (by omega)
    by_cases h6 : 6 < caps.length ∨ 6 < paths.length
    · rw [if_pos h6]
      clear hc hp
      by_cases c6 : 6 < caps.length
      · have e3 : (6 : Int) < caps.length := by omega
        clear h0 h6 c6
        generalize caps.length = m at *
        generalize paths.length = n at *
        go_enter Tryz.func33, Tryz.ntmps33
        go_wp2
        go_ret
        exact ⟨rfl, (Below.refl _ _).alloc (Nat.le_refl _) _⟩
      · have e3 : decide ((6 : Int) < (caps.length : Int)) = false := decide_eq_false (by omega)
        have e4 : (6 : Int) < paths.length := by omega
        clear h0 h6 c6
        generalize caps.length = m at *
        generalize paths.length = n at *
        go_enter Tryz.func33, Tryz.ntmps33
        go_wp2
        go_ret
        exact ⟨rfl, (Below.refl _ _).alloc (Nat.le_refl _) _⟩
    · rw [if_neg h6]
      exact ncheck_in C cc caps P cp paths B w hB hc hp (by omega) (by omega) (by omega) (by omega)
set_option maxHeartbeats 4000000 in
set_option maxRecDepth 100000 in
theorem over_any (x : Int) (Cv : Value) (P : Option Addr) (cp : Nat) (paths : List (List Int)) (B : Nat) (w : World) (hB : B ≤ w.heap.size) (hp : Rows2 w B P cp paths) (hn : paths.length ≤ 1000) :
    Calls Tryz.prog 90 #[.agg #[Cv, .slice P paths.length cp], .int .i64 x] w fun e w' => ∃ v, e = .returned v ∧ w'.ownsRow w.heap.size 3 1 v (users paths x).length (idxs (users paths x)) ∧ Below w.heap.size w w' := by
  have HP := Lib.hid hp
  clear hp
  go_enter Tryz.func90, Tryz.ntmps90
  go_wp2
  go_loopw [5, 11] (fun v i wr => ∃ k : Nat, k ≤ paths.length ∧ i = .int .i64 k ∧ Hid (wr.ownsRow w.heap.size 3 1 v (usersTo paths x k).length (idxs (usersTo paths x k))) ∧ Hid (Below w.heap.size w wr)) (fun _ i _ => paths.length - (intOf i).toNat)
  case atStart => exact ⟨0, Nat.zero_le _, rfl, Lib.hid (World.ownsRow_nil _ _ _ _), Lib.hid ((Below.refl _ _).alloc (Nat.le_refl _) _)⟩
  case round =>
    obtain ⟨k, hk, rfl, HO, HB⟩ := hrel
    have hsz := HB.out.size
    by_cases hlt : k < paths.length
    · obtain ⟨b, off, A', c', l, rfl, hb, hcell, hi, HX⟩ := (HP.out.below HB.out hB).elem hlt
      have k0 : (0 : Int) ≤ (k : Int) := by omega
      have hul := usersTo_le paths x k
      cases hin : inL l x
      · have HU := Lib.hid (usersTo_no HX.out hin)
        have HI := Lib.hid hi
        have HN := Lib.hid hin
        clear hi hin HX
        go_wp2_with fail
        refine (containsL_any _ _ _ _ _ _ HI.out rfl _ _ HN.out).mono ?_; rintro e w' ⟨rfl, rfl⟩
        go_wp2
        go_roundw
        case rel => exact ⟨k + 1, by omega, by go_num, by rw [HU.out]; exact HO, HB⟩
        case measure => simp [intOf]; omega
      · have HU := Lib.hid (usersTo_yes HX.out hin)
        have HI := Lib.hid hi
        have HN := Lib.hid hin
        clear hi hin HX
        go_wp2_with fail
        refine (containsL_any _ _ _ _ _ _ HI.out rfl _ _ HN.out).mono ?_; rintro e w' ⟨rfl, rfl⟩
        go_wp2_with (at_builtin; refine wpList_push wr _ rfl (.tmp 19) (.tmp 21) 22 rfl w.heap.size 3 (.int .i64 0) 1 8 Tryz.underlying22 Tryz.info_int rfl (by omega) _ _ _ rfl HO.out rfl rfl (by simp [Value.oneCell']) (by omega) (by omega) hsz ?_; intro v' w1 hown1 hg1)
        have HO1 := Lib.hid hown1
        have HB1 := Lib.hid (below_push HB.out HO.out hg1 (Nat.le_refl _) hsz)
        clear hown1 hg1
        go_wp2
        go_roundw
        case rel => exact ⟨k + 1, by omega, by go_num, by rw [HU.out]; exact Lib.hid (by simpa [idxs] using HO1.out), HB1⟩
        case measure => simp [intOf]; omega
    · obtain rfl : k = paths.length := by omega
      go_wp2
      go_ret
      exact ⟨_, rfl, HO.out, HB.out⟩
end Go.Proofs.YtaijpiebjhhkjaaGreatDoor
/- net.Own: a net that the call itself made. -/
namespace Go.Proofs.YtaijpiebjhhkjaaGreatDoor
open Go.RowKit
theorem Tryz.info_row : (Tryz.prog.info? 22).map (fun i => (i.zero, i.size, i.bytes)) = some (some (.slice none 0 0), 1, 24) := by kernel_rfl
theorem own_kindB {w : World} {base e size n : Nat} {v : Value} {xs : List Value} (h : w.ownsRow base e size v n xs) {g : Nat} (hg : v.ownBlock = some g) : ∃ cs, Blk w g e cs := by
  rcases h.2 with ⟨rfl, _⟩ | ⟨g', cap, cur, rfl, _, hh, _⟩
  · simp [Value.ownBlock] at hg
  · have : g' = g := by simpa [Value.ownBlock] using hg
    subst this
    exact ⟨cur, hh⟩
/-- rows of two kinds lie apart -/
theorem own_apart {w : World} {base base' e e' size size' n n' : Nat} {v v' : Value} {xs xs' : List Value} (h : w.ownsRow base e size v n xs) (h' : w.ownsRow base' e' size' v' n' xs') (hne : e ≠ e') : v.ownBlock = none ∨ v.ownBlock ≠ v'.ownBlock := by
  cases hb : v.ownBlock with
  | none => exact .inl rfl
  | some g =>
    refine .inr fun e2 => ?_
    obtain ⟨cs, hk⟩ := own_kindB h hb
    exact own_blk_ne h' hk (fun x => hne x.symm) e2.symm
theorem own_grown {w w' : World} {base e size n : Nat} {v : Value} {xs : List Value} (h : w.ownsRow base e size v n xs) {row : Option Nat} (hg : w.grownBy w' row) (hne : v.ownBlock = none ∨ v.ownBlock ≠ row) : w'.ownsRow base e size v n xs := by
  rcases hne with h0 | h0
  · rcases h.2 with ⟨rfl, hx⟩ | ⟨g, cap, cur, rfl, _⟩
    · exact ⟨h.1, .inl ⟨rfl, hx⟩⟩
    · simp [Value.ownBlock] at h0
  · exact h.kept hg (.inr h0)
theorem own_baseB {w : World} {base base' e size n : Nat} {v : Value} {xs : List Value} (h : w.ownsRow base e size v n xs) (hb : base' ≤ base) : w.ownsRow base' e size v n xs := by
  refine ⟨h.1, ?_⟩
  rcases h.2 with h | ⟨g, cap, cur, rfl, h1, h2⟩
  · exact .inl h
  · exact .inr ⟨g, cap, cur, rfl, Nat.le_trans hb h1, h2⟩
theorem own_farB {w : World} {base e size n : Nat} {v : Value} {xs : List Value} (h : w.ownsRow base e size v n xs) {g k : Nat} (hg : v.ownBlock ≠ some g) (u : Value) : (w.setCell ⟨g, k, none⟩ u).ownsRow base e size v n xs :=
  h.kept (row := some g) ⟨rfl, rfl, rfl, by simp [World.setCell], fun i hi hne => Below.heap_setCell w _ u i (fun e => hne (by rw [e]))⟩ (.inr hg)
/-- a net whose rows the call made: the capacities' row, the row of rows, the rows -/
structure NetOwn (w : World) (base : Nat) (cv pv : Value) (vs : List Value) (caps : List Int) (L : List (List Int)) : Prop where
  capO : w.ownsRow base 3 1 cv caps.length (caps.map (Value.int .i64))
  own : w.ownsRow base 22 1 pv L.length vs
  row : ∀ (i : Nat) (u : Value) (l : List Int), vs[i]? = some u → L[i]? = some l → w.ownsRow base 3 1 u l.length (l.map (Value.int .i64))
  apC : ∀ (i : Nat) (u : Value), vs[i]? = some u → Apart u cv
  apR : ∀ (i j : Nat) (u u' : Value), vs[i]? = some u → vs[j]? = some u' → i ≠ j → Apart u u'
section
variable {w w' : World} {base : Nat} {cv pv : Value} {vs : List Value} {caps : List Int} {L : List (List Int)}
theorem NetOwn.len (h : NetOwn w base cv pv vs caps L) : vs.length = L.length := by have := h.own.1; simpa using this
theorem NetOwn.below (h : NetOwn w base cv pv vs caps L) (hb : Below w.heap.size w w') : NetOwn w' base cv pv vs caps L :=
  ⟨own_below h.capO hb, own_below h.own hb, fun i u l h1 h2 => own_below (h.row i u l h1 h2) hb, h.apC, h.apR⟩
theorem NetOwn.far (h : NetOwn w base cv pv vs caps L) {g : Nat} {t : TypeId} {cs : Array Value} (hg : Blk w g t cs) (h1 : 3 ≠ t) (h2 : 22 ≠ t) (k : Nat) (u : Value) : NetOwn (w.setCell ⟨g, k, none⟩ u) base cv pv vs caps L :=
  ⟨own_farB h.capO (own_blk_ne h.capO hg h1) u, own_farB h.own (own_blk_ne h.own hg h2) u, fun i x l a b => own_farB (h.row i x l a b) (own_blk_ne (h.row i x l a b) hg h1) u, h.apC, h.apR⟩
/-- one row more -/
theorem NetOwn.push (h : NetOwn w base cv pv vs caps L) {u pv' : Value} {l : List Int} {N : Nat} (hN : ∀ g, cv.ownBlock = some g ∨ (∃ (i : Nat) (x : Value), vs[i]? = some x ∧ x.ownBlock = some g) → g < N) (hu : w.ownsRow N 3 1 u l.length (l.map (Value.int .i64))) (hbN : base ≤ N)
    (hown : w'.ownsRow base 22 1 pv' (L.length + 1) (vs ++ [u])) (hg : w.grownBy w' pv.ownBlock) : NetOwn w' base cv pv' (vs ++ [u]) caps (L ++ [l]) := by
  have hlen := h.len
  have hnew : ∀ x : Value, (∃ i : Nat, vs[i]? = some x) → Apart x u ∧ Apart u x := fun x ⟨i, hx⟩ => by
    have key : Apart x u := by
      cases hb : x.ownBlock with
      | none => exact .inl hb
      | some g =>
        refine .inr fun e => ?_
        have h1 := hN g (.inr ⟨i, x, hx, hb⟩)
        have h2 := hu.lt g (by rw [← e, hb])
        omega
    exact ⟨key, key.symm⟩
  have hrow : ∀ x m (ys : List Value), w.ownsRow base 3 1 x m ys → w'.ownsRow base 3 1 x m ys := fun x m ys hx => own_grown hx hg (own_apart hx h.own (by decide))
  refine ⟨hrow _ _ _ h.capO, by simpa using hown, fun i x m h1 h2 => ?_, fun i x h1 => ?_, fun i j x y h1 h2 hij => ?_⟩
  · by_cases hi : i < vs.length
    · rw [List.getElem?_append_left hi] at h1
      rw [List.getElem?_append_left (by omega)] at h2
      exact hrow _ _ _ (h.row i x m h1 h2)
    · rw [List.getElem?_append_right (by omega)] at h1 h2
      have hi0 : i - vs.length = 0 := by
        have := (List.getElem?_eq_some_iff.1 h1).1; simp at this; omega
      rw [hi0] at h1
      rw [show i - L.length = 0 by omega] at h2
      simp at h1 h2
      subst h1 h2
      exact hrow _ _ _ (own_baseB hu hbN)
  · by_cases hi : i < vs.length
    · rw [List.getElem?_append_left hi] at h1
      exact h.apC i x h1
    · rw [List.getElem?_append_right (by omega)] at h1
      have hi0 : i - vs.length = 0 := by
        have := (List.getElem?_eq_some_iff.1 h1).1; simp at this; omega
      rw [hi0] at h1
      simp at h1
      subst h1
      cases hb : u.ownBlock with
      | none => exact .inl hb
      | some g =>
        refine .inr fun e => ?_
        have h1 := hN g (.inl (by rw [← e, hb]))
        have h2 := hu.lt g hb
        omega
  · by_cases hi : i < vs.length
    · rw [List.getElem?_append_left hi] at h1
      by_cases hj : j < vs.length
      · rw [List.getElem?_append_left hj] at h2
        exact h.apR i j x y h1 h2 hij
      · rw [List.getElem?_append_right (by omega)] at h2
        have hj0 : j - vs.length = 0 := by
          have := (List.getElem?_eq_some_iff.1 h2).1; simp at this; omega
        rw [hj0] at h2
        simp at h2
        subst h2
        exact (hnew x ⟨i, h1⟩).1
    · rw [List.getElem?_append_right (by omega)] at h1
      have hi0 : i - vs.length = 0 := by
        have := (List.getElem?_eq_some_iff.1 h1).1; simp at this; omega
      rw [hi0] at h1
      simp at h1
      subst h1
      have hj : j < vs.length := by
        apply Classical.byContradiction; intro hj
        rw [List.getElem?_append_right (by omega)] at h2
        have := (List.getElem?_eq_some_iff.1 h2).1; simp at this; omega
      rw [List.getElem?_append_left hj] at h2
      exact (hnew y ⟨j, h2⟩).2
/-- all that it has lies below the heap's end -/
theorem NetOwn.lt (h : NetOwn w base cv pv vs caps L) : ∀ g, cv.ownBlock = some g ∨ (∃ (i : Nat) (x : Value), vs[i]? = some x ∧ x.ownBlock = some g) → g < w.heap.size := by
  rintro g (hg | ⟨i, x, hx, hg⟩)
  · exact (h.capO.lt g hg).2
  · have hi := (List.getElem?_eq_some_iff.1 hx).1
    have hl : L[i]? = some (L[i]'(by have := h.len; omega)) := List.getElem?_eq_getElem _
    exact ((h.row i x _ hx hl).lt g hg).2
theorem NetOwn.rows (h : NetOwn w base cv pv vs caps L) : ∃ P cp, pv = .slice P L.length cp ∧ Rows2 w w.heap.size P cp L := by
  obtain ⟨P, cp, rfl, h1, h2, h3⟩ := owns_reads h.own
  refine ⟨P, cp, rfl, ⟨fun hpos => ?_, h1, h2⟩⟩
  obtain ⟨b, off, e, hb, hc⟩ := h3.2 hpos
  refine ⟨b, off, e, hb, fun j l hl => ?_⟩
  have hj : j < vs.length := by have := h.len; have := (List.getElem?_eq_some_iff.1 hl).1; omega
  have hv : vs[j]? = some vs[j] := List.getElem?_eq_getElem hj
  obtain ⟨A', c', e', _, hi⟩ := owns_ints (h.row j _ l hv hl)
  exact ⟨A', c', by rw [hc j _ hv, e'], hi⟩
theorem NetOwn.at_ (h : NetOwn w base cv pv vs caps L) : NetAt w w.heap.size (.agg #[cv, pv]) caps L := by
  obtain ⟨C, cc, rfl, _, hi⟩ := owns_ints h.capO
  obtain ⟨P, cp, rfl, hp⟩ := h.rows
  exact NetAt.mk' hi hp
end
/-- a net that a call made -/
def NetFree (w : World) (v : Value) (caps : List Int) (L : List (List Int)) : Prop := ∃ base cv pv vs, v = .agg #[cv, pv] ∧ NetOwn w base cv pv vs caps L
theorem NetFree.at_ {w : World} {v : Value} {caps : List Int} {L : List (List Int)} (h : NetFree w v caps L) : NetAt w w.heap.size v caps L := by
  obtain ⟨base, cv, pv, vs, rfl, h⟩ := h
  exact NetOwn.at_ h
end Go.Proofs.YtaijpiebjhhkjaaGreatDoor
/- net.Own: its walk. -/
namespace Go.Proofs.YtaijpiebjhhkjaaGreatDoor
open Go.RowKit
set_option maxHeartbeats 4000000 in
set_option maxRecDepth 100000 in
theorem own_any (C : Option Addr) (cc : Nat) (caps : List Int) (P : Option Addr) (cp : Nat) (paths : List (List Int)) (B : Nat) (w : World) (hB : B ≤ w.heap.size) (hc : Ints w B C cc caps) (hp : Rows2 w B P cp paths)
    (hcl : caps.length ≤ 1000) (hpl : paths.length ≤ 1000) (hll : ∀ l ∈ paths, l.length ≤ 1000) :
    Calls Tryz.prog 43 #[.agg #[.slice C caps.length cc, .slice P paths.length cp]] w fun e w' => ∃ cv pv vs, e = .returned (.agg #[cv, pv]) ∧ NetOwn w' w.heap.size cv pv vs caps paths ∧ Below w.heap.size w w' := by
  have HPP := Lib.hid hp
  have HLL := Lib.hid hll
  have HCC := Lib.hid hc
  clear hc hp hll
  have HN0 := Lib.hid ((Blk.new w 42 #[.slice C caps.length cc, .slice P paths.length cp]).alloc (.cells #[.slice none 0 0, .slice none 0 0] 42))
  have HR0 := Lib.hid (Blk.new' (w.alloc (.cells #[.slice C caps.length cc, .slice P paths.length cp] 42)) 42 #[.slice none 0 0, .slice none 0 0] (g := w.heap.size + 1) (by simp))
  have HB0 := Lib.hid (((Below.refl w.heap.size w).alloc (Nat.le_refl _) (.cells #[.slice C caps.length cc, .slice P paths.length cp] 42)).alloc (by simp) (.cells #[.slice none 0 0, .slice none 0 0] 42))
  go_enter Tryz.func43, Tryz.ntmps43
  go_wp2_with fail
  refine (clone_any C cc caps B _ (HCC.out.below HB0.out hB) (by omega) (by simp; omega)).mono ?_; rintro e w1 ⟨cv, rfl, hov, hb1⟩
  obtain ⟨Cv, ccv, rfl, _, _⟩ := owns_ints hov
  have HN1 := Lib.hid ((HN0.out.go hb1).alloc (.cells #[.slice Cv caps.length ccv, .slice none 0 0] 42))
  have HR1 := Lib.hid ((HR0.out.go hb1).alloc (.cells #[.slice Cv caps.length ccv, .slice none 0 0] 42))
  have HG1 := Lib.hid (Blk.new w1 42 #[.slice Cv caps.length ccv, .slice none 0 0])
  have hb2 := HB0.out.trans (hb1.mono HB0.out.size)
  have HB1 := Lib.hid (hb2.alloc hb2.size (.cells #[.slice Cv caps.length ccv, .slice none 0 0] 42))
  have hw1 := hb2.size
  have HO1 : Hid (NetOwn (w1.alloc (.cells #[.slice Cv caps.length ccv, .slice none 0 0] 42)) w.heap.size (.slice Cv caps.length ccv) (.slice none 0 0) [] caps []) := Lib.hid ⟨own_baseB (hov.alloc _) (by simp; omega), World.ownsRow_nil _ _ _ _, fun i u l h => by simp at h, fun i u h => by simp at h, fun i j u u' h => by simp at h⟩
  have hg1 : w.heap.size + 1 < w1.heap.size := by have := hb1.size; simp at this; omega
  clear hov hb1 hb2 HN0 HR0 HB0
  obtain ⟨go, hgo⟩ : ∃ x, x = w1.heap.size := ⟨_, rfl⟩
  rw [← hgo] at HG1 hg1 hw1
  obtain ⟨n0, n1, _, _, nz⟩ := HN1.out.two
  go_wp2
  rw [← hgo]
  clear n0 n1 nz hgo
  go_loopw [13] (fun i wr => ∃ (k : Nat) (pv : Value) (vs : List Value), k ≤ paths.length ∧ i = .int .i64 k ∧ Hid (NetOwn wr w.heap.size (.slice Cv caps.length ccv) pv vs caps (paths.take k)) ∧ Hid (Blk wr go 42 #[.slice Cv caps.length ccv, pv]) ∧ Hid (Blk wr (w.heap.size + 1) 42 #[.slice none 0 0, .slice none 0 0]) ∧ Hid (Below w.heap.size w wr)) (fun i _ => paths.length - (intOf i).toNat)
  case atStart => exact ⟨0, _, [], Nat.zero_le _, rfl, HO1, HG1, HR1, HB1⟩
  case round =>
    clear HN1 HR1 HG1 HB1 HO1
    obtain ⟨k, pv, vs, hk, rfl, HO, HG, HR, HB⟩ := hrel
    have hsz := HB.out.size
    by_cases hlt : k < paths.length
    · obtain ⟨b, off, A', c', l, rfl, hbb, hcell, hi, HX⟩ := (HPP.out.below HB.out hB).elem hlt
      have hbw : b < wr.heap.size := by omega
      have k0 : (0 : Int) ≤ (k : Int) := by omega
      have HI := Lib.hid hi
      have hl1 := HLL.out l (List.mem_of_getElem? HX.out)
      have HT := Lib.hid (take_snoc' paths k l HX.out)
      have htl : (paths.take k).length = k := by rw [List.length_take]; omega
      have HTL := Lib.hid htl
      have hkM : k ≤ 1000000 := by omega
      have HLT := Lib.hid HO.out.lt
      obtain ⟨g0, g1, f0, f1, gz⟩ := HG.out.two
      clear hi HX htl
      go_wp2_with fail
      go_region_law (first
        | (refine step_push rfl (.tmp 18) (.tmp 21) 23 rfl w.heap.size 22 (.slice none 0 0) 1 24 Tryz.underlying23 Tryz.info_row rfl (by omega) pv (paths.take k).length vs rfl HOV.out _ #[.slice U l.length cu] rfl (heap_alloc_new _ _) rfl HU1.out (by rw [HTL.out]; exact hkM) (by decide) hbz1 ?_; intro pv' w9 hown9 hg9 hblk9; have HO9 := Lib.hid (NetOwn.push (HOZ.out.below HAZ.out) HLT.out (own_below HU.out HAZ.out) hsz hown9 hg9); have HG9 := Lib.hid ((HGZ.out.alloc _).grown hg9 (fun e => own_blk_ne HOV.out (HGZ.out.alloc _) (by decide) e.symm)); have HR9 := Lib.hid ((HRZ.out.alloc _).grown hg9 (fun e => own_blk_ne HOV.out (HRZ.out.alloc _) (by decide) e.symm)); have HB9 := Lib.hid (below_push HBZ.out HOV.out hg9 (Nat.le_refl _) hbz1); clear hown9 hg9 hblk9; obtain ⟨P9, c9, hpv, _⟩ := HO9.out.rows; rw [show (paths.take k ++ [l]).length = k + 1 from (by rw [List.length_append, HTL.out]; rfl)] at hpv; subst hpv; obtain ⟨x0, x1, y0, y1, yz⟩ := HG9.out.two)
        | (go_simp; go_at_call 37; refine (clone_any A' c' l B _ (by first | exact HI.out | exact HI.out.below (Below.refl _ _).drew hB) (by omega) (by first | omega | (simp; omega))).mono ?_; rintro e wz ⟨u, rfl, hu, hbz⟩; obtain ⟨U, cu, rfl, _, _⟩ := owns_ints hu; have HBW : Hid (Below wr.heap.size wr wz) := Lib.hid ((Below.refl _ _).drew.trans hbz); have HU := Lib.hid hu; clear hu hbz; have HOZ := Lib.hid (HO.out.below HBW.out); have HGZ := Lib.hid (HG.out.go HBW.out); have HRZ := Lib.hid (HR.out.go HBW.out); have HAZ : Hid (Below wz.heap.size wz (wz.alloc (.cells #[.slice U l.length cu] 22))) := Lib.hid ((Below.refl _ _).alloc (Nat.le_refl _) _); have HOV := Lib.hid (HOZ.out.own.alloc (.cells #[.slice U l.length cu] 22)); have hb3 := HB.out.trans (HBW.out.mono hsz); have hb4 := hb3.size; have HBZ := Lib.hid (hb3.alloc hb4 (.cells #[.slice U l.length cu] 22)); have hbz1 : w.heap.size ≤ (wz.alloc (.cells #[.slice U l.length cu] 22)).heap.size := HBZ.out.size; have HU1 : Hid (∀ x ∈ #[Value.slice U l.length cu].toList, x.oneCell' = true) := Lib.hid (by simp [Value.oneCell']); clear hb3 hb4; obtain ⟨h0, h1, e0, e1, ez⟩ := HGZ.out.two))
      all_goals
        go_wp2
        go_roundw
        case rel => exact ⟨k + 1, _, vs ++ [.slice U l.length cu], by omega, by go_num, by rw [HT.out]; exact Lib.hid (HO9.out.far HG9.out (by decide) (by decide) _ _), Lib.hid (HG9.out.s2_1 _), Lib.hid (HR9.out.far (p := ⟨go, 1, none⟩) (Nat.ne_of_lt hg1) _), Lib.hid (HB9.out.setCell (p := ⟨go, 1, none⟩) hw1 _)⟩
        case measure => simp [intOf]; omega
    · obtain rfl : k = paths.length := by omega
      rw [List.take_length] at HO
      obtain ⟨P', cp', rfl, _⟩ := HO.out.rows
      obtain ⟨g0, g1, f0, f1, gz⟩ := HG.out.two
      obtain ⟨r0, r1, _, _, rz⟩ := HR.out.two
      have HFIN := Lib.hid (((HB.out.setCell (p := ⟨w.heap.size + 1, 0, none⟩) (Nat.le_succ _) (.slice Cv caps.length ccv)).setCell (p := ⟨w.heap.size + 1, 1, none⟩) (Nat.le_succ _) (.slice P' paths.length cp')))
      have HOF := Lib.hid (((HO.out.far HR.out (by decide) (by decide) 0 (.slice Cv caps.length ccv)).far (HR.out.s2_0 _) (by decide) (by decide) 1 (.slice P' paths.length cp')))
      go_wp2
      refine bodyPost_ret (v := .agg #[.slice Cv caps.length ccv, .slice P' paths.length cp']) (by simp [results, Tryz.results43, go_sem, r0, r1]) rfl ⟨_, _, vs, rfl, HOF.out, HFIN.out⟩
end Go.Proofs.YtaijpiebjhhkjaaGreatDoor
