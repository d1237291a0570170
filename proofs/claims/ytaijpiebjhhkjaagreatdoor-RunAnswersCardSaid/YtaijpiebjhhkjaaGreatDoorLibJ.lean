/- Several texts in one: PlNeck, FindB, Neck1, Neck2, Neck3. -/
import Derived.Test.YtaijpiebjhhkjaaGreatDoorLibP
import Derived.Test.YtaijpiebjhhkjaaGreatDoorLibA
import Derived.Test.YtaijpiebjhhkjaaGreatDoorLibK
/- Narrow places in plain words. -/
namespace Go.Proofs.YtaijpiebjhhkjaaGreatDoor
def fullB (caps : List Int) (L : List Rat) (l : Nat) : Bool := decide (L.getD l 0 = capQ caps l)
def fullTo (caps : List Int) (L : List Rat) (n : Nat) : List Nat := (List.range n).filter (fullB caps L)
def fulls (caps : List Int) (L : List Rat) : List Nat := fullTo caps L caps.length
theorem fullTo_succ (caps : List Int) (L : List Rat) (n : Nat) : fullTo caps L (n + 1) = fullTo caps L n ++ if fullB caps L n = true then [n] else [] := by
  unfold fullTo
  rw [List.range_succ, List.filter_append]
  congr 1
  rw [List.filter_cons]; rfl
theorem fullTo_le (caps : List Int) (L : List Rat) (n : Nat) : (fullTo caps L n).length ≤ n := by
  unfold fullTo; exact Nat.le_trans (List.length_filter_le _ _) (by simp)
def greater (Q : List Rat) (f : Nat) (u : Int) : Bool := decide (Q.getD f 0 < Q.getD u.toNat 0)
def ovr (paths : List (List Int)) (l : Int) : List Int := (users paths l).map fun (i : Nat) => (i : Int)
def narrow (paths : List (List Int)) (Q : List Rat) (fl : List Int) (f : Nat) (l : Int) : Bool := inL fl l && !(ovr paths l).any (greater Q f)
def neckOf (paths : List (List Int)) (Q : List Rat) (fl : List Int) (f : Nat) : Int := ((paths.getD f []).find? (narrow paths Q fl f)).getD (-1)
def necks (paths : List (List Int)) (Q : List Rat) (fl : List Int) (n : Nat) : List Int := (List.range n).map (neckOf paths Q fl)
theorem necks_succ (paths : List (List Int)) (Q : List Rat) (fl : List Int) (n : Nat) : necks paths Q fl (n + 1) = necks paths Q fl n ++ [neckOf paths Q fl n] := by
  unfold necks; rw [List.range_succ, List.map_append]; rfl
theorem necks_len (paths : List (List Int)) (Q : List Rat) (fl : List Int) (n : Nat) : (necks paths Q fl n).length = n := by simp [necks]
theorem find_first {α : Type} {p : α → Bool} {l : List α} {k : Nat} {x : α} (h : ∀ y ∈ l.take k, p y = false) (hk : l[k]? = some x) (hx : p x = true) : l.find? p = some x := by
  induction l generalizing k with
  | nil => simp at hk
  | cons a l ih =>
    cases k with
    | zero =>
      simp at hk; subst hk
      simp [hx]
    | succ k =>
      have ha : p a = false := h a (by simp)
      rw [List.find?_cons_of_neg (by simp [ha])]
      exact ih (fun y hy => h y (by rw [List.take_succ_cons]; exact List.mem_cons_of_mem _ hy)) (by simpa using hk)
theorem find_none {α : Type} {p : α → Bool} {l : List α} (h : ∀ y ∈ l, p y = false) : l.find? p = none := List.find?_eq_none.2 fun y hy => by simp [h y hy]
section
variable {caps : List Int} {paths : List (List Int)} {Q L : List Rat}
theorem full_mem (hL : loadsTo paths Q caps.length = some L) {l : Nat} : l ∈ fulls caps L ↔ l < caps.length ∧ (netOf caps paths).load (rateOf Q) l = (netOf caps paths).cap l := by
  unfold fulls fullTo
  rw [List.mem_filter, List.mem_range]
  constructor
  · rintro ⟨h1, h2⟩
    refine ⟨h1, ?_⟩
    have := of_decide_eq_true h2
    rwa [List.getD_eq_getElem?_getD, load_at hL h1] at this
  · rintro ⟨h1, h2⟩
    refine ⟨h1, decide_eq_true ?_⟩
    rw [List.getD_eq_getElem?_getD, load_at hL h1]; exact h2
theorem ovr_mem {l : Int} {u : Int} : u ∈ ovr paths l ↔ ∃ v : Nat, u = (v : Int) ∧ v < paths.length ∧ inL (paths.getD v []) l = true := by
  unfold ovr
  rw [List.mem_map]
  constructor
  · rintro ⟨v, hv, rfl⟩
    obtain ⟨h1, h2⟩ := users_mem.1 hv
    exact ⟨v, rfl, h1, inL_iff.2 h2⟩
  · rintro ⟨v, rfl, h1, h2⟩
    exact ⟨v, users_mem.2 ⟨h1, inL_iff.1 h2⟩, rfl⟩
theorem narrow_iff (hn : NetOk caps paths) (hL : loadsTo paths Q caps.length = some L) {f : Nat} {l : Int} (hf : f < paths.length) (hl : l ∈ paths.getD f []) :
    narrow paths Q ((fulls caps L).map fun (i : Nat) => (i : Int)) f l = true ↔ (netOf caps paths).Neck (rateOf Q) f l.toNat := by
  have hp : paths.getD f [] ∈ paths := by rw [List.getD_eq_getElem?_getD, List.getElem?_eq_getElem hf]; exact List.getElem_mem hf
  obtain ⟨h0, h1⟩ := (hn.path _ hp).2 l hl
  obtain ⟨m, rfl⟩ := Int.eq_ofNat_of_zero_le h0
  have hm : m < caps.length := by omega
  unfold narrow
  rw [Bool.and_eq_true, Bool.not_eq_true', List.any_eq_false, inL_iff, List.mem_map, Int.toNat_natCast]
  constructor
  · rintro ⟨⟨x, hx, e⟩, h3⟩
    have hxm : x = m := by omega
    subst hxm
    obtain ⟨_, h4⟩ := (full_mem hL).1 hx
    refine ⟨hm, inL_iff.2 hl, h4, fun u hu hon => ?_⟩
    have := h3 (u : Int) (ovr_mem.2 ⟨u, rfl, hu, hon⟩)
    unfold greater at this
    rw [decide_eq_true_eq, Int.toNat_natCast] at this
    show Q.getD u 0 ≤ Q.getD f 0
    grind
  · rintro ⟨_, _, h4, h5⟩
    refine ⟨⟨m, (full_mem hL).2 ⟨hm, h4⟩, rfl⟩, fun u hu => ?_⟩
    obtain ⟨v, rfl, hv, hon⟩ := ovr_mem.1 hu
    have : Q.getD v 0 ≤ Q.getD f 0 := h5 v hv hon
    unfold greater
    rw [decide_eq_true_eq, Int.toNat_natCast]
    grind
theorem neck_iff (hn : NetOk caps paths) (hL : loadsTo paths Q caps.length = some L) {f : Nat} (hf : f < paths.length) :
    (neckOf paths Q ((fulls caps L).map fun (i : Nat) => (i : Int)) f = -1 ∧ ¬ ∃ l, (netOf caps paths).Neck (rateOf Q) f l) ∨
    (∃ l : Nat, neckOf paths Q ((fulls caps L).map fun (i : Nat) => (i : Int)) f = (l : Int) ∧ l ∈ fulls caps L ∧ (l : Int) ∈ paths.getD f [] ∧ (netOf caps paths).Neck (rateOf Q) f l) := by
  have hp : paths.getD f [] ∈ paths := by rw [List.getD_eq_getElem?_getD, List.getElem?_eq_getElem hf]; exact List.getElem_mem hf
  unfold neckOf
  cases hfd : (paths.getD f []).find? (narrow paths Q ((fulls caps L).map fun (i : Nat) => (i : Int)) f) with
  | none =>
    refine .inl ⟨rfl, ?_⟩
    rintro ⟨l, hl⟩
    have := List.find?_eq_none.1 hfd (l : Int) (inL_iff.1 hl.on)
    have h2 := (narrow_iff hn hL hf (inL_iff.1 hl.on)).2 (by simpa using hl)
    exact this h2
  | some l =>
    have h1 := List.mem_of_find?_eq_some hfd
    have h2 := List.find?_some hfd
    obtain ⟨h3, h4⟩ := (hn.path _ hp).2 l h1
    obtain ⟨m, rfl⟩ := Int.eq_ofNat_of_zero_le h3
    have h5 := (narrow_iff hn hL hf h1).1 h2
    rw [Int.toNat_natCast] at h5
    exact .inr ⟨m, rfl, (full_mem hL).2 ⟨h5.lt, h5.full⟩, h1, h5⟩
/-- fair, as the program tells it -/
def fairP (caps : List Int) (paths : List (List Int)) (Q L : List Rat) : Bool := fitsB caps Q L && !inL (necks paths Q ((fulls caps L).map fun (i : Nat) => (i : Int)) paths.length) (-1)
theorem fairP_iff (hn : NetOk caps paths) (hl : Q.length = paths.length) (hL : loadsTo paths Q caps.length = some L) : fairP caps paths Q L = true ↔ (netOf caps paths).Fair (rateOf Q) := by
  unfold fairP
  rw [Bool.and_eq_true, fitsB_iff hL hl, Bool.not_eq_true']
  constructor
  · rintro ⟨h1, h2⟩
    refine ⟨h1, fun f hf => ?_⟩
    rcases neck_iff hn hL hf with ⟨h3, _⟩ | ⟨l, _, _, _, h5⟩
    · exfalso
      have : inL (necks paths Q ((fulls caps L).map fun (i : Nat) => (i : Int)) paths.length) (-1) = true := inL_iff.2 (by
        unfold necks; rw [List.mem_map]; exact ⟨f, List.mem_range.2 hf, h3⟩)
      rw [this] at h2; cases h2
    · exact ⟨l, h5⟩
  · rintro ⟨h1, h2⟩
    refine ⟨h1, ?_⟩
    rw [← Bool.not_eq_true, inL_iff]
    unfold necks
    rw [List.mem_map]
    rintro ⟨f, hf, e⟩
    have hf := List.mem_range.1 hf
    rcases neck_iff hn hL hf with ⟨_, h3⟩ | ⟨l, h3, _⟩
    · exact h3 (h2 f hf)
    · omega
end
end Go.Proofs.YtaijpiebjhhkjaaGreatDoor
/- slices.ContainsFunc over ints, at a predicate that makes memory of its own. -/
namespace Go.Proofs.YtaijpiebjhhkjaaGreatDoor
open Go.RowKit
set_option maxHeartbeats 1000000 in
set_option maxRecDepth 100000 in
theorem ixF_any (A : Option Addr) (c n : Nat) (l : List Int) (B : Nat) (w : World) (hB : B ≤ w.heap.size) (hn : n = l.length) (h : Ints w B A c l) (g : FuncId) (cap : Array Value) (p : Int → Bool) (hcf : ∀ (a : Array Value) (W : World), (callFunc g a).run Tryz.prog W = .ok (.enter g a) W)
    (hg : ∀ (W : World), Below w.heap.size w W → ∀ x ∈ l, Calls Tryz.prog g (#[.int .i64 x] ++ cap) W fun e w' => e = .returned (.bool (p x)) ∧ Below W.heap.size W w') :
    Calls Tryz.prog 96 #[.slice A n c, .func (Fn.func g) #[] cap] w fun e w' => ∃ j : Int, e = .returned (.int .i64 j) ∧ Hid (decide (0 ≤ j) = l.any p) ∧ Below w.heap.size w w' := by
  subst hn
  have H := Lib.hid h
  have hm := h.cap
  have hl := h.le
  clear h
  unfold maxLen at hm
  have HG := Lib.hid hg; clear hg
  go_enter Tryz.func96, Tryz.ntmps96
  go_wp2
  go_loopw [8] (fun i wr => ∃ k : Nat, k ≤ l.length ∧ i = .int .i64 k ∧ Hid ((l.take k).any p = false) ∧ Hid (Below w.heap.size w wr)) (fun i _ => l.length - (intOf i).toNat)
  case atStart => exact ⟨0, Nat.zero_le _, rfl, Lib.hid (by simp), Lib.hid (Below.refl _ _)⟩
  case round =>
    obtain ⟨k, hk, rfl, HN, HB⟩ := hrel
    have hB1 := HB.out.size
    by_cases hlt : k < l.length
    · obtain ⟨b, off, x, rfl, hb, hc, hx, HT, HX⟩ := (H.out.below HB.out hB).elem hlt
      have hbz : b < wr.heap.size := by omega
      go_wp2_with fail
      refine (HG.out _ HB.out x hx).mono ?_; rintro e w' ⟨rfl, hb'⟩
      have HB2 := Lib.hid (HB.out.trans (hb'.mono hB1))
      have HP := any_take_succ l p k x HT.out
      rw [HN.out] at HP
      have HP := Lib.hid HP
      clear HT HX hb'
      cases hpx : p x
      · have HQ : Hid ((l.take (k + 1)).any p = false) := Lib.hid (by rw [HP.out, hpx]; rfl)
        clear HP hpx
        go_wp2
        go_roundw
        case rel => exact ⟨k + 1, by omega, by go_num, HQ, HB2⟩
        case measure => simp [intOf]; omega
      · have HQ : Hid (l.any p = true) := Lib.hid (any_of_take l p (k + 1) (by rw [HP.out, hpx]; rfl))
        clear HP hpx
        go_wp2
        go_ret
        exact ⟨_, rfl, Lib.hid (by rw [HQ.out]; simp), HB2.out⟩
    · have HQ : Hid (l.any p = false) := Lib.hid (by have := HN.out; rwa [List.take_of_length_le (by omega)] at this)
      go_wp2
      go_ret
      exact ⟨_, rfl, Lib.hid (by rw [HQ.out]; rfl), HB.out⟩
theorem containsF_any (A : Option Addr) (c n : Nat) (l : List Int) (B : Nat) (w : World) (hB : B ≤ w.heap.size) (hn : n = l.length) (h : Ints w B A c l) (g : FuncId) (cap : Array Value) (p : Int → Bool) (bb : Bool) (hbb : l.any p = bb) (hcf : ∀ (a : Array Value) (W : World), (callFunc g a).run Tryz.prog W = .ok (.enter g a) W)
    (hg : ∀ (W : World), Below w.heap.size w W → ∀ x ∈ l, Calls Tryz.prog g (#[.int .i64 x] ++ cap) W fun e w' => e = .returned (.bool (p x)) ∧ Below W.heap.size W w') :
    Calls Tryz.prog 70 #[.slice A n c, .func (Fn.func g) #[] cap] w fun e w' => e = .returned (.bool bb) ∧ Below w.heap.size w w' := by
  have HI := Lib.hid (ixF_any A c n l B w hB hn h g cap p hcf hg)
  have HBB := Lib.hid hbb
  clear h hg hcf hbb hn
  go_enter Tryz.func70, Tryz.ntmps70
  go_wp2_with fail
  refine HI.out.mono ?_; rintro e w' ⟨j, rfl, hj, hb⟩
  have HB := Lib.hid hb
  clear hb
  go_wp2
  go_ret
  exact ⟨by rw [← HBB.out, ← hj.out]; rfl, HB.out⟩
end Go.Proofs.YtaijpiebjhhkjaaGreatDoor
/- neck.Full: which links are full. -/
namespace Go.Proofs.YtaijpiebjhhkjaaGreatDoor
open Go.RowKit
theorem q_int {q : Rat} {c : Int} : q = (c : Rat) ↔ q.num = c ∧ (q.den : Int) = 1 := by
  constructor
  · rintro rfl; simp
  · rintro ⟨h1, h2⟩
    exact Rat.ext (by simpa using h1) (by simp; omega)
end Go.Proofs.YtaijpiebjhhkjaaGreatDoor
/- neck.neck: the narrow place of a flow. -/
namespace Go.Proofs.YtaijpiebjhhkjaaGreatDoor
open Go.RowKit
theorem narrow_in (paths : List (List Int)) (Q : List Rat) (fl : List Int) (f : Nat) (l : Int) (b1 b2 : Bool) (h1 : inL fl l = b1) (h2 : (ovr paths l).any (greater Q f) = b2) : narrow paths Q fl f l = (b1 && !b2) := by unfold narrow; rw [h1, h2]
end Go.Proofs.YtaijpiebjhhkjaaGreatDoor
/- neck.Of, neck.Fair. -/
namespace Go.Proofs.YtaijpiebjhhkjaaGreatDoor
open Go.RowKit
end Go.Proofs.YtaijpiebjhhkjaaGreatDoor
