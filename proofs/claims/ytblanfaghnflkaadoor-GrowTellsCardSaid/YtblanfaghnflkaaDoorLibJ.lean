/- Several texts in one: PlNeck, FindB, Neck1, Neck2, Neck3. -/
import Derived.Test.YtblanfaghnflkaaDoorLibP
import Derived.Test.YtblanfaghnflkaaDoorLibA
import Derived.Test.YtblanfaghnflkaaDoorLibK
/- Narrow places in plain words. -/
namespace Go.Proofs.YtblanfaghnflkaaDoor
def fullB (caps : List Int) (L : List Rat) (l : Nat) : Bool := decide (L.getD l 0 = capQ caps l)
def fullTo (caps : List Int) (L : List Rat) (n : Nat) : List Nat := (List.range n).filter (fullB caps L)
def fulls (caps : List Int) (L : List Rat) : List Nat := fullTo caps L caps.length
theorem fullTo_succ (caps : List Int) (L : List Rat) (n : Nat) : fullTo caps L (n + 1) = fullTo caps L n ++ if fullB caps L n = true then [n] else [] := by
  unfold fullTo
  rw [List.range_succ, List.filter_append]
  congr 1
  rw [List.filter_cons]; rfl
theorem fullTo_le (caps : List Int) (L : List Rat) (n : Nat) : (fullTo caps L n).length ≤ n := by
  unfold fullTo; exact Nat.le_trans (List.length_filter_le _ _) (by simp)
def greater (Q : List Rat) (f : Nat) (u : Int) : Bool := decide (Q.getD f 0 < Q.getD u.toNat 0)
def ovr (paths : List (List Int)) (l : Int) : List Int := (users paths l).map fun (i : Nat) => (i : Int)
def narrow (paths : List (List Int)) (Q : List Rat) (fl : List Int) (f : Nat) (l : Int) : Bool := inL fl l && !(ovr paths l).any (greater Q f)
def neckOf (paths : List (List Int)) (Q : List Rat) (fl : List Int) (f : Nat) : Int := ((paths.getD f []).find? (narrow paths Q fl f)).getD (-1)
def necks (paths : List (List Int)) (Q : List Rat) (fl : List Int) (n : Nat) : List Int := (List.range n).map (neckOf paths Q fl)
theorem necks_succ (paths : List (List Int)) (Q : List Rat) (fl : List Int) (n : Nat) : necks paths Q fl (n + 1) = necks paths Q fl n ++ [neckOf paths Q fl n] := by
  unfold necks; rw [List.range_succ, List.map_append]; rfl
theorem necks_len (paths : List (List Int)) (Q : List Rat) (fl : List Int) (n : Nat) : (necks paths Q fl n).length = n := by simp [necks]
theorem find_first {α : Type} {p : α → Bool} {l : List α} {k : Nat} {x : α} (h : ∀ y ∈ l.take k, p y = false) (hk : l[k]? = some x) (hx : p x = true) : l.find? p = some x := by
  induction l generalizing k with
  | nil => simp at hk
  | cons a l ih =>
    cases k with
    | zero =>
      simp at hk; subst hk
      simp [hx]
    | succ k =>
      have ha : p a = false := h a (by simp)
      rw [List.find?_cons_of_neg (by simp [ha])]
      exact ih (fun y hy => h y (by rw [List.take_succ_cons]; exact List.mem_cons_of_mem _ hy)) (by simpa using hk)
theorem find_none {α : Type} {p : α → Bool} {l : List α} (h : ∀ y ∈ l, p y = false) : l.find? p = none := List.find?_eq_none.2 fun y hy => by simp [h y hy]
section
variable {caps : List Int} {paths : List (List Int)} {Q L : List Rat}
theorem full_mem (hL : loadsTo paths Q caps.length = some L) {l : Nat} : l ∈ fulls caps L ↔ l < caps.length ∧ (netOf caps paths).load (rateOf Q) l = (netOf caps paths).cap l := by
  unfold fulls fullTo
  rw [List.mem_filter, List.mem_range]
  constructor
  · rintro ⟨h1, h2⟩
    refine ⟨h1, ?_⟩
    have := of_decide_eq_true h2
    rwa [List.getD_eq_getElem?_getD, load_at hL h1] at this
  · rintro ⟨h1, h2⟩
    refine ⟨h1, decide_eq_true ?_⟩
    rw [List.getD_eq_getElem?_getD, load_at hL h1]; exact h2
theorem ovr_mem {l : Int} {u : Int} : u ∈ ovr paths l ↔ ∃ v : Nat, u = (v : Int) ∧ v < paths.length ∧ inL (paths.getD v []) l = true := by
  unfold ovr
  rw [List.mem_map]
  constructor
  · rintro ⟨v, hv, rfl⟩
    obtain ⟨h1, h2⟩ := users_mem.1 hv
    exact ⟨v, rfl, h1, inL_iff.2 h2⟩
  · rintro ⟨v, rfl, h1, h2⟩
    exact ⟨v, users_mem.2 ⟨h1, inL_iff.1 h2⟩, rfl⟩
theorem narrow_iff (hn : NetOk caps paths) (hL : loadsTo paths Q caps.length = some L) {f : Nat} {l : Int} (hf : f < paths.length) (hl : l ∈ paths.getD f []) :
    narrow paths Q ((fulls caps L).map fun (i : Nat) => (i : Int)) f l = true ↔ (netOf caps paths).Neck (rateOf Q) f l.toNat := by
  have hp : paths.getD f [] ∈ paths := by rw [List.getD_eq_getElem?_getD, List.getElem?_eq_getElem hf]; exact List.getElem_mem hf
  obtain ⟨h0, h1⟩ := (hn.path _ hp).2 l hl
  obtain ⟨m, rfl⟩ := Int.eq_ofNat_of_zero_le h0
  have hm : m < caps.length := by omega
  unfold narrow
  rw [Bool.and_eq_true, Bool.not_eq_true', List.any_eq_false, inL_iff, List.mem_map, Int.toNat_natCast]
  constructor
  · rintro ⟨⟨x, hx, e⟩, h3⟩
    have hxm : x = m := by omega
    subst hxm
    obtain ⟨_, h4⟩ := (full_mem hL).1 hx
    refine ⟨hm, inL_iff.2 hl, h4, fun u hu hon => ?_⟩
    have := h3 (u : Int) (ovr_mem.2 ⟨u, rfl, hu, hon⟩)
    unfold greater at this
    rw [decide_eq_true_eq, Int.toNat_natCast] at this
    show Q.getD u 0 ≤ Q.getD f 0
    grind
  · rintro ⟨_, _, h4, h5⟩
    refine ⟨⟨m, (full_mem hL).2 ⟨hm, h4⟩, rfl⟩, fun u hu => ?_⟩
    obtain ⟨v, rfl, hv, hon⟩ := ovr_mem.1 hu
    have : Q.getD v 0 ≤ Q.getD f 0 := h5 v hv hon
    unfold greater
    rw [decide_eq_true_eq, Int.toNat_natCast]
    grind
theorem neck_iff (hn : NetOk caps paths) (hL : loadsTo paths Q caps.length = some L) {f : Nat} (hf : f < paths.length) :
    (neckOf paths Q ((fulls caps L).map fun (i : Nat) => (i : Int)) f = -1 ∧ ¬ ∃ l, (netOf caps paths).Neck (rateOf Q) f l) ∨
    (∃ l : Nat, neckOf paths Q ((fulls caps L).map fun (i : Nat) => (i : Int)) f = (l : Int) ∧ l ∈ fulls caps L ∧ (l : Int) ∈ paths.getD f [] ∧ (netOf caps paths).Neck (rateOf Q) f l) := by
  have hp : paths.getD f [] ∈ paths := by rw [List.getD_eq_getElem?_getD, List.getElem?_eq_getElem hf]; exact List.getElem_mem hf
  unfold neckOf
  cases hfd : (paths.getD f []).find? (narrow paths Q ((fulls caps L).map fun (i : Nat) => (i : Int)) f) with
  | none =>
    refine .inl ⟨rfl, ?_⟩
    rintro ⟨l, hl⟩
    have := List.find?_eq_none.1 hfd (l : Int) (inL_iff.1 hl.on)
    have h2 := (narrow_iff hn hL hf (inL_iff.1 hl.on)).2 (by simpa using hl)
    exact this h2
  | some l =>
    have h1 := List.mem_of_find?_eq_some hfd
    have h2 := List.find?_some hfd
    obtain ⟨h3, h4⟩ := (hn.path _ hp).2 l h1
    obtain ⟨m, rfl⟩ := Int.eq_ofNat_of_zero_le h3
    have h5 := (narrow_iff hn hL hf h1).1 h2
    rw [Int.toNat_natCast] at h5
    exact .inr ⟨m, rfl, (full_mem hL).2 ⟨h5.lt, h5.full⟩, h1, h5⟩
/-- fair, as the program tells it -/
def fairP (caps : List Int) (paths : List (List Int)) (Q L : List Rat) : Bool := fitsB caps Q L && !inL (necks paths Q ((fulls caps L).map fun (i : Nat) => (i : Int)) paths.length) (-1)
theorem fairP_iff (hn : NetOk caps paths) (hl : Q.length = paths.length) (hL : loadsTo paths Q caps.length = some L) : fairP caps paths Q L = true ↔ (netOf caps paths).Fair (rateOf Q) := by
  unfold fairP
  rw [Bool.and_eq_true, fitsB_iff hL hl, Bool.not_eq_true']
  constructor
  · rintro ⟨h1, h2⟩
    refine ⟨h1, fun f hf => ?_⟩
    rcases neck_iff hn hL hf with ⟨h3, _⟩ | ⟨l, _, _, _, h5⟩
    · exfalso
      have : inL (necks paths Q ((fulls caps L).map fun (i : Nat) => (i : Int)) paths.length) (-1) = true := inL_iff.2 (by
        unfold necks; rw [List.mem_map]; exact ⟨f, List.mem_range.2 hf, h3⟩)
      rw [this] at h2; cases h2
    · exact ⟨l, h5⟩
  · rintro ⟨h1, h2⟩
    refine ⟨h1, ?_⟩
    rw [← Bool.not_eq_true, inL_iff]
    unfold necks
    rw [List.mem_map]
    rintro ⟨f, hf, e⟩
    have hf := List.mem_range.1 hf
    rcases neck_iff hn hL hf with ⟨_, h3⟩ | ⟨l, h3, _⟩
    · exact h3 (h2 f hf)
    · omega
end
end Go.Proofs.YtblanfaghnflkaaDoor
/- slices.ContainsFunc over ints, at a predicate that makes memory of its own. -/
namespace Go.Proofs.YtblanfaghnflkaaDoor
open Go.RowKit
set_option maxHeartbeats 1000000 in
set_option maxRecDepth 100000 in
theorem ixF_any (A : Option Addr) (c n : Nat) (l : List Int) (B : Nat) (w : World) (hB : B ≤ w.heap.size) (hn : n = l.length) (h : Ints w B A c l) (g : FuncId) (cap : Array Value) (p : Int → Bool) (hcf : ∀ (a : Array Value) (W : World), (callFunc g a).run Tryd.prog W = .ok (.enter g a) W)
    (hg : ∀ (W : World), Below w.heap.size w W → ∀ x ∈ l, Calls Tryd.prog g (#[.int .i64 x] ++ cap) W fun e w' => e = .returned (.bool (p x)) ∧ Below W.heap.size W w') :
    Calls Tryd.prog 137 #[.slice A n c, .func (Fn.func g) #[] cap] w fun e w' => ∃ j : Int, e = .returned (.int .i64 j) ∧ Hid (decide (0 ≤ j) = l.any p) ∧ Below w.heap.size w w' := by
  subst hn
  have H := Lib.hid h
  have hm := h.cap
  have hl := h.le
  clear h
  unfold maxLen at hm
  have HG := Lib.hid hg; clear hg
  go_enter Tryd.func137, Tryd.ntmps137
  go_wp2
  go_loopw [8] (fun i wr => ∃ k : Nat, k ≤ l.length ∧ i = .int .i64 k ∧ Hid ((l.take k).any p = false) ∧ Hid (Below w.heap.size w wr)) (fun i _ => l.length - (intOf i).toNat)
  case atStart => exact ⟨0, Nat.zero_le _, rfl, Lib.hid (by simp), Lib.hid (Below.refl _ _)⟩
  case round =>
    obtain ⟨k, hk, rfl, HN, HB⟩ := hrel
    have hB1 := HB.out.size
    by_cases hlt : k < l.length
    · obtain ⟨b, off, x, rfl, hb, hc, hx, HT, HX⟩ := (H.out.below HB.out hB).elem hlt
      have hbz : b < wr.heap.size := by omega
      go_wp2_with fail
      refine (HG.out _ HB.out x hx).mono ?_; rintro e w' ⟨rfl, hb'⟩
      have HB2 := Lib.hid (HB.out.trans (hb'.mono hB1))
      have HP := any_take_succ l p k x HT.out
      rw [HN.out] at HP
      have HP := Lib.hid HP
      clear HT HX hb'
      cases hpx : p x
      · have HQ : Hid ((l.take (k + 1)).any p = false) := Lib.hid (by rw [HP.out, hpx]; rfl)
        clear HP hpx
        go_wp2
        go_roundw
        case rel => exact ⟨k + 1, by omega, by go_num, HQ, HB2⟩
        case measure => simp [intOf]; omega
      · have HQ : Hid (l.any p = true) := Lib.hid (any_of_take l p (k + 1) (by rw [HP.out, hpx]; rfl))
        clear HP hpx
        go_wp2
        go_ret
        exact ⟨_, rfl, Lib.hid (by rw [HQ.out]; simp), HB2.out⟩
    · have HQ : Hid (l.any p = false) := Lib.hid (by have := HN.out; rwa [List.take_of_length_le (by omega)] at this)
      go_wp2
      go_ret
      exact ⟨_, rfl, Lib.hid (by rw [HQ.out]; rfl), HB.out⟩
theorem containsF_any (A : Option Addr) (c n : Nat) (l : List Int) (B : Nat) (w : World) (hB : B ≤ w.heap.size) (hn : n = l.length) (h : Ints w B A c l) (g : FuncId) (cap : Array Value) (p : Int → Bool) (bb : Bool) (hbb : l.any p = bb) (hcf : ∀ (a : Array Value) (W : World), (callFunc g a).run Tryd.prog W = .ok (.enter g a) W)
    (hg : ∀ (W : World), Below w.heap.size w W → ∀ x ∈ l, Calls Tryd.prog g (#[.int .i64 x] ++ cap) W fun e w' => e = .returned (.bool (p x)) ∧ Below W.heap.size W w') :
    Calls Tryd.prog 118 #[.slice A n c, .func (Fn.func g) #[] cap] w fun e w' => e = .returned (.bool bb) ∧ Below w.heap.size w w' := by
  have HI := Lib.hid (ixF_any A c n l B w hB hn h g cap p hcf hg)
  have HBB := Lib.hid hbb
  clear h hg hcf hbb hn
  go_enter Tryd.func118, Tryd.ntmps118
  go_wp2_with fail
  refine HI.out.mono ?_; rintro e w' ⟨j, rfl, hj, hb⟩
  have HB := Lib.hid hb
  clear hb
  go_wp2
  go_ret
  exact ⟨by rw [← HBB.out, ← hj.out]; rfl, HB.out⟩
end Go.Proofs.YtblanfaghnflkaaDoor
/- neck.Full: which links are full. -/
namespace Go.Proofs.YtblanfaghnflkaaDoor
open Go.RowKit
theorem nfull_er (C : Option Addr) (cc : Nat) (caps : List Int) (P : Option Addr) (cp m : Nat) (paths : List (List Int)) (A : Option Addr) (c n : Nat) (S : List Fr) (B : Nat) (w : World) (er : Int) (hB : B ≤ w.heap.size) (hc : Ints w B C cc caps) (hp : Rows2 w B P cp paths) (hr : Frs w B A c S)
    (hm : m = paths.length) (hn : n = S.length) (he : (chkErr caps paths S = er ∧ er ≠ 0) ∨ (∃ Q : List Rat, S = Q.map frQ ∧ netErr caps paths = 0 ∧ Q.length = paths.length ∧ (∀ q ∈ Q, QIn q) ∧ loadsTo paths Q caps.length = none ∧ er = 4)) :
    Calls Tryd.prog 62 #[.agg #[.slice C caps.length cc, .slice P m cp], .slice A n c] w fun e w' => e = .returned (.tuple #[.slice none 0 0, .iface 119 (.int .i64 er)]) ∧ Below w.heap.size w w' := by
  subst hm
  have HB0 : Hid (Below w.heap.size w (w.alloc (.cells #[.slice C caps.length cc, .slice P paths.length cp] 43))) := Lib.hid ((Below.refl _ _).alloc (Nat.le_refl _) _)
  have HL := Lib.hid (lof_er C cc caps P cp _ paths A c n S B (w.alloc (.cells #[.slice C caps.length cc, .slice P paths.length cp] 43)) er (by simp; omega) (hc.below HB0.out hB) (hp.below HB0.out hB) (hr.below HB0.out hB) rfl hn he)
  clear hc hp hr he hn
  go_enter Tryd.func62, Tryd.ntmps62
  go_wp2_with fail
  refine HL.out.mono ?_; rintro e w1 ⟨rfl, hb1⟩
  have HB1 := Lib.hid (HB0.out.trans (hb1.mono HB0.out.size))
  clear hb1
  go_wp2
  go_ret2
  exact ⟨rfl, HB1.out⟩
theorem q_int {q : Rat} {c : Int} : q = (c : Rat) ↔ q.num = c ∧ (q.den : Int) = 1 := by
  constructor
  · rintro rfl; simp
  · rintro ⟨h1, h2⟩
    exact Rat.ext (by simpa using h1) (by simp; omega)
set_option maxHeartbeats 8000000 in
set_option maxRecDepth 100000 in
theorem nfull_yes (C : Option Addr) (cc : Nat) (caps : List Int) (P : Option Addr) (cp m : Nat) (paths : List (List Int)) (A : Option Addr) (c n : Nat) (Q L : List Rat) (B : Nat) (w : World) (hB : B ≤ w.heap.size) (hc : Ints w B C cc caps) (hp : Rows2 w B P cp paths) (hr : Frs w B A c (Q.map frQ))
    (hm : m = paths.length) (hn : n = Q.length) (he : netErr caps paths = 0) (hl : Q.length = paths.length) (hq : ∀ q ∈ Q, QIn q) (hL : loadsTo paths Q caps.length = some L) :
    Calls Tryd.prog 62 #[.agg #[.slice C caps.length cc, .slice P m cp], .slice A n c] w fun e w' => ∃ A' c', e = .returned (.tuple #[.slice A' (fulls caps L).length c', .nilIface]) ∧ Ints w' w'.heap.size A' c' ((fulls caps L).map fun (i : Nat) => (i : Int)) ∧ Below w.heap.size w w' := by
  subst hm hn
  obtain ⟨k1, k2, k3, k4, _, _⟩ := netErr_ok he
  have HB0 : Hid (Below w.heap.size w (w.alloc (.cells #[.slice C caps.length cc, .slice P paths.length cp] 43))) := Lib.hid ((Below.refl _ _).alloc (Nat.le_refl _) _)
  have HN0 := Lib.hid (Blk.new w 43 #[.slice C caps.length cc, .slice P paths.length cp])
  have HL := Lib.hid (lof_yes C cc caps P cp _ paths A c _ Q L B (w.alloc (.cells #[.slice C caps.length cc, .slice P paths.length cp] 43)) (by simp; omega) (hc.below HB0.out hB) (hp.below HB0.out hB) (hr.below HB0.out hB) rfl rfl he hl hq hL)
  have HLL := Lib.hid (loadsTo_len hL)
  have HC := Lib.hid hc
  have hcm := hc.cap; have hcl := hc.le
  unfold maxLen at hcm
  clear hc hp hr he hl hq hL
  go_enter Tryd.func62, Tryd.ntmps62
  go_wp2_with fail
  refine HL.out.mono ?_; rintro e w1 ⟨A', c', rfl, hf, _, hb1⟩
  have HF := Lib.hid hf
  have hcm' := hf.cap; have hcl' := hf.le
  rw [List.length_map, HLL.out] at hcl'
  unfold maxLen at hcm'
  have HB1 := Lib.hid (HB0.out.trans (hb1.mono HB0.out.size))
  have HN1 := Lib.hid (HN0.out.go hb1)
  obtain ⟨n0, n1, _, _, nz⟩ := HN1.out.two
  have hBw := HB1.out.size
  clear hb1 HB0 HN0 HL hf
  go_wp2
  go_loopw [8, 23] (fun v i wr => ∃ k : Nat, k ≤ caps.length ∧ i = .int .i64 k ∧ Hid (wr.ownsRow w1.heap.size 3 1 v (fullTo caps L k).length (((fullTo caps L k).map fun (i : Nat) => (i : Int)).map (Value.int .i64))) ∧ Hid (Below w1.heap.size w1 wr)) (fun _ i _ => caps.length - (intOf i).toNat)
  case atStart => exact ⟨0, Nat.zero_le _, rfl, Lib.hid (World.ownsRow_nil _ _ _ _), Lib.hid (Below.refl _ _)⟩
  case round =>
    clear n0 n1 nz
    obtain ⟨k, hk, rfl, HO, HB⟩ := hrel
    have hB1 := HB.out.size
    by_cases hlt : k < caps.length
    · have k0 : (0 : Int) ≤ (k : Int) := by omega
      have hlk : k < L.length := by rw [HLL.out]; exact hlt
      have hol : (k : Int) < (caps.length : Int) := by omega
      obtain ⟨bl, ol, rfl, hbl, l0, l1⟩ := frs_q (HF.out.below HB.out (Nat.le_refl _)) hlk
      obtain ⟨bc, oc, rfl, hbc, hcell⟩ := caps_get (HC.out.below (HB1.out.trans (HB.out.mono hBw)) hB) hlt
      have hsu := fullTo_succ caps L k
      have hfb : fullB caps L k = decide (L.getD k 0 = ((caps.getD k 0 : Int) : Rat)) := rfl
      have hfl := fullTo_le caps L k
      obtain ⟨cv, hcv⟩ : ∃ x, caps.getD k 0 = x := ⟨_, rfl⟩
      obtain ⟨q, hqq⟩ : ∃ q, L.getD k 0 = q := ⟨_, rfl⟩
      rw [hcv] at hcell
      rw [hqq] at l0 l1
      rw [hcv, hqq] at hfb
      have hiff := @q_int q cv
      obtain ⟨a, ha⟩ : ∃ a, q.num = a := ⟨_, rfl⟩
      obtain ⟨d, hd⟩ : ∃ d : Int, (q.den : Int) = d := ⟨_, rfl⟩
      rw [ha] at l0
      rw [hd] at l1
      rw [ha, hd] at hiff
      have hblz : bl < wr.heap.size := by omega
      have hbcz : bc < wr.heap.size := by omega
      have hW := fun W => whole_any cv W
      clear hcv hqq ha hd
      by_cases hfull : q = (cv : Rat)
      · have hsu' : fullTo caps L (k + 1) = fullTo caps L k ++ [k] := by rw [hsu, hfb, decide_eq_true hfull]; rfl
        have HSU := Lib.hid hsu'
        obtain ⟨e1, e2⟩ := hiff.1 hfull
        subst e1 e2
        clear hsu hsu' hfb hiff hfull
        go_wp2_with fail
        go_region_held3 (fun w' => w'.cell? ⟨bl, ol + k * 2, none⟩ = some (.int .i64 a) ∧ w'.cell? ⟨bl, ol + k * 2 + 1, none⟩ = some (.int .i64 1)) (go_keep)
          (first
            | (go_simp; go_at_call 107; refine (whole_any a _).mono ?_; rintro e w5 ⟨rfl, hb5⟩; have HB5 : Hid (Below wr.heap.size wr w5) := Lib.hid (by first | exact hb5 | exact (Below.refl _ _).drew.trans hb5); have y2 : w5.cell? ⟨bl, ol + k * 2, none⟩ = some (.int .i64 a) := (HB5.out.cell (p := ⟨bl, ol + k * 2, none⟩) hblz).trans l0; have y3 : w5.cell? ⟨bl, ol + k * 2 + 1, none⟩ = some (.int .i64 1) := (HB5.out.cell (p := ⟨bl, ol + k * 2 + 1, none⟩) hblz).trans l1; have hz5 := HB5.out.size; clear hb5; dsimp only))
        have HO5 := Lib.hid (own_below HO.out HB5.out)
        have HBX := Lib.hid (HB.out.trans (HB5.out.mono hB1))
        have hz6 := HBX.out.size
        go_wp2_with (at_builtin; refine wpList_push w5 _ rfl (.tmp 35) (.tmp 37) 40 rfl w1.heap.size 3 (.int .i64 0) 1 8 Tryd.underlying40 Tryd.info_int rfl (by omega) _ _ _ rfl HO5.out rfl rfl (by simp [Value.oneCell']) (by omega) (by omega) hz6 ?_; intro v' w7 hown7 hg7; have HO7 := Lib.hid hown7; have HB7 := Lib.hid (below_push HBX.out HO5.out hg7 (Nat.le_refl _) hz6); clear hown7 hg7)
        go_roundw
        case rel => exact ⟨k + 1, by omega, by go_num, by rw [HSU.out, List.length_append, List.map_append, List.map_append]; exact HO7, HB7⟩
        case measure => simp [intOf]; omega
      · have hsu' : fullTo caps L (k + 1) = fullTo caps L k := by rw [hsu, hfb, decide_eq_false hfull]; simp
        have HSU := Lib.hid hsu'
        have hne : ¬ (a = cv ∧ d = 1) := fun h => hfull (hiff.2 h)
        clear hsu hsu' hfb hiff hfull
        by_cases e1 : a = cv
        · have e2 : (d == 1) = false := beq_eq_false_iff_ne.2 fun h => hne ⟨e1, h⟩
          subst e1
          clear hne
          go_wp2_with fail
          go_region_held3 (fun w' => w'.cell? ⟨bl, ol + k * 2, none⟩ = some (.int .i64 a) ∧ w'.cell? ⟨bl, ol + k * 2 + 1, none⟩ = some (.int .i64 d)) (go_keep)
            (first
              | (go_simp; go_at_call 107; refine (whole_any a _).mono ?_; rintro e w5 ⟨rfl, hb5⟩; have HB5 : Hid (Below wr.heap.size wr w5) := Lib.hid (by first | exact hb5 | exact (Below.refl _ _).drew.trans hb5); have y2 : w5.cell? ⟨bl, ol + k * 2, none⟩ = some (.int .i64 a) := (HB5.out.cell (p := ⟨bl, ol + k * 2, none⟩) hblz).trans l0; have y3 : w5.cell? ⟨bl, ol + k * 2 + 1, none⟩ = some (.int .i64 d) := (HB5.out.cell (p := ⟨bl, ol + k * 2 + 1, none⟩) hblz).trans l1; have hz5 := HB5.out.size; clear hb5; dsimp only))
          have HO5 := Lib.hid (own_below HO.out HB5.out)
          have HBX := Lib.hid (HB.out.trans (HB5.out.mono hB1))
          go_wp2
          go_roundw
          case rel => exact ⟨k + 1, by omega, by go_num, by rw [HSU.out]; exact HO5, HBX⟩
          case measure => simp [intOf]; omega
        · have e2 : (a == cv) = false := beq_eq_false_iff_ne.2 e1
          clear hne e1
          go_wp2_with fail
          go_region_held3 (fun w' => w'.cell? ⟨bl, ol + k * 2, none⟩ = some (.int .i64 a) ∧ w'.cell? ⟨bl, ol + k * 2 + 1, none⟩ = some (.int .i64 d)) (go_keep)
            (first
              | (go_simp; go_at_call 107; refine (whole_any cv _).mono ?_; rintro e w5 ⟨rfl, hb5⟩; have HB5 : Hid (Below wr.heap.size wr w5) := Lib.hid (by first | exact hb5 | exact (Below.refl _ _).drew.trans hb5); have y2 : w5.cell? ⟨bl, ol + k * 2, none⟩ = some (.int .i64 a) := (HB5.out.cell (p := ⟨bl, ol + k * 2, none⟩) hblz).trans l0; have y3 : w5.cell? ⟨bl, ol + k * 2 + 1, none⟩ = some (.int .i64 d) := (HB5.out.cell (p := ⟨bl, ol + k * 2 + 1, none⟩) hblz).trans l1; have hz5 := HB5.out.size; clear hb5; dsimp only))
          have HO5 := Lib.hid (own_below HO.out HB5.out)
          have HBX := Lib.hid (HB.out.trans (HB5.out.mono hB1))
          go_wp2
          go_roundw
          case rel => exact ⟨k + 1, by omega, by go_num, by rw [HSU.out]; exact HO5, HBX⟩
          case measure => simp [intOf]; omega
    · obtain rfl : k = caps.length := by omega
      obtain ⟨A7, c7, hv7, _, hi7⟩ := owns_ints HO.out
      rw [List.length_map] at hv7
      subst hv7
      have HI7 := Lib.hid hi7
      clear hi7
      go_wp2
      go_ret2
      exact ⟨A7, c7, rfl, HI7.out, HB1.out.trans (HB.out.mono hBw)⟩
end Go.Proofs.YtblanfaghnflkaaDoor
/- neck.neck: the narrow place of a flow. -/
namespace Go.Proofs.YtblanfaghnflkaaDoor
open Go.RowKit
set_option maxHeartbeats 2000000 in
set_option maxRecDepth 100000 in
theorem neck1_any (u f : Nat) (g5 g7 : Nat) (A : Option Addr) (c n : Nat) (Q : List Rat) (B : Nat) (w : World) (h5 : Blk w g5 78 #[.slice A n c]) (h7 : Blk w g7 3 #[.int .i64 (f : Int)]) (hn : n = Q.length) (hr : Frs w B A c (Q.map frQ)) (hB : B ≤ w.heap.size) (hq : ∀ q ∈ Q, QIn q) (hu : u < Q.length) (hf : f < Q.length) :
    Calls Tryd.prog 127 #[.int .i64 u, .pointer (some ⟨g5, 0, none⟩), .pointer (some ⟨g7, 0, none⟩)] w fun e w' => e = .returned (.bool (greater Q f u)) ∧ Below w.heap.size w w' := by
  subst hn
  obtain ⟨b, off, rfl, hb, u0, u1⟩ := frs_q hr hu
  obtain ⟨b', off', e1, _, f0, f1⟩ := frs_q hr hf
  injection e1 with e1
  injection e1 with e1 e2
  subst e1 e2
  have hqu : QIn (Q.getD u 0) := hq _ (by rw [List.getD_eq_getElem?_getD, List.getElem?_eq_getElem hu]; exact List.getElem_mem hu)
  have hqf : QIn (Q.getD f 0) := hq _ (by rw [List.getD_eq_getElem?_getD, List.getElem?_eq_getElem hf]; exact List.getElem_mem hf)
  have hgr : greater Q f (u : Int) = decide (Q.getD f 0 < Q.getD u 0) := rfl
  have hrm := hr.cap; have hrl := hr.le
  rw [List.length_map] at hrl
  unfold maxLen at hrm
  obtain ⟨x, hx⟩ : ∃ x, Q.getD u 0 = x := ⟨_, rfl⟩
  obtain ⟨y, hy⟩ : ∃ y, Q.getD f 0 = y := ⟨_, rfl⟩
  rw [hx] at u0 u1 hqu
  rw [hy] at f0 f1 hqf
  rw [hx, hy] at hgr
  obtain ⟨o, ho⟩ : ∃ o, ordQ x y = o := ⟨_, rfl⟩
  have HOR := Lib.hid fun W => order_q x y o W hqu hqf ho
  have hbo : decide (0 < o) = greater Q f (u : Int) := by
    rw [hgr, ← ho]
    unfold ordQ
    by_cases h1 : x < y
    · rw [if_pos h1]; have : ¬ y < x := by grind
      simp [this]
    · rw [if_neg h1]
      by_cases h2 : y < x
      · simp [h2]
      · simp [h2]
  have HBO := Lib.hid hbo
  obtain ⟨c5, _, z5⟩ := h5.one
  obtain ⟨c7, _, z7⟩ := h7.one
  have hbz : b < w.heap.size := by omega
  have p0 : (0 : Int) ≤ (u : Int) := by omega
  have p1 : (0 : Int) ≤ (f : Int) := by omega
  have p2 : (u : Int) < (Q.length : Int) := by omega
  have p3 : (f : Int) < (Q.length : Int) := by omega
  clear hr hq hx hy hgr ho hbo hqu hqf h5 h7
  obtain ⟨bb, hbb⟩ : ∃ bb, greater Q f (u : Int) = bb := ⟨_, rfl⟩
  rw [hbb] at HBO ⊢
  clear hbb
  go_enter Tryd.func127, Tryd.ntmps127
  go_wp2_with fail
  go_region_held3 (fun w' => w'.cell? ⟨g5, 0, none⟩ = some (.slice (some ⟨b, off, none⟩) Q.length c) ∧ w'.cell? ⟨g7, 0, none⟩ = some (.int .i64 (f : Int)) ∧ w'.cell? ⟨b, off + u * 2, none⟩ = some (.int .i64 x.num) ∧ w'.cell? ⟨b, off + u * 2 + 1, none⟩ = some (.int .i64 x.den) ∧ w'.cell? ⟨b, off + f * 2, none⟩ = some (.int .i64 y.num) ∧ w'.cell? ⟨b, off + f * 2 + 1, none⟩ = some (.int .i64 y.den)) (go_keep)
    (first
      | (go_simp; go_at_call 83; refine (HOR.out _).mono ?_; rintro e w5 ⟨rfl, hb5⟩; have HB5 : Hid (Below w.heap.size w w5) := Lib.hid (by first | exact hb5 | exact (Below.refl _ _).drew.trans hb5); have y0 := (HB5.out.cell (p := ⟨g5, 0, none⟩) z5).trans c5; have y1 := (HB5.out.cell (p := ⟨g7, 0, none⟩) z7).trans c7; have y2 := (HB5.out.cell (p := ⟨b, off + u * 2, none⟩) hbz).trans u0; have y3 := (HB5.out.cell (p := ⟨b, off + u * 2 + 1, none⟩) hbz).trans u1; have y4 := (HB5.out.cell (p := ⟨b, off + f * 2, none⟩) hbz).trans f0; have y5 := (HB5.out.cell (p := ⟨b, off + f * 2 + 1, none⟩) hbz).trans f1; clear hb5; dsimp only))
  all_goals
    go_wp2
    go_ret
    exact ⟨by rw [← HBO.out]; rfl, HB5.out⟩
theorem narrow_in (paths : List (List Int)) (Q : List Rat) (fl : List Int) (f : Nat) (l : Int) (b1 b2 : Bool) (h1 : inL fl l = b1) (h2 : (ovr paths l).any (greater Q f) = b2) : narrow paths Q fl f l = (b1 && !b2) := by unfold narrow; rw [h1, h2]
set_option maxHeartbeats 8000000 in
set_option maxRecDepth 100000 in
theorem neck_any (C : Value) (P : Option Addr) (cp m : Nat) (paths : List (List Int)) (A : Option Addr) (c n : Nat) (Q : List Rat) (A3 : Option Addr) (c3 n3 : Nat) (fl : List Int) (f : Nat) (v : Int) (B : Nat) (w : World) (hB : B ≤ w.heap.size) (hp : Rows2 w B P cp paths) (hr : Frs w B A c (Q.map frQ)) (hfl : Ints w B A3 c3 fl)
    (hm : m = paths.length) (hn : n = Q.length) (hn3 : n3 = fl.length) (hl : Q.length = paths.length) (h6 : paths.length ≤ 6) (hlen : ∀ p ∈ paths, p.length ≤ 1000) (hq : ∀ q ∈ Q, QIn q) (hf : f < paths.length) (hv : neckOf paths Q fl f = v) :
    Calls Tryd.prog 111 #[.agg #[C, .slice P m cp], .slice A n c, .slice A3 n3 c3, .int .i64 f] w fun e w' => e = .returned (.int .i64 v) ∧ Below w.heap.size w w' := by
  subst hm hn hn3
  have hB0 : Below w.heap.size w (((w.alloc (.cells #[C, .slice P paths.length cp] 43)).alloc (.cells #[.slice A Q.length c] 78)).alloc (.cells #[.int .i64 (f : Int)] 3)) := (((Below.refl _ _).alloc (Nat.le_refl _) _).alloc (by simp) _).alloc (by simp; omega) _
  have HB0 := Lib.hid hB0
  have HN0 := Lib.hid (((Blk.new w 43 #[C, .slice P paths.length cp]).alloc (.cells #[.slice A Q.length c] 78)).alloc (.cells #[.int .i64 (f : Int)] 3))
  have HR0 := Lib.hid ((Blk.new' (w.alloc (.cells #[C, .slice P paths.length cp] 43)) 78 #[.slice A Q.length c] (g := w.heap.size + 1) (by simp)).alloc (.cells #[.int .i64 (f : Int)] 3))
  have HF0 := Lib.hid (Blk.new' ((w.alloc (.cells #[C, .slice P paths.length cp] 43)).alloc (.cells #[.slice A Q.length c] 78)) 3 #[.int .i64 (f : Int)] (g := w.heap.size + 1 + 1) (by simp))
  have hpm := hp.cap; have hpl := hp.le
  unfold maxLen at hpm
  obtain ⟨bp, op, A', c', p, rfl, hbp, hcell, hip, HX⟩ := (hp.below hB0 hB).elem hf
  have hpl' := hlen p (List.mem_of_getElem? HX.out)
  have hgp : paths.getD f [] = p := by rw [List.getD_eq_getElem?_getD, HX.out]; rfl
  have hvp : (p.find? (narrow paths Q fl f)).getD (-1) = v := by rw [← hv]; unfold neckOf; rw [hgp]
  have HV := Lib.hid hvp
  have HP := Lib.hid hp; have HR := Lib.hid hr; have HFL := Lib.hid hfl; have HQ := Lib.hid hq; have HI := Lib.hid hip
  have HL := Lib.hid hl
  have hfq : f < Q.length := by omega
  have hpc := hip.cap; have hpc2 := hip.le
  unfold maxLen at hpc
  have f0 : (0 : Int) ≤ (f : Int) := by omega
  have f1 : (f : Int) < (paths.length : Int) := by omega
  have hbpw : bp < w.heap.size := by omega
  obtain ⟨n0, n1, _, _, nz⟩ := HN0.out.two
  obtain ⟨r0, _, rz⟩ := HR0.out.one
  obtain ⟨q0, _, qz⟩ := HF0.out.one
  clear hB0 hp hr hfl hq hv hvp hgp hlen hip HX hl
  go_enter Tryd.func111, Tryd.ntmps111
  go_wp2
  go_loopw [18] (fun i wr => ∃ k : Nat, k ≤ p.length ∧ i = .int .i64 k ∧ Hid (∀ y ∈ p.take k, narrow paths Q fl f y = false) ∧ Hid (Below w.heap.size w wr) ∧ Hid (Blk wr w.heap.size 43 #[C, .slice (some ⟨bp, op, none⟩) paths.length cp]) ∧ Hid (Blk wr (w.heap.size + 1) 78 #[.slice A Q.length c]) ∧ Hid (Blk wr (w.heap.size + 1 + 1) 3 #[.int .i64 (f : Int)])) (fun i _ => p.length - (intOf i).toNat)
  case atStart => exact ⟨0, Nat.zero_le _, rfl, Lib.hid (by simp), HB0, HN0, HR0, HF0⟩
  case round =>
    clear HB0 HN0 HR0 HF0 n0 n1 nz r0 rz q0 qz hcell
    obtain ⟨k, hk, rfl, HNO, HB, HN, HRB, HF⟩ := hrel
    have hB1 := HB.out.size
    by_cases hlt : k < p.length
    · have k0 : (0 : Int) ≤ (k : Int) := by omega
      obtain ⟨bl, ol, x, rfl, hbl, hcx, _, HT, HXX⟩ := (HI.out.below ((Below.refl B _)) (Nat.le_refl _)).elem hlt
      have hcx' : wr.cell? ⟨bl, ol + k, none⟩ = some (.int .i64 x) := by
        obtain ⟨b2, o2, x2, e2, hb2, hc2, _, _, HX2⟩ := (show Ints wr B _ c' p from by
          obtain ⟨rd, le, cap⟩ := HI.out
          exact ⟨⟨rd.1, fun hn => by
            obtain ⟨b3, o3, e3, hb3, hc3⟩ := rd.2 hn
            refine ⟨b3, o3, e3, hb3, fun j u hu => ?_⟩
            have h1 := hc3 j u hu
            have h2 : wr.cell? ⟨b3, o3 + j, none⟩ = w.cell? ⟨b3, o3 + j, none⟩ := HB.out.cell (p := ⟨b3, o3 + j, none⟩) (by show b3 < _; omega)
            have h3 : (((w.alloc (.cells #[C, .slice (some ⟨bp, op, none⟩) paths.length cp] 43)).alloc (.cells #[.slice A Q.length c] 78)).alloc (.cells #[.int .i64 (f : Int)] 3)).cell? ⟨b3, o3 + j, none⟩ = w.cell? ⟨b3, o3 + j, none⟩ := ((((Below.refl w.heap.size w).alloc (Nat.le_refl _) _).alloc (by simp) _).alloc (by simp; omega) _).cell (p := ⟨b3, o3 + j, none⟩) (by show b3 < _; omega)
            rw [h2, ← h3]; exact h1⟩, le, cap⟩).elem hlt
        injection e2 with e2
        injection e2 with e3 e4
        subst e3 e4
        have h5 := HX2.out; have h6 := HXX.out
        rw [h5] at h6
        rw [hc2, h6]
      have hblz : bl < wr.heap.size := by omega
      have hxk : p[k]? = some x := by
        have := HXX.out
        rw [List.getD_eq_getElem?_getD, List.getElem?_eq_getElem hlt] at this
        rw [List.getElem?_eq_getElem hlt]; exact congrArg some this
      have HXK := Lib.hid hxk
      have HTK := HT
      obtain ⟨n0, n1, _, _, nz⟩ := HN.out.two
      obtain ⟨r0, _, rz⟩ := HRB.out.one
      obtain ⟨q0, _, qz⟩ := HF.out.one
      obtain ⟨b1, hb1⟩ : ∃ b, inL fl x = b := ⟨_, rfl⟩
      have HC1 := Lib.hid (containsL_any A3 c3 _ fl B wr (HFL.out.below HB.out hB) rfl x b1 hb1)
      clear hcx hxk HXX HT
      cases b1
      · have hnx : Hid (narrow paths Q fl f x = false) := Lib.hid (by unfold narrow; rw [hb1]; rfl)
        have HNO' : Hid (∀ y ∈ p.take (k + 1), narrow paths Q fl f y = false) := Lib.hid fun y hy => by
          rw [HTK.out] at hy
          rcases List.mem_append.1 hy with h | h
          · exact HNO.out y h
          · rw [List.mem_singleton.1 h]; exact hnx.out
        clear hb1
        go_wp2_with fail
        refine HC1.out.mono ?_; rintro e w' ⟨rfl, rfl⟩
        go_wp2
        go_roundw
        case rel => exact ⟨k + 1, by omega, by go_num, HNO', HB, HN, HRB, HF⟩
        case measure => simp [intOf]; omega
      · obtain ⟨us, hus⟩ : ∃ us, users paths x = us := ⟨_, rfl⟩
        have hul : us.length ≤ 6 := by have := users_len paths x; rw [← hus]; omega
        obtain ⟨b2, hb2⟩ : ∃ b, (ovr paths x).any (greater Q f) = b := ⟨_, rfl⟩
        have hnx := narrow_in paths Q fl f x true b2 hb1 hb2
        have hov : ovr paths x = us.map fun (i : Nat) => (i : Int) := by unfold ovr; rw [hus]
        have hlt2 : ∀ y ∈ us.map fun (i : Nat) => (i : Int), ∃ v : Nat, y = (v : Int) ∧ v < Q.length := fun y hy => by
          rw [← hov] at hy
          obtain ⟨v, h1, h2, _⟩ := ovr_mem.1 hy
          exact ⟨v, h1, by have := HL.out; omega⟩
        rw [hov] at hb2
        have HUS := Lib.hid hus; have HB2 := Lib.hid hb2; have HLT := Lib.hid hlt2; have HNX := Lib.hid hnx
        clear hb1 hus hb2 hnx hov hlt2
        go_wp2_with fail
        refine HC1.out.mono ?_; rintro e w' ⟨rfl, rfl⟩
        go_wp2_with fail
        refine (over_u x C (some ⟨bp, op, none⟩) cp _ paths us B _ (by omega) (HP.out.below HB.out hB) (by omega) HUS.out rfl).mono ?_; rintro e w3 ⟨A5, c5, rfl, hi5, hl5, hc5, hb3⟩
        have HI5 := Lib.hid (own_ints' hi5)
        have HB3 := Lib.hid (HB.out.trans (hb3.mono hB1)); have HN3 := Lib.hid (HN.out.go hb3); have HR3 := Lib.hid (HRB.out.go hb3); have HF3 := Lib.hid (HF.out.go hb3)
        have hz3 := HB3.out.size
        have HCL := Lib.hid (fun W (hW : Below w3.heap.size w3 W) (y : Int) (hy : y ∈ us.map fun (i : Nat) => (i : Int)) => (show Calls Tryd.prog 127 (#[.int .i64 y] ++ #[.pointer (some ⟨w.heap.size + 1, 0, none⟩), .pointer (some ⟨w.heap.size + 1 + 1, 0, none⟩)]) W fun e w' => e = .returned (.bool (greater Q f y)) ∧ Below W.heap.size W w' from by
          obtain ⟨v, rfl, hv⟩ := HLT.out y hy
          exact neck1_any v f _ _ A c _ Q B W (HR3.out.go hW) (HF3.out.go hW) rfl (HR.out.below (HB3.out.trans (hW.mono hz3)) hB) (by have := hW.size; omega) HQ.out hv hfq))
        have HCF := Lib.hid (containsF_any A5 c5 us.length (us.map fun (i : Nat) => (i : Int)) w3.heap.size w3 (Nat.le_refl _) (by simp) HI5.out 127 #[.pointer (some ⟨w.heap.size + 1, 0, none⟩), .pointer (some ⟨w.heap.size + 1 + 1, 0, none⟩)] (greater Q f) b2 HB2.out (fun _ _ => by kernel_rfl) HCL.out)
        clear hi5 hb3 HCL n0 n1 nz r0 rz q0 qz HN HRB HF
        go_wp2_with fail
        refine HCF.out.mono ?_; rintro e w4 ⟨rfl, hb4⟩
        have HB4 := Lib.hid (HB3.out.trans (hb4.mono hz3)); have HN4 := Lib.hid (HN3.out.go hb4); have HR4 := Lib.hid (HR3.out.go hb4); have HF4 := Lib.hid (HF3.out.go hb4)
        clear hb4 HN3 HR3 HF3
        cases b2
        · have HVX : Hid (v = x) := Lib.hid (by rw [← HV.out, find_first HNO.out HXK.out (by rw [HNX.out]; rfl)]; rfl)
          go_wp2
          go_ret
          exact ⟨by rw [HVX.out]; rfl, HB4.out⟩
        · have HNO' : Hid (∀ y ∈ p.take (k + 1), narrow paths Q fl f y = false) := Lib.hid fun y hy => by
            rw [HTK.out] at hy
            rcases List.mem_append.1 hy with h | h
            · exact HNO.out y h
            · rw [List.mem_singleton.1 h, HNX.out]; rfl
          go_wp2
          go_roundw
          case rel => exact ⟨k + 1, by omega, by go_num, HNO', HB4, HN4, HR4, HF4⟩
          case measure => simp [intOf]; omega
    · obtain rfl : k = p.length := by omega
      have HVX : Hid (v = -1) := Lib.hid (by
        have := HNO.out
        rw [List.take_length] at this
        rw [← HV.out, find_none this]; rfl)
      go_wp2
      go_ret
      exact ⟨by rw [HVX.out]; rfl, HB.out⟩
end Go.Proofs.YtblanfaghnflkaaDoor
/- neck.Of, neck.Fair. -/
namespace Go.Proofs.YtblanfaghnflkaaDoor
open Go.RowKit
theorem necks_er (C : Option Addr) (cc : Nat) (caps : List Int) (P : Option Addr) (cp m : Nat) (paths : List (List Int)) (A : Option Addr) (c n : Nat) (S : List Fr) (B : Nat) (w : World) (er : Int) (hB : B ≤ w.heap.size) (hc : Ints w B C cc caps) (hp : Rows2 w B P cp paths) (hr : Frs w B A c S)
    (hm : m = paths.length) (hn : n = S.length) (he : (chkErr caps paths S = er ∧ er ≠ 0) ∨ (∃ Q : List Rat, S = Q.map frQ ∧ netErr caps paths = 0 ∧ Q.length = paths.length ∧ (∀ q ∈ Q, QIn q) ∧ loadsTo paths Q caps.length = none ∧ er = 4)) :
    Calls Tryd.prog 64 #[.agg #[.slice C caps.length cc, .slice P m cp], .slice A n c] w fun e w' => e = .returned (.tuple #[.slice none 0 0, .iface 119 (.int .i64 er)]) ∧ Below w.heap.size w w' := by
  subst hm
  have HB0 : Hid (Below w.heap.size w (w.alloc (.cells #[.slice C caps.length cc, .slice P paths.length cp] 43))) := Lib.hid ((Below.refl _ _).alloc (Nat.le_refl _) _)
  have HL := Lib.hid (nfull_er C cc caps P cp _ paths A c n S B (w.alloc (.cells #[.slice C caps.length cc, .slice P paths.length cp] 43)) er (by simp; omega) (hc.below HB0.out hB) (hp.below HB0.out hB) (hr.below HB0.out hB) rfl hn he)
  clear hc hp hr he hn
  go_enter Tryd.func64, Tryd.ntmps64
  go_wp2_with fail
  refine HL.out.mono ?_; rintro e w1 ⟨rfl, hb1⟩
  have HB1 := Lib.hid (HB0.out.trans (hb1.mono HB0.out.size))
  clear hb1
  go_wp2
  go_ret2
  exact ⟨rfl, HB1.out⟩
theorem nfair_er (C : Option Addr) (cc : Nat) (caps : List Int) (P : Option Addr) (cp m : Nat) (paths : List (List Int)) (A : Option Addr) (c n : Nat) (S : List Fr) (B : Nat) (w : World) (er : Int) (hB : B ≤ w.heap.size) (hc : Ints w B C cc caps) (hp : Rows2 w B P cp paths) (hr : Frs w B A c S)
    (hm : m = paths.length) (hn : n = S.length) (he : (chkErr caps paths S = er ∧ er ≠ 0) ∨ (∃ Q : List Rat, S = Q.map frQ ∧ netErr caps paths = 0 ∧ Q.length = paths.length ∧ (∀ q ∈ Q, QIn q) ∧ loadsTo paths Q caps.length = none ∧ er = 4)) :
    Calls Tryd.prog 66 #[.agg #[.slice C caps.length cc, .slice P m cp], .slice A n c] w fun e w' => e = .returned (.tuple #[.bool false, .iface 119 (.int .i64 er)]) ∧ Below w.heap.size w w' := by
  subst hm
  have HB0 : Hid (Below w.heap.size w (w.alloc (.cells #[.slice C caps.length cc, .slice P paths.length cp] 43))) := Lib.hid ((Below.refl _ _).alloc (Nat.le_refl _) _)
  have HL := Lib.hid (fits_er C cc caps P cp _ paths A c n S B (w.alloc (.cells #[.slice C caps.length cc, .slice P paths.length cp] 43)) er (by simp; omega) (hc.below HB0.out hB) (hp.below HB0.out hB) (hr.below HB0.out hB) rfl hn he)
  clear hc hp hr he hn
  go_enter Tryd.func66, Tryd.ntmps66
  go_wp2_with fail
  refine HL.out.mono ?_; rintro e w1 ⟨rfl, hb1⟩
  have HB1 := Lib.hid (HB0.out.trans (hb1.mono HB0.out.size))
  clear hb1
  go_wp2
  go_ret2
  exact ⟨rfl, HB1.out⟩
set_option maxHeartbeats 8000000 in
set_option maxRecDepth 100000 in
theorem necks_yes (C : Option Addr) (cc : Nat) (caps : List Int) (P : Option Addr) (cp m : Nat) (paths : List (List Int)) (A : Option Addr) (c n : Nat) (Q L : List Rat) (B : Nat) (w : World) (hB : B ≤ w.heap.size) (hc : Ints w B C cc caps) (hp : Rows2 w B P cp paths) (hr : Frs w B A c (Q.map frQ))
    (hm : m = paths.length) (hn : n = Q.length) (he : netErr caps paths = 0) (hl : Q.length = paths.length) (hq : ∀ q ∈ Q, QIn q) (hL : loadsTo paths Q caps.length = some L) (V : List Int) (hV : necks paths Q ((fulls caps L).map fun (i : Nat) => (i : Int)) paths.length = V) :
    Calls Tryd.prog 64 #[.agg #[.slice C caps.length cc, .slice P m cp], .slice A n c] w fun e w' => ∃ A' c', e = .returned (.tuple #[.slice A' V.length c', .nilIface]) ∧ Ints w' w'.heap.size A' c' V ∧ Below w.heap.size w w' := by
  subst hm hn
  obtain ⟨k1, k2, k3, k4, _, _⟩ := netErr_ok he
  have HB0 : Hid (Below w.heap.size w (w.alloc (.cells #[.slice C caps.length cc, .slice P paths.length cp] 43))) := Lib.hid ((Below.refl _ _).alloc (Nat.le_refl _) _)
  have HN0 := Lib.hid (Blk.new w 43 #[.slice C caps.length cc, .slice P paths.length cp])
  have HL := Lib.hid (nfull_yes C cc caps P cp _ paths A c _ Q L B (w.alloc (.cells #[.slice C caps.length cc, .slice P paths.length cp] 43)) (by simp; omega) (hc.below HB0.out hB) (hp.below HB0.out hB) (hr.below HB0.out hB) rfl rfl he hl hq hL)
  have HSH := Lib.hid fun (p : List Int) (hp : p ∈ paths) => (show p.length ≤ 1000 by have := netErr_short he p hp; omega)
  have HP := Lib.hid hp; have HR := Lib.hid hr; have HQ := Lib.hid hq; have HQL := Lib.hid hl
  have hpm := hp.cap; have hpl := hp.le
  unfold maxLen at hpm
  have HVV := Lib.hid hV
  clear hc hp hr he hl hq hL hV
  go_enter Tryd.func64, Tryd.ntmps64
  go_wp2_with fail
  refine HL.out.mono ?_; rintro e w1 ⟨A1, c1, rfl, hf, hb1⟩
  have HF := Lib.hid hf
  have HB1 := Lib.hid (HB0.out.trans (hb1.mono HB0.out.size))
  have HN1 := Lib.hid (HN0.out.go hb1)
  obtain ⟨n0, n1, _, _, nz⟩ := HN1.out.two
  have hBw := HB1.out.size
  obtain ⟨fl, hfl⟩ : ∃ x, (fulls caps L).map (fun (i : Nat) => (i : Int)) = x := ⟨_, rfl⟩
  have hfll : (fulls caps L).length = fl.length := by rw [← hfl]; simp
  rw [hfl] at HF HVV
  rw [hfll]
  clear hb1 HB0 HN0 HL hf hfl hfll
  go_wp2
  go_loopw [8, 22] (fun v i wr => ∃ k : Nat, k ≤ paths.length ∧ i = .int .i64 k ∧ Hid (wr.ownsRow w1.heap.size 3 1 v k ((necks paths Q fl k).map (Value.int .i64))) ∧ Hid (Below w1.heap.size w1 wr)) (fun _ i _ => paths.length - (intOf i).toNat)
  case atStart => exact ⟨0, Nat.zero_le _, rfl, Lib.hid (World.ownsRow_nil _ _ _ _), Lib.hid (Below.refl _ _)⟩
  case round =>
    clear n0 n1 nz
    obtain ⟨k, hk, rfl, HO, HB⟩ := hrel
    have hB1 := HB.out.size
    by_cases hlt : k < paths.length
    · have k0 : (0 : Int) ≤ (k : Int) := by omega
      have HN := Lib.hid (HN1.out.go HB.out)
      obtain ⟨n0, n1, _, _, nz⟩ := HN.out.two
      have hns := necks_succ paths Q fl k
      obtain ⟨v, hv⟩ : ∃ v, neckOf paths Q fl k = v := ⟨_, rfl⟩
      rw [hv] at hns
      have HNS := Lib.hid hns
      have HBB := Lib.hid (HB1.out.trans (HB.out.mono hBw))
      have HNK := Lib.hid (neck_any (.slice C caps.length cc) P cp _ paths A c _ Q A1 c1 _ fl k v w1.heap.size wr hB1 ((HP.out.below HB1.out hB).more (Nat.le_trans hB hBw) |>.below HB.out (Nat.le_refl _)) ((HR.out.below HB1.out hB).more (Nat.le_trans hB hBw) |>.below HB.out (Nat.le_refl _)) (HF.out.below HB.out (Nat.le_refl _)) rfl rfl rfl HQL.out k4 HSH.out HQ.out hlt hv)
      clear hns hv
      go_wp2_with fail
      refine HNK.out.mono ?_; rintro e w5 ⟨rfl, hb5⟩
      have HO5 := Lib.hid (own_below HO.out hb5)
      have HB5 := Lib.hid (HB.out.trans (hb5.mono hB1))
      have hz5 := HB5.out.size
      clear hb5 n0 n1 nz HNK
      go_wp2_with (at_builtin; refine wpList_push w5 _ rfl (.tmp 25) (.tmp 31) 40 rfl w1.heap.size 3 (.int .i64 0) 1 8 Tryd.underlying40 Tryd.info_int rfl (by omega) _ _ _ rfl HO5.out rfl rfl (by simp [Value.oneCell']) (by omega) (by omega) hz5 ?_; intro v' w7 hown7 hg7; have HO7 := Lib.hid hown7; have HB7 := Lib.hid (below_push HB5.out HO5.out hg7 (Nat.le_refl _) hz5); clear hown7 hg7)
      go_roundw
      case rel => exact ⟨k + 1, by omega, by go_num, by rw [HNS.out, List.map_append]; exact HO7, HB7⟩
      case measure => simp [intOf]; omega
    · obtain rfl : k = paths.length := by omega
      have ho := HO.out
      rw [HVV.out] at ho
      obtain ⟨A7, c7, rfl, _, hi7⟩ := owns_ints ho
      have HI7 := Lib.hid hi7
      clear hi7 ho
      go_wp2
      go_ret2
      exact ⟨A7, c7, rfl, HI7.out, HB1.out.trans (HB.out.mono hBw)⟩
set_option maxHeartbeats 4000000 in
theorem nfair_yes (C : Option Addr) (cc : Nat) (caps : List Int) (P : Option Addr) (cp m : Nat) (paths : List (List Int)) (A : Option Addr) (c n : Nat) (Q L : List Rat) (bb : Bool) (B : Nat) (w : World) (hB : B ≤ w.heap.size) (hc : Ints w B C cc caps) (hp : Rows2 w B P cp paths) (hr : Frs w B A c (Q.map frQ))
    (hm : m = paths.length) (hn : n = Q.length) (he : netErr caps paths = 0) (hl : Q.length = paths.length) (hq : ∀ q ∈ Q, QIn q) (hL : loadsTo paths Q caps.length = some L) (hb : fairP caps paths Q L = bb) :
    Calls Tryd.prog 66 #[.agg #[.slice C caps.length cc, .slice P m cp], .slice A n c] w fun e w' => e = .returned (.tuple #[.bool bb, .nilIface]) ∧ Below w.heap.size w w' := by
  subst hm hn
  have HB0 : Hid (Below w.heap.size w (w.alloc (.cells #[.slice C caps.length cc, .slice P paths.length cp] 43))) := Lib.hid ((Below.refl _ _).alloc (Nat.le_refl _) _)
  have HN0 := Lib.hid (Blk.new w 43 #[.slice C caps.length cc, .slice P paths.length cp])
  obtain ⟨b1, hb1⟩ : ∃ b, fitsB caps Q L = b := ⟨_, rfl⟩
  obtain ⟨V, hV⟩ : ∃ V, necks paths Q ((fulls caps L).map fun (i : Nat) => (i : Int)) paths.length = V := ⟨_, rfl⟩
  obtain ⟨b2, hb2⟩ : ∃ b, inL V (-1) = b := ⟨_, rfl⟩
  have hbb : (b1 && !b2) = bb := by rw [← hb]; unfold fairP; rw [hb1, hV, hb2]
  have HF := Lib.hid (fits_yes' C cc caps P cp _ paths A c _ Q L b1 B (w.alloc (.cells #[.slice C caps.length cc, .slice P paths.length cp] 43)) (by simp; omega) (hc.below HB0.out hB) (hp.below HB0.out hB) (hr.below HB0.out hB) rfl rfl he hl hq hL hb1)
  have HO := Lib.hid fun (W : World) (hW : Below w.heap.size w W) => necks_yes C cc caps P cp _ paths A c _ Q L B W (by have := hW.size; omega) (hc.below hW hB) (hp.below hW hB) (hr.below hW hB) rfl rfl he hl hq hL V hV
  have HB2 := Lib.hid hb2; have HBB := Lib.hid hbb
  clear hc hp hr he hl hq hL hb hb1 hV hb2 hbb
  go_enter Tryd.func66, Tryd.ntmps66
  go_wp2_with fail
  refine HF.out.mono ?_; rintro e w1 ⟨rfl, hb1⟩
  have HB1 := Lib.hid (HB0.out.trans (hb1.mono HB0.out.size)); have HN1 := Lib.hid (HN0.out.go hb1)
  obtain ⟨n0, n1, _, _, nz⟩ := HN1.out.two
  clear hb1 HB0 HN0
  go_wp2_with fail
  refine (HO.out _ HB1.out).mono ?_; rintro e w2 ⟨A2, c2, rfl, hi, hb2⟩
  have HI := Lib.hid hi
  have HB3 := Lib.hid (HB1.out.trans (hb2.mono HB1.out.size))
  clear hb2 hi n0 n1 nz
  cases b1
  · have HBF : Hid (bb = false) := Lib.hid (by rw [← HBB.out]; rfl)
    go_wp2
    go_ret2
    exact ⟨by rw [HBF.out]; rfl, HB3.out⟩
  · have HCL := Lib.hid (containsL_any A2 c2 _ V _ w2 HI.out rfl (-1) b2 HB2.out)
    have HBF : Hid (bb = !b2) := Lib.hid (by rw [← HBB.out]; rfl)
    go_wp2_with fail
    refine HCL.out.mono ?_; rintro e w' ⟨rfl, rfl⟩
    go_wp2
    go_ret2
    exact ⟨by rw [HBF.out]; rfl, HB3.out⟩
end Go.Proofs.YtblanfaghnflkaaDoor
