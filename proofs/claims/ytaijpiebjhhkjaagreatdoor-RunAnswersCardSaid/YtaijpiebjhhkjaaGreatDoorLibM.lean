/- Several texts in one: NetAdd, NetDel, NetDrop, NetSame, NetLaw. -/
import Derived.Test.YtaijpiebjhhkjaaGreatDoorLibN
import Derived.Lib.SliceRun
import Derived.Test.YtaijpiebjhhkjaaGreatDoorGap
/- net.Add. -/
namespace Go.Proofs.YtaijpiebjhhkjaaGreatDoor
open Go.RowKit
abbrev noNet : Value := .agg #[.slice none 0 0, .slice none 0 0]
end Go.Proofs.YtaijpiebjhhkjaaGreatDoor
/- slices.Delete of one row, from a row of rows that the call made. -/
namespace Go.Proofs.YtaijpiebjhhkjaaGreatDoor
open Go.RowKit
def setL (xs : List Value) : Nat → List Value → List Value
  | _, [] => xs
  | o, v :: r => setL (xs.set o v) (o + 1) r
theorem setL_len (xs : List Value) (o : Nat) (r : List Value) : (setL xs o r).length = xs.length := by
  induction r generalizing xs o with
  | nil => rfl
  | cons v r ih => simp only [setL, ih, List.length_set]
theorem setL_get (xs : List Value) (o : Nat) (r : List Value) (h : o + r.length ≤ xs.length) (j : Nat) : (setL xs o r)[j]? = if j < o then xs[j]? else if j < o + r.length then r[j - o]? else xs[j]? := by
  induction r generalizing xs o with
  | nil => simp only [setL, List.length_nil, Nat.add_zero]; split <;> rfl
  | cons v r ih =>
    simp only [List.length_cons] at h
    simp only [setL]
    rw [ih _ _ (by rw [List.length_set]; omega)]
    simp only [List.length_cons]
    by_cases h1 : j < o
    · rw [if_pos (show j < o + 1 by omega), if_pos h1, List.getElem?_set_ne (by omega)]
    · rw [if_neg h1]
      by_cases h2 : j = o
      · subst h2
        rw [if_pos (by omega), if_pos (by omega), List.getElem?_set_self (by omega), Nat.sub_self]; rfl
      · rw [if_neg (by omega)]
        by_cases h3 : j < o + (r.length + 1)
        · rw [if_pos (by omega), if_pos h3]
          obtain ⟨d, hd⟩ : ∃ d, j - o = d + 1 := ⟨j - o - 1, by omega⟩
          rw [hd, show j - (o + 1) = d by omega]; rfl
        · rw [if_neg (by omega), if_neg h3, List.getElem?_set_ne (by omega)]
theorem own_setCells {base e g n cap : Nat} {size : Nat} : ∀ (r : List Value) (w : World) (xs : List Value) (o : Nat), w.ownsRow base e size (.slice (some ⟨g, 0, none⟩) n cap) n xs →
    (w.setCells g o r).ownsRow base e size (.slice (some ⟨g, 0, none⟩) n cap) n (setL xs o r) ∧ w.grownBy (w.setCells g o r) (some g) := by
  intro r
  induction r with
  | nil => intro w xs o h; exact ⟨h, ⟨rfl, rfl, rfl, Nat.le_refl _, fun _ _ _ => rfl⟩⟩
  | cons v r ih =>
    intro w xs o h
    obtain ⟨h1, h2⟩ := h.stored o v
    obtain ⟨h3, h4⟩ := ih _ _ (o + 1) h1
    refine ⟨h3, ⟨h4.os.trans h2.os, h4.tape.trans h2.tape, h4.output.trans h2.output, Nat.le_trans h2.size h4.size, fun i hi hne => ?_⟩⟩
    exact (h4.block i (Nat.lt_of_lt_of_le hi h2.size) hne).trans (h2.block i hi hne)
theorem own_shrink {w : World} {base e g n cap : Nat} {xs : List Value} (h : w.ownsRow base e 1 (.slice (some ⟨g, 0, none⟩) n cap) n xs) (m : Nat) (hm : m ≤ n) : w.ownsRow base e 1 (.slice (some ⟨g, 0, none⟩) m cap) m (xs.take m) := by
  have hl := h.1
  rcases h.2 with ⟨h', _⟩ | ⟨g', cap', cur, h', hb, hg, hnc, hcm, hcs, htake⟩
  · simp at h'
  · simp only [Value.slice.injEq, Option.some.injEq, Addr.mk.injEq, and_true, true_and] at h'
    obtain ⟨rfl, rfl⟩ := h'
    refine ⟨by rw [List.length_take]; omega, .inr ⟨g, cap, cur, rfl, hb, hg, by omega, hcm, hcs, ?_⟩⟩
    rw [← htake, List.take_take]; congr 1; omega
theorem moved_is (vs : List Value) (i : Nat) (hi : i < vs.length) : (setL vs i (vs.drop (i + 1))).take (vs.length - 1) = vs.eraseIdx i := by
  refine List.ext_getElem? fun j => ?_
  rw [List.getElem?_take, List.getElem?_eraseIdx, setL_get _ _ _ (by rw [List.length_drop]; omega)]
  rw [List.length_drop]
  by_cases h1 : j < vs.length - 1
  · rw [if_pos h1]
    by_cases h2 : j < i
    · rw [if_pos h2, if_pos h2]
    · rw [if_neg h2, if_neg h2, if_pos (by omega), List.getElem?_drop]
      congr 1; omega
  · rw [if_neg h1, if_neg (by omega)]
    rw [List.getElem?_eq_none (by omega)]
set_option maxHeartbeats 4000000 in
set_option maxRecDepth 1000000 in
theorem delete_any (base g cap n i : Nat) (vs : List Value) (w : World) (h : w.ownsRow base 22 1 (.slice (some ⟨g, 0, none⟩) n cap) n vs) (hi : i < n) (hn : n ≤ 1000) (h1 : ∀ u ∈ vs, u.oneCell' = true) :
    Calls Tryz.prog 99 #[.slice (some ⟨g, 0, none⟩) n cap, .int .i64 i, .int .i64 (i + 1 : Nat)] w fun e w' => e = .returned (.slice (some ⟨g, 0, none⟩) (n - 1) cap) ∧ w'.ownsRow base 22 1 (.slice (some ⟨g, 0, none⟩) (n - 1) cap) (n - 1) (vs.eraseIdx i) ∧ w.grownBy w' (some g) := by
  have hlen : vs.length = n := by have := h.1; simpa using this
  have hcapn : n ≤ cap ∧ cap ≤ maxLen := by
    obtain ⟨g', cap', e', _, _, h3, h4⟩ := own_form h (by omega)
    injection e' with _ _ e3
    subst e3; exact ⟨h3, h4⟩
  obtain ⟨hnc, hcm⟩ := hcapn
  unfold maxLen at hcm
  obtain ⟨i0, hi0, hz0, hz1, hz2⟩ := info_parts Tryz.info_row
  have hdl : (vs.drop (i + 1)).length = n - (i + 1) := by rw [List.length_drop, hlen]
  obtain ⟨A, hA, hnews⟩ : ∃ A : Addr, (if cap = i + 1 then some (⟨g, 0, none⟩ : Addr) else some ⟨g, i + 1, none⟩) = some A ∧ Hid (∀ j u, (vs.drop (i + 1))[j]? = some u → w.drew.cell? (A.add j) = some u) := by
    by_cases hc : cap = i + 1
    · refine ⟨⟨g, 0, none⟩, by simp [hc], fun j u hu => ?_⟩
      rw [List.length_eq_zero_iff.1 (by omega : (vs.drop (i + 1)).length = 0)] at hu
      simp at hu
    · refine ⟨⟨g, i + 1, none⟩, by simp [hc], fun j u hu => ?_⟩
      have hj : j < n - (i + 1) := by have := (List.getElem?_eq_some_iff.1 hu).1; omega
      rw [Addr.add_lit]
      rw [List.getElem?_drop] at hu
      exact (h.cellAt (i + 1 + j) (by omega)).trans hu
  have s1 : Hid ((vs.drop (i + 1)).length = (n - (i + 1)) * 1) := by rw [Nat.mul_one]; exact hdl
  have s2 : Hid (∀ u ∈ vs.drop (i + 1), u.oneCell' = true) := fun u hu => h1 u (List.mem_of_mem_drop hu)
  have s3 : Hid (∀ j, j < (vs.drop (i + 1)).length → (w.drew.cell? ⟨g, 0 + i * 1 + j, none⟩).isSome = true ∧ w.drew.frozen? ⟨g, 0 + i * 1 + j, none⟩ = false) := by
    intro j hj
    rw [hdl] at hj
    rw [Nat.mul_one, Nat.zero_add]
    refine ⟨?_, h.frozenAt _⟩
    show (w.cell? _).isSome = true
    rw [h.cellAt (i + j) (by omega), List.getElem?_eq_getElem (by omega)]; rfl
  obtain ⟨o1, g1⟩ := own_setCells (vs.drop (i + 1)) w.drew vs i (own_below h (Below.refl _ _).drew)
  obtain ⟨o2, g2⟩ := own_setCells [.slice none 0 0] _ _ (n - 1) o1
  have o3 := own_shrink o2 (n - 1) (by omega)
  have hfin : (setL (setL vs i (vs.drop (i + 1))) (n - 1) [.slice none 0 0]).take (n - 1) = vs.eraseIdx i := by
    rw [← moved_is vs i (by omega), hlen]
    simp only [setL]
    rw [List.take_set_of_le (Nat.le_refl _)]
  rw [hfin] at o3
  have O3 := Lib.hid o3
  have G3 : Hid (w.grownBy ((w.drew.setCells g i (vs.drop (i + 1))).setCells g (n - 1) [.slice none 0 0]) (some g)) := Lib.hid ⟨g2.os.trans g1.os, g2.tape.trans g1.tape, g2.output.trans g1.output, Nat.le_trans g1.size g2.size, fun k hk hne => (g2.block k (Nat.lt_of_lt_of_le hk g1.size) hne).trans (g1.block k hk hne)⟩
  have hz : (setL vs i (vs.drop (i + 1))).length = n := by rw [setL_len, hlen]
  have hclr : ∀ (ty : TypeId) (c : Nat), (Builtin.clear_ #[23] ty #[.slice (some ⟨g, n - 1, none⟩) 1 c]).run Tryz.prog (w.drew.setCells g i (vs.drop (i + 1))) = .ok (.tuple #[]) ((w.drew.setCells g i (vs.drop (i + 1))).setCells g (n - 1) [.slice none 0 0]) := fun ty c =>
    Lib.run_clear_slice _ 23 22 ty (.slice none 0 0) Tryz.underlying23 (fun _ => by kernel_rfl) rfl rfl g (n - 1) 1 c Nat.one_pos (fun j hj => by
      rw [o1.cellAt (n - 1 + j) (by omega), List.getElem?_eq_getElem (by omega)]; rfl) (fun j _ => o1.frozenAt _)
  have HC := Lib.hid hclr
  clear hclr o1 g1 o2 g2 o3 hfin hz h h1 hdl hlen
  have hic : i ≤ cap := by omega
  have hcast : ((i + 1 : Nat) : Int) = (i : Int) + 1 := by omega
  have hij : ((i : Int) == (i : Int) + 1) = false := beq_eq_false_iff_ne.2 (by omega)
  have hp0 : (0 : Int) ≤ (i : Int) + 1 := by omega
  have hp1 : (i : Int) + 1 ≤ (n : Int) := by omega
  have hp2 : ((i : Int) + 1).toNat = i + 1 := by omega
  have hp3 : (i : Int) ≤ (i : Int) + 1 := by omega
  have hnm : n - (i + 1) ≤ cap - (i + 1) := by omega
  rw [hcast]
  go_enter Tryz.func99, Tryz.ntmps99
  go_wp2_with fail
  have hsum : i + (n - (i + 1)) = n - 1 := by omega
  have hcn : ¬ cap = n - 1 := by omega
  have hn1 : n - (n - 1) = 1 := by omega
  have hn2 : ((n - 1 : Nat) : Int) ≤ (n : Int) := by omega
  have hn3 : (0 : Int) ≤ ((n - 1 : Nat) : Int) := by omega
  have hn4 : (n : Int) ≤ (cap : Int) := by omega
  go_region_law (refine step_append_room rfl (.tmp 22) (.tmp 25) 23 rfl 22 i0 1 Tryz.underlying23 hi0 hz1 g 0 i cap (by simp [Act.eval, Act.put]) A (n - (i + 1)) (cap - (i + 1)) (vs.drop (i + 1)) (by simp [Act.eval, Act.put]) s1.out hnews.out s2.out (by omega) s3.out ?_)
  have hc2 := HC.out
  clear hsum hnews s1 s2 s3 hA
  go_wp2
  go_ret
  exact ⟨rfl, O3.out, G3.out⟩
end Go.Proofs.YtaijpiebjhhkjaaGreatDoor
/- net.Drop. -/
namespace Go.Proofs.YtaijpiebjhhkjaaGreatDoor
open Go.RowKit
theorem erase_get {α : Type} {l : List α} {i j : Nat} {x : α} (h : (l.eraseIdx i)[j]? = some x) : l[if j < i then j else j + 1]? = some x := by
  rw [List.getElem?_eraseIdx] at h
  split at h
  · rename_i h1; rw [if_pos h1]; exact h
  · rename_i h1; rw [if_neg h1]; exact h
theorem NetOwn.erase {w w' : World} {base : Nat} {cv pv pv' : Value} {vs : List Value} {caps : List Int} {L : List (List Int)} (h : NetOwn w base cv pv vs caps L) {i : Nat} (hi : i < L.length)
    (hown : w'.ownsRow base 22 1 pv' (L.length - 1) (vs.eraseIdx i)) (hg : w.grownBy w' pv.ownBlock) : NetOwn w' base cv pv' (vs.eraseIdx i) caps (L.eraseIdx i) := by
  have hrow : ∀ x m (ys : List Value), w.ownsRow base 3 1 x m ys → w'.ownsRow base 3 1 x m ys := fun x m ys hx => own_grown hx hg (own_apart hx h.own (by decide))
  refine ⟨hrow _ _ _ h.capO, by rw [List.length_eraseIdx_of_lt hi]; exact hown, fun j u l h1 h2 => hrow _ _ _ (h.row _ _ _ (erase_get h1) (erase_get h2)), fun j u h1 => h.apC _ _ (erase_get h1), fun j k u u' h1 h2 hjk => h.apR _ _ _ _ (erase_get h1) (erase_get h2) ?_⟩
  split <;> split <;> omega
theorem NetOwn.oneC {w : World} {base : Nat} {cv pv : Value} {vs : List Value} {caps : List Int} {L : List (List Int)} (h : NetOwn w base cv pv vs caps L) : ∀ u ∈ vs, u.oneCell' = true := fun u hu => by
  obtain ⟨i, hi, e⟩ := List.getElem_of_mem hu
  have hl : i < L.length := by have := h.len; omega
  have := h.row i u L[i] (by rw [← e]; exact List.getElem?_eq_getElem hi) (List.getElem?_eq_getElem hl)
  obtain ⟨A, c, rfl, _⟩ := owns_reads this
  rfl
end Go.Proofs.YtaijpiebjhhkjaaGreatDoor
/- net.Users; two nets, or lists of lists, that are the same. -/
namespace Go.Proofs.YtaijpiebjhhkjaaGreatDoor
open Go.RowKit
theorem own_base2 {w : World} {base base' e size n : Nat} {v : Value} {xs : List Value} (h : w.ownsRow base e size v n xs) (hb : base' ≤ base) : w.ownsRow base' e size v n xs := by
  refine ⟨h.1, ?_⟩
  rcases h.2 with h | ⟨g, cap, cur, rfl, h1, h2⟩
  · exact .inl h
  · exact .inr ⟨g, cap, cur, rfl, Nat.le_trans hb h1, h2⟩
theorem Ints.nil' (w : World) (B : Nat) : Ints w B none 0 [] := ⟨Reads.none_, Nat.le_refl _, by simp [maxLen]⟩
theorem Rows2.nil' (w : World) (B : Nat) : Rows2 w B none 0 [] := ⟨fun h => absurd h (by simp), Nat.le_refl _, by simp [maxLen]⟩
theorem sameInts_n (A A' : Option Addr) (c c' n n' : Nat) (l : List Int) (B B' : Nat) (w : World) (h : Ints w B A c l) (h' : Ints w B' A' c' l) (hn : n = l.length) (hn' : n' = l.length) :
    Calls Tryz.prog 46 #[.slice A n c, .slice A' n' c'] w fun e w' => e = .returned (.bool true) ∧ Below w.heap.size w w' := by
  subst hn hn'
  refine (sameInts_eq A A' c c' l B B' w h h').mono ?_
  rintro e w' ⟨rfl, n, rfl⟩
  exact ⟨rfl, below_drewN (Below.refl _ _) n⟩
theorem Rows2.drewN {w : World} {B : Nat} {A : Option Addr} {c : Nat} {L : List (List Int)} (h : Rows2 w B A c L) (n : Nat) : Rows2 (w.drewN n) B A c L := h.below (below_drewN (Below.refl B _) n) (Nat.le_refl _)
set_option maxHeartbeats 2000000 in
theorem sameLists_eq (A A' : Option Addr) (c c' : Nat) (L : List (List Int)) (B B' : Nat) (w : World) (h : Rows2 w B A c L) (h' : Rows2 w B' A' c' L) :
    Calls Tryz.prog 23 #[.slice A L.length c, .slice A' L.length c'] w fun e w' => e = .returned (.bool true) ∧ ∃ n, w' = w.drewN n := by
  have hm := Nat.le_trans h.le h.cap
  unfold maxLen at hm
  have H := Lib.hid h; clear h
  have H' := Lib.hid h'; clear h'
  go_enter Tryz.func23, Tryz.ntmps23
  go_wp2
  go_loopw [5] (fun i wr => ∃ k n : Nat, k ≤ L.length ∧ i = .int .i64 k ∧ wr = w.drewN n) (fun i _ => L.length - (intOf i).toNat)
  case atStart => exact ⟨0, 0, Nat.zero_le _, rfl, rfl⟩
  case round =>
    obtain ⟨k, n, hk, rfl, hwr⟩ := hrel
    have HR := Lib.hid (h := (show Rows2 wr B A c L by rw [hwr]; exact H.out.drewN n))
    have HR' := Lib.hid (h := (show Rows2 wr B' A' c' L by rw [hwr]; exact H'.out.drewN n))
    have HW := Lib.hid hwr
    clear hwr
    by_cases hlt : k < L.length
    · obtain ⟨b, off, A1, c1, l, rfl, _, hc, hi, HX⟩ := HR.out.elem hlt
      obtain ⟨b', off', A2, c2, l', rfl, _, hc', hi', HX'⟩ := HR'.out.elem hlt
      obtain rfl : l = l' := Option.some.inj (HX.out.symm.trans HX'.out)
      have k0 : (0 : Int) ≤ (k : Int) := by omega
      have k1 : (k : Int) < L.length := by omega
      have HI := Lib.hid hi
      have HI' := Lib.hid hi'
      clear HX HX' hi hi'
      go_wp2
      go_quiet ((go_at_call 46; exact sameInts_quiet (sameInts_eq A1 A2 c1 c2 l _ _ _ (HI.out.drewN _) (HI'.out.drewN _))))
      go_wp2
      go_roundw
      case rel => exact ⟨k + 1, n + nq, by omega, by go_num, by rw [HW.out, World.drewN_drewN]⟩
      case measure => simp [intOf]; omega
    · go_wp2
      go_ret
      exact ⟨rfl, n, HW.out⟩
theorem sameLists_n (A A' : Option Addr) (c c' n n' : Nat) (L : List (List Int)) (B B' : Nat) (w : World) (h : Rows2 w B A c L) (h' : Rows2 w B' A' c' L) (hn : n = L.length) (hn' : n' = L.length) :
    Calls Tryz.prog 23 #[.slice A n c, .slice A' n' c'] w fun e w' => e = .returned (.bool true) ∧ Below w.heap.size w w' := by
  subst hn hn'
  refine (sameLists_eq A A' c c' L B B' w h h').mono ?_
  rintro e w' ⟨rfl, n, rfl⟩
  exact ⟨rfl, below_drewN (Below.refl _ _) n⟩
def usersErr (caps : List Int) (paths : List (List Int)) (link : Int) : Int := if netErr caps paths = 0 then (if link < 0 ∨ (caps.length : Int) ≤ link then 1 else 0) else netErr caps paths
end Go.Proofs.YtaijpiebjhhkjaaGreatDoor
/- Nets for the laws: lengths as letters, nets written out. -/
namespace Go.Proofs.YtaijpiebjhhkjaaGreatDoor
open Go.RowKit
theorem Ints.blk {w : World} {g : Nat} {t : TypeId} {l : List Int} {B : Nat} (h : Blk w g t (l.map (Value.int .i64)).toArray) (hB : g < B) (hl : l.length ≤ 1000000) : Ints w B (some ⟨g, 0, none⟩) l.length l :=
  ⟨⟨by simp, fun _ => ⟨g, 0, rfl, hB, fun j u hu => by rw [Nat.zero_add, h.cell j]; simpa using hu⟩⟩, Nat.le_refl _, by simp only [maxLen]; omega⟩
theorem Rows2.blk1 {w : World} {g c1 : Nat} {t : TypeId} {A1 : Option Addr} {l1 : List Int} {B : Nat} (h : Blk w g t #[.slice A1 l1.length c1]) (h1 : Ints w B A1 c1 l1) (hB : g < B) : Rows2 w B (some ⟨g, 0, none⟩) 1 [l1] :=
  ⟨fun _ => ⟨g, 0, rfl, hB, fun j l hl => by
    cases j with
    | zero => simp at hl; subst hl; exact ⟨A1, c1, h.cell 0, h1⟩
    | succ j => simp at hl⟩, Nat.le_refl _, by simp [maxLen]⟩
theorem Rows2.blk2 {w : World} {g c1 c2 : Nat} {t : TypeId} {A1 A2 : Option Addr} {l1 l2 : List Int} {B : Nat} (h : Blk w g t #[.slice A1 l1.length c1, .slice A2 l2.length c2]) (h1 : Ints w B A1 c1 l1) (h2 : Ints w B A2 c2 l2) (hB : g < B) : Rows2 w B (some ⟨g, 0, none⟩) 2 [l1, l2] :=
  ⟨fun _ => ⟨g, 0, rfl, hB, fun j l hl => by
    match j, hl with
    | 0, hl => simp at hl; subst hl; exact ⟨A1, c1, h.cell 0, h1⟩
    | 1, hl => simp at hl; subst hl; exact ⟨A2, c2, h.cell 1, h2⟩
    | j + 2, hl => simp at hl⟩, Nat.le_refl _, by simp [maxLen]⟩
theorem Rows2.blk3 {w : World} {g c1 c2 c3 : Nat} {t : TypeId} {A1 A2 A3 : Option Addr} {l1 l2 l3 : List Int} {B : Nat} (h : Blk w g t #[.slice A1 l1.length c1, .slice A2 l2.length c2, .slice A3 l3.length c3]) (h1 : Ints w B A1 c1 l1) (h2 : Ints w B A2 c2 l2) (h3 : Ints w B A3 c3 l3) (hB : g < B) : Rows2 w B (some ⟨g, 0, none⟩) 3 [l1, l2, l3] :=
  ⟨fun _ => ⟨g, 0, rfl, hB, fun j l hl => by
    match j, hl with
    | 0, hl => simp at hl; subst hl; exact ⟨A1, c1, h.cell 0, h1⟩
    | 1, hl => simp at hl; subst hl; exact ⟨A2, c2, h.cell 1, h2⟩
    | 2, hl => simp at hl; subst hl; exact ⟨A3, c3, h.cell 2, h3⟩
    | j + 3, hl => simp at hl⟩, Nat.le_refl _, by simp [maxLen]⟩
theorem firstFrom_snoc {f : Nat → Int} {n : Nat} : firstFrom f (n + 1) 0 = if firstFrom f n 0 = 0 then f n else firstFrom f n 0 := by
  have key : ∀ (n i : Nat), firstFrom f (n + 1) i = if firstFrom f n i = 0 then f (i + n) else firstFrom f n i := by
    intro n
    induction n with
    | zero => intro i; simp only [firstFrom]; split <;> rename_i h <;> simp [h]
    | succ n ih =>
      intro i
      rw [firstFrom, ih (i + 1)]
      rw [show i + 1 + n = i + (n + 1) by omega]
      conv => rhs; rw [firstFrom]
      by_cases h : f i = 0
      · simp only [if_pos h]
      · simp only [if_neg h]
  have := key n 0
  rwa [Nat.zero_add] at this
theorem netErr_snoc {caps : List Int} {paths : List (List Int)} {p : List Int} (h : netErr caps paths = 0) (h6 : paths.length ≠ 6) (hp : pathErr caps.length p = 0) : netErr caps (paths ++ [p]) = 0 := by
  obtain ⟨k0, k1, k2, k3, _, _⟩ := netErr_ok h
  unfold netErr at h ⊢
  rw [if_neg (by omega), if_neg (by omega)] at h
  have hla : (paths ++ [p]).length = paths.length + 1 := by simp
  rw [if_neg (by omega), if_neg (by omega)]
  split at h
  · rename_i hl
    rw [if_pos hl, Nat.sub_zero, hla]
    rw [firstFrom_snoc]
    have hc : firstFrom (fun i => pathErr caps.length ((paths ++ [p]).getD i [])) paths.length 0 = 0 := by
      rw [Nat.sub_zero] at h
      rw [← h]
      refine firstFrom_congr fun j _ hj => ?_
      rw [List.getD_eq_getElem?_getD, List.getD_eq_getElem?_getD, List.getElem?_append_left (by omega)]
    rw [if_pos hc]
    simpa using hp
  · rename_i hl; exact absurd h hl
theorem addErr_ok {caps : List Int} {paths : List (List Int)} {p : List Int} (h : addErr caps paths p = 0) : netErr caps paths = 0 ∧ paths.length ≠ 6 ∧ pathErr caps.length p = 0 ∧ netErr caps (paths ++ [p]) = 0 := by
  unfold addErr at h
  split at h
  · rename_i h1
    split at h
    · omega
    · rename_i h2; exact ⟨h1, h2, h, netErr_snoc h1 h2 h⟩
  · rename_i h1; exact absurd h h1
theorem users_snoc_yes {paths : List (List Int)} {p : List Int} {x : Int} (h : inL p x = true) : users (paths ++ [p]) x = users paths x ++ [paths.length] := by
  unfold users
  rw [List.length_append]
  show usersTo _ x (paths.length + 1) = _
  rw [usersTo_yes (l := p) (by simp) h]
  congr 1
  unfold usersTo
  refine List.filter_congr fun f hf => ?_
  have := List.mem_range.1 hf
  rw [List.getD_eq_getElem?_getD, List.getD_eq_getElem?_getD, List.getElem?_append_left this]
theorem users_snoc_no {paths : List (List Int)} {p : List Int} {x : Int} (h : inL p x = false) : users (paths ++ [p]) x = users paths x := by
  unfold users
  rw [List.length_append]
  show usersTo _ x (paths.length + 1) = _
  rw [usersTo_no (l := p) (by simp) h]
  unfold usersTo
  refine List.filter_congr fun f hf => ?_
  have := List.mem_range.1 hf
  rw [List.getD_eq_getElem?_getD, List.getD_eq_getElem?_getD, List.getElem?_append_left this]
theorem erase_last {α : Type} (l : List α) (x : α) : (l ++ [x]).eraseIdx l.length = l := by
  rw [List.eraseIdx_append_of_length_le (Nat.le_refl _)]; simp
end Go.Proofs.YtaijpiebjhhkjaaGreatDoor
