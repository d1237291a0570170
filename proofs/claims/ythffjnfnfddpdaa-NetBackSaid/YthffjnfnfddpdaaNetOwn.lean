/- net.Own: a net that the call itself made. -/
import Derived.Test.YthffjnfnfddpdaaNet2
import Derived.Test.YthffjnfnfddpdaaPush2
import Derived.Test.YthffjnfnfddpdaaClone
import Derived.Deep.RegionLaw
namespace Go.Proofs.Ythffjnfnfddpdaa
open Go.RowKit
theorem Try.info_row : (Try.prog.info? 38).map (fun i => (i.zero, i.size, i.bytes)) = some (some (.slice none 0 0), 1, 24) := by kernel_rfl
theorem own_kindB {w : World} {base e size n : Nat} {v : Value} {xs : List Value} (h : w.ownsRow base e size v n xs) {g : Nat} (hg : v.ownBlock = some g) : ∃ cs, Blk w g e cs := by
  rcases h.2 with ⟨rfl, _⟩ | ⟨g', cap, cur, rfl, _, hh, _⟩
  · simp [Value.ownBlock] at hg
  · have : g' = g := by simpa [Value.ownBlock] using hg
    subst this
    exact ⟨cur, hh⟩
/-- rows of two kinds lie apart -/
theorem own_apart {w : World} {base base' e e' size size' n n' : Nat} {v v' : Value} {xs xs' : List Value} (h : w.ownsRow base e size v n xs) (h' : w.ownsRow base' e' size' v' n' xs') (hne : e ≠ e') : v.ownBlock = none ∨ v.ownBlock ≠ v'.ownBlock := by
  cases hb : v.ownBlock with
  | none => exact .inl rfl
  | some g =>
    refine .inr fun e2 => ?_
    obtain ⟨cs, hk⟩ := own_kindB h hb
    exact own_blk_ne h' hk (fun x => hne x.symm) e2.symm
theorem own_grown {w w' : World} {base e size n : Nat} {v : Value} {xs : List Value} (h : w.ownsRow base e size v n xs) {row : Option Nat} (hg : w.grownBy w' row) (hne : v.ownBlock = none ∨ v.ownBlock ≠ row) : w'.ownsRow base e size v n xs := by
  rcases hne with h0 | h0
  · rcases h.2 with ⟨rfl, hx⟩ | ⟨g, cap, cur, rfl, _⟩
    · exact ⟨h.1, .inl ⟨rfl, hx⟩⟩
    · simp [Value.ownBlock] at h0
  · exact h.kept hg (.inr h0)
theorem own_baseB {w : World} {base base' e size n : Nat} {v : Value} {xs : List Value} (h : w.ownsRow base e size v n xs) (hb : base' ≤ base) : w.ownsRow base' e size v n xs := by
  refine ⟨h.1, ?_⟩
  rcases h.2 with h | ⟨g, cap, cur, rfl, h1, h2⟩
  · exact .inl h
  · exact .inr ⟨g, cap, cur, rfl, Nat.le_trans hb h1, h2⟩
theorem own_farB {w : World} {base e size n : Nat} {v : Value} {xs : List Value} (h : w.ownsRow base e size v n xs) {g k : Nat} (hg : v.ownBlock ≠ some g) (u : Value) : (w.setCell ⟨g, k, none⟩ u).ownsRow base e size v n xs :=
  h.kept (row := some g) ⟨rfl, rfl, rfl, by simp [World.setCell], fun i hi hne => Below.heap_setCell w _ u i (fun e => hne (by rw [e]))⟩ (.inr hg)
/-- a net whose rows the call made: the capacities' row, the row of rows, the rows -/
structure NetOwn (w : World) (base : Nat) (cv pv : Value) (vs : List Value) (caps : List Int) (L : List (List Int)) : Prop where
  capO : w.ownsRow base 3 1 cv caps.length (caps.map (Value.int .i64))
  own : w.ownsRow base 38 1 pv L.length vs
  row : ∀ (i : Nat) (u : Value) (l : List Int), vs[i]? = some u → L[i]? = some l → w.ownsRow base 3 1 u l.length (l.map (Value.int .i64))
  apC : ∀ (i : Nat) (u : Value), vs[i]? = some u → Apart u cv
  apR : ∀ (i j : Nat) (u u' : Value), vs[i]? = some u → vs[j]? = some u' → i ≠ j → Apart u u'
section
variable {w w' : World} {base : Nat} {cv pv : Value} {vs : List Value} {caps : List Int} {L : List (List Int)}
theorem NetOwn.len (h : NetOwn w base cv pv vs caps L) : vs.length = L.length := by have := h.own.1; simpa using this
theorem NetOwn.below (h : NetOwn w base cv pv vs caps L) (hb : Below w.heap.size w w') : NetOwn w' base cv pv vs caps L :=
  ⟨own_below h.capO hb, own_below h.own hb, fun i u l h1 h2 => own_below (h.row i u l h1 h2) hb, h.apC, h.apR⟩
theorem NetOwn.far (h : NetOwn w base cv pv vs caps L) {g : Nat} {t : TypeId} {cs : Array Value} (hg : Blk w g t cs) (h1 : 3 ≠ t) (h2 : 38 ≠ t) (k : Nat) (u : Value) : NetOwn (w.setCell ⟨g, k, none⟩ u) base cv pv vs caps L :=
  ⟨own_farB h.capO (own_blk_ne h.capO hg h1) u, own_farB h.own (own_blk_ne h.own hg h2) u, fun i x l a b => own_farB (h.row i x l a b) (own_blk_ne (h.row i x l a b) hg h1) u, h.apC, h.apR⟩
/-- one row more -/
theorem NetOwn.push (h : NetOwn w base cv pv vs caps L) {u pv' : Value} {l : List Int} {N : Nat} (hN : ∀ g, cv.ownBlock = some g ∨ (∃ (i : Nat) (x : Value), vs[i]? = some x ∧ x.ownBlock = some g) → g < N) (hu : w.ownsRow N 3 1 u l.length (l.map (Value.int .i64))) (hbN : base ≤ N)
    (hown : w'.ownsRow base 38 1 pv' (L.length + 1) (vs ++ [u])) (hg : w.grownBy w' pv.ownBlock) : NetOwn w' base cv pv' (vs ++ [u]) caps (L ++ [l]) := by
  have hlen := h.len
  have hnew : ∀ x : Value, (∃ i : Nat, vs[i]? = some x) → Apart x u ∧ Apart u x := fun x ⟨i, hx⟩ => by
    have key : Apart x u := by
      cases hb : x.ownBlock with
      | none => exact .inl hb
      | some g =>
        refine .inr fun e => ?_
        have h1 := hN g (.inr ⟨i, x, hx, hb⟩)
        have h2 := hu.lt g (by rw [← e, hb])
        omega
    exact ⟨key, key.symm⟩
  have hrow : ∀ x m (ys : List Value), w.ownsRow base 3 1 x m ys → w'.ownsRow base 3 1 x m ys := fun x m ys hx => own_grown hx hg (own_apart hx h.own (by decide))
  refine ⟨hrow _ _ _ h.capO, by simpa using hown, fun i x m h1 h2 => ?_, fun i x h1 => ?_, fun i j x y h1 h2 hij => ?_⟩
  · by_cases hi : i < vs.length
    · rw [List.getElem?_append_left hi] at h1
      rw [List.getElem?_append_left (by omega)] at h2
      exact hrow _ _ _ (h.row i x m h1 h2)
    · rw [List.getElem?_append_right (by omega)] at h1 h2
      have hi0 : i - vs.length = 0 := by
        have := (List.getElem?_eq_some_iff.1 h1).1; simp at this; omega
      rw [hi0] at h1
      rw [show i - L.length = 0 by omega] at h2
      simp at h1 h2
      subst h1 h2
      exact hrow _ _ _ (own_baseB hu hbN)
  · by_cases hi : i < vs.length
    · rw [List.getElem?_append_left hi] at h1
      exact h.apC i x h1
    · rw [List.getElem?_append_right (by omega)] at h1
      have hi0 : i - vs.length = 0 := by
        have := (List.getElem?_eq_some_iff.1 h1).1; simp at this; omega
      rw [hi0] at h1
      simp at h1
      subst h1
      cases hb : u.ownBlock with
      | none => exact .inl hb
      | some g =>
        refine .inr fun e => ?_
        have h1 := hN g (.inl (by rw [← e, hb]))
        have h2 := hu.lt g hb
        omega
  · by_cases hi : i < vs.length
    · rw [List.getElem?_append_left hi] at h1
      by_cases hj : j < vs.length
      · rw [List.getElem?_append_left hj] at h2
        exact h.apR i j x y h1 h2 hij
      · rw [List.getElem?_append_right (by omega)] at h2
        have hj0 : j - vs.length = 0 := by
          have := (List.getElem?_eq_some_iff.1 h2).1; simp at this; omega
        rw [hj0] at h2
        simp at h2
        subst h2
        exact (hnew x ⟨i, h1⟩).1
    · rw [List.getElem?_append_right (by omega)] at h1
      have hi0 : i - vs.length = 0 := by
        have := (List.getElem?_eq_some_iff.1 h1).1; simp at this; omega
      rw [hi0] at h1
      simp at h1
      subst h1
      have hj : j < vs.length := by
        apply Classical.byContradiction; intro hj
        rw [List.getElem?_append_right (by omega)] at h2
        have := (List.getElem?_eq_some_iff.1 h2).1; simp at this; omega
      rw [List.getElem?_append_left hj] at h2
      exact (hnew y ⟨j, h2⟩).2
/-- all that it has lies below the heap's end -/
theorem NetOwn.lt (h : NetOwn w base cv pv vs caps L) : ∀ g, cv.ownBlock = some g ∨ (∃ (i : Nat) (x : Value), vs[i]? = some x ∧ x.ownBlock = some g) → g < w.heap.size := by
  rintro g (hg | ⟨i, x, hx, hg⟩)
  · exact (h.capO.lt g hg).2
  · have hi := (List.getElem?_eq_some_iff.1 hx).1
    have hl : L[i]? = some (L[i]'(by have := h.len; omega)) := List.getElem?_eq_getElem _
    exact ((h.row i x _ hx hl).lt g hg).2
theorem NetOwn.rows (h : NetOwn w base cv pv vs caps L) : ∃ P cp, pv = .slice P L.length cp ∧ Rows2 w w.heap.size P cp L := by
  obtain ⟨P, cp, rfl, h1, h2, h3⟩ := owns_reads h.own
  refine ⟨P, cp, rfl, ⟨fun hpos => ?_, h1, h2⟩⟩
  obtain ⟨b, off, e, hb, hc⟩ := h3.2 hpos
  refine ⟨b, off, e, hb, fun j l hl => ?_⟩
  have hj : j < vs.length := by have := h.len; have := (List.getElem?_eq_some_iff.1 hl).1; omega
  have hv : vs[j]? = some vs[j] := List.getElem?_eq_getElem hj
  obtain ⟨A', c', e', _, hi⟩ := owns_ints (h.row j _ l hv hl)
  exact ⟨A', c', by rw [hc j _ hv, e'], hi⟩
theorem NetOwn.at_ (h : NetOwn w base cv pv vs caps L) : NetAt w w.heap.size (.agg #[cv, pv]) caps L := by
  obtain ⟨C, cc, rfl, _, hi⟩ := owns_ints h.capO
  obtain ⟨P, cp, rfl, hp⟩ := h.rows
  exact NetAt.mk' hi hp
end
end Go.Proofs.Ythffjnfnfddpdaa
