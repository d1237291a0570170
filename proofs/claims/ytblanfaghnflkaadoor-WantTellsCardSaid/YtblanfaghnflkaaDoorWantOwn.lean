/- A net of the call's own: one link more to a path, one capacity more. -/
import Derived.Test.YtblanfaghnflkaaDoorLibN
import Derived.Test.YtblanfaghnflkaaDoorPlWant
namespace Go.Proofs.YtblanfaghnflkaaDoor
open Go.RowKit
theorem NetOwn.rowPush {w w' : World} {base g c k N n : Nat} {cv u u' : Value} {vs : List Value} {caps : List Int} {L : List (List Int)} {l : List Int} {x : Int} (h : NetOwn w base cv (.slice (some ⟨g, 0, none⟩) n c) vs caps L) (hn : n = L.length) (hk : vs[k]? = some u) (hl : L[k]? = some l)
    (hown : w'.ownsRow base 3 1 u' (l.length + 1) (l.map (Value.int .i64) ++ [.int .i64 x])) (hg : w.grownBy w' u.ownBlock) (hb : u'.ownBlock = u.ownBlock ∨ u'.ownBlock = some N) (hN : w.heap.size ≤ N) :
    NetOwn (w'.setCell ⟨g, k, none⟩ u') base cv (.slice (some ⟨g, 0, none⟩) n c) (vs.set k u') caps (L.set k (l ++ [x])) := by
  subst hn
  have hr := h.row k u l hk hl
  have h1 : w'.ownsRow base 40 1 (.slice (some ⟨g, 0, none⟩) L.length c) L.length vs := own_grown h.own hg (own_apart h.own hr (by decide))
  obtain ⟨cs, hcs⟩ := own_kindB h1 (g := g) rfl
  have far : ∀ (v : Value) (m : Nat) (ys : List Value), w'.ownsRow base 3 1 v m ys → (w'.setCell ⟨g, k, none⟩ u').ownsRow base 3 1 v m ys := fun v m ys hv => own_farB hv (own_blk_ne hv hcs (by decide)) _
  have hkl := (List.getElem?_eq_some_iff.1 hk).1
  have hlen := h.len
  have hat : ∀ (j : Nat) (z : Value), vs[j]? = some z → ∃ m, L[j]? = some m := fun j z hz => ⟨L[j]'(by have := (List.getElem?_eq_some_iff.1 hz).1; omega), List.getElem?_eq_getElem _⟩
  refine ⟨far _ _ _ (own_grown h.capO hg (h.apC k u hk).symm), ?_, fun i y m hi hm => ?_, fun i y hi => ?_, fun i j y z hi hj hij => ?_⟩
  · rw [List.length_set]; exact (h1.stored k u').1
  · by_cases e : i = k
    · subst e
      rw [List.getElem?_set_self hkl] at hi
      rw [List.getElem?_set_self (by omega)] at hm
      injection hi with hi; injection hm with hm
      subst hi hm
      rw [List.length_append, List.map_append]
      exact far _ _ _ hown
    · rw [List.getElem?_set_ne (Ne.symm e)] at hi hm
      exact far _ _ _ (own_grown (h.row i y m hi hm) hg (h.apR i k y u hi hk e))
  · by_cases e : i = k
    · subst e
      rw [List.getElem?_set_self hkl] at hi
      injection hi with hi
      subst hi
      exact (h.apC i u hk).push h.capO hN hb
    · rw [List.getElem?_set_ne (Ne.symm e)] at hi
      exact h.apC i y hi
  · by_cases e : i = k
    · subst e
      rw [List.getElem?_set_self hkl] at hi
      rw [List.getElem?_set_ne hij] at hj
      injection hi with hi
      subst hi
      obtain ⟨m, hm⟩ := hat j z hj
      exact (h.apR i j u z hk hj hij).push (h.row j z m hj hm) hN hb
    · rw [List.getElem?_set_ne (Ne.symm e)] at hi
      by_cases e2 : j = k
      · subst e2
        rw [List.getElem?_set_self hkl] at hj
        injection hj with hj
        subst hj
        obtain ⟨m, hm⟩ := hat i y hi
        exact ((h.apR i j y u hi hk hij).symm.push (h.row i y m hi hm) hN hb).symm
      · rw [List.getElem?_set_ne (Ne.symm e2)] at hj
        exact h.apR i j y z hi hj hij
theorem NetOwn.capPush {w w' : World} {base N : Nat} {cv pv cv' : Value} {vs : List Value} {caps : List Int} {L : List (List Int)} {x : Int} (h : NetOwn w base cv pv vs caps L)
    (hown : w'.ownsRow base 3 1 cv' (caps.length + 1) (caps.map (Value.int .i64) ++ [.int .i64 x])) (hg : w.grownBy w' cv.ownBlock) (hb : cv'.ownBlock = cv.ownBlock ∨ cv'.ownBlock = some N) (hN : w.heap.size ≤ N) :
    NetOwn w' base cv' pv vs (caps ++ [x]) L := by
  have hlen := h.len
  refine ⟨by rw [List.length_append, List.map_append]; exact hown, own_grown h.own hg (own_apart h.own h.capO (by decide)), fun i u l a b => own_grown (h.row i u l a b) hg (h.apC i u a), fun i u a => ?_, h.apR⟩
  have hm : L[i]? = some (L[i]'(by have := (List.getElem?_eq_some_iff.1 a).1; omega)) := List.getElem?_eq_getElem _
  exact ((h.apC i u a).symm.push (h.row i u _ a hm) hN hb).symm
/-- the net on the way: the first k have their link -/
def wideK (paths : List (List Int)) (n k : Nat) : List (List Int) := (List.range paths.length).map fun f => if f < k then paths.getD f [] ++ [((n + f : Nat) : Int)] else paths.getD f []
theorem wideK_len (paths : List (List Int)) (n k : Nat) : (wideK paths n k).length = paths.length := by simp [wideK]
theorem wideK_zero (paths : List (List Int)) (n : Nat) : wideK paths n 0 = paths := by
  apply List.ext_getElem? ; intro i
  unfold wideK
  by_cases h : i < paths.length
  · simp [h]
  · simp [h]
theorem wideK_all (paths : List (List Int)) (n : Nat) : wideK paths n paths.length = wideP paths n := by
  unfold wideK wideP
  refine List.map_congr_left fun f hf => ?_
  rw [if_pos (List.mem_range.1 hf)]
theorem wideK_at {paths : List (List Int)} {n k : Nat} (h : k < paths.length) : (wideK paths n k)[k]? = some (paths.getD k []) := by
  unfold wideK; simp [h]
theorem wideK_set {paths : List (List Int)} {n k : Nat} : (wideK paths n k).set k (paths.getD k [] ++ [((n + k : Nat) : Int)]) = wideK paths n (k + 1) := by
  apply List.ext_getElem?; intro i
  unfold wideK
  by_cases h : i < paths.length
  · by_cases e : i = k
    · subst e; simp [h]
    · rw [List.getElem?_set_ne (Ne.symm e)]
      simp [h]
      by_cases h2 : i < k
      · rw [if_pos h2, if_pos (by omega)]
      · rw [if_neg h2, if_neg (by omega)]
  · simp [h]
end Go.Proofs.YtblanfaghnflkaaDoor
