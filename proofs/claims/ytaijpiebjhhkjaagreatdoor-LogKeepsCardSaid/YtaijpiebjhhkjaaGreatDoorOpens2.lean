/- What came in, read as lists: slices of structs of ints, slices of slices of ints. -/
import Derived.Test.YtaijpiebjhhkjaaGreatDoorOpens
import Derived.Test.YtaijpiebjhhkjaaGreatDoorSrcs
import Derived.Test.YtaijpiebjhhkjaaGreatDoorLibF
import Derived.Test.YtaijpiebjhhkjaaGreatDoorLibA
import Derived.Deep.Slices
import Derived.Deep.Fields
import Derived.ChangeSame
namespace Go.Proofs.YtaijpiebjhhkjaaGreatDoor
open Go.ChangeShapes Go.WideShapes Go.ChangeAt Go.RowKit Go.Deep
theorem block_lt_of_cell {w : World} {p : Addr} {v : Value} (h : w.cell? p = some v) : p.block < w.heap.size := World.block_lt_of_cell? w _ h
theorem addr_add {b off j : Nat} : (⟨b, off, none⟩ : Addr).add j = ⟨b, off + j, none⟩ := by unfold Addr.add; split <;> simp_all
section
variable {H : Type} {enc : TypeId × Value → H} {P : Program} {W : World}
theorem fields_in {t e ti : TypeId} {fs : Array Field} {fuel : Nat} {v : Value} {x : DataW H × List MemPlace} (ht : P.underlying t = some (.slice e)) (he : P.underlying e = some (.struct fs)) (hi : P.underlying ti = some (.int .i64))
    (hone : oneCellFields P fs = true) (hC : P.cellsOf e = fs.size) (hpos : 0 < fs.size) (hty : ∀ (j : Nat) (f : Field), fs[j]? = some f → f.type = ti) (h : DataW.trod enc P W 0 (fun _ => true) true fuel t [v] = some x) :
    ∃ A len c, v = .slice A len c ∧ len ≤ c ∧ c ≤ maxLen ∧ ∃ Z : Nat → Nat → Int, (0 < len → ∃ b off, A = some ⟨b, off, none⟩ ∧ b < W.heap.size ∧ ∀ i, i < len → ∀ j, j < fs.size → W.cell? ⟨b, off + (i * fs.size + j), none⟩ = some (.int .i64 (Z i j))) := by
  rcases open_slice ht h with ⟨hcs, _⟩ | ⟨a, len, cap, m, n, D, Pl, hcs, _, hl, hm, hmm, _, hx⟩
  · obtain rfl : v = .slice none 0 0 := by simpa using hcs
    exact ⟨none, 0, 0, rfl, Nat.le_refl _, by simp [maxLen], fun _ _ => 0, fun h => absurd h (by omega)⟩
  · obtain rfl : v = .slice (some a) len cap := by simpa using hcs
    rw [if_pos rfl] at hmm
    subst hmm
    rw [hC] at hx
    have hcell : ∀ i, i < m → ∃ z : Nat → Int, ∀ j, j < fs.size → W.cell? (a.add (i * fs.size + j)) = some (.int .i64 (z j)) := fun i him => by
      obtain ⟨cs', hc, ht'⟩ := hx i him
      obtain ⟨ys, n', hn', hy, hlen, hyl, hf⟩ := DataW.trod_struct he ht'
      obtain ⟨_, hcl, hat⟩ := World.cells?_some hc
      have key : ∀ j, j < fs.size → ∃ z : Int, W.cell? (a.add (i * fs.size + j)) = some (.int .i64 z) := fun j hj => by
        have hfj : fs[j]? = some fs[j] := Array.getElem?_eq_getElem hj
        obtain ⟨ho, hk⟩ := hone_of hone j _ hfj
        have hcj := hat j hj
        have hv : cs'[j]? = some (cs'[j]'(by omega)) := List.getElem?_eq_getElem (by omega)
        have h1 := hf j _ hfj
        rw [ho, hk] at h1
        have hone' : (cs'.drop j).take 1 = [cs'[j]'(by omega)] := by
          rw [List.drop_eq_getElem_cons (by omega)]; rfl
        rw [hone', hty j _ hfj] at h1
        have hys : ys[j]? = some (ys[j]'(by omega)) := List.getElem?_eq_getElem (by omega)
        rw [hys] at h1
        obtain ⟨z, hz, _, _⟩ := DataW.trod_int hi h1
        refine ⟨z, ?_⟩
        rw [← Go.Deep.add_add, hcj, hv]
        congr 1
        simpa using hz
      exact choose_lt (α := Int) (p := fun j z => W.cell? (a.add (i * fs.size + j)) = some (.int .i64 z)) key
    obtain ⟨Z, hZ⟩ := choose_lt (α := Nat → Int) (p := fun i z => ∀ j, j < fs.size → W.cell? (a.add (i * fs.size + j)) = some (.int .i64 (z j))) hcell
    refine ⟨some a, len, m, rfl, hl, hm, Z, fun hpos' => ?_⟩
    obtain ⟨b, off, spot⟩ := a
    have h0 := hZ 0 (by omega) 0 hpos
    have hspot : spot = none := by simpa [Addr.add] using World.cell?_spot h0
    subst hspot
    refine ⟨b, off, rfl, ?_, fun i hi' j hj => ?_⟩
    · have := block_lt_of_cell h0
      simpa [addr_add] using this
    · have := hZ i (by omega) j hj
      rwa [addr_add] at this
def okFields (P : Program) (fs : Array Field) (e ti : TypeId) (n : Nat) : Bool := oneCellFields P fs && (P.cellsOf e == n) && (fs.size == n) && fs.all fun f => f.type == ti
theorem okFields_of {fs : Array Field} {e ti : TypeId} {n : Nat} (h : okFields P fs e ti n = true) : oneCellFields P fs = true ∧ P.cellsOf e = fs.size ∧ fs.size = n ∧ ∀ (j : Nat) (f : Field), fs[j]? = some f → f.type = ti := by
  simp only [okFields, Bool.and_eq_true, beq_iff_eq, Array.all_eq_true] at h
  obtain ⟨⟨⟨h1, h2⟩, h3⟩, h4⟩ := h
  refine ⟨h1, by rw [h2, h3], h3, fun j f hj => ?_⟩
  obtain ⟨hl, e'⟩ := Array.getElem?_eq_some_iff.1 hj
  rw [← e']; exact h4 j hl
theorem structs4_of {t e ti : TypeId} {fs : Array Field} {A : Option Addr} {n c : Nat} {d : DataW H} {ps : List MemPlace} (ht : P.underlying t = some (.slice e)) (he : P.underlying e = some (.struct fs)) (hi : P.underlying ti = some (.int .i64)) (hok : okFields P fs e ti 4 = true)
    (h : DataW.Trod enc P W 0 (fun _ => true) true t (.slice A n c) d ps) : ∃ S : List Src, n = S.length ∧ Srcs W W.heap.size A c S ∧ True := by
  obtain ⟨fuel, hf⟩ := h
  obtain ⟨h1, h2, h3, h4⟩ := okFields_of hok
  obtain ⟨A', len, c', e', hl, hm, Z, hZ⟩ := fields_in ht he hi h1 h2 (by omega) h4 hf
  injection e' with e1 e2 e3
  subst e1 e2 e3
  have hlen : ((List.range n).map fun i => (⟨Z i 0, Z i 1, Z i 2, Z i 3⟩ : Src)).length = n := by simp
  refine ⟨(List.range n).map fun i => ⟨Z i 0, Z i 1, Z i 2, Z i 3⟩, hlen.symm, ⟨⟨by rw [srcCells_len], fun hpos => ?_⟩, by rw [hlen]; exact hl, hm⟩, trivial⟩
  rw [hlen] at hpos
  obtain ⟨b, off, rfl, hb, hc⟩ := hZ hpos
  refine ⟨b, off, rfl, hb, fun j u hu => ?_⟩
  have hj : j < n * 4 := by have := (List.getElem?_eq_some_iff.1 hu).1; rw [srcCells_len, hlen] at this; exact this
  have hq : j / 4 < n := by omega
  have hs : ((List.range n).map fun i => (⟨Z i 0, Z i 1, Z i 2, Z i 3⟩ : Src))[j / 4]? = some ⟨Z (j / 4) 0, Z (j / 4) 1, Z (j / 4) 2, Z (j / 4) 3⟩ := by simp [hq]
  obtain ⟨q0, q1, q2, q3⟩ := srcCells_at _ _ _ hs
  rw [h3] at hc
  have hr : j % 4 = 0 ∨ j % 4 = 1 ∨ j % 4 = 2 ∨ j % 4 = 3 := by omega
  rcases hr with hr | hr | hr | hr
  · have hje : j = j / 4 * 4 := by omega
    rw [hje] at hu ⊢
    rw [q0] at hu; injection hu with hu; rw [← hu]; exact hc _ hq 0 (by omega)
  · have hje : j = j / 4 * 4 + 1 := by omega
    rw [hje] at hu ⊢
    rw [q1] at hu; injection hu with hu; rw [← hu]; exact hc _ hq 1 (by omega)
  · have hje : j = j / 4 * 4 + 2 := by omega
    rw [hje] at hu ⊢
    rw [q2] at hu; injection hu with hu; rw [← hu]; exact hc _ hq 2 (by omega)
  · have hje : j = j / 4 * 4 + 3 := by omega
    rw [hje] at hu ⊢
    rw [q3] at hu; injection hu with hu; rw [← hu]; exact hc _ hq 3 (by omega)
theorem structs2_of {t e ti : TypeId} {fs : Array Field} {A : Option Addr} {n c : Nat} {d : DataW H} {ps : List MemPlace} (ht : P.underlying t = some (.slice e)) (he : P.underlying e = some (.struct fs)) (hi : P.underlying ti = some (.int .i64)) (hok : okFields P fs e ti 2 = true)
    (h : DataW.Trod enc P W 0 (fun _ => true) true t (.slice A n c) d ps) : ∃ S : List Fr, n = S.length ∧ Frs W W.heap.size A c S ∧ True := by
  obtain ⟨fuel, hf⟩ := h
  obtain ⟨h1, h2, h3, h4⟩ := okFields_of hok
  obtain ⟨A', len, c', e', hl, hm, Z, hZ⟩ := fields_in ht he hi h1 h2 (by omega) h4 hf
  injection e' with e1 e2 e3
  subst e1 e2 e3
  have hlen : ((List.range n).map fun i => (⟨Z i 0, Z i 1⟩ : Fr)).length = n := by simp
  refine ⟨(List.range n).map fun i => ⟨Z i 0, Z i 1⟩, hlen.symm, ⟨⟨by rw [frCells_len], fun hpos => ?_⟩, by rw [hlen]; exact hl, hm⟩, trivial⟩
  rw [hlen] at hpos
  obtain ⟨b, off, rfl, hb, hc⟩ := hZ hpos
  refine ⟨b, off, rfl, hb, fun j u hu => ?_⟩
  have hj : j < n * 2 := by have := (List.getElem?_eq_some_iff.1 hu).1; rw [frCells_len, hlen] at this; exact this
  have hq : j / 2 < n := by omega
  have hs : ((List.range n).map fun i => (⟨Z i 0, Z i 1⟩ : Fr))[j / 2]? = some ⟨Z (j / 2) 0, Z (j / 2) 1⟩ := by simp [hq]
  obtain ⟨q0, q1⟩ := frCells_at _ _ _ hs
  rw [h3] at hc
  have hr : j % 2 = 0 ∨ j % 2 = 1 := by omega
  rcases hr with hr | hr
  · have hje : j = j / 2 * 2 := by omega
    rw [hje] at hu ⊢
    rw [q0] at hu; injection hu with hu; rw [← hu]; exact hc _ hq 0 (by omega)
  · have hje : j = j / 2 * 2 + 1 := by omega
    rw [hje] at hu ⊢
    rw [q1] at hu; injection hu with hu; rw [← hu]; exact hc _ hq 1 (by omega)
theorem rows_in {t e ti : TypeId} {fuel : Nat} {v : Value} {x : DataW H × List MemPlace} (ht : P.underlying t = some (.slice e)) (he : P.underlying e = some (.slice ti)) (hi : P.underlying ti = some (.int .i64)) (hc1 : P.cellsOf e = 1) (hc : P.cellsOf ti = 1)
    (h : DataW.trod enc P W 0 (fun _ => true) true fuel t [v] = some x) : ∃ A c L, v = .slice A (L : List (List Int)).length c ∧ Rows2 W W.heap.size A c L ∧ ∀ l ∈ L, ∀ n ∈ l, (Lit.int .i64 n).wf = true := by
  rcases open_slice1 ht hc1 h with ⟨hcs, _⟩ | ⟨a, len, cap, m, n, V, D, Pl, hcs, _, hl, hm, hmm, _, hx⟩
  · obtain rfl : v = .slice none 0 0 := by simpa using hcs
    exact ⟨none, 0, [], rfl, ⟨fun h => absurd h (by simp), Nat.le_refl _, by simp [maxLen]⟩, by simp⟩
  · obtain rfl : v = .slice (some a) len cap := by simpa using hcs
    rw [if_pos rfl] at hmm
    subst hmm
    have key : ∀ i, i < m → ∃ l : List Int, ∃ A' c', W.cell? (a.add i) = some (.slice A' l.length c') ∧ Ints W W.heap.size A' c' l ∧ ∀ n ∈ l, (Lit.int .i64 n).wf = true := fun i him => by
      obtain ⟨h1, h2⟩ := hx i him
      obtain ⟨A', c', l, hv, hI, hw⟩ := ints_in he hi hc h2
      exact ⟨l, A', c', by rw [h1, hv], hI, hw⟩
    obtain ⟨Z, hZ⟩ := choose_lt (α := List Int) (p := fun i l => ∃ A' c', W.cell? (a.add i) = some (.slice A' l.length c') ∧ Ints W W.heap.size A' c' l ∧ ∀ n ∈ l, (Lit.int .i64 n).wf = true) key
    have hlen : ((List.range len).map Z).length = len := by simp
    refine ⟨some a, m, (List.range len).map Z, by rw [hlen], ⟨fun hpos => ?_, by rw [hlen]; exact hl, hm⟩, fun l hlm n hn => ?_⟩
    · rw [hlen] at hpos
      obtain ⟨b, off, spot⟩ := a
      obtain ⟨_, _, h0, _⟩ := hZ 0 (by omega)
      have hspot : spot = none := by simpa [Addr.add] using World.cell?_spot h0
      subst hspot
      refine ⟨b, off, rfl, by simpa [addr_add] using block_lt_of_cell h0, fun j l hjl => ?_⟩
      have hj : j < len := by have := (List.getElem?_eq_some_iff.1 hjl).1; rwa [hlen] at this
      have : Z j = l := by simpa [hj] using hjl
      subst this
      obtain ⟨A', c', h1, h2, _⟩ := hZ j (by omega)
      rw [addr_add] at h1
      exact ⟨A', c', h1, h2⟩
    · obtain ⟨i, hi', rfl⟩ := List.mem_map.1 hlm
      obtain ⟨_, _, _, _, hw⟩ := hZ i (by have := List.mem_range.1 hi'; omega)
      exact hw n hn
theorem rows_of {t e ti : TypeId} {A : Option Addr} {n c : Nat} {d : DataW H} {ps : List MemPlace} (ht : P.underlying t = some (.slice e)) (he : P.underlying e = some (.slice ti)) (hi : P.underlying ti = some (.int .i64)) (hc1 : P.cellsOf e = 1) (hc : P.cellsOf ti = 1)
    (h : DataW.Trod enc P W 0 (fun _ => true) true t (.slice A n c) d ps) : ∃ L : List (List Int), n = L.length ∧ Rows2 W W.heap.size A c L ∧ ∀ l ∈ L, ∀ n ∈ l, (Lit.int .i64 n).wf = true := by
  obtain ⟨fuel, hf⟩ := h
  obtain ⟨A', c', l, e, h1, h2⟩ := rows_in ht he hi hc1 hc hf
  injection e with e1 e2 e3
  subst e1 e2 e3
  exact ⟨l, rfl, h1, h2⟩
end
end Go.Proofs.YtaijpiebjhhkjaaGreatDoor
