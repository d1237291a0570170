/- Several texts in one: Load1, Load2. -/
import Derived.Test.YtaijpiebjhhkjaaDoorLibN
import Derived.Test.YtaijpiebjhhkjaaDoorLibF
import Derived.Test.YtaijpiebjhhkjaaDoorLibP
import Derived.Test.YtaijpiebjhhkjaaDoorLibA
import Derived.Deep.RegionHeld3
import Derived.Deep.DeepCutAuto
/- load.check: what is wrong with a net, and rates. -/
namespace Go.Proofs.YtaijpiebjhhkjaaDoor
open Go.RowKit
theorem ncheck_ok (C : Option Addr) (cc : Nat) (caps : List Int) (P : Option Addr) (cp : Nat) (paths : List (List Int)) (B : Nat) (w : World) (hB : B ≤ w.heap.size) (hc : Ints w B C cc caps) (hp : Rows2 w B P cp paths) (h : netErr caps paths = 0) :
    Calls Tryd.prog 36 #[.agg #[.slice C caps.length cc, .slice P paths.length cp]] w fun e w' => e = .returned .nilIface ∧ Below w.heap.size w w' := by
  have := ncheck_all C cc caps P cp paths B w hB hc hp
  rwa [h, errVal_zero] at this
theorem ncheck_er (C : Option Addr) (cc : Nat) (caps : List Int) (P : Option Addr) (cp : Nat) (paths : List (List Int)) (B : Nat) (w : World) (er : Int) (hB : B ≤ w.heap.size) (hc : Ints w B C cc caps) (hp : Rows2 w B P cp paths) (h : netErr caps paths = er) (h0 : er ≠ 0) :
    Calls Tryd.prog 36 #[.agg #[.slice C caps.length cc, .slice P paths.length cp]] w fun e w' => e = .returned (.iface 50 (.int .i64 er)) ∧ Below w.heap.size w w' := by
  have := ncheck_all C cc caps P cp paths B w hB hc hp
  rwa [h, errVal_pos h0] at this
end Go.Proofs.YtaijpiebjhhkjaaDoor
/- load.Of: how much goes over each link. -/
namespace Go.Proofs.YtaijpiebjhhkjaaDoor
open Go.RowKit
def qcells (L : List Rat) : List Value := frCells (L.map frQ)
theorem qcells_snoc (L : List Rat) (s : Rat) : qcells (L ++ [s]) = qcells L ++ [.int .i64 s.num, .int .i64 s.den] := by
  unfold qcells; rw [List.map_append, frCells_append]; rfl
theorem idxs_mapL (us : List Nat) : idxs us = (us.map fun (i : Nat) => (i : Int)).map (Value.int .i64) := by simp [idxs]
theorem frs_q {w : World} {B : Nat} {A : Option Addr} {c : Nat} {Q : List Rat} (h : Frs w B A c (Q.map frQ)) {u : Nat} (hu : u < Q.length) :
    ∃ b off, A = some ⟨b, off, none⟩ ∧ b < B ∧ w.cell? ⟨b, off + u * 2, none⟩ = some (.int .i64 (Q.getD u 0).num) ∧ w.cell? ⟨b, off + u * 2 + 1, none⟩ = some (.int .i64 (Q.getD u 0).den) := by
  obtain ⟨b, off, s, e, hb, c0, c1, HX⟩ := h.elem (k := u) (by simpa using hu)
  have hx := HX.out
  rw [List.getElem?_map, List.getElem?_eq_getElem hu] at hx
  injection hx with hx
  have hg : Q.getD u 0 = Q[u] := by rw [List.getD_eq_getElem?_getD, List.getElem?_eq_getElem hu]; rfl
  subst hx
  rw [hg]
  exact ⟨b, off, e, hb, c0, c1⟩
theorem users_get {paths : List (List Int)} {x : Int} {us : List Nat} (h : users paths x = us) {j : Nat} (hj : j < us.length) : us.getD j 0 < paths.length ∧ us[j]? = some (us.getD j 0) ∧ us.take (j + 1) = us.take j ++ [us.getD j 0] := by
  have e : us.getD j 0 = us[j] := by rw [List.getD_eq_getElem?_getD, List.getElem?_eq_getElem hj]; rfl
  refine ⟨?_, by rw [e, List.getElem?_eq_getElem hj], ?_⟩
  · rw [e]
    exact (users_mem.1 (by rw [h]; exact List.getElem_mem hj)).1
  · rw [e, List.take_succ_eq_append_getElem hj]
theorem own_ints' {w : World} {base n c : Nat} {A : Option Addr} {l : List Int} (h : w.ownsRow base 3 1 (.slice A n c) n (l.map (Value.int .i64))) : Ints w w.heap.size A c l := by
  obtain ⟨A', c', e, _, hi⟩ := owns_ints h
  injection e with e1 _ e3
  subst e1 e3
  exact hi
theorem over_u (x : Int) (Cv : Value) (P : Option Addr) (cp m : Nat) (paths : List (List Int)) (us : List Nat) (B : Nat) (w : World) (hB : B ≤ w.heap.size) (hp : Rows2 w B P cp paths) (hn : paths.length ≤ 1000) (hu : users paths x = us) (hm : m = paths.length) :
    Calls Tryd.prog 81 #[.agg #[Cv, .slice P m cp], .int .i64 x] w fun e w' => ∃ A c, e = .returned (.slice A us.length c) ∧ w'.ownsRow w.heap.size 3 1 (.slice A us.length c) us.length ((us.map fun (i : Nat) => (i : Int)).map (Value.int .i64)) ∧ us.length ≤ c ∧ c ≤ maxLen ∧ Below w.heap.size w w' := by
  subst hu hm
  refine (over_any x Cv P cp paths B w hB hp hn).mono ?_
  rintro e w' ⟨v, rfl, hv, hb⟩
  rw [idxs_mapL] at hv
  obtain ⟨A, c, rfl, hn, hi⟩ := owns_ints hv
  have h1 := hi.le; have h2 := hi.cap
  rw [List.length_map] at h1 hv
  exact ⟨A, c, by rw [List.length_map], hv, h1, h2, hb⟩
end Go.Proofs.YtaijpiebjhhkjaaDoor
