/- Nets for the laws: lengths as letters, nets written out. -/
import Derived.Test.YthffjnfnfddpdaaNetDrop
import Derived.Test.YthffjnfnfddpdaaNetAdd
import Derived.Test.YthffjnfnfddpdaaNetSame
namespace Go.Proofs.Ythffjnfnfddpdaa
open Go.RowKit
theorem Ints.blk {w : World} {g : Nat} {t : TypeId} {l : List Int} {B : Nat} (h : Blk w g t (l.map (Value.int .i64)).toArray) (hB : g < B) (hl : l.length ≤ 1000000) : Ints w B (some ⟨g, 0, none⟩) l.length l :=
  ⟨⟨by simp, fun _ => ⟨g, 0, rfl, hB, fun j u hu => by rw [Nat.zero_add, h.cell j]; simpa using hu⟩⟩, Nat.le_refl _, by simp only [maxLen]; omega⟩
theorem Rows2.blk1 {w : World} {g c1 : Nat} {t : TypeId} {A1 : Option Addr} {l1 : List Int} {B : Nat} (h : Blk w g t #[.slice A1 l1.length c1]) (h1 : Ints w B A1 c1 l1) (hB : g < B) : Rows2 w B (some ⟨g, 0, none⟩) 1 [l1] :=
  ⟨fun _ => ⟨g, 0, rfl, hB, fun j l hl => by
    cases j with
    | zero => simp at hl; subst hl; exact ⟨A1, c1, h.cell 0, h1⟩
    | succ j => simp at hl⟩, Nat.le_refl _, by simp [maxLen]⟩
theorem Rows2.blk2 {w : World} {g c1 c2 : Nat} {t : TypeId} {A1 A2 : Option Addr} {l1 l2 : List Int} {B : Nat} (h : Blk w g t #[.slice A1 l1.length c1, .slice A2 l2.length c2]) (h1 : Ints w B A1 c1 l1) (h2 : Ints w B A2 c2 l2) (hB : g < B) : Rows2 w B (some ⟨g, 0, none⟩) 2 [l1, l2] :=
  ⟨fun _ => ⟨g, 0, rfl, hB, fun j l hl => by
    match j, hl with
    | 0, hl => simp at hl; subst hl; exact ⟨A1, c1, h.cell 0, h1⟩
    | 1, hl => simp at hl; subst hl; exact ⟨A2, c2, h.cell 1, h2⟩
    | j + 2, hl => simp at hl⟩, Nat.le_refl _, by simp [maxLen]⟩
theorem Rows2.blk3 {w : World} {g c1 c2 c3 : Nat} {t : TypeId} {A1 A2 A3 : Option Addr} {l1 l2 l3 : List Int} {B : Nat} (h : Blk w g t #[.slice A1 l1.length c1, .slice A2 l2.length c2, .slice A3 l3.length c3]) (h1 : Ints w B A1 c1 l1) (h2 : Ints w B A2 c2 l2) (h3 : Ints w B A3 c3 l3) (hB : g < B) : Rows2 w B (some ⟨g, 0, none⟩) 3 [l1, l2, l3] :=
  ⟨fun _ => ⟨g, 0, rfl, hB, fun j l hl => by
    match j, hl with
    | 0, hl => simp at hl; subst hl; exact ⟨A1, c1, h.cell 0, h1⟩
    | 1, hl => simp at hl; subst hl; exact ⟨A2, c2, h.cell 1, h2⟩
    | 2, hl => simp at hl; subst hl; exact ⟨A3, c3, h.cell 2, h3⟩
    | j + 3, hl => simp at hl⟩, Nat.le_refl _, by simp [maxLen]⟩
theorem firstFrom_snoc {f : Nat → Int} {n : Nat} : firstFrom f (n + 1) 0 = if firstFrom f n 0 = 0 then f n else firstFrom f n 0 := by
  have key : ∀ (n i : Nat), firstFrom f (n + 1) i = if firstFrom f n i = 0 then f (i + n) else firstFrom f n i := by
    intro n
    induction n with
    | zero => intro i; simp only [firstFrom]; split <;> rename_i h <;> simp [h]
    | succ n ih =>
      intro i
      rw [firstFrom, ih (i + 1)]
      rw [show i + 1 + n = i + (n + 1) by omega]
      conv => rhs; rw [firstFrom]
      by_cases h : f i = 0
      · simp only [if_pos h]
      · simp only [if_neg h]
  have := key n 0
  rwa [Nat.zero_add] at this
theorem netErr_snoc {caps : List Int} {paths : List (List Int)} {p : List Int} (h : netErr caps paths = 0) (h6 : paths.length ≠ 6) (hp : pathErr caps.length p = 0) : netErr caps (paths ++ [p]) = 0 := by
  obtain ⟨k0, k1, k2, k3, _, _⟩ := netErr_ok h
  unfold netErr at h ⊢
  rw [if_neg (by omega), if_neg (by omega)] at h
  have hla : (paths ++ [p]).length = paths.length + 1 := by simp
  rw [if_neg (by omega), if_neg (by omega)]
  split at h
  · rename_i hl
    rw [if_pos hl, Nat.sub_zero, hla]
    rw [firstFrom_snoc]
    have hc : firstFrom (fun i => pathErr caps.length ((paths ++ [p]).getD i [])) paths.length 0 = 0 := by
      rw [Nat.sub_zero] at h
      rw [← h]
      refine firstFrom_congr fun j _ hj => ?_
      rw [List.getD_eq_getElem?_getD, List.getD_eq_getElem?_getD, List.getElem?_append_left (by omega)]
    rw [if_pos hc]
    simpa using hp
  · rename_i hl; exact absurd h hl
theorem addErr_ok {caps : List Int} {paths : List (List Int)} {p : List Int} (h : addErr caps paths p = 0) : netErr caps paths = 0 ∧ paths.length ≠ 6 ∧ pathErr caps.length p = 0 ∧ netErr caps (paths ++ [p]) = 0 := by
  unfold addErr at h
  split at h
  · rename_i h1
    split at h
    · omega
    · rename_i h2; exact ⟨h1, h2, h, netErr_snoc h1 h2 h⟩
  · rename_i h1; exact absurd h h1
theorem add_yes' (C : Option Addr) (cc : Nat) (caps : List Int) (P : Option Addr) (cp : Nat) (paths : List (List Int)) (A : Option Addr) (c : Nat) (path : List Int) (B : Nat) (w : World) (hB : B ≤ w.heap.size)
    (hc : Ints w B C cc caps) (hp : Rows2 w B P cp paths) (hi : Ints w B A c path) (he : addErr caps paths path = 0) :
    Calls Try.prog 35 #[.agg #[.slice C caps.length cc, .slice P paths.length cp], .slice A path.length c] w fun e w' => ∃ C1 cc1 P1 cp1, e = .returned (.tuple #[.agg #[.slice C1 caps.length cc1, .slice P1 (paths.length + 1) cp1], .nilIface]) ∧ Ints w' w'.heap.size C1 cc1 caps ∧ Rows2 w' w'.heap.size P1 cp1 (paths ++ [path]) ∧ Below w.heap.size w w' := by
  refine (add_yes C cc caps P cp paths A c path B w hB hc hp hi he).mono ?_
  rintro e w' ⟨nv, he, hn, hb⟩
  obtain ⟨C1, cc1, P1, cp1, rfl, h1, h2⟩ := hn.ex
  exact ⟨C1, cc1, P1, cp1, by rw [he, List.length_append]; rfl, h1, h2, hb⟩
theorem drop_yes' (C : Option Addr) (cc : Nat) (caps : List Int) (P : Option Addr) (cp : Nat) (paths L' : List (List Int)) (f m : Nat) (B : Nat) (w : World) (hB : B ≤ w.heap.size)
    (hc : Ints w B C cc caps) (hp : Rows2 w B P cp paths) (hn : netErr caps paths = 0) (hf : f < paths.length) (h2 : paths.length ≠ 1) (hm : m = paths.length) (hL : paths.eraseIdx f = L') :
    Calls Try.prog 36 #[.agg #[.slice C caps.length cc, .slice P m cp], .int .i64 f] w fun e w' => ∃ C1 cc1 P1 cp1, e = .returned (.tuple #[.agg #[.slice C1 caps.length cc1, .slice P1 L'.length cp1], .nilIface]) ∧ Ints w' w'.heap.size C1 cc1 caps ∧ Rows2 w' w'.heap.size P1 cp1 L' ∧ Below w.heap.size w w' := by
  subst hm hL
  refine (drop_yes C cc caps P cp paths f B w hB hc hp hn hf h2).mono ?_
  rintro e w' ⟨nv, he, hn, hb⟩
  obtain ⟨C1, cc1, P1, cp1, rfl, h1, h2⟩ := hn.ex
  exact ⟨C1, cc1, P1, cp1, he, h1, h2, hb⟩
theorem users_yes' (C : Option Addr) (cc : Nat) (caps : List Int) (P : Option Addr) (cp m : Nat) (paths : List (List Int)) (link : Int) (u : List Nat) (n : Nat) (B : Nat) (w : World) (hB : B ≤ w.heap.size)
    (hc : Ints w B C cc caps) (hp : Rows2 w B P cp paths) (hm : m = paths.length) (he : usersErr caps paths link = 0) (hu : users paths link = u) (hn : u.length = n) :
    Calls Try.prog 34 #[.agg #[.slice C caps.length cc, .slice P m cp], .int .i64 link] w fun e w' => ∃ A c, e = .returned (.tuple #[.slice A n c, .nilIface]) ∧ Ints w' w'.heap.size A c (u.map fun (i : Nat) => (i : Int)) ∧ Below w.heap.size w w' := by
  subst hm hu hn
  refine (users_yes C cc caps P cp paths link B w hB hc hp he).mono ?_
  rintro e w' ⟨v, he, hv, hb⟩
  have hid : idxs (users paths link) = ((users paths link).map fun (i : Nat) => (i : Int)).map (Value.int .i64) := by simp [idxs]
  rw [hid] at hv
  obtain ⟨A, c, rfl, hn, hi⟩ := owns_ints hv
  exact ⟨A, c, by rw [he, ← hn], hi, hb⟩
theorem users_no' (C : Option Addr) (cc : Nat) (caps : List Int) (P : Option Addr) (cp m : Nat) (paths : List (List Int)) (link : Int) (B : Nat) (w : World) (er : Int) (hB : B ≤ w.heap.size)
    (hc : Ints w B C cc caps) (hp : Rows2 w B P cp paths) (hm : m = paths.length) (he : usersErr caps paths link = er) (h0 : er ≠ 0) :
    Calls Try.prog 34 #[.agg #[.slice C caps.length cc, .slice P m cp], .int .i64 link] w fun e w' => e = .returned (.tuple #[.slice none 0 0, .iface 103 (.int .i64 er)]) ∧ Below w.heap.size w w' := by
  subst hm; exact users_no C cc caps P cp paths link B w er hB hc hp he h0
theorem users_snoc_yes {paths : List (List Int)} {p : List Int} {x : Int} (h : inL p x = true) : users (paths ++ [p]) x = users paths x ++ [paths.length] := by
  unfold users
  rw [List.length_append]
  show usersTo _ x (paths.length + 1) = _
  rw [usersTo_yes (l := p) (by simp) h]
  congr 1
  unfold usersTo
  refine List.filter_congr fun f hf => ?_
  have := List.mem_range.1 hf
  rw [List.getD_eq_getElem?_getD, List.getD_eq_getElem?_getD, List.getElem?_append_left this]
theorem users_snoc_no {paths : List (List Int)} {p : List Int} {x : Int} (h : inL p x = false) : users (paths ++ [p]) x = users paths x := by
  unfold users
  rw [List.length_append]
  show usersTo _ x (paths.length + 1) = _
  rw [usersTo_no (l := p) (by simp) h]
  unfold usersTo
  refine List.filter_congr fun f hf => ?_
  have := List.mem_range.1 hf
  rw [List.getD_eq_getElem?_getD, List.getD_eq_getElem?_getD, List.getElem?_append_left this]
theorem erase_last {α : Type} (l : List α) (x : α) : (l ++ [x]).eraseIdx l.length = l := by
  rw [List.eraseIdx_append_of_length_le (Nat.le_refl _)]; simp
end Go.Proofs.Ythffjnfnfddpdaa
