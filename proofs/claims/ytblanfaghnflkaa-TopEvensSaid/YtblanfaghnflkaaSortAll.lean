/- slices.SortStableFunc over a row of indexes, at most six. -/
import Derived.Test.YtblanfaghnflkaaSortIns
namespace Go.Proofs.Ytblanfaghnflkaa
open Go.RowKit
set_option maxHeartbeats 2000000 in
set_option maxRecDepth 100000 in
theorem stable_any (key : Nat → Int) (cf : Nat → Nat → Int) (n g cap base : Nat) (f : FuncId) (cb : Array Value) (w : World) (hn : 0 < n) (hn6 : n ≤ 6) (hrow : Row base n g cap (List.range n) w)
    (hcf : ∀ (a : Array Value) (W : World), (callFunc f a).run Try.prog W = .ok (.enter f a) W) (hcmp : Compares key cf n base f cb w) (hbg : base ≤ g) (hbw : base ≤ w.heap.size) :
    Calls Try.prog 87 #[.slice (some ⟨g, 0, none⟩) n cap, .int .i64 n, .func (Fn.func f) #[] cb] w fun e w' =>
      e = .returned (.tuple #[]) ∧ ∃ o, PR.Ord key n o ∧ Row base n g cap o w' ∧ w.grownBy w' (some g) := by
  have HI := Lib.hid (insertion_any key n g cap base f cb w hn (by omega) hrow hcf cf hcmp hbg hbw)
  clear hrow hcmp
  have hlt : ¬ (20 : Int) ≤ (n : Int) := by omega
  have hlt2 : ¬ (20 : Int) < (n : Int) := by omega
  go_enter Try.func87, Try.ntmps87
  go_wp2
  refine wp_loop_rounds 1 ?_
  rw [rounds_succ]
  go_wp2_with fail
  refine HI.out.mono ?_; rintro e w' ⟨rfl, o, h1, h2, h3⟩
  have H1 := Lib.hid h1
  have H2 := Lib.hid h2
  have H3 := Lib.hid h3
  clear h1 h2 h3
  go_wp2
  refine wp_loop_rounds 1 ?_
  rw [rounds_succ]
  go_wp2
  go_end0
  exact ⟨rfl, o, H1.out, H2.out, H3.out⟩
set_option maxHeartbeats 2000000 in
theorem sortStable_any (key : Nat → Int) (cf : Nat → Nat → Int) (n g cap base : Nat) (f : FuncId) (cb : Array Value) (w : World) (hn : 0 < n) (hn6 : n ≤ 6) (hrow : Row base n g cap (List.range n) w)
    (hcf : ∀ (a : Array Value) (W : World), (callFunc f a).run Try.prog W = .ok (.enter f a) W) (hcmp : Compares key cf n base f cb w) (hbg : base ≤ g) (hbw : base ≤ w.heap.size) :
    Calls Try.prog 61 #[.slice (some ⟨g, 0, none⟩) n cap, .func (Fn.func f) #[] cb] w fun e w' =>
      e = .returned (.tuple #[]) ∧ ∃ o, PR.Ord key n o ∧ Row base n g cap o w' ∧ w.grownBy w' (some g) := by
  have HI := Lib.hid (stable_any key cf n g cap base f cb w hn hn6 hrow hcf hcmp hbg hbw)
  clear hrow hcmp
  go_enter Try.func61, Try.ntmps61
  go_wp2_with fail
  refine HI.out.mono ?_; rintro e w' ⟨rfl, o, h1, h2, h3⟩
  have H1 := Lib.hid h1
  have H2 := Lib.hid h2
  have H3 := Lib.hid h3
  clear h1 h2 h3
  go_wp2
  go_end0
  exact ⟨rfl, o, H1.out, H2.out, H3.out⟩
/-- the comparing function of shuffle.Step: its captured cell holds the shares -/
theorem less_cmp (x y : Int) : cmpI x y < 0 ↔ x < y := by
  unfold cmpI
  by_cases h : x < y
  · rw [if_pos h]; simp [h]
  · rw [if_neg h]
    by_cases h2 : y < x
    · rw [if_pos h2]; omega
    · rw [if_neg h2]; omega
set_option maxHeartbeats 1000000 in
theorem shufcmp_any (A : Option Addr) (c : Nat) (l : List Int) (B g : Nat) (w : World) (h : Ints w B A c l) (hc : w.cell? ⟨g, 0, none⟩ = some (.slice A l.length c)) (x y : Nat) (hx : x < l.length) (hy : y < l.length) :
    Calls Try.prog 62 (#[.int .i64 x, .int .i64 y] ++ #[.pointer (some ⟨g, 0, none⟩)]) w fun e w' => e = .returned (.int .i64 (cmpI (l.getD x 0) (l.getD y 0))) ∧ ∃ q, w' = w.drewN q := by
  show Calls Try.prog 62 #[.int .i64 x, .int .i64 y, .pointer (some ⟨g, 0, none⟩)] w _
  have hm := Nat.le_trans h.le h.cap
  unfold maxLen at hm
  obtain ⟨b, off, rfl, _, hcell⟩ := h.at_ hx
  have cx := hcell x hx
  have cy := hcell y hy
  generalize l.getD x 0 = vx at *
  generalize l.getD y 0 = vy at *
  clear h hcell
  have hx0 : (0 : Int) ≤ (x : Int) := by omega
  have hx1 : (x : Int) < l.length := by omega
  have hy0 : (0 : Int) ≤ (y : Int) := by omega
  have hy1 : (y : Int) < l.length := by omega
  go_enter Try.func62, Try.ntmps62
  go_wp2
  go_quiet ((go_at_call 63; exact Calls.quiet_of_same ((cmp_any vx vy _).mono fun _ _ ⟨h1, h2⟩ => ⟨h1, h2.symm⟩)))
  go_wp2
  go_ret
  exact ⟨rfl, _, rfl⟩
set_option maxHeartbeats 1000000 in
theorem givecmp_any (A : Option Addr) (c : Nat) (l : List Int) (B g : Nat) (w : World) (h : Ints w B A c l) (hc : w.cell? ⟨g, 0, none⟩ = some (.slice A l.length c)) (x y : Nat) (hx : x < l.length) (hy : y < l.length) :
    Calls Try.prog 92 (#[.int .i64 x, .int .i64 y] ++ #[.pointer (some ⟨g, 0, none⟩)]) w fun e w' => e = .returned (.int .i64 (cmpI (l.getD y 0) (l.getD x 0))) ∧ ∃ q, w' = w.drewN q := by
  show Calls Try.prog 92 #[.int .i64 x, .int .i64 y, .pointer (some ⟨g, 0, none⟩)] w _
  have hm := Nat.le_trans h.le h.cap
  unfold maxLen at hm
  obtain ⟨b, off, rfl, _, hcell⟩ := h.at_ hx
  have cx := hcell x hx
  have cy := hcell y hy
  generalize l.getD x 0 = vx at *
  generalize l.getD y 0 = vy at *
  clear h hcell
  have hx0 : (0 : Int) ≤ (x : Int) := by omega
  have hx1 : (x : Int) < l.length := by omega
  have hy0 : (0 : Int) ≤ (y : Int) := by omega
  have hy1 : (y : Int) < l.length := by omega
  go_enter Try.func92, Try.ntmps92
  go_wp2
  go_quiet ((go_at_call 63; exact Calls.quiet_of_same ((cmp_any vy vx _).mono fun _ _ ⟨h1, h2⟩ => ⟨h1, h2.symm⟩)))
  go_wp2
  go_ret
  exact ⟨rfl, _, rfl⟩
theorem shufcmp_cf (a : Array Value) (W : World) : (callFunc 62 a).run Try.prog W = .ok (.enter 62 a) W := by kernel_rfl
theorem givecmp_cf (a : Array Value) (W : World) : (callFunc 92 a).run Try.prog W = .ok (.enter 92 a) W := by kernel_rfl
theorem incs_cell {w : World} {base g cap n t b : Nat} {f : Nat → Int} {key : Nat → Int} (h : w.ownsRow base 3 1 (.slice (some ⟨g, 0, none⟩) n cap) n ((PR.incs f key n t).map (Value.int .i64))) (hb : b < n) (hr : PR.rank key n b = t) :
    w.cell? ⟨g, b, none⟩ = some (.int .i64 (f b)) ∧ w.frozen? ⟨g, b, none⟩ = false ∧ (w.setCell ⟨g, b, none⟩ (.int .i64 (f b + 1))).ownsRow base 3 1 (.slice (some ⟨g, 0, none⟩) n cap) n ((PR.incs f key n (t + 1)).map (Value.int .i64)) := by
  have h1 := h.cellAt b (by omega)
  rw [List.getElem?_map, PR.incs_at hb hr] at h1
  have h2 := (h.stored b (.int .i64 (f b + 1))).1
  rw [← List.map_set, PR.incs_set hb hr] at h2
  exact ⟨h1, h.frozenAt b, h2⟩
end Go.Proofs.Ytblanfaghnflkaa
