/- slices.Clone over ints. -/
import Derived.Test.YthffjnfnfddpdaaOwn
import Derived.WalkSpells
namespace Go.Proofs.Ythffjnfnfddpdaa
open Go.RowKit
set_option maxHeartbeats 400000 in
set_option maxRecDepth 100000 in
theorem clone_any (A : Option Addr) (c : Nat) (l : List Int) (B : Nat) (w : World) (h : Ints w B A c l) (hl : l.length ≤ 1000000) (hB : B ≤ w.heap.size) :
    Calls Try.prog 68 #[.slice A l.length c] w fun e w' => ∃ v, e = .returned v ∧ w'.ownsRow w.heap.size 3 1 v l.length (l.map (Value.int .i64)) ∧ Below w.heap.size w w' := by
  cases A with
  | none =>
    have hn : l = [] := by
      cases hl' : l with
      | nil => rfl
      | cons x l' =>
        obtain ⟨b, off, e, _⟩ := h.rd.2 (by rw [hl']; simp)
        cases e
    subst hn
    have hE : ∀ W : World, (binOp .eql 38 (.slice none 0 c) (.slice none 0 0)).run Try.prog W = .ok (.bool true) W := fun W => Lib.run_eql_slice_nil (P := Try.prog) W 38 3 none 0 c 0 0 Try.underlying38
    go_enter Try.func68, Try.ntmps68
    go_wp2
    go_ret
    exact ⟨_, rfl, World.ownsRow_nil _ _ _ _, Below.refl _ _⟩
  | some ad =>
    have H := Lib.hid h; clear h
    obtain ⟨i0, hi0, hz0, hz1, hz2⟩ := info_parts Try.info_int
    have hcell : ∀ W : World, Below w.heap.size w W → ∀ j u, (l.map (Value.int .i64))[j]? = some u → W.cell? (ad.add j) = some u := fun W hW j u hu => by
      have hr := (H.out.rd).below' hW hB
      have hj : j < l.length := by
        have := (List.getElem?_eq_some_iff.1 hu).1
        simpa using this
      obtain ⟨b, off, e, _, hc⟩ := hr.2 (by omega)
      injection e with e
      subst e
      have hadd : (⟨b, off, none⟩ : Addr).add j = ⟨b, off + j, none⟩ := by unfold Addr.add; split <;> simp_all
      rw [hadd]; exact hc j u hu
    have HC := Lib.hid hcell; clear hcell
    have hbel : Below w.heap.size w (w.alloc (.cells #[] 3)) := (Below.refl _ _).alloc (Nat.le_refl _) _
    have hown := World.ownsRow_made (base := w.heap.size) (e := 3) (size := 1) w #[] 0 (Nat.le_refl _) (by simp [maxLen]) (by simp)
    have HO := Lib.hid hown; clear hown
    have hE : ∀ W : World, (binOp .eql 38 (.slice (some ad) l.length c) (.slice none 0 0)).run Try.prog W = .ok (.bool false) W := fun W => Lib.run_eql_slice_nil (P := Try.prog) W 38 3 (some ad) l.length c 0 0 Try.underlying38
    go_enter Try.func68, Try.ntmps68
    go_wp2_with (at_builtin; refine wpList_append_own _ rfl (.tmp 5) (.tmp 6) 38 rfl w.heap.size 3 i0 (.int .i64 0) 1 8 Try.underlying38 hi0 hz0 hz1 hz2 rfl (by omega) _ 0 [] rfl HO.out ad l.length c (l.map (Value.int .i64)) rfl (by simp) (HC.out _ hbel) ?ones (by simp only [maxLen]; omega) (by omega) (by simp) ?_)
    case ones =>
      intro u hu
      obtain ⟨x, _, rfl⟩ := List.mem_map.1 hu
      rfl
    intro v' w' hown hgrow _
    go_wp2
    go_ret
    refine ⟨_, rfl, by simpa using hown, hbel.grown hgrow (by simp) (fun k hk => ?_)⟩
    simp [Value.ownBlock] at hk
    omega
end Go.Proofs.Ythffjnfnfddpdaa
