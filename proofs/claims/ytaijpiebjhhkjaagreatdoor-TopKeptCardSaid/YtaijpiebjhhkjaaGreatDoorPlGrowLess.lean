/- One more helps not the weakest: plain. -/
import Derived.Test.YtaijpiebjhhkjaaGreatDoorPlRounds
import Derived.Test.YtaijpiebjhhkjaaGreatDoorPlSortQ
namespace Go.Proofs.YtaijpiebjhhkjaaGreatDoor
def skip (k f : Nat) : Nat := if f < k then f else f + 1
theorem sm_skip (g : Nat → Rat) (k : Nat) : ∀ n, k ≤ n → MM.sm g (n + 1) = MM.sm (fun f => g (skip k f)) n + g k
  | 0, h => by
    obtain rfl : k = 0 := by omega
    rfl
  | n + 1, h => by
    by_cases e : k = n + 1
    · subst e
      have e1 : MM.sm (fun f => g (skip (n + 1) f)) (n + 1) = MM.sm g (n + 1) := MM.sm_congr _ fun f hf => by unfold skip; rw [if_pos hf]
      rw [e1]; rfl
    · have ih := sm_skip g k n (by omega)
      have e1 : MM.sm g (n + 1 + 1) = MM.sm g (n + 1) + g (n + 1) := rfl
      have e2 : MM.sm (fun f => g (skip k f)) (n + 1) = MM.sm (fun f => g (skip k f)) n + g (skip k n) := rfl
      have e3 : skip k n = n + 1 := by unfold skip; rw [if_neg (by omega)]
      rw [e1, e2, e3, ih]; grind
theorem erase_at {paths : List (List Int)} {k f : Nat} : (paths.eraseIdx k).getD f [] = paths.getD (skip k f) [] := by
  unfold skip
  rw [List.getD_eq_getElem?_getD, List.getD_eq_getElem?_getD, List.getElem?_eraseIdx]
  split <;> rfl
theorem lst_of {R : List Rat} {n : Nat} (h : R.length = n) : MM.lst (fun f => R.getD f 0) n = R := by
  unfold MM.lst
  apply List.ext_getElem
  · simp [h]
  · intro i h1 h2; simp [List.getD_eq_getElem?_getD, h2]
theorem srt_head {Q : List Rat} (h : 0 < Q.length) : ∃ m, (MM.srt Q)[0]? = some m := by
  have : 0 < (MM.srt Q).length := by rw [QS.srt_len]; exact h
  exact ⟨_, List.getElem?_eq_getElem this⟩
theorem least_erase {caps : List Int} {paths : List (List Int)} {k K K' : Nat} {R R' : List Rat} {m m' : Rat} (ok' : NetOk caps paths) (ok : NetOk caps (paths.eraseIdx k)) (hk : k < paths.length) (h' : FillEnds caps paths K' R') (h : FillEnds caps (paths.eraseIdx k) K R)
    (hm' : (MM.srt R')[0]? = some m') (hm : (MM.srt R)[0]? = some m) : m' ≤ m := by
  have hl' := h'.len ok'
  have hl := h.len ok
  obtain ⟨n, hn⟩ : ∃ n, paths.length = n + 1 := ⟨paths.length - 1, by omega⟩
  have hel : (paths.eraseIdx k).length = n := by rw [List.length_eraseIdx, if_pos hk]; omega
  rw [hel] at hl
  have hfits : ∀ l, l < (netOf caps (paths.eraseIdx k)).L → (netOf caps (paths.eraseIdx k)).load (fun f => R'.getD (skip k f) 0) l ≤ (netOf caps (paths.eraseIdx k)).cap l := fun l hlt => by
    refine Rat.le_trans ?_ ((h'.fair ok').1.cap l hlt)
    show MM.sm (fun f => if inL ((paths.eraseIdx k).getD f []) (l : Int) = true then R'.getD (skip k f) 0 else 0) (paths.eraseIdx k).length ≤ MM.sm (fun f => if inL (paths.getD f []) (l : Int) = true then R'.getD f 0 else 0) paths.length
    rw [hel, hn, sm_skip _ k n (by omega)]
    have e : MM.sm (fun f => if inL ((paths.eraseIdx k).getD f []) (l : Int) = true then R'.getD (skip k f) 0 else 0) n = MM.sm (fun f => if inL (paths.getD (skip k f) []) (l : Int) = true then R'.getD (skip k f) 0 else 0) n := MM.sm_congr _ fun f hf => by rw [erase_at]
    rw [e]
    have hnn : 0 ≤ R'.getD k 0 := (h'.fair ok').1.nn k hk
    split <;> grind
  have hb := MM.best (h.fair ok) hfits
  have hF : (netOf caps (paths.eraseIdx k)).F = n := hel
  rw [hF, lst_of hl] at hb
  have hn0 : 0 < n := by have := ok.F0; omega
  obtain ⟨y, hy⟩ := srt_head (Q := MM.lst (fun f => R'.getD (skip k f) 0) n) (by simp [MM.lst]; exact hn0)
  have h1 := QS.lex_head hb hy hm
  obtain ⟨hy1, _⟩ := QS.head_le hy
  obtain ⟨_, h2⟩ := QS.head_le hm'
  unfold MM.lst at hy1
  obtain ⟨f, hf, e⟩ := List.mem_map.1 hy1
  have hf := List.mem_range.1 hf
  have hs : skip k f < R'.length := by unfold skip; split <;> omega
  have := h2 y (by rw [← e, List.getD_eq_getElem?_getD, List.getElem?_eq_getElem hs]; exact List.getElem_mem hs)
  exact Rat.le_trans this h1
theorem wider_lex {caps caps' : List Int} {paths : List (List Int)} {K K' : Nat} {R R' : List Rat} (ok : NetOk caps paths) (ok' : NetOk caps' paths) (hc : caps'.length = caps.length) (hle : ∀ l, capQ caps l ≤ capQ caps' l) (h : FillEnds caps paths K R) (h' : FillEnds caps' paths K' R') : 0 ≤ MM.lex (MM.srt R') (MM.srt R) := by
  have hl := h.len ok
  have hl' := h'.len ok'
  have hb := MM.best (x := fun f => R'.getD f 0) (r := fun f => R.getD f 0) (h'.fair ok') (fun l hlt => by
    have h1 := (h.fair ok).1.cap l (by have : l < caps'.length := hlt; show l < caps.length; omega)
    have h2 := hle l
    exact Rat.le_trans h1 h2)
  have hF : (netOf caps' paths).F = paths.length := rfl
  rw [hF, lst_of hl, lst_of hl', MM.lex_anti] at hb
  omega
/-- of all that fit those that rise together are best -/
theorem fill_best {caps : List Int} {paths : List (List Int)} {K : Nat} {R Q L : List Rat} (ok : NetOk caps paths) (h : FillEnds caps paths K R) (hl : Q.length = paths.length) (hL : loadsTo paths Q caps.length = some L) (hf : fitsB caps Q L = true) : MM.lex (MM.srt Q) (MM.srt R) ≤ 0 := by
  have hRl := h.len ok
  have hfit := (fitsB_iff hL hl).1 hf
  have hb := MM.best (x := fun f => R.getD f 0) (r := rateOf Q) (h.fair ok) hfit.cap
  have hF : (netOf caps paths).F = paths.length := rfl
  rw [hF, lst_of hRl] at hb
  have e : MM.lst (rateOf Q) paths.length = Q := lst_of hl
  rw [e] at hb
  exact hb
end Go.Proofs.YtaijpiebjhhkjaaGreatDoor
