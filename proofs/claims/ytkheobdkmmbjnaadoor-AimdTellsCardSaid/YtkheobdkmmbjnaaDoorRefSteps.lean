/- The reference's Steps of one up, all down. -/
import Derived.Test.YtkheobdkmmbjnaaDoorRefStep
namespace Go.Proofs.YtkheobdkmmbjnaaDoor
open Go.RowKit
theorem sres_some {l m : List Int} {limit up : Int} {b : Bool} (ok : AimdOk l limit up) (h : SRes l limit up = .ok (m, b)) : PA.step l limit up = some (m, b) := by
  unfold SRes at h; rw [if_neg (fun h => h ok)] at h
  cases e : PA.step l limit up
  · rw [e] at h; cases h
  · rw [e] at h; simp only [Except.ok.injEq] at h; rw [h]
theorem sres_none {l : List Int} {limit up er : Int} (ok : AimdOk l limit up) (h : SRes l limit up = .error er) : PA.step l limit up = none ∧ er = 4 := by
  unfold SRes at h; rw [if_neg (fun h => h ok)] at h
  cases e : PA.step l limit up
  · rw [e] at h; simp only [Except.error.injEq] at h; exact ⟨rfl, h.symm⟩
  · rw [e] at h; cases h
theorem refSteps_ticks (A : Option Addr) (c n : Nat) (limit up t : Int) (w : World) (ht : t < 0 ∨ 60 < t) :
    Calls Tryd.prog 54 #[.slice A n c, .int .i64 limit, .int .i64 up, .int .i64 t] w fun e w' => e = .returned (.tuple #[.slice none 0 0, .int .i64 0, .int .i64 1]) ∧ w = w' := by
  rcases ht with h | h
  · go_enter Tryd.func54, Tryd.ntmps54
    go_wp2
    go_ret3
    exact ⟨rfl, rfl⟩
  · have h0 : ¬ t < 0 := by omega
    go_enter Tryd.func54, Tryd.ntmps54
    go_wp2
    go_ret3
    exact ⟨rfl, rfl⟩
theorem refSteps_no (A : Option Addr) (c : Nat) (l : List Int) (limit up t : Int) (w : World) (h : Ints w w.heap.size A c l) (no : ¬ AimdOk l limit up) (t0 : 0 ≤ t) (t1 : t ≤ 60) :
    Calls Tryd.prog 54 #[.slice A l.length c, .int .i64 limit, .int .i64 up, .int .i64 t] w fun e w' => e = .returned (.tuple #[.slice none 0 0, .int .i64 0, .int .i64 (aimdErr l limit up)]) ∧ w = w' := by
  have HC := Lib.hid (refStep_no A c l limit up w.heap.size w h no)
  have hm := Nat.le_trans h.le h.cap
  unfold maxLen at hm
  have hv : (aimdErr l limit up = 4 ∧ 6 < l.length) ∨ (aimdErr l limit up ≠ 4 ∧ aimdErr l limit up ≠ 0) := by
    unfold aimdErr
    split
    · exact .inr ⟨by omega, by omega⟩
    · split
      · exact .inl ⟨rfl, by assumption⟩
      · exact .inr ⟨by omega, by omega⟩
  clear h no
  generalize aimdErr l limit up = er at *
  rcases hv with ⟨rfl, h6⟩ | ⟨h4, h0⟩
  · go_enter Tryd.func54, Tryd.ntmps54
    go_wp2_with fail
    refine HC.out.mono ?_; rintro e w' ⟨rfl, rfl⟩
    go_wp2
    go_ret3
    exact ⟨rfl, rfl⟩
  · have e4 : (er != 4) = true := by rw [bne_iff_ne]; exact h4
    have e0 : (er != 0) = true := by rw [bne_iff_ne]; exact h0
    clear h4 h0
    go_enter Tryd.func54, Tryd.ntmps54
    go_wp2_with fail
    refine HC.out.mono ?_; rintro e w' ⟨rfl, rfl⟩
    go_wp2
    go_ret3
    exact ⟨rfl, rfl⟩
set_option maxHeartbeats 4000000 in
set_option maxRecDepth 100000 in
theorem refSteps_any (A : Option Addr) (c : Nat) (l : List Int) (limit up : Int) (n : Nat) (w : World) (h : Ints w w.heap.size A c l) (ok : AimdOk l limit up) (hn : n ≤ 60) :
    Calls Tryd.prog 54 #[.slice A l.length c, .int .i64 limit, .int .i64 up, .int .i64 n] w fun e w' => Below w.heap.size w w' ∧
      ((∃ m b, PA.steps limit up n l = some (m, b) ∧ ∃ v, e = .returned (.tuple #[v, .int .i64 b, .int .i64 0]) ∧ w'.ownsRow w.heap.size 3 1 v l.length (m.map (Value.int .i64))) ∨
       PA.steps limit up n l = none ∧ e = .returned (.tuple #[.slice none 0 0, .int .i64 0, .int .i64 4])) := by
  have HK := Lib.hid ok
  obtain ⟨⟨h0, hl, hbad⟩, g1, g2, g3, g4⟩ := ok
  have HB := Lib.hid (shares_in hbad); clear hbad
  have HG := Lib.hid (PA.good_steps l limit up (fun a ha => (HB.out a ha).1) (fun a ha => (HB.out a ha).2) (by omega))
  obtain ⟨ad, rfl⟩ : ∃ ad, A = some ad := by
    obtain ⟨b, off, e, _⟩ := h.at_ h0
    exact ⟨_, e⟩
  have H := Lib.hid h; clear h
  obtain ⟨i0, hi0, hz0, hz1, hz2⟩ := info_parts Tryd.info_int
  have HCELL : Hid (∀ W : World, Below w.heap.size w W → ∀ j u, (l.map (Value.int .i64))[j]? = some u → W.cell? (ad.add j) = some u) := Lib.hid fun W hW j u hu => by
    have hr := (H.out.rd).below' hW (Nat.le_refl _)
    have hj : j < l.length := by
      have := (List.getElem?_eq_some_iff.1 hu).1
      simpa using this
    obtain ⟨b, off, e, _, hc⟩ := hr.2 (by omega)
    injection e with e
    subst e
    have hadd : (⟨b, off, none⟩ : Addr).add j = ⟨b, off + j, none⟩ := by unfold Addr.add; split <;> simp_all
    rw [hadd]; exact hc j u hu
  go_enter Tryd.func54, Tryd.ntmps54
  go_wp2_with fail
  refine (refStep_all (some ad) c l limit up w H.out).mono ?_
  rintro e w1 ⟨hb1, ⟨m0, b0, hs0, v0, rfl, _⟩ | ⟨er, hs0, _, rfl⟩⟩
  · have HB1 := Lib.hid hb1
    clear hb1 hs0
    have hones : ∀ u ∈ l.map (Value.int .i64), u.oneCell' = true := fun u hu => by
      obtain ⟨x, _, rfl⟩ := List.mem_map.1 hu
      rfl
    have HONES := Lib.hid hones
    clear hones
    go_wp2_with (at_builtin; refine wpList_append_own _ rfl (.tmp 46) (.tmp 47) 42 rfl w.heap.size 3 i0 (.int .i64 0) 1 8 Tryd.underlying42 hi0 hz0 hz1 hz2 rfl (by omega) _ 0 [] rfl (World.ownsRow_nil _ _ _ _) ad l.length c (l.map (Value.int .i64)) rfl (by simp) (HCELL.out _ HB1.out) HONES.out (by simp only [maxLen]; omega) (by omega) HB1.out.size ?_)
    intro v' w2 hown hgrow _
    have hbel : Below w.heap.size w w2 := HB1.out.grown hgrow HB1.out.size (fun k hk => by simp [Value.ownBlock] at hk)
    have HO : Hid (w2.ownsRow w.heap.size 3 1 v' l.length (l.map (Value.int .i64))) := Lib.hid (by simpa using hown)
    clear hown hgrow
    go_wp2_with fail
    go_loopw [14, 15, 16] (fun v cc i wr => ∃ (k : Nat) (m : List Int) (b : Nat), k ≤ n ∧ i = .int .i64 k ∧ cc = .int .i64 b ∧ b ≤ k ∧ Hid (PA.steps limit up k l = some (m, b)) ∧ Hid (wr.ownsRow w.heap.size 3 1 v l.length (m.map (Value.int .i64))) ∧ Below w.heap.size w wr)
      (fun _ _ i _ => n - (intOf i).toNat)
    case atStart => exact ⟨0, l, 0, Nat.zero_le _, rfl, rfl, Nat.zero_le _, rfl, HO, hbel⟩
    case round =>
      obtain ⟨k, m, b, hk, rfl, rfl, hbk, HS, HR, hbel⟩ := hrel
      by_cases hlt : k < n
      · obtain ⟨G, _⟩ := HG.out k m b HS.out
        obtain ⟨A', c', rfl, hlen, hi⟩ := owns_ints HR.out
        have HI := Lib.hid hi; clear hi
        have HN : Hid (∀ r, PA.step m limit up = r → PA.steps limit up (k + 1) l = (match r with | none => none | some (m', q) => some (m', if q then b + 1 else b))) := by
          refine Lib.hid fun r hr => ?_
          show (match PA.steps limit up k l with | none => none | some (m, c) => match PA.step m limit up with | none => none | some (m', b) => some (m', if b then c + 1 else c)) = _
          rw [HS.out]; simp only [hr]
        have HMK : Hid (AimdOk m limit up) := Lib.hid ⟨⟨by rw [G.len]; omega, by rw [G.len]; omega, badShare_of fun a ha => ⟨G.nn a ha, G.le a ha⟩⟩, g1, g2, g3, g4⟩
        have HL := Lib.hid G.len
        clear G HS hlen
        go_wp2_with fail
        refine (refStep_all A' c' m limit up wr HI.out).mono ?_
        rintro e w3 ⟨hbel2, ⟨m', q, hst, v2, rfl, ho⟩ | ⟨er, hst, her, rfl⟩⟩
        · have HS := Lib.hid (HN.out _ (sres_some HMK.out hst)); clear HN hst
          have hbel2' := hbel.trans (hbel2.mono hbel.size)
          have HO2 : Hid (w3.ownsRow w.heap.size 3 1 v2 l.length (m'.map (Value.int .i64))) := by
            have := own_base ho hbel.size
            rwa [HL.out] at this
          clear ho hbel2
          cases q
          · go_wp2
            go_roundw
            case rel => exact ⟨k + 1, m', b, by omega, by go_num, rfl, by omega, HS, HO2, hbel2'⟩
            case measure => simp [intOf]; omega
          · go_wp2
            go_roundw
            case rel => exact ⟨k + 1, m', b + 1, by omega, by go_num, by go_num, by omega, HS, HO2, hbel2'⟩
            case measure => simp [intOf]; omega
        · obtain ⟨hst4, rfl⟩ := sres_none HMK.out hst
          have hnone : PA.steps limit up n l = none := by
            have := steps_none (k + 1) (n - (k + 1)) (HN.out _ hst4)
            rwa [show k + 1 + (n - (k + 1)) = n by omega] at this
          have HNO := Lib.hid hnone
          have hbel2' := hbel.trans (hbel2.mono hbel.size)
          clear HN hst hst4 hnone her
          go_wp2
          go_ret3
          exact ⟨hbel2', .inr ⟨HNO.out, rfl⟩⟩
      · have hk' : k = n := by omega
        subst hk'
        go_wp2
        go_ret3
        exact ⟨hbel, .inl ⟨m, b, HS.out, _, rfl, HR.out⟩⟩
  · obtain ⟨_, rfl⟩ := sres_none HK.out hs0
    have HB1 := Lib.hid hb1
    clear hb1 hs0
    have hones : ∀ u ∈ l.map (Value.int .i64), u.oneCell' = true := fun u hu => by
      obtain ⟨x, _, rfl⟩ := List.mem_map.1 hu
      rfl
    have HONES := Lib.hid hones
    clear hones
    go_wp2_with (at_builtin; refine wpList_append_own _ rfl (.tmp 46) (.tmp 47) 42 rfl w.heap.size 3 i0 (.int .i64 0) 1 8 Tryd.underlying42 hi0 hz0 hz1 hz2 rfl (by omega) _ 0 [] rfl (World.ownsRow_nil _ _ _ _) ad l.length c (l.map (Value.int .i64)) rfl (by simp) (HCELL.out _ HB1.out) HONES.out (by simp only [maxLen]; omega) (by omega) HB1.out.size ?_)
    intro v' w2 hown hgrow _
    have hbel : Below w.heap.size w w2 := HB1.out.grown hgrow HB1.out.size (fun k hk => by simp [Value.ownBlock] at hk)
    have HO : Hid (w2.ownsRow w.heap.size 3 1 v' l.length (l.map (Value.int .i64))) := Lib.hid (by simpa using hown)
    clear hown hgrow
    go_wp2_with fail
    go_loopw [14, 15, 16] (fun v cc i wr => ∃ (k : Nat) (m : List Int) (b : Nat), k ≤ n ∧ i = .int .i64 k ∧ cc = .int .i64 b ∧ b ≤ k ∧ Hid (PA.steps limit up k l = some (m, b)) ∧ Hid (wr.ownsRow w.heap.size 3 1 v l.length (m.map (Value.int .i64))) ∧ Below w.heap.size w wr)
      (fun _ _ i _ => n - (intOf i).toNat)
    case atStart => exact ⟨0, l, 0, Nat.zero_le _, rfl, rfl, Nat.zero_le _, rfl, HO, hbel⟩
    case round =>
      obtain ⟨k, m, b, hk, rfl, rfl, hbk, HS, HR, hbel⟩ := hrel
      by_cases hlt : k < n
      · obtain ⟨G, _⟩ := HG.out k m b HS.out
        obtain ⟨A', c', rfl, hlen, hi⟩ := owns_ints HR.out
        have HI := Lib.hid hi; clear hi
        have HN : Hid (∀ r, PA.step m limit up = r → PA.steps limit up (k + 1) l = (match r with | none => none | some (m', q) => some (m', if q then b + 1 else b))) := by
          refine Lib.hid fun r hr => ?_
          show (match PA.steps limit up k l with | none => none | some (m, c) => match PA.step m limit up with | none => none | some (m', b) => some (m', if b then c + 1 else c)) = _
          rw [HS.out]; simp only [hr]
        have HMK : Hid (AimdOk m limit up) := Lib.hid ⟨⟨by rw [G.len]; omega, by rw [G.len]; omega, badShare_of fun a ha => ⟨G.nn a ha, G.le a ha⟩⟩, g1, g2, g3, g4⟩
        have HL := Lib.hid G.len
        clear G HS hlen
        go_wp2_with fail
        refine (refStep_all A' c' m limit up wr HI.out).mono ?_
        rintro e w3 ⟨hbel2, ⟨m', q, hst, v2, rfl, ho⟩ | ⟨er, hst, her, rfl⟩⟩
        · have HS := Lib.hid (HN.out _ (sres_some HMK.out hst)); clear HN hst
          have hbel2' := hbel.trans (hbel2.mono hbel.size)
          have HO2 : Hid (w3.ownsRow w.heap.size 3 1 v2 l.length (m'.map (Value.int .i64))) := by
            have := own_base ho hbel.size
            rwa [HL.out] at this
          clear ho hbel2
          cases q
          · go_wp2
            go_roundw
            case rel => exact ⟨k + 1, m', b, by omega, by go_num, rfl, by omega, HS, HO2, hbel2'⟩
            case measure => simp [intOf]; omega
          · go_wp2
            go_roundw
            case rel => exact ⟨k + 1, m', b + 1, by omega, by go_num, by go_num, by omega, HS, HO2, hbel2'⟩
            case measure => simp [intOf]; omega
        · obtain ⟨hst4, rfl⟩ := sres_none HMK.out hst
          have hnone : PA.steps limit up n l = none := by
            have := steps_none (k + 1) (n - (k + 1)) (HN.out _ hst4)
            rwa [show k + 1 + (n - (k + 1)) = n by omega] at this
          have HNO := Lib.hid hnone
          have hbel2' := hbel.trans (hbel2.mono hbel.size)
          clear HN hst hst4 hnone her
          go_wp2
          go_ret3
          exact ⟨hbel2', .inr ⟨HNO.out, rfl⟩⟩
      · have hk' : k = n := by omega
        subst hk'
        go_wp2
        go_ret3
        exact ⟨hbel, .inl ⟨m, b, HS.out, _, rfl, HR.out⟩⟩
/-- whatever it is asked -/
theorem refSteps_all (A : Option Addr) (c : Nat) (l : List Int) (limit up t : Int) (w : World) (h : Ints w w.heap.size A c l) :
    Calls Tryd.prog 54 #[.slice A l.length c, .int .i64 limit, .int .i64 up, .int .i64 t] w fun e w' => Below w.heap.size w w' ∧
      ((∃ m b, ARes l limit up t = .ok (m, b) ∧ ∃ v, e = .returned (.tuple #[v, .int .i64 b, .int .i64 0]) ∧ w'.ownsRow w.heap.size 3 1 v l.length (m.map (Value.int .i64))) ∨
       (∃ er, ARes l limit up t = .error er ∧ er ≠ 0 ∧ e = .returned (.tuple #[.slice none 0 0, .int .i64 0, .int .i64 er]))) := by
  by_cases ht : t < 0 ∨ 60 < t
  · refine (refSteps_ticks A c l.length limit up t w ht).mono ?_
    rintro e w' ⟨rfl, rfl⟩
    exact ⟨Below.refl _ _, .inr ⟨1, by unfold ARes; rw [if_pos ht], by omega, rfl⟩⟩
  · by_cases ok : AimdOk l limit up
    · have e : t = (t.toNat : Int) := by omega
      have ea : ARes l limit up t = match PA.steps limit up t.toNat l with | none => .error 4 | some r => .ok r := by
        unfold ARes; rw [if_neg ht, if_neg (fun h => h ok)]; cases PA.steps limit up t.toNat l <;> rfl
      rw [ea]
      generalize t.toNat = n at *
      subst e
      refine (refSteps_any A c l limit up n w h ok (by omega)).mono ?_
      rintro e w' ⟨hb, ⟨m, b, hs, v, rfl, ho⟩ | ⟨hs, rfl⟩⟩
      · exact ⟨hb, .inl ⟨m, b, by rw [hs], v, rfl, ho⟩⟩
      · exact ⟨hb, .inr ⟨4, by rw [hs], by omega, rfl⟩⟩
    · refine (refSteps_no A c l limit up t w h ok (by omega) (by omega)).mono ?_
      rintro e w' ⟨rfl, rfl⟩
      refine ⟨Below.refl _ _, .inr ⟨_, by unfold ARes; rw [if_neg ht, if_pos ok], ?_, rfl⟩⟩
      unfold aimdErr; split <;> (try split) <;> simp
end Go.Proofs.YtkheobdkmmbjnaaDoor
