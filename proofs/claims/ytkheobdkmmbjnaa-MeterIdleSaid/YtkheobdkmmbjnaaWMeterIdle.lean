/- The walk of MeterIdle: it returns true for every input. -/
import Derived.Test.YtkheobdkmmbjnaaMeterRun
import Derived.Deep.RegionWith
namespace Go.Proofs.Ytkheobdkmmbjnaa
open Go.RowKit
attribute [local go_sem ↓] run_min_mn run_max_mx
def zeros40 : Array Value := (List.replicate 40 (Value.int .i64 0)).toArray
theorem make40 (w : World) : (Instr.makeSlice 51 (.int .i64 40) (.int .i64 40)).run Try.prog w = .ok (.slice (some ⟨w.heap.size, 0, none⟩) 40 40) (w.alloc (.cells zeros40 3)) := by kernel_rfl
theorem ints40 {w : World} {g B : Nat} (h : Blk w g 3 zeros40) (hB : g < B) : Ints w B (some ⟨g, 0, none⟩) 40 (List.replicate 40 0) := by
  refine ⟨⟨by simp, fun _ => ⟨g, 0, rfl, hB, fun j u hu => ?_⟩⟩, by simp, by simp [maxLen]⟩
  rw [h.cell]
  rw [List.map_replicate] at hu
  simp only [zeros40]
  simpa using hu
theorem run_idle (c r : Int) (g : Nat) (w : World) (hc : 1 ≤ c) (hc' : c ≤ 1000) (h0 : 1 ≤ r) (h1 : r ≤ 1000) (hb : Blk w g 3 zeros40) :
    Calls Try.prog 33 #[.agg #[.int .i64 c, .int .i64 0, .int .i64 0], .int .i64 r, .slice (some ⟨g, 0, none⟩) 40 40] w fun e w' =>
      ∃ b off cp, e = .returned (.tuple #[.slice (some ⟨b, off, none⟩) 40 cp, .nilIface]) ∧ w'.cell? ⟨b, off, none⟩ = some (.int .i64 (min c (r + r / 2))) ∧ w'.cell? ⟨b, off + 39, none⟩ = some (.int .i64 (PM.up c 40 r)) ∧ 40 ≤ cp ∧ Below w.heap.size w w' := by
  refine (mrun_yes c 0 0 r (some ⟨g, 0, none⟩) 40 (List.replicate 40 0) w ⟨hc, hc', by omega, by omega, by omega, by omega⟩ h0 h1 (ints40 hb hb.lt) (by simp) (by decide)).mono ?_
  rintro e w' ⟨v, rfl, hown, hbel⟩
  obtain ⟨A, cp, rfl, hcp, _, hr⟩ := owns_reads hown
  obtain ⟨b, off, rfl, _, hcell⟩ := hr.2 (by simp)
  have hlen : (PM.rates c 0 r (List.replicate 40 0)).length = 40 := by rw [PM.len_rates]; simp
  have hat : ∀ k, k < 40 → w'.cell? ⟨b, off + k, none⟩ = some (.int .i64 (PM.up c (k + 1) r)) := fun k hk => by
    have := PM.rates_idle c hc 40 r k h0 hk
    refine hcell k _ ?_
    rw [List.getElem?_map, getD_some _ k (by rw [hlen]; exact hk), this]
    rfl
  refine ⟨b, off, cp, by simp, ?_, hat 39 (by omega), by simpa using hcp, hbel⟩
  have := hat 0 (by omega)
  simpa [PM.up] using this
set_option maxHeartbeats 2000000 in
set_option maxRecDepth 100000 in
theorem meterIdle_walk (c : Int) (_ : (Lit.int .i64 c).wf = true) (r : Int) (_ : (Lit.int .i64 r).wf = true) (w : World) :
    Calls Try.prog 11 #[.int .i64 c, .int .i64 r] w fun e w' => e = .returned (.bool true) ∧ Below w.heap.size w w' := by
  by_cases hv : MeterOk c 0 0 ∧ 1 ≤ r ∧ r ≤ 1000
  · obtain ⟨h, r0, r1⟩ := hv
    have hk := h
    obtain ⟨g1, g2, _⟩ := hk
    have HOK := Lib.hid h; clear h
    have HI := Lib.hid (PM.idle c r g1 r0)
    have hmk := make40
    go_enter Try.func11, Try.ntmps11
    go_wp2_with fail
    refine (mnext_yes c 0 0 r _ HOK.out r0 r1).mono ?_; rintro e w1 ⟨rfl, hb1⟩
    rw [HI.out]
    have hw1 : Below w.heap.size w w1 := ((Below.refl _ _).alloc (Nat.le_refl _) _).trans (hb1.mono (by simp))
    have HP := Lib.hid ((Blk.new w 46 #[.int .i64 c, .int .i64 0, .int .i64 0]).below hb1 (by simp))
    obtain ⟨p0, p1, p2, f0, f1, f2, z0⟩ := HP.out.three
    clear hb1
    have q : (min c (r + r / 2) = c ∧ c < r + r / 2) ∨ (min c (r + r / 2) = r + r / 2 ∧ r + r / 2 ≤ c) := by omega
    have u : PM.up c 40 r = c ∨ (r < 2 ∧ 1 < c) := by
      by_cases x : 2 ≤ r ∨ c = 1
      · exact .inl (PM.full c r g1 g2 x r0)
      · exact .inr (by omega)
    have key : ∀ W g, Blk W g 3 zeros40 → Calls Try.prog 33 #[.agg #[.int .i64 c, .int .i64 0, .int .i64 0], .int .i64 r, .slice (some ⟨g, 0, none⟩) 40 40] W fun e w' =>
      ∃ b off cp, e = .returned (.tuple #[.slice (some ⟨b, off, none⟩) 40 cp, .nilIface]) ∧ w'.cell? ⟨b, off, none⟩ = some (.int .i64 (min c (r + r / 2))) ∧ w'.cell? ⟨b, off + 39, none⟩ = some (.int .i64 (PM.up c 40 r)) ∧ 40 ≤ cp ∧ Below W.heap.size W w' := fun W g hb => run_idle c r g W g1 g2 r0 r1 hb
    generalize PM.up c 40 r = z at *
    have KEY := Lib.hid key; clear key
    rcases q with ⟨q1, q2⟩ | ⟨q1, q2⟩ <;> rcases u with rfl | ⟨u1, u2⟩ <;> rw [q1] at KEY ⊢ <;> clear q1
    all_goals
      go_wp2_with fail
      go_region_with (go_at_call 33; refine (KEY.out _ _ (Blk.drew (Blk.new w1 3 zeros40))).mono ?_; rintro e w3 ⟨b, off, cp, rfl, l0, l39, hcp, hb3⟩)
      all_goals
        have hw3 : Below w.heap.size w w3 := ((hw1.alloc hw1.size _).drew).trans (hb3.mono (by have := hw1.size; simp; omega))
        go_wp2
        all_goals
          go_ret
          exact ⟨rfl, hw3⟩
  · have HNO := Lib.hid hv
    have hd : c < 1 ∨ (1 ≤ c ∧ 1000 < c) ∨ (1 ≤ c ∧ c ≤ 1000 ∧ r < 1) ∨ (1 ≤ c ∧ c ≤ 1000 ∧ 1 ≤ r ∧ 1000 < r) := by
      unfold MeterOk at hv
      by_cases x : c < 1
      · exact .inl x
      · by_cases y : 1000 < c
        · exact .inr (.inl ⟨by omega, y⟩)
        · by_cases z : r < 1
          · exact .inr (.inr (.inl ⟨by omega, by omega, z⟩))
          · refine .inr (.inr (.inr ⟨by omega, by omega, by omega, ?_⟩))
            by_cases t : 1000 < r
            · exact t
            · exact absurd ⟨⟨by omega, by omega, by omega, by omega, by omega, by omega⟩, by omega, by omega⟩ hv
    clear hv
    rcases hd with q | ⟨q, q2⟩ | ⟨q, q2, q3⟩ | ⟨q, q2, q3, q4⟩
    all_goals
      go_enter Try.func11, Try.ntmps11
      go_wp2_with fail
      refine (mnext_no c 0 0 r _ HNO.out).mono ?_; rintro e w1 ⟨rfl, hb1⟩
      go_wp2
      go_ret
      exact ⟨rfl, ((Below.refl _ _).alloc (Nat.le_refl _) _).trans (hb1.mono (by simp))⟩
end Go.Proofs.Ytkheobdkmmbjnaa
