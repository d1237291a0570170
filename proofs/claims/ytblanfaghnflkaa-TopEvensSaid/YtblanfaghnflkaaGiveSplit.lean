/- give.Split. -/
import Derived.Test.YtblanfaghnflkaaGiveParts
import Derived.Test.YtblanfaghnflkaaEvenIdx
namespace Go.Proofs.Ytblanfaghnflkaa
open Go.RowKit
attribute [local go_sem ↓] run_min_mn run_max_mx
def splitErr (m : Int) (l : List Int) : Int := if idxErr l ≠ 0 then idxErr l else if m < -10000 ∨ 10000 < m then 1 else 0
def splitL (m : Int) (l : List Int) : List Int := if m < 0 then (PG.parts (max m (-m)) l).map (fun x => -x) else PG.parts (max m (-m)) l
theorem splitL_len (m : Int) (l : List Int) : (splitL m l).length = l.length := by
  unfold splitL; split <;> simp [PG.parts_len]
theorem weighs_of {l : List Int} (h : idxErr l = 0) : Weighs l := by
  obtain ⟨h1, h2⟩ := idx_parts h
  obtain ⟨h0, h6, hbad⟩ := few_ok h1
  have hb := badTo_in hbad
  have := (tot_bound l 1000 hb).1
  exact ⟨h0, h6, hb, by omega⟩
theorem split_ok {m : Int} {l : List Int} (h : splitErr m l = 0) : idxErr l = 0 ∧ -10000 ≤ m ∧ m ≤ 10000 := by
  unfold splitErr at h
  split at h
  · omega
  · split at h
    · omega
    · omega
theorem parts_bd {m : Int} {l : List Int} (h : Weighs l) (m0 : 0 ≤ m) (m1 : m ≤ 10000) : ∀ a ∈ PG.parts m l, 0 ≤ a ∧ a ≤ 10000001 := fun a ha => by
  unfold PG.parts at ha
  obtain ⟨i, hi, rfl⟩ := List.mem_map.1 ha
  obtain ⟨_, _, b0, b1, _, _⟩ := h.base m0 m1 i (List.mem_range.1 hi)
  split <;> omega
theorem split_bad (m : Int) (A : Option Addr) (c : Nat) (l : List Int) (w : World) (h : Ints w w.heap.size A c l) (er : Int) (he : splitErr m l = er) (hp : er ≠ 0) :
    Calls Try.prog 34 #[.int .i64 m, .slice A l.length c] w fun e w' => e = .returned (.tuple #[.slice none 0 0, .iface 71 (.int .i64 er)]) ∧ Below w.heap.size w w' := by
  by_cases hi : idxErr l = 0
  · unfold splitErr at he
    rw [if_neg (fun x => x hi)] at he
    have hr : m < -10000 ∨ 10000 < m := by
      apply Classical.byContradiction
      intro hc
      rw [if_neg hc] at he
      exact hp he.symm
    rw [if_pos hr] at he
    subst he
    obtain ⟨vt, hvt⟩ : ∃ v, idxT l = v := ⟨_, rfl⟩
    obtain ⟨vb, hvb⟩ : ∃ v, idxB l = v := ⟨_, rfl⟩
    have HC := Lib.hid (index_ok A c l w h hi vt vb hvt hvb)
    clear h hi hp hvt hvb
    have hr' : m < -10000 ∨ (¬ m < -10000 ∧ 10000 < m) := by omega
    clear hr
    rcases hr' with hr | ⟨hr1, hr⟩
    all_goals
      go_enter Try.func34, Try.ntmps34
      go_wp2_with fail
      refine HC.out.mono ?_; rintro e w1 ⟨rfl, hb1⟩
      have HB := Lib.hid hb1
      clear hb1
      go_wp2
      go_ret2
      exact ⟨rfl, HB.out.alloc HB.out.size _⟩
  · have he2 : idxErr l = er := by unfold splitErr at he; rwa [if_pos hi] at he
    have HC := Lib.hid (index_bad A c l w h er he2 hp)
    clear h hi hp he he2
    go_enter Try.func34, Try.ntmps34
    go_wp2_with fail
    refine HC.out.mono ?_; rintro e w1 ⟨rfl, hb1⟩
    have HB := Lib.hid hb1
    clear hb1
    go_wp2
    go_ret2
    exact ⟨rfl, HB.out.alloc HB.out.size _⟩
set_option maxHeartbeats 2000000 in
set_option maxRecDepth 100000 in
theorem split_yes (m : Int) (A : Option Addr) (c : Nat) (l : List Int) (w : World) (h : Ints w w.heap.size A c l) (he : splitErr m l = 0) :
    Calls Try.prog 34 #[.int .i64 m, .slice A l.length c] w fun e w' => ∃ v, e = .returned (.tuple #[v, .nilIface]) ∧ w'.ownsRow w.heap.size 3 1 v l.length ((splitL m l).map (Value.int .i64)) ∧ Below w.heap.size w w' := by
  obtain ⟨hi, m0, m1⟩ := split_ok he
  obtain ⟨vt, hvt⟩ : ∃ v, idxT l = v := ⟨_, rfl⟩
  obtain ⟨vb, hvb⟩ : ∃ v, idxB l = v := ⟨_, rfl⟩
  have HC := Lib.hid (index_ok A c l w h hi vt vb hvt hvb)
  have HW := Lib.hid (weighs_of hi)
  have H := Lib.hid h
  have hl := (weighs_of hi).six
  have h0 := (weighs_of hi).pos
  clear h he hi hvt hvb
  by_cases hm : m < 0
  · have hd : splitL m l = (PG.parts (max m (-m)) l).map (fun x => -x) := if_pos hm
    rw [hd]
    obtain ⟨L, hL⟩ : ∃ L, PG.parts (max m (-m)) l = L := ⟨_, rfl⟩
    have hll : L.length = l.length := by rw [← hL]; exact PG.parts_len _ _
    have hbd : ∀ a ∈ L, 0 ≤ a ∧ a ≤ 10000001 := by rw [← hL]; exact parts_bd HW.out (by omega) (by omega)
    have HL := Lib.hid hL
    have HLL := Lib.hid hll
    have HBD := Lib.hid hbd
    rw [hL]
    clear hd hL hll hbd
    go_enter Try.func34, Try.ntmps34
    go_wp2_with fail
    refine HC.out.mono ?_; rintro e w1 ⟨rfl, hb1⟩
    have HB := Lib.hid hb1
    have hB1 := hb1.alloc hb1.size (.cells #[.int .i64 vt, .int .i64 vb] 28)
    have HB1 := Lib.hid hB1
    clear hb1 hB1 HC
    go_wp2_with fail
    refine (gparts_any (max m (-m)) A c l _ ((H.out.below HB1.out (Nat.le_refl _)).more HB1.out.size) HW.out (by omega) (by omega)).mono ?_
    rintro e w2 ⟨v, rfl, ho2, hb2⟩
    rw [HL.out] at ho2
    obtain ⟨g, cap, rfl, hg0, hg1, hcap, hcm⟩ := own_form ho2 h0
    have HO2 := Lib.hid (own_base ho2 HB1.out.size)
    have HB2 := Lib.hid (HB1.out.trans (hb2.mono HB1.out.size))
    have hg0' : w.heap.size ≤ g := Nat.le_trans HB1.out.size hg0
    clear ho2 hb2 hg0
    go_wp2
    go_loopw [35] (fun i wr => ∃ k : Nat, k ≤ l.length ∧ i = .int .i64 k ∧ Hid (wr.ownsRow w.heap.size 3 1 (.slice (some ⟨g, 0, none⟩) l.length cap) l.length ((upd (fun x => -x) L k).map (Value.int .i64))) ∧ Hid (Below w.heap.size w wr))
      (fun i _ => l.length - (intOf i).toNat)
    case atStart => exact ⟨0, Nat.zero_le _, rfl, by show World.ownsRow _ _ _ _ _ _ _; rw [upd_zero]; exact HO2.out, HB2⟩
    case round =>
      obtain ⟨k, hk, rfl, HR, HBL⟩ := hrel
      by_cases hlt : k < l.length
      · have hlt' : k < L.length := by rw [HLL.out]; exact hlt
        have hx : L[k]? = some L[k] := List.getElem?_eq_getElem hlt'
        obtain ⟨x0, x1⟩ := HBD.out L[k] (List.getElem_mem hlt')
        have hset := (HR.out.stored k (.int .i64 (-L[k]))).1
        rw [upd_cells (fun x => -x) L k _ hx] at hset
        have hc := own_cell HR.out (upd_get (fun x => -x) L k _ hx) hlt
        have hf := HR.out.frozenAt k
        generalize L[k] = x at *
        have HBL' := Lib.hid (HBL.out.setCell (p := ⟨g, k, none⟩) hg0' (.int .i64 (-x)))
        have HS := Lib.hid hset; clear hset HR hx hlt'
        go_wp2
        go_roundw
        case rel => exact ⟨k + 1, by omega, by go_num, HS, HBL'⟩
        case measure => simp [intOf]; omega
      · have hk' : k = l.length := by omega
        subst hk'
        have hown := HR.out
        rw [← HLL.out, upd_all, HLL.out] at hown
        have HF := Lib.hid hown
        clear HR hown
        go_wp2
        go_ret2
        exact ⟨_, rfl, HF.out, HBL.out⟩
  · have hd : splitL m l = PG.parts (max m (-m)) l := if_neg hm
    rw [hd]
    clear hd
    have hm' : ¬ m < -10000 := by omega
    go_enter Try.func34, Try.ntmps34
    go_wp2_with fail
    refine HC.out.mono ?_; rintro e w1 ⟨rfl, hb1⟩
    have HB := Lib.hid hb1
    have hB1 := hb1.alloc hb1.size (.cells #[.int .i64 vt, .int .i64 vb] 28)
    have HB1 := Lib.hid hB1
    clear hb1 hB1 HC
    go_wp2_with fail
    refine (gparts_any (max m (-m)) A c l _ ((H.out.below HB1.out (Nat.le_refl _)).more HB1.out.size) HW.out (by omega) (by omega)).mono ?_
    rintro e w2 ⟨v, rfl, ho2, hb2⟩
    have HO2 := Lib.hid (own_base ho2 HB1.out.size)
    have HB2 := Lib.hid (HB1.out.trans (hb2.mono HB1.out.size))
    clear ho2 hb2
    go_wp2
    go_ret2
    exact ⟨_, rfl, HO2.out, HB2.out⟩
end Go.Proofs.Ytblanfaghnflkaa
