/- aimd.step: one step of shares that are right. -/
import Derived.Test.YtblanfaghnflkaaAimdFns
namespace Go.Proofs.Ytblanfaghnflkaa
open Go.RowKit
attribute [local go_sem ↓] run_min_mn run_max_mx
theorem badShare_of {l : List Int} (h : ∀ a ∈ l, 0 ≤ a ∧ a ≤ 10000) : l.any badShare = false := by
  cases e : l.any badShare
  · rfl
  · obtain ⟨x, hx, hb⟩ := List.any_eq_true.1 e
    rw [(badShare_iff x).2 (h x hx)] at hb; cases hb
theorem own_base {w : World} {base base' e size n : Nat} {v : Value} {xs : List Value} (h : w.ownsRow base e size v n xs) (hb : base' ≤ base) : w.ownsRow base' e size v n xs := by
  refine ⟨h.1, ?_⟩
  rcases h.2 with h | ⟨g, cap, cur, rfl, h1, h2⟩
  · exact .inl h
  · exact .inr ⟨g, cap, cur, rfl, Nat.le_trans hb h1, h2⟩
set_option maxHeartbeats 1000000 in
theorem astep_cut (A : Option Addr) (c : Nat) (l : List Int) (limit up : Int) (w : World) (h : Ints w w.heap.size A c l) (hb : ∀ a ∈ l, 0 ≤ a ∧ a ≤ 10000) (hl : l.length ≤ 6) (h0 : 0 < l.length) (hlim : limit < tot l) :
    Calls Try.prog 68 #[.slice A l.length c, .int .i64 limit, .int .i64 up] w fun e w' =>
      ∃ v, e = .returned (.tuple #[v, .bool true, .nilIface]) ∧ w'.ownsRow w.heap.size 3 1 v l.length ((PA.halve l).map (Value.int .i64)) ∧ Below w.heap.size w w' := by
  have H := Lib.hid h; clear h
  have HB := Lib.hid hb; clear hb
  go_enter Try.func68, Try.ntmps68
  go_wp2_with fail
  refine (clone_any A c l w.heap.size w H.out (by omega) (Nat.le_refl _)).mono ?_
  rintro e w1 ⟨v, rfl, hown, hbel⟩
  obtain ⟨g, cap, rfl, hg0, hg1, hcap, hcm⟩ := own_form hown (by omega)
  have HO := Lib.hid hown; clear hown
  go_wp2_with fail
  refine (asum_any A c l w.heap.size w1 (H.out.below hbel (Nat.le_refl _)) HB.out (by omega)).mono ?_; rintro e w1' ⟨rfl, rfl⟩
  go_wp2
  go_loopw [20] (fun i wr => ∃ k : Nat, k ≤ l.length ∧ i = .int .i64 k ∧ Hid (wr.ownsRow w.heap.size 3 1 (.slice (some ⟨g, 0, none⟩) l.length cap) l.length ((upd (· / 2) l k).map (Value.int .i64))) ∧ Below w.heap.size w wr)
    (fun i _ => l.length - (intOf i).toNat)
  case atStart => exact ⟨0, Nat.zero_le _, rfl, by show World.ownsRow _ _ _ _ _ _ _; rw [upd_zero]; exact HO.out, hbel⟩
  case round =>
    obtain ⟨k, hk, rfl, HR, hbel⟩ := hrel
    by_cases hlt : k < l.length
    · have hx : l[k]? = some l[k] := List.getElem?_eq_getElem hlt
      obtain ⟨x0, x1⟩ := HB.out l[k] (List.getElem_mem hlt)
      have hset := (HR.out.stored k (.int .i64 (l[k] / 2))).1
      rw [upd_cells (· / 2) l k _ hx] at hset
      have hc := own_cell HR.out (upd_get (· / 2) l k _ hx) hlt
      have hf := HR.out.frozenAt k
      generalize l[k] = x at *
      have hbel' := hbel.setCell (p := ⟨g, k, none⟩) hg0 (.int .i64 (x / 2))
      have HS := Lib.hid hset; clear hset HR
      go_wp2
      go_roundw
      case rel => exact ⟨k + 1, by omega, by go_num, HS, hbel'⟩
      case measure => simp [intOf]; omega
    · have hk' : k = l.length := by omega
      subst hk'
      have hown := HR.out
      rw [upd_all] at hown
      clear HR
      go_wp2
      go_ret3
      exact ⟨_, rfl, hown, hbel⟩
set_option maxHeartbeats 1000000 in
theorem astep_up (A : Option Addr) (c : Nat) (l : List Int) (limit up : Int) (w : World) (h : Ints w w.heap.size A c l) (hb : ∀ a ∈ l, 0 ≤ a ∧ a ≤ 10000) (hl : l.length ≤ 6) (h0 : 0 < l.length) (hlim : tot l ≤ limit) (hu0 : 0 ≤ up) (hu1 : up ≤ 1000) :
    Calls Try.prog 68 #[.slice A l.length c, .int .i64 limit, .int .i64 up] w fun e w' => Below w.heap.size w w' ∧
      ((PA.raise up l).all (· ≤ 10000) = true ∧ (∃ v, e = .returned (.tuple #[v, .bool false, .nilIface]) ∧ w'.ownsRow w.heap.size 3 1 v l.length ((PA.raise up l).map (Value.int .i64))) ∨
       (PA.raise up l).all (· ≤ 10000) = false ∧ e = .returned (.tuple #[.slice none 0 0, .bool false, .iface 71 (.int .i64 4)])) := by
  have H := Lib.hid h; clear h
  have HB := Lib.hid hb; clear hb
  have ht : ¬ limit < tot l := by omega
  go_enter Try.func68, Try.ntmps68
  go_wp2_with fail
  refine (clone_any A c l w.heap.size w H.out (by omega) (Nat.le_refl _)).mono ?_
  rintro e w1 ⟨v, rfl, hown, hbel⟩
  obtain ⟨g, cap, rfl, hg0, hg1, hcap, hcm⟩ := own_form hown (by omega)
  have HO := Lib.hid hown; clear hown
  go_wp2_with fail
  refine (asum_any A c l w.heap.size w1 (H.out.below hbel (Nat.le_refl _)) HB.out (by omega)).mono ?_; rintro e w1' ⟨rfl, rfl⟩
  go_wp2
  go_loopw [33] (fun i wr => ∃ k : Nat, k ≤ l.length ∧ i = .int .i64 k ∧ Hid (wr.ownsRow w.heap.size 3 1 (.slice (some ⟨g, 0, none⟩) l.length cap) l.length ((upd (· + up) l k).map (Value.int .i64))) ∧ Hid (∀ a ∈ l.take k, a + up ≤ 10000) ∧ Below w.heap.size w wr)
    (fun i _ => l.length - (intOf i).toNat)
  case atStart => exact ⟨0, Nat.zero_le _, rfl, by show World.ownsRow _ _ _ _ _ _ _; rw [upd_zero]; exact HO.out, Lib.hid (by simp), hbel⟩
  case round =>
    obtain ⟨k, hk, rfl, HR, HLE, hbel⟩ := hrel
    by_cases hlt : k < l.length
    · have hx : l[k]? = some l[k] := List.getElem?_eq_getElem hlt
      have hmem := List.getElem_mem hlt
      obtain ⟨x0, x1⟩ := HB.out l[k] hmem
      have hset := (HR.out.stored k (.int .i64 (l[k] + up))).1
      rw [upd_cells (· + up) l k _ hx] at hset
      have hc := own_cell HR.out (upd_get (· + up) l k _ hx) hlt
      have hf := HR.out.frozenAt k
      have HT : Hid (l.take (k + 1) = l.take k ++ [l[k]]) := Lib.hid (by rw [List.take_add_one, hx]; rfl)
      have HM := Lib.hid hmem
      have hset2 : upd (· + up) l (k + 1) = upd (· + up) l (k + 1) := rfl
      clear hmem
      generalize l[k] = x at *
      have hbel' := hbel.setCell (p := ⟨g, k, none⟩) hg0 (.int .i64 (x + up))
      have hc2 : (wr.setCell ⟨g, k, none⟩ (.int .i64 (x + up))).cell? ⟨g, k, none⟩ = some (.int .i64 (x + up)) := by
        have := hset.cellAt k (by omega)
        rw [this, List.getElem?_map]
        have hh : (upd (· + up) l (k + 1))[k]? = some (x + up) := by
          rw [← upd_set (· + up) l k x hx, List.getElem?_set_self (by rw [upd_len]; exact hlt)]
        rw [hh]; rfl
      have hf2 := hset.frozenAt k
      have HS := Lib.hid hset; clear hset HR hset2
      by_cases hle : 10000 < x + up
      · have hall : (PA.raise up l).all (· ≤ 10000) = false := by
          rw [← Bool.not_eq_true]
          intro h
          have := List.all_eq_true.1 h (x + up) (List.mem_map.2 ⟨x, HM.out, rfl⟩)
          simp at this; omega
        go_wp2
        go_ret3
        exact ⟨hbel', .inr ⟨hall, rfl⟩⟩
      · have HLE' : Hid (∀ a ∈ l.take (k + 1), a + up ≤ 10000) := by
          refine Lib.hid fun a ha => ?_
          rw [HT.out] at ha
          rcases List.mem_append.1 ha with ha | ha
          · exact HLE.out a ha
          · simp at ha; subst ha; omega
        clear HLE HT HM
        go_wp2
        go_roundw
        case rel => exact ⟨k + 1, by omega, by go_num, HS, HLE', hbel'⟩
        case measure => simp [intOf]; omega
    · have hk' : k = l.length := by omega
      subst hk'
      have hown := HR.out
      rw [upd_all] at hown
      have hall : (PA.raise up l).all (· ≤ 10000) = true := by
        rw [List.all_eq_true]
        intro y hy
        obtain ⟨a, ha, rfl⟩ := List.mem_map.1 hy
        have := HLE.out a (by rw [List.take_length]; exact ha)
        simpa using this
      clear HR HLE
      go_wp2
      go_ret3
      exact ⟨hbel, .inl ⟨hall, _, rfl, hown⟩⟩
end Go.Proofs.Ytblanfaghnflkaa
