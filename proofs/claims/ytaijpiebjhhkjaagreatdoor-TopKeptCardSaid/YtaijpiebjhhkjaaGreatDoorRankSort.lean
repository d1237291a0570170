/- slices.SortStableFunc over fractions that the call itself made, at most twenty, by frac.Order. -/
import Derived.Test.YtaijpiebjhhkjaaGreatDoorLibK
import Derived.Test.YtaijpiebjhhkjaaGreatDoorPlSortQ
import Derived.Test.YtaijpiebjhhkjaaGreatDoorLibA
import Derived.Deep.RegionHeld3
namespace Go.Proofs.YtaijpiebjhhkjaaGreatDoor
open Go.RowKit
theorem ord_lt {q r : Rat} : ordQ q r < 0 ↔ q < r := by
  unfold ordQ
  by_cases h : q < r
  · simp [h]
  · rw [if_neg h]
    by_cases h2 : r < q
    · simp [h2, h]
    · simp [h2, h]
def QRow (base n g cap : Nat) (L : List Rat) (w : World) : Prop := w.ownsRow base 37 2 (.slice (some ⟨g, 0, none⟩) n cap) n (qcells L)
theorem QRow.cell {base n g cap : Nat} {L : List Rat} {w : World} (h : QRow base n g cap L w) {k : Nat} {q : Rat} (hk : L[k]? = some q) (hn : L.length = n) :
    w.cell? ⟨g, k * 2, none⟩ = some (.int .i64 q.num) ∧ w.cell? ⟨g, k * 2 + 1, none⟩ = some (.int .i64 q.den) ∧ w.frozen? ⟨g, k * 2, none⟩ = false ∧ w.frozen? ⟨g, k * 2 + 1, none⟩ = false := by
  have hkl : k < L.length := (List.getElem?_eq_some_iff.1 hk).1
  obtain ⟨h1, h2⟩ := qcells_at hk
  exact ⟨(h.cellAt (k * 2) (by omega)).trans h1, (h.cellAt (k * 2 + 1) (by omega)).trans h2, h.frozenAt _, h.frozenAt _⟩
theorem QRow.put {base n g cap : Nat} {L : List Rat} {w : World} (h : QRow base n g cap L w) {k : Nat} (hk : k < L.length) (q : Rat) :
    QRow base n g cap (L.set k q) ((w.setCell ⟨g, k * 2, none⟩ (.int .i64 q.num)).setCell ⟨g, k * 2 + 1, none⟩ (.int .i64 q.den)) := qrow_put h hk q
theorem QRow.below {base n g cap : Nat} {L : List Rat} {w w' : World} (h : QRow base n g cap L w) (hb : Below w.heap.size w w') : QRow base n g cap L w' := own_below h hb
theorem QRow.lt {base n g cap : Nat} {L : List Rat} {w : World} (h : QRow base n g cap L w) : g < w.heap.size := (World.ownsRow.lt h g rfl).2
set_option maxHeartbeats 8000000 in
set_option maxRecDepth 100000 in
theorem insFr_any (Q : List Rat) (n g cap base : Nat) (w : World) (hn : 0 < n) (hn6 : n ≤ 20) (hnq : n = Q.length) (hq : ∀ q ∈ Q, QIn q) (hrow : QRow base n g cap Q w) (hbg : base ≤ g) (hbw : base ≤ w.heap.size) :
    Calls Tryz.prog 174 #[.slice (some ⟨g, 0, none⟩) n cap, .int .i64 0, .int .i64 n, .func (Fn.func 66) #[] #[]] w fun e w' =>
      e = .returned (.tuple #[]) ∧ QRow base n g cap (MM.srt Q) w' ∧ Below base w w' := by
  have HR := Lib.hid hrow; clear hrow
  have H0 := Lib.hid (QS.Upto.start Q)
  have HL0 : Hid (Q.length = n) := Lib.hid hnq.symm
  have HQ := Lib.hid hq
  clear hnq hq
  go_enter Tryz.func174, Tryz.ntmps174
  go_wp2
  go_loopw [8] (fun vi wr => ∃ (i : Nat) (L : List Rat), vi = .int .i64 i ∧ 1 ≤ i ∧ i ≤ n ∧ Hid (L.length = n) ∧ Hid (QS.Upto Q i L) ∧ Hid (QRow base n g cap L wr) ∧ Hid (Below base w wr)) (fun vi _ => n - (intOf vi).toNat)
  case atStart => exact ⟨1, _, rfl, by omega, by omega, HL0, H0, HR, Lib.hid (Below.refl _ _)⟩
  case round =>
    obtain ⟨i, L, rfl, hi1, hin, HL, HU, HW, HG⟩ := hrel
    clear H0 HL0 HR
    by_cases hlt : i < n
    · have HI := Lib.hid (HU.out.ins (by rw [HL.out]; exact hlt)); clear HU
      obtain ⟨x, hx⟩ : ∃ x, L.getD i 0 = x := ⟨_, rfl⟩
      rw [hx] at HI
      clear hx
      go_wp2
      go_loopg [9] i (fun g2 vj wq => ∃ (j : Nat) (p : List Rat), vj = .int .i64 j ∧ j ≤ i ∧ j ≤ g2 ∧ Hid (p.length = n) ∧ Hid (QS.Ins Q i j x p) ∧ Hid (QRow base n g cap p wq) ∧ Hid (Below base w wq))
      case atStart => exact ⟨i, L, rfl, Nat.le_refl _, Nat.le_refl _, HL, HI, HW, HG⟩
      case round =>
        clear HL HI HW HG
        obtain ⟨j, p, rfl, hji, hg2, HL, HI, HW, HG⟩ := hrel
        have hsz := HG.out.size
        by_cases hj : 0 < j
        · obtain ⟨jp, rfl⟩ : ∃ jp, j = jp + 1 := ⟨j - 1, by omega⟩
          have hpl : jp < p.length := by rw [HL.out]; omega
          obtain ⟨a, ha⟩ : ∃ a, p[jp]? = some a := ⟨p[jp], List.getElem?_eq_getElem hpl⟩
          obtain ⟨cj0, cj1, fj0, fj1⟩ := HW.out.cell HI.out.here HL.out
          obtain ⟨cp0, cp1, fp0, fp1⟩ := HW.out.cell ha HL.out
          have hQx := HQ.out x (HI.out.perm.mem_iff.1 (List.mem_of_getElem? HI.out.here))
          have hQa := HQ.out a (HI.out.perm.mem_iff.1 (List.mem_of_getElem? ha))
          obtain ⟨o, ho⟩ : ∃ o, ordQ x a = o := ⟨_, rfl⟩
          have hol := @ord_lt x a
          rw [ho] at hol
          have HC := Lib.hid fun W => order_q x a o W hQx hQa ho
          have HOL := Lib.hid hol
          have hgz := HW.out.lt
          have hjz : (0 : Int) < (jp : Int) + 1 := by omega
          have hj1 : (jp : Int) + 1 < (n : Int) := by omega
          have hwp : IntKind.i64.wrap (jp : Int) = (jp : Int) := by rw [IntKind.wrap_i64]; omega
          have jz1 : (jp : Int) < (n : Int) := by omega
          have p0 : (0 : Int) ≤ (jp : Int) + 1 := by omega
          have e0 : ((jp : Int) + 1).toNat = jp + 1 := by omega
          have HA := Lib.hid ha
          have HPL := Lib.hid hpl
          clear ha hpl hQx hQa hol ho
          obtain ⟨j1, hj1'⟩ : ∃ j1, j1 = jp + 1 := ⟨_, rfl⟩
          rw [← hj1'] at cj0 cj1 fj0 fj1 e0
          have J1 := Lib.hid hj1'
          clear hj1'
          obtain ⟨xn, hxn⟩ : ∃ z, x.num = z := ⟨_, rfl⟩
          obtain ⟨xd, hxd⟩ : ∃ z : Int, (x.den : Int) = z := ⟨_, rfl⟩
          obtain ⟨an, han⟩ : ∃ z, a.num = z := ⟨_, rfl⟩
          obtain ⟨ad, had⟩ : ∃ z : Int, (a.den : Int) = z := ⟨_, rfl⟩
          rw [hxn] at cj0; rw [hxd] at cj1; rw [han] at cp0; rw [had] at cp1
          rw [hxn, hxd, han, had] at HC
          have HXN := Lib.hid hxn; have HXD := Lib.hid hxd; have HAN := Lib.hid han; have HAD := Lib.hid had
          clear hxn hxd han had
          by_cases hlv : o < 0
          · have HS := Lib.hid (HI.out.swap HA.out (HOL.out.1 hlv))
            go_wp2_with fail
            go_region_held3 (fun w' => w'.cell? ⟨g, j1 * 2, none⟩ = some (.int .i64 xn) ∧ w'.cell? ⟨g, j1 * 2 + 1, none⟩ = some (.int .i64 xd) ∧ w'.cell? ⟨g, jp * 2, none⟩ = some (.int .i64 an) ∧ w'.cell? ⟨g, jp * 2 + 1, none⟩ = some (.int .i64 ad)) (go_keep)
              (first
                | (go_simp; go_at_call 66; refine (HC.out _).mono ?_; rintro e w5 ⟨rfl, hb5⟩; have HB5 : Hid (Below wr.heap.size wr w5) := Lib.hid (by first | exact hb5 | exact (Below.refl _ _).drew.trans hb5); have y0 : w5.cell? ⟨g, j1 * 2, none⟩ = some (.int .i64 xn) := (HB5.out.cell (p := ⟨g, j1 * 2, none⟩) hgz).trans cj0; have y1 : w5.cell? ⟨g, j1 * 2 + 1, none⟩ = some (.int .i64 xd) := (HB5.out.cell (p := ⟨g, j1 * 2 + 1, none⟩) hgz).trans cj1; have y2 : w5.cell? ⟨g, jp * 2, none⟩ = some (.int .i64 an) := (HB5.out.cell (p := ⟨g, jp * 2, none⟩) hgz).trans cp0; have y3 : w5.cell? ⟨g, jp * 2 + 1, none⟩ = some (.int .i64 ad) := (HB5.out.cell (p := ⟨g, jp * 2 + 1, none⟩) hgz).trans cp1; have hz5 := HB5.out.size; clear hb5; dsimp only))
            have f0 : w5.frozen? ⟨g, j1 * 2, none⟩ = false := (HB5.out.frozen (p := ⟨g, j1 * 2, none⟩) hgz).trans fj0
            have f1 : w5.frozen? ⟨g, j1 * 2 + 1, none⟩ = false := (HB5.out.frozen (p := ⟨g, j1 * 2 + 1, none⟩) hgz).trans fj1
            have f2 : w5.frozen? ⟨g, jp * 2, none⟩ = false := (HB5.out.frozen (p := ⟨g, jp * 2, none⟩) hgz).trans fp0
            have f3 : w5.frozen? ⟨g, jp * 2 + 1, none⟩ = false := (HB5.out.frozen (p := ⟨g, jp * 2 + 1, none⟩) hgz).trans fp1
            have HW5 := Lib.hid (HW.out.below HB5.out)
            have HG5 := Lib.hid (HG.out.trans (HB5.out.mono (Nat.le_trans hbw hsz)))
            have hgz5 : g < w5.heap.size := by omega
            clear cj0 cj1 fj0 fj1 cp0 cp1 fp0 fp1 HC HW HG HB5
            go_wp2_with fail
            go_big_region
            all_goals go_wp2
            go_roundg jp
            case measure => omega
            case rel =>
              refine ⟨jp, (p.set (jp + 1) a).set jp x, by first | rfl | go_num | (congr 1; omega), by omega, Nat.le_refl _, Lib.hid (by rw [List.length_set, List.length_set]; exact HL.out), HS, ?_, ?_⟩
              · refine Lib.hid ?_
                rw [J1.out, ← HXN.out, ← HXD.out, ← HAN.out, ← HAD.out]
                exact ((HW5.out.put (by rw [HL.out]; omega) a).put (by rw [List.length_set]; exact HPL.out) x).below (below_drewN (Below.refl _ _) 1)
              · refine Lib.hid ?_
                exact below_drewN ((((HG5.out.setCell (p := ⟨g, j1 * 2, none⟩) hbg _).setCell (p := ⟨g, j1 * 2 + 1, none⟩) hbg _).setCell (p := ⟨g, jp * 2, none⟩) hbg _).setCell (p := ⟨g, jp * 2 + 1, none⟩) hbg _) 1
          · have HD := Lib.hid (HI.out.done (.inr ⟨a, HA.out, fun h => hlv (HOL.out.2 h)⟩))
            go_wp2_with fail
            go_region_held3 (fun w' => w'.cell? ⟨g, j1 * 2, none⟩ = some (.int .i64 xn) ∧ w'.cell? ⟨g, j1 * 2 + 1, none⟩ = some (.int .i64 xd) ∧ w'.cell? ⟨g, jp * 2, none⟩ = some (.int .i64 an) ∧ w'.cell? ⟨g, jp * 2 + 1, none⟩ = some (.int .i64 ad)) (go_keep)
              (first
                | (go_simp; go_at_call 66; refine (HC.out _).mono ?_; rintro e w5 ⟨rfl, hb5⟩; have HB5 : Hid (Below wr.heap.size wr w5) := Lib.hid (by first | exact hb5 | exact (Below.refl _ _).drew.trans hb5); have y0 : w5.cell? ⟨g, j1 * 2, none⟩ = some (.int .i64 xn) := (HB5.out.cell (p := ⟨g, j1 * 2, none⟩) hgz).trans cj0; have y1 : w5.cell? ⟨g, j1 * 2 + 1, none⟩ = some (.int .i64 xd) := (HB5.out.cell (p := ⟨g, j1 * 2 + 1, none⟩) hgz).trans cj1; have y2 : w5.cell? ⟨g, jp * 2, none⟩ = some (.int .i64 an) := (HB5.out.cell (p := ⟨g, jp * 2, none⟩) hgz).trans cp0; have y3 : w5.cell? ⟨g, jp * 2 + 1, none⟩ = some (.int .i64 ad) := (HB5.out.cell (p := ⟨g, jp * 2 + 1, none⟩) hgz).trans cp1; have hz5 := HB5.out.size; clear hb5; dsimp only))
            have HW5 := Lib.hid (HW.out.below HB5.out)
            have HG5 := Lib.hid (HG.out.trans (HB5.out.mono (Nat.le_trans hbw hsz)))
            go_wp2
            go_roundw
            case rel => exact ⟨i + 1, p, by go_num, by omega, by omega, HL, HD, HW5, HG5⟩
            case measure => simp [intOf]; omega
        · obtain rfl : j = 0 := by omega
          have HD := Lib.hid (HI.out.done (.inl rfl))
          rw [show ((0 : Nat) : Int) = 0 from rfl]
          go_wp2_with fail
          go_region
          all_goals go_wp2
          go_roundw
          case rel => exact ⟨i + 1, p, by go_num, by omega, by omega, HL, HD, Lib.hid (HW.out.below (below_drewN (Below.refl _ _) 1)), Lib.hid (below_drewN HG.out 1)⟩
          case measure => simp [intOf]; omega
    · obtain rfl : i = n := by omega
      have HO := Lib.hid (HU.out.all (by rw [HL.out]; exact Nat.le_refl _))
      go_wp2
      go_end0
      exact ⟨rfl, by rw [← HO.out]; exact HW.out, HG.out⟩
set_option maxHeartbeats 2000000 in
theorem insFr_nil (A : Option Addr) (c : Nat) (w : World) :
    Calls Tryz.prog 174 #[.slice A 0 c, .int .i64 0, .int .i64 0, .func (Fn.func 66) #[] #[]] w fun e w' => e = .returned (.tuple #[]) ∧ w' = w := by
  go_enter Tryz.func174, Tryz.ntmps174
  go_wp2
  refine wp_loop_rounds 1 ?_
  rw [rounds_succ]
  go_wp2
  go_end0
  exact ⟨rfl, rfl⟩
set_option maxHeartbeats 2000000 in
set_option maxRecDepth 100000 in
theorem stableFr_any (Q : List Rat) (n g cap base : Nat) (w : World) (hn : 0 < n) (hn6 : n ≤ 6) (hnq : n = Q.length) (hq : ∀ q ∈ Q, QIn q) (hrow : QRow base n g cap Q w) (hbg : base ≤ g) (hbw : base ≤ w.heap.size) :
    Calls Tryz.prog 156 #[.slice (some ⟨g, 0, none⟩) n cap, .int .i64 n, .func (Fn.func 66) #[] #[]] w fun e w' =>
      e = .returned (.tuple #[]) ∧ QRow base n g cap (MM.srt Q) w' ∧ Below base w w' := by
  have HI := Lib.hid (insFr_any Q n g cap base w hn (by omega) hnq hq hrow hbg hbw)
  clear hrow hq hnq
  have hlt : ¬ (20 : Int) ≤ (n : Int) := by omega
  have hlt2 : ¬ (20 : Int) < (n : Int) := by omega
  go_enter Tryz.func156, Tryz.ntmps156
  go_wp2
  refine wp_loop_rounds 1 ?_
  rw [rounds_succ]
  go_wp2_with fail
  refine HI.out.mono ?_; rintro e w' ⟨rfl, h1, h2⟩
  have H1 := Lib.hid h1
  have H2 := Lib.hid h2
  clear h1 h2
  go_wp2
  refine wp_loop_rounds 1 ?_
  rw [rounds_succ]
  go_wp2
  go_end0
  exact ⟨rfl, H1.out, H2.out⟩
set_option maxHeartbeats 2000000 in
set_option maxRecDepth 100000 in
theorem stableFr_nil (A : Option Addr) (c : Nat) (w : World) :
    Calls Tryz.prog 156 #[.slice A 0 c, .int .i64 0, .func (Fn.func 66) #[] #[]] w fun e w' => e = .returned (.tuple #[]) ∧ w' = w := by
  go_enter Tryz.func156, Tryz.ntmps156
  go_wp2
  refine wp_loop_rounds 1 ?_
  rw [rounds_succ]
  go_wp2_with fail
  refine (insFr_nil A c w).mono ?_; rintro e w' ⟨rfl, rfl⟩
  go_wp2
  refine wp_loop_rounds 1 ?_
  rw [rounds_succ]
  go_wp2
  go_end0
  exact ⟨rfl, rfl⟩
/-- whatever row of so many the call itself made -/
theorem sortFr_any (Q : List Rat) (n base : Nat) (v : Value) (w : World) (hn6 : n ≤ 6) (hnq : n = Q.length) (hq : ∀ q ∈ Q, QIn q) (hrow : w.ownsRow base 37 2 v n (qcells Q)) (hbw : base ≤ w.heap.size) :
    Calls Tryz.prog 133 #[v, .func (Fn.func 66) #[] #[]] w fun e w' =>
      e = .returned (.tuple #[]) ∧ w'.ownsRow base 37 2 v n (qcells (MM.srt Q)) ∧ Below base w w' := by
  by_cases h0 : 0 < n
  · obtain ⟨g, cap, rfl, hbg, _, _, _⟩ := own_form hrow h0
    have HI := Lib.hid (stableFr_any Q n g cap base w h0 hn6 hnq hq hrow hbg hbw)
    clear hrow hq hnq
    go_enter Tryz.func133, Tryz.ntmps133
    go_wp2_with fail
    refine HI.out.mono ?_; rintro e w' ⟨rfl, h1, h2⟩
    have H1 := Lib.hid h1
    have H2 := Lib.hid h2
    clear h1 h2
    go_wp2
    go_end0
    exact ⟨rfl, H1.out, H2.out⟩
  · obtain rfl : n = 0 := by omega
    obtain rfl : Q = [] := List.length_eq_zero_iff.1 hnq.symm
    obtain ⟨A, c, rfl, _, _, _⟩ := owns_reads hrow
    have HR := Lib.hid hrow
    clear hrow hq hnq h0 hn6
    go_enter Tryz.func133, Tryz.ntmps133
    go_wp2_with fail
    refine (stableFr_nil A c w).mono ?_; rintro e w' ⟨rfl, rfl⟩
    go_wp2
    go_end0
    exact ⟨rfl, HR.out, Below.refl _ _⟩
end Go.Proofs.YtaijpiebjhhkjaaGreatDoor
