/- The walk of TopRoad: it returns true for every input. -/
import Derived.Test.YthffjnfnfddpdaaTopOne
import Derived.Test.YthffjnfnfddpdaaRoadLaw
namespace Go.Proofs.Ythffjnfnfddpdaa
open Go.RowKit
theorem AllIs.less : ∀ {L : List Int} {way : Nat → Nat} {S : List Src}, AllIs L way S → ∀ {i : Nat} {s : Src}, S[i]? = some s → s.c < L.getD i 0 → sumC S < sumL L := by
  intro L
  induction L with
  | nil =>
    intro way S h i s hs _
    have : S = [] := List.eq_nil_of_length_eq_zero (by simpa using h.1)
    subst this; simp at hs
  | cons l L ih =>
    intro way S h i s hs hlt
    cases S with
    | nil => simp at hs
    | cons s0 S =>
      have h0 := h.2 0 s0 rfl
      have h1 : AllIs L (fun i => way (i + 1)) S := ⟨by simpa using h.1, fun i t ht => by have := h.2 (i + 1) t (by simpa using ht); simpa using this⟩
      have e := h0.all
      have e2 : (l :: L).getD 0 0 = l := rfl
      rw [e2] at e
      have a0 := h0.way; have a1 := h0.l0
      have hsum : sumC S ≤ sumL L := by
        apply Classical.byContradiction
        intro hc
        clear ih hs hlt
        have : ∀ (L : List Int) (way : Nat → Nat) (S : List Src), AllIs L way S → sumC S ≤ sumL L := by
          intro L
          induction L with
          | nil => intro way S h; have : S = [] := List.eq_nil_of_length_eq_zero (by simpa using h.1); subst this; simp [Proofs.Ythffjnfnfddpdaa.sumC, sumL]
          | cons l L ih =>
            intro way S h
            cases S with
            | nil => simp [AllIs] at h
            | cons s S =>
              have h0 := h.2 0 s rfl
              have h1 : AllIs L (fun i => way (i + 1)) S := ⟨by simpa using h.1, fun i t ht => by have := h.2 (i + 1) t (by simpa using ht); simpa using this⟩
              have := ih _ _ h1
              have e := h0.all
              have e2 : (l :: L).getD 0 0 = l := rfl
              rw [e2] at e
              have := h0.way; have := h0.l0
              simp only [Proofs.Ythffjnfnfddpdaa.sumC, sumL]; omega
        exact hc (this _ _ _ h1)
      simp only [Proofs.Ythffjnfnfddpdaa.sumC, sumL]
      cases i with
      | zero =>
        simp at hs; subst hs
        rw [e2] at hlt
        omega
      | succ i =>
        have := ih h1 (i := i) (s := s) (by simpa using hs) (by simpa using hlt)
        omega
theorem all_came {L : List Int} {S : List Src} {r p k : Int} {row : List Nat} (h : RInv L S r p k row) (he : sumC S = sumL L) : row = [] ∧ k = 0 ∧ ∀ i s, S[i]? = some s → s.a = 0 ∧ s.l = 0 ∧ s.c = L.getD i 0 := by
  have hk : ∀ i s, S[i]? = some s → s.a = 0 ∧ s.l = 0 ∧ s.c = L.getD i 0 := fun i s hs => by
    have hi := h.all.2 i s hs
    have h1 := hi.way; have h2 := hi.l0; have h3 := hi.all
    by_cases hc : s.c < L.getD i 0
    · have := h.all.less hs hc; omega
    · omega
  have hr : row = [] := by
    cases hrow : row with
    | nil => rfl
    | cons i rest =>
      exfalso
      have hi := h.mem i (by rw [hrow]; exact List.mem_cons_self)
      have hs : S[i]? = some S[i] := List.getElem?_eq_getElem hi
      have hw := (h.all.2 i _ hs).way
      have h0 := (hk i _ hs).1
      have hc : 0 < row.count i := List.count_pos_iff.2 (by rw [hrow]; exact List.mem_cons_self)
      have hw' : S[i].a = ((row.count i : Nat) : Int) := hw
      omega
  refine ⟨hr, ?_, hk⟩
  have := h.rowl
  rw [hr] at this
  simpa using this.symm
/-- behind so many ticks as there were to send -/
theorem ticks_came {L : List Int} {S : List Src} {r p k : Int} {row : List Nat} (h : RInv L S r p k row) {m : Nat} (hm : (m : Int) = sumL L) (hc : (m : Int) ≤ sumC S ∨ sumC S = sumL L) : sumC S = sumL L := by
  have := h.sum_le
  omega
set_option maxHeartbeats 8000000 in
set_option maxRecDepth 100000 in
theorem topRoad_no (A : Option Addr) (c : Nat) (S : List Src) (w : World) (hs : Srcs w w.heap.size A c S) (r p k er : Int) (he : newErr S r p k = er) (hp : er ≠ 0) :
    Calls Try.prog 14 #[.slice A S.length c, .agg #[.int .i64 r, .int .i64 p, .int .i64 k]] w fun e w' => e = .returned (.bool true) ∧ Below w.heap.size w w' := by
  have HN := Lib.hid fun (W : World) (h : Srcs W W.heap.size A c S) => rnew_no A c S r p k er W h he hp
  have HS := Lib.hid hs
  have H0 := Lib.hid hp
  clear hs he hp
  have HP0 := Lib.hid (Blk.new w 23 #[.int .i64 r, .int .i64 p, .int .i64 k])
  have HB0 := Lib.hid ((Below.refl w.heap.size w).alloc (Nat.le_refl _) (.cells #[.int .i64 r, .int .i64 p, .int .i64 k] 23))
  go_enter Try.func14, Try.ntmps14
  go_wp2_with fail
  refine (one_any _).mono ?_; rintro e w1 ⟨rfl, hb1⟩
  have HB1 := Lib.hid (HB0.out.trans (hb1.mono HB0.out.size)); have HP1 := Lib.hid (HP0.out.go hb1)
  clear hb1 HB0 HP0
  obtain ⟨p0, p1, p2, _, _, _, pz⟩ := HP1.out.three
  go_wp2_with fail
  refine (HN.out _ (HS.out.at' HB1.out)).mono ?_; rintro e w2 ⟨rfl, hb2⟩
  have HB2 := Lib.hid (HB1.out.trans (hb2.mono HB1.out.size))
  clear hb2
  go_wp2
  go_ret
  exact ⟨rfl, HB2.out⟩
set_option maxHeartbeats 16000000 in
set_option maxRecDepth 100000 in
theorem topRoad_yes (A : Option Addr) (c : Nat) (S : List Src) (w : World) (hs : Srcs w w.heap.size A c S) (r p : Int) (he : roadErr S = 0) (hp : PoolOk r p 0) :
    Calls Try.prog 14 #[.slice A S.length c, .agg #[.int .i64 r, .int .i64 p, .int .i64 0]] w fun e w' => e = .returned (.bool true) ∧ Below w.heap.size w w' := by
  have HN := Lib.hid fun (W : World) (h : Srcs W W.heap.size A c S) => rnew_yes A c S r p W h he hp
  have HS := Lib.hid hs
  obtain ⟨n0, n6⟩ := roadErr_len he
  have HI0 := Lib.hid (RInv.start he hp)
  have HL := Lib.hid (roadErr_l he)
  have HC0 := Lib.hid (roadErr_c he)
  have HPO := Lib.hid hp
  clear hs he hp
  have HP0 := Lib.hid (Blk.new w 23 #[.int .i64 r, .int .i64 p, .int .i64 0])
  have HB0 := Lib.hid ((Below.refl w.heap.size w).alloc (Nat.le_refl _) (.cells #[.int .i64 r, .int .i64 p, .int .i64 0] 23))
  go_enter Try.func14, Try.ntmps14
  go_wp2_with fail
  refine (one_any _).mono ?_; rintro e w1 ⟨rfl, hb1⟩
  have HB1 := Lib.hid (HB0.out.trans (hb1.mono HB0.out.size)); have HP1 := Lib.hid (HP0.out.go hb1)
  clear hb1 HB0 HP0
  obtain ⟨p0, p1, p2, _, _, _, pz⟩ := HP1.out.three
  go_wp2_with fail
  refine (HN.out _ (HS.out.at' HB1.out)).mono ?_; rintro e w2 ⟨g, gs, cs, rfl, hr2, hb2⟩
  have HB2 := Lib.hid (HB1.out.trans (hb2.mono HB1.out.size))
  obtain ⟨base, hbase⟩ : ∃ x, x = w1.heap.size := ⟨_, rfl⟩
  rw [← hbase] at hr2
  have hbs : base ≤ w2.heap.size := by rw [hbase]; exact hb2.size
  have hwb : w.heap.size ≤ base := by rw [hbase]; exact HB1.out.size
  have HR2 := Lib.hid hr2
  clear hb2 hr2 HP1 HB1 HN hbase p0 p1 p2 pz
  have HLB := Lib.hid (sumL_bd S HL.out)
  have HS2 := Lib.hid (HS.out.below HB2.out (Nat.le_refl _))
  go_wp2
  go_loop [8, 9] (fun a i => ∃ j : Nat, j ≤ S.length ∧ i = .int .i64 j ∧ a = .int .i64 (sumL ((S.map Src.l).take j)) ∧ 0 ≤ sumL ((S.map Src.l).take j) ∧ sumL ((S.map Src.l).take j) ≤ j * 10000) (fun _ i => S.length - (intOf i).toNat)
  case atStart => exact ⟨0, Nat.zero_le _, rfl, rfl, by simp [sumL], by simp [sumL]⟩
  case round =>
    obtain ⟨j, hj, rfl, rfl, l0, l1⟩ := hrel
    by_cases hlt : j < S.length
    · obtain ⟨b, off, s, rfl, hbw, _, _, s2, _, hs⟩ := HS2.out.elem hlt
      have hsl := HL.out s (List.mem_of_getElem? hs.out)
      have hst := sumL_take hs.out
      have HST := Lib.hid hst
      clear hst hs
      obtain ⟨s0, s1⟩ := hsl
      have j0 : (0 : Int) ≤ (j : Int) := by omega
      go_wp2
      go_round
      case rel => exact ⟨j + 1, by omega, by go_num, by rw [HST.out], by rw [HST.out]; omega, by rw [HST.out]; omega⟩
      case measure => simp [intOf]; omega
    · obtain rfl : j = S.length := by omega
      have hfull : (S.map Src.l).take S.length = S.map Src.l := List.take_of_length_le (by simp)
      rw [hfull] at l0 l1 ⊢
      clear hfull
      obtain ⟨all, hall⟩ : ∃ all : Nat, sumL (S.map Src.l) = (all : Int) := ⟨(sumL (S.map Src.l)).toNat, by omega⟩
      rw [hall] at l0 l1 ⊢
      have HALL := Lib.hid hall
      clear hall HLB
      by_cases h3 : 300 < all
      · have h3' : (300 : Int) < (all : Int) := by omega
        go_wp2
        go_ret
        exact ⟨rfl, HB2.out⟩
      · have h3' : decide ((300 : Int) < (all : Int)) = false := decide_eq_false (by omega)
        obtain ⟨wo, hwo⟩ : ∃ x, x = w2 := ⟨_, rfl⟩
        rw [← hwo] at HB2 HR2 HS2 hbs ⊢
        clear hwo
        go_wp2
        go_loopw [10, 11] (fun v i wr => ∃ (m : Nat) (k : Int) (vr : Value) (S' : List Src) (row : List Nat), m ≤ all ∧ i = .int .i64 m ∧ v = .int .i64 (sumC S') ∧ Hid ((m : Int) ≤ sumC S' ∨ sumC S' = sumL (S.map Src.l)) ∧ Hid (RoadAt wr base g gs cs S.length vr S' r p k row) ∧ Hid (RInv (S.map Src.l) S' r p k row) ∧ Hid (Below base wo wr)) (fun _ i _ => all - (intOf i).toNat)
        case atStart => exact ⟨0, 0, _, S, [], Nat.zero_le _, rfl, by rw [HC0.out], Lib.hid (.inl (by rw [HC0.out]; simp)), HR2, HI0, Lib.hid (Below.refl _ _)⟩
        case round =>
          clear HR2 HI0 HC0
          obtain ⟨m, k, vr, S', row, hm, rfl, rfl, HM, HR, HI, HB⟩ := hrel
          have hB1 := HB.out.size
          have hsle := HI.out.sum_le
          rw [HALL.out] at hsle
          obtain ⟨sc0, sc1⟩ := hsle
          by_cases hlt : m < all
          · have m0 : (0 : Int) ≤ (m : Int) := by omega
            go_wp2_with fail
            refine (tick_inv wr base g gs cs S.length vr (S.map Src.l) S' r p k row HR.out (by omega) HI.out).mono ?_
            rintro e w5 ⟨vr', S2, row', wt, lo, lf, rfl, hr5, hi5, t0, t1, t2, t3, hsum, hgo, hb5⟩
            have HR5 := Lib.hid (hr5.below ((Below.refl _ _).alloc (Nat.le_refl _) (.cells #[.int .i64 wt, .int .i64 lo, .int .i64 lf] 33)))
            have HI5 := Lib.hid hi5
            have HB5 := Lib.hid ((HB.out.trans hb5).alloc (Nat.le_trans hbs (Nat.le_trans hB1 hb5.size)) (.cells #[.int .i64 wt, .int .i64 lo, .int .i64 lf] 33))
            have HM5 : Hid (((m + 1 : Nat) : Int) ≤ sumC S2 ∨ sumC S2 = sumL (S.map Src.l)) := Lib.hid (by
              have h1 := HM.out; have h2 := hi5.sum_le
              rw [HALL.out] at *
              by_cases hc : sumC S' < (all : Int)
              · have := hgo hc; omega
              · omega)
            have HSUM := Lib.hid hsum
            have HG := Lib.hid (Blk.new w5 33 #[.int .i64 wt, .int .i64 lo, .int .i64 lf])
            have hwt : wt ≤ 1000 := by have := HPO.out; unfold PoolOk at this; omega
            obtain ⟨g0, g1, g2, _, _, _, gz⟩ := HG.out.three
            clear hr5 hi5 hsum hgo hb5 t2 t3 HR HI HB HM
            go_wp2
            go_roundw
            case rel => exact ⟨m + 1, lf, vr', S2, row', by omega, by go_num, by rw [HSUM.out], HM5, HR5, HI5, HB5⟩
            case measure => simp [intOf]; omega
          · obtain rfl : m = all := by omega
            have hcame := ticks_came HI.out HALL.out.symm HM.out
            obtain ⟨rfl, rfl, hev⟩ := all_came HI.out hcame
            rw [HALL.out] at hcame
            rw [hcame]
            have HEV := Lib.hid hev
            have hlenS : S'.length = S.length := by have := HI.out.all.1; simpa using this
            clear hev hcame sc0 sc1 HM
            have hfp := field_pool r p 0
            go_wp2_with fail
            refine (rwaits_any wr base g gs cs S.length vr S' r p 0 [] HR.out (by simp)).mono ?_; rintro e w5 ⟨v, rfl, hv, hb5⟩
            obtain ⟨Av, cv, rfl, _, _, _⟩ := owns_reads hv
            have HR5 := Lib.hid (HR.out.below hb5)
            have HB5 := Lib.hid (HB.out.trans (hb5.mono (by omega)))
            clear hv hb5
            go_wp2_with fail
            refine (rpool_any w5 base g gs cs S.length vr S' r p 0 [] HR5.out).mono ?_; rintro e w6 ⟨rfl, hb6⟩
            have HR6 := Lib.hid (HR5.out.below hb6)
            have HB6 := Lib.hid (HB5.out.trans (hb6.mono (by have := HB5.out.size; omega)))
            clear hb6 HR HR5 HB HB5
            have hsz6 := HB6.out.size
            obtain ⟨w7, hw7⟩ : ∃ x, x = w6 := ⟨_, rfl⟩
            rw [← hw7] at HR6 HB6 hsz6 ⊢
            clear hw7
            go_wp2
            go_loopw [13] (fun i wr => ∃ j : Nat, j ≤ S.length ∧ i = .int .i64 j ∧ Hid (Below w7.heap.size w7 wr)) (fun i _ => S.length - (intOf i).toNat)
            case atStart => exact ⟨0, Nat.zero_le _, rfl, Lib.hid (Below.refl _ _)⟩
            case round =>
              obtain ⟨j, hj, rfl, HBJ⟩ := hrel
              have hBJ := HBJ.out.size
              by_cases hjl : j < S.length
              · have j0 : (0 : Int) ≤ (j : Int) := by omega
                have hs : S'[j]? = some S'[j] := List.getElem?_eq_getElem (by omega)
                obtain ⟨e1, e2, e3⟩ := HEV.out j _ hs
                have hLj : (S.map Src.l).getD j 0 = (S[j]).l := by rw [List.getD_eq_getElem?_getD, List.getElem?_map, List.getElem?_eq_getElem hjl]; rfl
                rw [hLj] at e3
                have HSRC : Hid (∀ W, RoadAt W base g gs cs S.length vr S' r p 0 [] → Calls Try.prog 24 #[.pointer (some ⟨g, 0, none⟩), .int .i64 j] W fun e w' => e = .returned (.tuple #[.agg #[.int .i64 (S'[j]).W, .int .i64 0, .int .i64 0, .int .i64 (S[j]).l], .nilIface]) ∧ Below W.heap.size W w') := Lib.hid fun W hW => by
                  have := rsource_in W base g gs cs S.length vr S' r p 0 [] hW j _ hs n6
                  unfold Src.val at this
                  rwa [e1, e2, e3] at this
                have HBI := HB2.out.trans ((HB6.out.mono hwb).trans (HBJ.out.mono (by omega)))
                obtain ⟨b, off, s, rfl, hbw, _, _, s2, _, hsx⟩ := (HS.out.below HBI (Nat.le_refl _)).elem hjl
                have hsj : s = S[j] := by have := hsx.out; rw [List.getElem?_eq_getElem hjl] at this; injection this with this; exact this.symm
                obtain ⟨sl, hsl⟩ : ∃ x, (S[j]).l = x := ⟨_, rfl⟩
                obtain ⟨sw, hsw⟩ : ∃ x, (S'[j]).W = x := ⟨_, rfl⟩
                rw [hsj, hsl] at s2
                rw [hsl, hsw] at HSRC
                have hbz : b < wr.heap.size := by have := HBI.size; omega
                have HRJ := Lib.hid (HR6.out.below HBJ.out)
                clear hs e1 e2 e3 hLj hsx hsj hsl hsw HBI
                go_wp2_with fail
                refine (HSRC.out _ HRJ.out).mono ?_; rintro e w8 ⟨rfl, hb8⟩
                have HX := Lib.hid (Blk.new w8 25 #[.int .i64 sw, .int .i64 0, .int .i64 0, .int .i64 sl])
                have HB8 := Lib.hid ((HBJ.out.trans (hb8.mono hBJ)).alloc (Nat.le_trans hBJ hb8.size) (.cells #[.int .i64 sw, .int .i64 0, .int .i64 0, .int .i64 sl] 25))
                have y2 : w8.cell? ⟨b, off + j * 4 + 2, none⟩ = some (.int .i64 sl) := (hb8.cell (p := ⟨b, off + j * 4 + 2, none⟩) hbz).trans s2
                have hbz8 : b < w8.heap.size := Nat.lt_of_lt_of_le hbz hb8.size
                obtain ⟨x0, x1, x2, x3, _, _, _, _, xz⟩ := HX.out.four
                clear hb8 s2
                go_wp2_with fail
                go_quiet (fail)
                go_wp2
                go_roundw
                case rel => exact ⟨j + 1, by omega, by go_num, Lib.hid (below_drewN HB8.out _)⟩
                case measure => simp [intOf]; omega
              · obtain rfl : j = S.length := by omega
                go_wp2
                go_ret
                exact ⟨rfl, HB2.out.trans ((HB6.out.mono hwb).trans (HBJ.out.mono (by omega)))⟩
theorem topRoad_walk (A : Option Addr) (c : Nat) (S : List Src) (w : World) (hs : Srcs w w.heap.size A c S) (_ : True) (r p k : Int) (_ : (Lit.int .i64 r).wf = true) (_ : (Lit.int .i64 p).wf = true) (_ : (Lit.int .i64 k).wf = true) :
    Calls Try.prog 14 #[.slice A S.length c, .agg #[.int .i64 r, .int .i64 p, .int .i64 k]] w fun e w' => e = .returned (.bool true) ∧ Below w.heap.size w w' := by
  by_cases he : newErr S r p k = 0
  · unfold newErr at he
    split at he
    · rename_i h1
      split at he
      · rename_i h2
        split at he
        · rename_i h3
          subst h3
          exact topRoad_yes A c S w hs r p h1 h2
        · omega
      · omega
    · rename_i h1; exact absurd he h1
  · exact topRoad_no A c S w hs r p k _ rfl he
end Go.Proofs.Ythffjnfnfddpdaa
