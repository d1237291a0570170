/- Several texts in one: Load1, Load2. -/
import Derived.Test.YtaijpiebjhhkjaaGreatDoorLibN
import Derived.Test.YtaijpiebjhhkjaaGreatDoorLibF
import Derived.Test.YtaijpiebjhhkjaaGreatDoorLibP
import Derived.Test.YtaijpiebjhhkjaaGreatDoorLibA
import Derived.Deep.RegionHeld3
import Derived.Deep.DeepCutAuto
/- load.check: what is wrong with a net, and rates. -/
namespace Go.Proofs.YtaijpiebjhhkjaaGreatDoor
open Go.RowKit
theorem ncheck_ok (C : Option Addr) (cc : Nat) (caps : List Int) (P : Option Addr) (cp : Nat) (paths : List (List Int)) (B : Nat) (w : World) (hB : B ≤ w.heap.size) (hc : Ints w B C cc caps) (hp : Rows2 w B P cp paths) (h : netErr caps paths = 0) :
    Calls Tryz.prog 33 #[.agg #[.slice C caps.length cc, .slice P paths.length cp]] w fun e w' => e = .returned .nilIface ∧ Below w.heap.size w w' := by
  have := ncheck_all C cc caps P cp paths B w hB hc hp
  rwa [h, errVal_zero] at this
theorem ncheck_er (C : Option Addr) (cc : Nat) (caps : List Int) (P : Option Addr) (cp : Nat) (paths : List (List Int)) (B : Nat) (w : World) (er : Int) (hB : B ≤ w.heap.size) (hc : Ints w B C cc caps) (hp : Rows2 w B P cp paths) (h : netErr caps paths = er) (h0 : er ≠ 0) :
    Calls Tryz.prog 33 #[.agg #[.slice C caps.length cc, .slice P paths.length cp]] w fun e w' => e = .returned (.iface 74 (.int .i64 er)) ∧ Below w.heap.size w w' := by
  have := ncheck_all C cc caps P cp paths B w hB hc hp
  rwa [h, errVal_pos h0] at this
set_option maxHeartbeats 4000000 in
set_option maxRecDepth 100000 in
theorem lcheck_all (C : Option Addr) (cc : Nat) (caps : List Int) (P : Option Addr) (cp : Nat) (paths : List (List Int)) (A : Option Addr) (c : Nat) (S : List Fr) (B : Nat) (w : World) (hB : B ≤ w.heap.size) (hc : Ints w B C cc caps) (hp : Rows2 w B P cp paths) (hr : Frs w B A c S) :
    Calls Tryz.prog 89 #[.agg #[.slice C caps.length cc, .slice P paths.length cp], .slice A S.length c] w fun e w' => e = .returned (errVal (chkErr caps paths S)) ∧ Below w.heap.size w w' := by
  unfold chkErr
  have HB0 : Hid (Below w.heap.size w (w.alloc (.cells #[.slice C caps.length cc, .slice P paths.length cp] 42))) := Lib.hid ((Below.refl _ _).alloc (Nat.le_refl _) _)
  have HN := Lib.hid (Blk.new w 42 #[.slice C caps.length cc, .slice P paths.length cp])
  have HC := Lib.hid hc; have HP := Lib.hid hp; have HR := Lib.hid hr
  have hm := hr.cap; have hml := hr.le; have hm2 := hp.cap; have hml2 := hp.le
  unfold maxLen at hm hm2
  clear hc hp hr
  by_cases hn : netErr caps paths = 0
  · rw [if_pos hn]
    have HNE := Lib.hid hn
    clear hn
    by_cases hl : S.length = paths.length
    · rw [if_pos hl]
      unfold ratesErr
      obtain ⟨ev, hev⟩ : ∃ ev, firstFrom (fun i => frErr (S.getD i ⟨0, 1⟩)) (S.length - 0) 0 = ev := ⟨_, rfl⟩
      rw [hev]
      have HEV := Lib.hid hev
      have hlb : ((S.length : Int) != (paths.length : Int)) = false := by rw [hl]; simp
      clear hev hl
      go_enter Tryz.func89, Tryz.ntmps89
      go_wp2_with fail
      refine (ncheck_ok C cc caps P cp paths B _ (by simp; omega) (HC.out.below HB0.out hB) (HP.out.below HB0.out hB) HNE.out).mono ?_; rintro e w1 ⟨rfl, hb1⟩
      have HB1 := Lib.hid (HB0.out.trans (hb1.mono HB0.out.size))
      have HN1 := Lib.hid (HN.out.go hb1)
      clear HB0 HN hb1
      obtain ⟨n0, n1, _, _, nz⟩ := HN1.out.two
      go_wp2
      go_loopw [23] (fun i wr => ∃ k : Nat, k ≤ S.length ∧ i = .int .i64 k ∧ Hid (firstFrom (fun i => frErr (S.getD i ⟨0, 1⟩)) (S.length - k) k = ev) ∧ Hid (Below w.heap.size w wr)) (fun i _ => S.length - (intOf i).toNat)
      case atStart => exact ⟨0, Nat.zero_le _, rfl, HEV, HB1⟩
      case round =>
        clear HEV HB1 n0 n1 nz HN1
        obtain ⟨k, hk, rfl, HEV, HB⟩ := hrel
        by_cases hlt : k < S.length
        · obtain ⟨b, off, s, rfl, hb, c0, c1, HX⟩ := (HR.out.below HB.out hB).elem hlt
          have k0 : (0 : Int) ≤ (k : Int) := by omega
          have hbz : b < wr.heap.size := by have := HB.out.size; omega
          have hs := HEV.out
          rw [firstFrom_step hlt] at hs
          have hg : S.getD k ⟨0, 1⟩ = s := by rw [List.getD_eq_getElem?_getD, HX.out]; rfl
          simp only [hg] at hs
          obtain ⟨t, d⟩ := s
          simp only at c0 c1
          by_cases hz : frErr ⟨t, d⟩ = 0
          · rw [if_pos hz] at hs
            have HS := Lib.hid hs
            have HZ := Lib.hid (show fracErr t d = 0 from hz)
            have hB1 := HB.out.size
            clear hs hz hg HX
            go_wp2_with fail
            refine (fcheck_yes t d _ HZ.out).mono ?_; rintro e w2 ⟨rfl, hb2⟩
            have HB2 := Lib.hid ((HB.out.alloc hB1 (.cells #[.int .i64 t, .int .i64 d] 37)).trans (hb2.mono (by simp; omega)))
            clear hb2
            go_wp2
            go_roundw
            case rel => exact ⟨k + 1, by omega, by go_num, HS, HB2⟩
            case measure => simp [intOf]; omega
          · rw [if_neg hz] at hs
            have HZ := Lib.hid (show fracErr t d = ev from hs)
            rw [hs] at hz
            have HZ0 := Lib.hid hz
            have hB1 := HB.out.size
            clear hs hz hg HX
            go_wp2_with fail
            refine (fcheck_no t d ev _ HZ.out HZ0.out).mono ?_; rintro e w2 ⟨rfl, hb2⟩
            have HB2 := Lib.hid ((HB.out.alloc hB1 (.cells #[.int .i64 t, .int .i64 d] 37)).trans (hb2.mono (by simp; omega)))
            clear hb2
            go_wp2
            go_ret
            exact ⟨by rw [errVal_pos HZ0.out]; rfl, HB2.out⟩
        · obtain rfl : k = S.length := by omega
          have hs := HEV.out
          rw [firstFrom_end] at hs
          subst hs
          go_wp2
          go_ret
          exact ⟨rfl, HB.out⟩
    · rw [if_neg hl]
      have hlb : ((S.length : Int) != (paths.length : Int)) = true := by rw [bne_iff_ne]; omega
      clear hl
      go_enter Tryz.func89, Tryz.ntmps89
      go_wp2_with fail
      refine (ncheck_ok C cc caps P cp paths B _ (by simp; omega) (HC.out.below HB0.out hB) (HP.out.below HB0.out hB) HNE.out).mono ?_; rintro e w1 ⟨rfl, hb1⟩
      have HB1 := Lib.hid (HB0.out.trans (hb1.mono HB0.out.size))
      have HN1 := Lib.hid (HN.out.go hb1)
      clear HB0 HN hb1
      obtain ⟨n0, n1, _, _, nz⟩ := HN1.out.two
      go_wp2
      go_ret
      exact ⟨rfl, HB1.out⟩
  · rw [if_neg hn]
    obtain ⟨er, her⟩ : ∃ er, netErr caps paths = er := ⟨_, rfl⟩
    rw [her] at hn ⊢
    rw [errVal_pos hn]
    have HE := Lib.hid her; have H0 := Lib.hid hn
    clear her hn
    go_enter Tryz.func89, Tryz.ntmps89
    go_wp2_with fail
    refine (ncheck_er C cc caps P cp paths B _ er (by simp; omega) (HC.out.below HB0.out hB) (HP.out.below HB0.out hB) HE.out H0.out).mono ?_; rintro e w1 ⟨rfl, hb1⟩
    have HB1 := Lib.hid (HB0.out.trans (hb1.mono HB0.out.size))
    clear HB0 HN hb1
    go_wp2
    go_ret
    exact ⟨rfl, HB1.out⟩
theorem lcheck_ok (C : Option Addr) (cc : Nat) (caps : List Int) (P : Option Addr) (cp : Nat) (paths : List (List Int)) (A : Option Addr) (c : Nat) (S : List Fr) (B n : Nat) (w : World) (hB : B ≤ w.heap.size) (hc : Ints w B C cc caps) (hp : Rows2 w B P cp paths) (hr : Frs w B A c S) (hn : n = S.length) (h : chkErr caps paths S = 0) :
    Calls Tryz.prog 89 #[.agg #[.slice C caps.length cc, .slice P paths.length cp], .slice A n c] w fun e w' => e = .returned .nilIface ∧ Below w.heap.size w w' := by
  subst hn
  have := lcheck_all C cc caps P cp paths A c S B w hB hc hp hr
  rwa [h, errVal_zero] at this
theorem lcheck_er (C : Option Addr) (cc : Nat) (caps : List Int) (P : Option Addr) (cp : Nat) (paths : List (List Int)) (A : Option Addr) (c : Nat) (S : List Fr) (B n : Nat) (w : World) (er : Int) (hB : B ≤ w.heap.size) (hc : Ints w B C cc caps) (hp : Rows2 w B P cp paths) (hr : Frs w B A c S) (hn : n = S.length) (h : chkErr caps paths S = er) (h0 : er ≠ 0) :
    Calls Tryz.prog 89 #[.agg #[.slice C caps.length cc, .slice P paths.length cp], .slice A n c] w fun e w' => e = .returned (.iface 74 (.int .i64 er)) ∧ Below w.heap.size w w' := by
  subst hn
  have := lcheck_all C cc caps P cp paths A c S B w hB hc hp hr
  rwa [h, errVal_pos h0] at this
end Go.Proofs.YtaijpiebjhhkjaaGreatDoor
/- load.Of: how much goes over each link. -/
namespace Go.Proofs.YtaijpiebjhhkjaaGreatDoor
open Go.RowKit
def qcells (L : List Rat) : List Value := frCells (L.map frQ)
theorem qcells_snoc (L : List Rat) (s : Rat) : qcells (L ++ [s]) = qcells L ++ [.int .i64 s.num, .int .i64 s.den] := by
  unfold qcells; rw [List.map_append, frCells_append]; rfl
theorem idxs_mapL (us : List Nat) : idxs us = (us.map fun (i : Nat) => (i : Int)).map (Value.int .i64) := by simp [idxs]
theorem frs_q {w : World} {B : Nat} {A : Option Addr} {c : Nat} {Q : List Rat} (h : Frs w B A c (Q.map frQ)) {u : Nat} (hu : u < Q.length) :
    ∃ b off, A = some ⟨b, off, none⟩ ∧ b < B ∧ w.cell? ⟨b, off + u * 2, none⟩ = some (.int .i64 (Q.getD u 0).num) ∧ w.cell? ⟨b, off + u * 2 + 1, none⟩ = some (.int .i64 (Q.getD u 0).den) := by
  obtain ⟨b, off, s, e, hb, c0, c1, HX⟩ := h.elem (k := u) (by simpa using hu)
  have hx := HX.out
  rw [List.getElem?_map, List.getElem?_eq_getElem hu] at hx
  injection hx with hx
  have hg : Q.getD u 0 = Q[u] := by rw [List.getD_eq_getElem?_getD, List.getElem?_eq_getElem hu]; rfl
  subst hx
  rw [hg]
  exact ⟨b, off, e, hb, c0, c1⟩
theorem users_get {paths : List (List Int)} {x : Int} {us : List Nat} (h : users paths x = us) {j : Nat} (hj : j < us.length) : us.getD j 0 < paths.length ∧ us[j]? = some (us.getD j 0) ∧ us.take (j + 1) = us.take j ++ [us.getD j 0] := by
  have e : us.getD j 0 = us[j] := by rw [List.getD_eq_getElem?_getD, List.getElem?_eq_getElem hj]; rfl
  refine ⟨?_, by rw [e, List.getElem?_eq_getElem hj], ?_⟩
  · rw [e]
    exact (users_mem.1 (by rw [h]; exact List.getElem_mem hj)).1
  · rw [e, List.take_succ_eq_append_getElem hj]
theorem own_ints' {w : World} {base n c : Nat} {A : Option Addr} {l : List Int} (h : w.ownsRow base 3 1 (.slice A n c) n (l.map (Value.int .i64))) : Ints w w.heap.size A c l := by
  obtain ⟨A', c', e, _, hi⟩ := owns_ints h
  injection e with e1 _ e3
  subst e1 e3
  exact hi
theorem over_u (x : Int) (Cv : Value) (P : Option Addr) (cp m : Nat) (paths : List (List Int)) (us : List Nat) (B : Nat) (w : World) (hB : B ≤ w.heap.size) (hp : Rows2 w B P cp paths) (hn : paths.length ≤ 1000) (hu : users paths x = us) (hm : m = paths.length) :
    Calls Tryz.prog 90 #[.agg #[Cv, .slice P m cp], .int .i64 x] w fun e w' => ∃ A c, e = .returned (.slice A us.length c) ∧ w'.ownsRow w.heap.size 3 1 (.slice A us.length c) us.length ((us.map fun (i : Nat) => (i : Int)).map (Value.int .i64)) ∧ us.length ≤ c ∧ c ≤ maxLen ∧ Below w.heap.size w w' := by
  subst hu hm
  refine (over_any x Cv P cp paths B w hB hp hn).mono ?_
  rintro e w' ⟨v, rfl, hv, hb⟩
  rw [idxs_mapL] at hv
  obtain ⟨A, c, rfl, hn, hi⟩ := owns_ints hv
  have h1 := hi.le; have h2 := hi.cap
  rw [List.length_map] at h1 hv
  exact ⟨A, c, by rw [List.length_map], hv, h1, h2, hb⟩
/-- one added to another, whatever comes of it -/
theorem fadd_w (s q : Rat) (hs : QIn s) (hq : QIn q) : ∃ (v1 v2 : Int) (ev : Value), (∀ W : World, Calls Tryz.prog 91 #[.agg #[.int .i64 s.num, .int .i64 s.den], .agg #[.int .i64 q.num, .int .i64 q.den]] W fun e w' => e = .returned (.tuple #[.agg #[.int .i64 v1, .int .i64 v2], ev]) ∧ Below W.heap.size W w') ∧
    ((QIn (s + q) ∧ v1 = (s + q).num ∧ v2 = (s + q).den ∧ ev = .nilIface) ∨ (¬ QIn (s + q) ∧ ev = .iface 74 (.int .i64 4))) := by
  by_cases h : QIn (s + q)
  · exact ⟨_, _, _, fun W => fadd_q s q _ W hs hq rfl h, .inl ⟨h, rfl, rfl, rfl⟩⟩
  · exact ⟨0, 0, _, fun W => fadd_full s q _ W hs hq rfl h, .inr ⟨h, rfl⟩⟩
set_option maxHeartbeats 8000000 in
set_option maxRecDepth 100000 in
theorem lof_any (C : Option Addr) (cc : Nat) (caps : List Int) (P : Option Addr) (cp : Nat) (paths : List (List Int)) (A : Option Addr) (c : Nat) (Q : List Rat) (B : Nat) (w : World) (hB : B ≤ w.heap.size) (hc : Ints w B C cc caps) (hp : Rows2 w B P cp paths) (hr : Frs w B A c (Q.map frQ))
    (hn : netErr caps paths = 0) (hl : Q.length = paths.length) (hq : ∀ q ∈ Q, QIn q) :
    Calls Tryz.prog 65 #[.agg #[.slice C caps.length cc, .slice P paths.length cp], .slice A Q.length c] w fun e w' =>
      ((∃ L v, loadsTo paths Q caps.length = some L ∧ e = .returned (.tuple #[v, .nilIface]) ∧ w'.ownsRow w.heap.size 37 2 v caps.length (qcells L)) ∨ (loadsTo paths Q caps.length = none ∧ e = .returned (.tuple #[.slice none 0 0, .iface 74 (.int .i64 4)]))) ∧ Below w.heap.size w w' := by
  have hck := chk_of hn hl hq
  obtain ⟨k1, k2, k3, k4, _, _⟩ := netErr_ok hn
  have HB0 : Hid (Below w.heap.size w (w.alloc (.cells #[.slice C caps.length cc, .slice P paths.length cp] 42))) := Lib.hid ((Below.refl _ _).alloc (Nat.le_refl _) _)
  have HN0 := Lib.hid (Blk.new w 42 #[.slice C caps.length cc, .slice P paths.length cp])
  have HC := Lib.hid hc; have HP := Lib.hid hp; have HR := Lib.hid hr; have HQ := Lib.hid hq; have HCK := Lib.hid hck
  have hm := hc.cap; have hml := hc.le; have hm2 := hp.cap; have hml2 := hp.le; have hm3 := hr.cap; have hml3 := hr.le
  rw [List.length_map] at hml3
  unfold maxLen at hm hm2 hm3
  have HLEN := Lib.hid hl
  have hlq : Q.length ≤ 6 := by omega
  clear hc hp hr hn hq hck hl
  go_enter Tryz.func65, Tryz.ntmps65
  go_wp2_with fail
  refine (lcheck_ok C cc caps P cp paths A c (Q.map frQ) B _ _ (by simp; omega) (HC.out.below HB0.out hB) (HP.out.below HB0.out hB) (HR.out.below HB0.out hB) (by simp) HCK.out).mono ?_; rintro e w1 ⟨rfl, hb1⟩
  have HB1 := Lib.hid (HB0.out.trans (hb1.mono HB0.out.size))
  have HN1 := Lib.hid (HN0.out.go hb1)
  clear HB0 HN0 hb1 HCK
  obtain ⟨n0, n1, _, _, nz⟩ := HN1.out.two
  go_wp2
  go_loopw [7, 23] (fun v i wr => ∃ (k : Nat) (L : List Rat), k ≤ caps.length ∧ i = .int .i64 k ∧ Hid (loadsTo paths Q k = some L) ∧ Hid (wr.ownsRow w.heap.size 37 2 v k (qcells L)) ∧ Hid (Below w.heap.size w wr) ∧ Hid (Blk wr w.heap.size 42 #[.slice C caps.length cc, .slice P paths.length cp])) (fun _ i _ => caps.length - (intOf i).toNat)
  case atStart => exact ⟨0, [], Nat.zero_le _, rfl, Lib.hid rfl, Lib.hid (World.ownsRow_nil _ _ _ _), HB1, HN1⟩
  case round =>
    clear HB1 n0 n1 nz HN1
    obtain ⟨k, L, hk, rfl, HL, HO, HB, HN⟩ := hrel
    have hB1 := HB.out.size
    by_cases hlt : k < caps.length
    · have k0 : (0 : Int) ≤ (k : Int) := by omega
      obtain ⟨us, hus⟩ : ∃ us, users paths k = us := ⟨_, rfl⟩
      have hul : us.length ≤ 6 := by have := users_len paths k; rw [← hus]; omega
      have HUS := Lib.hid hus
      clear hus
      obtain ⟨n0, n1, _, _, nz⟩ := HN.out.two
      go_wp2_with fail
      refine (whole_any 0 _).mono ?_; rintro e w2 ⟨rfl, hb2⟩
      have HB2 := Lib.hid ((HB.out.trans (hb2.mono hB1)).alloc (Nat.le_trans hB1 hb2.size) (.cells #[.int .i64 0, .int .i64 1] 37))
      have HN2 := Lib.hid ((HN.out.go hb2).alloc (.cells #[.int .i64 0, .int .i64 1] 37))
      have HS2 := Lib.hid (Blk.new w2 37 #[.int .i64 0, .int .i64 1])
      have HO2 := Lib.hid ((own_below HO.out hb2).alloc (.cells #[.int .i64 0, .int .i64 1] 37))
      have hz2 : w.heap.size < w2.heap.size := (HN.out.go hb2).lt
      obtain ⟨g9, hg9⟩ : ∃ x, x = w2.heap.size := ⟨_, rfl⟩
      rw [← hg9] at HS2 hz2
      clear n0 n1 nz HB HN
      obtain ⟨n0, n1, _, _, nz⟩ := HN2.out.two
      go_wp2_with fail
      refine (over_u k (.slice C caps.length cc) P cp _ paths us B _ (by have := HB2.out.size; omega) (HP.out.below HB2.out hB) (by omega) HUS.out rfl).mono ?_; rintro e w3 ⟨A3, c3, rfl, hi3, hl3, hc3, hb3⟩
      have hz3 := (HS2.out).lt
      obtain ⟨B3, hB3⟩ : ∃ x, x = (w2.alloc (.cells #[.int .i64 0, .int .i64 1] 37)).heap.size := ⟨_, rfl⟩
      rw [← hB3] at hi3 hz3
      have HI3 := Lib.hid hi3
      unfold maxLen at hc3
      have HB3 := Lib.hid (HB2.out.trans (hb3.mono HB2.out.size))
      have HN3 := Lib.hid (HN2.out.go hb3)
      have HS3 := Lib.hid (HS2.out.go hb3)
      have HO3 := Lib.hid (own_below HO2.out hb3)
      have HNE := Lib.hid (show _ ≠ some g9 from fun e => Nat.lt_irrefl g9 (by have := (HO.out.lt g9 e).2; have := hb2.size; omega))
      rw [← hg9]
      clear hB3 hb2 HO hi3 hb3 HB2 HN2 HS2 HO2 n0 n1 nz hg9
      go_wp2
      go_loopw [31] (fun i wr => ∃ (j : Nat) (s : Rat), j ≤ us.length ∧ i = .int .i64 j ∧ Hid (addUp Q (us.take j) = some s) ∧ Hid (Blk wr g9 37 #[.int .i64 s.num, .int .i64 s.den]) ∧ Hid (Blk wr w.heap.size 42 #[.slice C caps.length cc, .slice P paths.length cp]) ∧ Hid (Below w.heap.size w wr) ∧ Hid (wr.ownsRow w.heap.size 37 2 u7 k (qcells L)) ∧ Hid (wr.ownsRow B3 3 1 (.slice A3 us.length c3) us.length ((us.map fun (i : Nat) => (i : Int)).map (Value.int .i64))) ∧ Hid (u7.ownBlock ≠ some g9)) (fun i _ => us.length - (intOf i).toNat)
      case atStart => exact ⟨0, 0, Nat.zero_le _, rfl, Lib.hid rfl, HS3, HN3, HB3, HO3, HI3, HNE⟩
      case round =>
        clear HS3 HN3 HB3 HO3 HI3 HNE
        obtain ⟨j, s, hj, rfl, HA, HS, HN, HB, HO, HI, HNE⟩ := hrel
        have hB1 := HB.out.size
        have hk1 : (k : Int) ≤ 6 := by omega
        by_cases hjl : j < us.length
        · have j0 : (0 : Int) ≤ (j : Int) := by omega
          obtain ⟨b3, o3, x3, rfl, hb3, hc3c, _, HT, HX⟩ := (own_ints' HI.out).elem (k := j) (by simpa using hjl)
          obtain ⟨hu, hj1, hj2⟩ := users_get HUS.out hjl
          have hx3 : x3 = ((us.getD j 0 : Nat) : Int) := by have := HX.out; rw [List.getD_eq_getElem?_getD, List.getElem?_map, hj1] at this; exact this.symm
          subst hx3
          rw [← HLEN.out] at hu
          obtain ⟨u, hu'⟩ : ∃ u, us.getD j 0 = u := ⟨_, rfl⟩
          rw [hu'] at hu hj1 hj2 hc3c
          obtain ⟨br, or, rfl, hbr, r0, r1⟩ := frs_q (HR.out.below HB.out hB) hu
          have hqu : QIn (Q.getD u 0) := HQ.out _ (by rw [List.getD_eq_getElem?_getD, List.getElem?_eq_getElem hu]; exact List.getElem_mem hu)
          obtain ⟨q, hqq⟩ : ∃ q, Q.getD u 0 = q := ⟨_, rfl⟩
          have hs := addUp_snoc Q (us.take j) u
          rw [← hj2, HA.out] at hs
          have hs2 : addQ Q (some s) u = if QIn (s + q) then some (s + q) else none := by rw [← hqq]; rfl
          rw [hs2] at hs
          rw [hqq] at r0 r1 hqu
          have hsin := addUp_in HA.out
          have u0 : (0 : Int) ≤ (u : Int) := by omega
          have u1 : (u : Int) < (Q.length : Int) := by omega
          have hne : br ≠ g9 := by omega
          have hbz : br < wr.heap.size := by have := HB.out.size; omega
          obtain ⟨v1, v2, ev, hadd, hev⟩ := fadd_w s q hsin hqu
          have HADD := Lib.hid hadd; have HEV := Lib.hid hev; have HSN := Lib.hid hs
          obtain ⟨s0, s1, sf0, sf1, sz⟩ := HS.out.two
          clear hu' hj1 hj2 HT HX hs2 hqq hqu hsin hadd hev hs
          go_upto_region 12 with (fail)
          go_cut [12, 13] (fun s12 s13 wx => ∃ g12, s12 = .pointer (some ⟨g12, 0, none⟩) ∧ s13 = ev ∧ Hid (Blk wx g12 37 #[.int .i64 v1, .int .i64 v2]) ∧ Hid (Below wr.heap.size wr wx))
          case first =>
            go_region_held3 (fun w' => w'.cell? ⟨g9, 0, none⟩ = some (.int .i64 s.num) ∧ w'.cell? ⟨g9, 1, none⟩ = some (.int .i64 s.den) ∧ w'.cell? ⟨br, or + u * 2, none⟩ = some (.int .i64 q.num) ∧ w'.cell? ⟨br, or + u * 2 + 1, none⟩ = some (.int .i64 q.den)) (go_keep)
              (first
                | (go_simp; go_at_call 91; (with_reducible refine (HADD.out (wr.alloc (.cells #[.int .i64 0, .int .i64 0] 37)).drew).mono ?_); rintro e w5 ⟨rfl, hb5⟩; have HB5 : Hid (Below wr.heap.size wr w5) := Lib.hid (((Below.refl _ _).alloc (Nat.le_refl _) _).drew.trans (hb5.mono (by simp))); have HX5 := Lib.hid ((Blk.new wr 37 #[.int .i64 0, .int .i64 0]).drew.go hb5); have HS5 := Lib.hid (HS.out.go HB5.out); have HN5 := Lib.hid (HN.out.go HB5.out); have HBW := Lib.hid (HB.out.trans (HB5.out.mono hB1)); have HO5 := Lib.hid (own_below HO.out HB5.out); have y2 : w5.cell? ⟨br, or + u * 2, none⟩ = some (.int .i64 q.num) := (HB5.out.cell (p := ⟨br, or + u * 2, none⟩) hbz).trans r0; have y3 : w5.cell? ⟨br, or + u * 2 + 1, none⟩ = some (.int .i64 q.den) := (HB5.out.cell (p := ⟨br, or + u * 2 + 1, none⟩) hbz).trans r1; have hz5 := HB5.out.size; have n1 : ¬ g9 = w5.heap.size := (by omega); have n2 : ¬ br = w5.heap.size := (by omega); have n3 : ¬ g9 = wr.heap.size := (by omega); have n4 : ¬ br = wr.heap.size := (by omega); have n5 : ¬ w5.heap.size = g9 := (by omega); have n6 : ¬ w5.heap.size = br := (by omega); have n7 : ¬ wr.heap.size = g9 := (by omega); have n8 : ¬ wr.heap.size = br := (by omega); clear hb5; obtain ⟨y0, y1, yf0, yf1, yz⟩ := HS5.out.two; obtain ⟨x0, x1, xf0, xf1, xz⟩ := HX5.out.two; dsimp only)
                | (go_simp; go_at_call 91; refine (HADD.out _).mono ?_; rintro e w5 ⟨rfl, hb5⟩; have HB5 : Hid (Below wr.heap.size wr w5) := Lib.hid (by first | exact hb5 | exact (Below.refl _ _).drew.trans hb5); have HS5 := Lib.hid (HS.out.go HB5.out); have HN5 := Lib.hid (HN.out.go HB5.out); have HBW := Lib.hid (HB.out.trans (HB5.out.mono hB1)); have HO5 := Lib.hid (own_below HO.out HB5.out); have y2 : w5.cell? ⟨br, or + u * 2, none⟩ = some (.int .i64 q.num) := (HB5.out.cell (p := ⟨br, or + u * 2, none⟩) hbz).trans r0; have y3 : w5.cell? ⟨br, or + u * 2 + 1, none⟩ = some (.int .i64 q.den) := (HB5.out.cell (p := ⟨br, or + u * 2 + 1, none⟩) hbz).trans r1; have hz5 := HB5.out.size; have n1 : ¬ g9 = w5.heap.size := (by omega); have n2 : ¬ br = w5.heap.size := (by omega); have n3 : ¬ g9 = wr.heap.size := (by omega); have n4 : ¬ br = wr.heap.size := (by omega); have n5 : ¬ w5.heap.size = g9 := (by omega); have n6 : ¬ w5.heap.size = br := (by omega); have n7 : ¬ wr.heap.size = g9 := (by omega); have n8 : ¬ wr.heap.size = br := (by omega); clear hb5; obtain ⟨y0, y1, yf0, yf1, yz⟩ := HS5.out.two; dsimp only))
            all_goals
              go_wp2
              go_meet
              first
                | exact ⟨_, rfl, rfl, Lib.hid (Blk.new _ _ _), Lib.hid (HB5.out.alloc HB5.out.size _)⟩
                | exact ⟨_, rfl, rfl, Lib.hid ((HX5.out.s2_0 _).s2_1 _), Lib.hid ((HB5.out.setCell (p := ⟨_, 0, none⟩) (Nat.le_refl _) _).setCell (p := ⟨_, 1, none⟩) (Nat.le_refl _) _)⟩
          case rest =>
            clear HADD s0 s1 sf0 sf1 sz r0 r1 hc3c
            obtain ⟨g12, rfl, hev, HX, HBX⟩ := hcut
            have HS6 := Lib.hid (HS.out.go HBX.out); have HN6 := Lib.hid (HN.out.go HBX.out); have HB6 := Lib.hid (HB.out.trans (HBX.out.mono hB1)); have HO6 := Lib.hid (own_below HO.out HBX.out); have HI6 := Lib.hid (own_below HI.out HBX.out)
            obtain ⟨s0, s1, sf0, sf1, sz⟩ := HS6.out.two
            obtain ⟨x0, x1, xf0, xf1, xz⟩ := HX.out.two
            have hgN : w.heap.size ≠ g9 := by omega
            clear HS HN HB HO HI HX HBX
            rcases HEV.out with ⟨h1, h2, h3, h4⟩ | ⟨h1, h4⟩
            · have hs := HSN.out
              rw [if_pos h1] at hs
              have HSN' := Lib.hid hs
              subst h2 h3
              rw [h4] at hev
              subst hev
              clear h1 h4 hs HSN HEV
              go_wp2
              go_roundw
              case rel => exact ⟨j + 1, s + q, by omega, by go_num, HSN', Lib.hid ((HS6.out.s2_0 _).s2_1 _), Lib.hid ((HN6.out.far (p := ⟨g9, 0, none⟩) hgN _).far (p := ⟨g9, 1, none⟩) hgN _), Lib.hid ((HB6.out.setCell (p := ⟨g9, 0, none⟩) (by show w.heap.size ≤ g9; omega) _).setCell (p := ⟨g9, 1, none⟩) (by show w.heap.size ≤ g9; omega) _), Lib.hid (own_farB (own_farB HO6.out HNE.out _) HNE.out _), Lib.hid (own_set (own_set HI6.out hz3 _) hz3 _), HNE⟩
              case measure => simp [intOf]; omega
            · have hs := HSN.out
              rw [if_neg h1] at hs
              have HSN' := Lib.hid hs
              rw [h4] at hev
              subst hev
              clear h1 h4 hs HSN HEV
              go_wp2
              go_ret2
              exact ⟨.inr ⟨loadsTo_none hlt (by rw [HUS.out]; exact addUp_none HSN'.out), rfl⟩, HB6.out⟩
        · obtain rfl : j = us.length := by omega
          have hs := HA.out
          rw [List.take_length, ← HUS.out] at hs
          have HLN := Lib.hid (loadsTo_yes HL.out hs)
          clear hs
          obtain ⟨s0, s1, sf0, sf1, sz⟩ := HS.out.two
          go_wp2_with (at_builtin; refine wpList_push wr _ rfl (.tmp 49) (.tmp 51) 33 rfl w.heap.size 37 (.agg #[.int .i64 0, .int .i64 0]) 2 16 Tryz.underlying33 Tryz.info_fr rfl (by omega) _ _ _ rfl HO.out rfl rfl (by simp [Value.oneCell']) (by omega) (by omega) hB1 ?_; intro v' w7 hown7 hg7)
          have HO7 := Lib.hid hown7
          have HB7 := Lib.hid (below_push HB.out HO.out hg7 (Nat.le_refl _) hB1)
          have HN7 := Lib.hid (HN.out.grown hg7 fun e => own_blk_ne HO.out HN.out (by decide) e.symm)
          clear hown7 hg7 s0 s1 sf0 sf1 sz
          go_wp2
          go_roundw
          case rel => exact ⟨k + 1, L ++ [s], by omega, by go_num, HLN, Lib.hid (by rw [qcells_snoc]; exact HO7.out), HB7, HN7⟩
          case measure => simp [intOf]; omega
    · obtain rfl : k = caps.length := by omega
      go_wp2
      go_ret2
      exact ⟨.inl ⟨L, _, HL.out, rfl, HO.out⟩, HB.out⟩
end Go.Proofs.YtaijpiebjhhkjaaGreatDoor
