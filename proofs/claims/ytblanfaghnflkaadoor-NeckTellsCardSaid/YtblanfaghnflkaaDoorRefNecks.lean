/- The reference's narrow places. -/
import Derived.Test.YtblanfaghnflkaaDoorRefLoad3
import Derived.Test.YtblanfaghnflkaaDoorLibJ
namespace Go.Proofs.YtblanfaghnflkaaDoor
open Go.RowKit
theorem refNecks_er (C : Option Addr) (cc : Nat) (caps : List Int) (P : Option Addr) (cp m : Nat) (paths : List (List Int)) (A : Option Addr) (c n : Nat) (S : List Fr) (B : Nat) (w : World) (er : Int) (hB : B ≤ w.heap.size) (hc : Ints w B C cc caps) (hp : Rows2 w B P cp paths) (hr : Frs w B A c S)
    (hm : m = paths.length) (hn : n = S.length) (he : (chkErr caps paths S = er ∧ er ≠ 0) ∨ (∃ Q : List Rat, S = Q.map frQ ∧ netErr caps paths = 0 ∧ Q.length = paths.length ∧ (∀ q ∈ Q, QIn q) ∧ loadsTo paths Q caps.length = none ∧ er = 4)) (h0 : er ≠ 0) :
    Calls Tryd.prog 63 #[.agg #[.slice C caps.length cc, .slice P m cp], .slice A n c] w fun e w' => e = .returned (.tuple #[.slice none 0 0, .int .i64 er]) ∧ Below w.heap.size w w' := by
  subst hm
  have HB0 : Hid (Below w.heap.size w (w.alloc (.cells #[.slice C caps.length cc, .slice P paths.length cp] 43))) := Lib.hid ((Below.refl _ _).alloc (Nat.le_refl _) _)
  have HL := Lib.hid (refLoad_er C cc caps P cp _ paths A c n S B (w.alloc (.cells #[.slice C caps.length cc, .slice P paths.length cp] 43)) er (by simp; omega) (hc.below HB0.out hB) (hp.below HB0.out hB) (hr.below HB0.out hB) rfl hn he)
  have e0 : (er != 0) = true := by simpa using h0
  clear hc hp hr he hn h0
  go_enter Tryd.func63, Tryd.ntmps63
  go_wp2_with fail
  refine HL.out.mono ?_; rintro e w1 ⟨rfl, hb1⟩
  have HB1 := Lib.hid (HB0.out.trans (hb1.mono HB0.out.size))
  clear hb1
  go_wp2
  go_ret2
  exact ⟨rfl, HB1.out⟩
def narrowTo (paths : List (List Int)) (Q : List Rat) (f : Nat) (x : Int) (j : Nat) (b : Bool) : Bool := b && !((ovr paths x).drop j).any (greater Q f)
theorem narrowTo_end {paths : List (List Int)} {Q : List Rat} {f : Nat} {x : Int} {j : Nat} {b : Bool} (h : b = false ∨ (ovr paths x).length ≤ j) : narrowTo paths Q f x j b = b := by
  unfold narrowTo
  rcases h with h | h
  · rw [h]; rfl
  · rw [List.drop_eq_nil_of_le h]; simp
theorem narrowTo_step {paths : List (List Int)} {Q : List Rat} {f j : Nat} {x u : Int} (h : (ovr paths x)[j]? = some u) : narrowTo paths Q f x j true = narrowTo paths Q f x (j + 1) (!greater Q f u) := by
  unfold narrowTo
  obtain ⟨hl, e⟩ := List.getElem?_eq_some_iff.1 h
  rw [List.drop_eq_getElem_cons hl, e, List.any_cons]
  cases greater Q f u <;> rfl
theorem ord_gt (a b : Rat) : decide (0 < ordQ a b) = decide (b < a) := by
  unfold ordQ
  by_cases h1 : a < b
  · have h3 : ¬ b < a := by grind
    rw [if_pos h1]; simp [h3]
  · by_cases h2 : b < a
    · rw [if_neg h1, if_pos h2]; simp [h2]
    · rw [if_neg h1, if_neg h2]; simp [h2]
theorem greater_ord {Q : List Rat} {f u : Nat} : decide (0 < ordQ (Q.getD u 0) (Q.getD f 0)) = greater Q f (u : Int) := by
  unfold greater
  rw [Int.toNat_natCast]
  exact ord_gt _ _
theorem none_snoc {p : List Int} {k : Nat} {x : Int} {q : Int → Bool} (h : ∀ y ∈ p.take k, q y = false) (ht : p.take (k + 1) = p.take k ++ [x]) (hx : q x = false) : ∀ y ∈ p.take (k + 1), q y = false := fun y hy => by
  rw [ht] at hy
  rcases List.mem_append.1 hy with h1 | h1
  · exact h y h1
  · rw [List.mem_singleton.1 h1]; exact hx
set_option maxHeartbeats 16000000 in
set_option maxRecDepth 100000 in
theorem refNecks_yes (C : Option Addr) (cc : Nat) (caps : List Int) (P : Option Addr) (cp m : Nat) (paths : List (List Int)) (A : Option Addr) (c n : Nat) (Q L : List Rat) (B : Nat) (w : World) (hB : B ≤ w.heap.size) (hc : Ints w B C cc caps) (hp : Rows2 w B P cp paths) (hr : Frs w B A c (Q.map frQ))
    (hm : m = paths.length) (hn : n = Q.length) (he : netErr caps paths = 0) (hl : Q.length = paths.length) (hq : ∀ q ∈ Q, QIn q) (hL : loadsTo paths Q caps.length = some L) (V : List Int) (hV : necks paths Q ((fulls caps L).map fun (i : Nat) => (i : Int)) paths.length = V) :
    Calls Tryd.prog 63 #[.agg #[.slice C caps.length cc, .slice P m cp], .slice A n c] w fun e w' => ∃ A' c', e = .returned (.tuple #[.slice A' V.length c', .int .i64 0]) ∧ Ints w' w'.heap.size A' c' V ∧ Below w.heap.size w w' := by
  subst hm hn
  obtain ⟨k1, k2, k3, k4, _, k6⟩ := netErr_ok he
  have HPB := Lib.hid fun (f : Nat) (hf : f < paths.length) => (show (paths.getD f []).length ≤ 6 ∧ ∀ l ∈ paths.getD f [], 0 ≤ l from by
    have hm : paths.getD f [] ∈ paths := by rw [List.getD_eq_getElem?_getD, List.getElem?_eq_getElem hf]; exact List.getElem_mem hf
    exact ⟨netErr_short he _ hm, fun l hl => ((pathErr_ok (k6 _ hm)).2 l hl).1⟩)
  have HB0 : Hid (Below w.heap.size w (w.alloc (.cells #[.slice C caps.length cc, .slice P paths.length cp] 43))) := Lib.hid ((Below.refl _ _).alloc (Nat.le_refl _) _)
  have HN0 := Lib.hid (Blk.new w 43 #[.slice C caps.length cc, .slice P paths.length cp])
  have HLO := Lib.hid (refLoad_yes C cc caps P cp _ paths A c _ Q L B (w.alloc (.cells #[.slice C caps.length cc, .slice P paths.length cp] 43)) (by simp; omega) (hc.below HB0.out hB) (hp.below HB0.out hB) (hr.below HB0.out hB) rfl rfl he hl hq hL)
  have HLL := Lib.hid (loadsTo_len hL)
  have HC := Lib.hid hc; have HP := Lib.hid hp; have HR := Lib.hid hr; have HQ := Lib.hid hq; have HQL := Lib.hid hl; have HV := Lib.hid hV
  have hcm := hc.cap; have hcl := hc.le; have hpm := hp.cap; have hpl := hp.le; have hrm := hr.cap; have hrl := hr.le
  rw [List.length_map] at hrl
  unfold maxLen at hcm hpm hrm
  have hq6 : Q.length ≤ 6 := by omega
  clear hc hp hr he hl hq hL hV k6
  go_enter Tryd.func63, Tryd.ntmps63
  go_wp2_with fail
  refine HLO.out.mono ?_; rintro e w1 ⟨A', c', rfl, hf1, hb1⟩
  have HF1 := Lib.hid hf1
  have hm1 := hf1.cap; have hl1 := hf1.le
  rw [List.length_map, HLL.out] at hl1
  unfold maxLen at hm1
  have HB1 := Lib.hid (HB0.out.trans (hb1.mono HB0.out.size))
  have HN1 := Lib.hid (HN0.out.go hb1)
  obtain ⟨n0, n1, _, _, nz⟩ := HN1.out.two
  have hz1 := HB1.out.size
  clear hb1 hf1 HB0 HN0 HLO
  go_wp2_with fail
  refine (refFull_any C cc caps _ A' c' _ L w1.heap.size w1 (Nat.le_refl _) ((HC.out.below HB1.out hB).more (by omega)) HF1.out HLL.out.symm HLL.out (by omega)).mono ?_; rintro e w2 ⟨A8, c8, rfl, hi8, hb2⟩
  obtain ⟨fl, hfl⟩ : ∃ fl, (fulls caps L).map (fun (i : Nat) => (i : Int)) = fl := ⟨_, rfl⟩
  rw [hfl] at hi8 HV
  have hflen : (fulls caps L).length = fl.length := by rw [← hfl, List.length_map]
  have HFLE := Lib.hid hflen
  rw [hflen]
  have HI8 := Lib.hid hi8
  have HB2 := Lib.hid (HB1.out.trans (hb2.mono hz1))
  have HN2 := Lib.hid (HN1.out.go hb2)
  have hz2 := HB2.out.size
  clear hb2 hi8 n0 n1 nz HB1 HN1 hflen hfl HF1
  obtain ⟨n0, n1, _, _, nz⟩ := HN2.out.two
  go_wp2
  go_loopw [9, 10] (fun v i wr => ∃ k : Nat, k ≤ paths.length ∧ i = .int .i64 k ∧ Hid (wr.ownsRow w2.heap.size 3 1 v k ((necks paths Q fl k).map (Value.int .i64))) ∧ Hid (Below w2.heap.size w2 wr) ∧ Hid (Blk wr w.heap.size 43 #[.slice C caps.length cc, .slice P paths.length cp])) (fun _ i _ => paths.length - (intOf i).toNat)
  case atStart => exact ⟨0, Nat.zero_le _, rfl, Lib.hid (World.ownsRow_nil _ _ _ _), Lib.hid (Below.refl _ _), HN2⟩
  case round =>
    clear n0 n1 nz
    obtain ⟨k, hk, rfl, HO, HB, HN⟩ := hrel
    have hB1 := HB.out.size
    by_cases hlt : k < paths.length
    · have k0 : (0 : Int) ≤ (k : Int) := by omega
      have k1' : (k : Int) < (paths.length : Int) := by omega
      obtain ⟨bp, op, Ap, cp', p, rfl, hbp, hpcell, hpi, HPX⟩ := (HP.out.below (HB2.out.trans (HB.out.mono hz2)) hB).elem hlt
      have hpg : paths.getD k [] = p := by rw [List.getD_eq_getElem?_getD, HPX.out]; rfl
      have HPG := Lib.hid hpg
      have hp6 : p.length ≤ 6 := by rw [← hpg]; exact (HPB.out k hlt).1
      have HP0 : Hid (∀ l ∈ p, 0 ≤ l) := Lib.hid (by rw [← hpg]; exact (HPB.out k hlt).2)
      have HPI := Lib.hid hpi
      have hpm2 := hpi.cap; have hpl2 := hpi.le
      unfold maxLen at hpm2
      have hkq : k < Q.length := by have := HQL.out; omega
      obtain ⟨vo, hvo⟩ : ∃ x, x = u9 := ⟨_, rfl⟩
      rw [← hvo] at HO ⊢
      clear hvo
      clear hpi HPX hpg
      obtain ⟨wo, hwo⟩ : ∃ x, x = wr := ⟨_, rfl⟩
      rw [← hwo] at HO HB HN HPI hB1 hpcell ⊢
      have hbpz : bp < wo.heap.size := by omega
      clear hwo
      have HOo := HO; have HBo := HB; have HNo := HN; have hBo := hB1
      obtain ⟨n0, n1, _, _, nz⟩ := HN.out.two
      go_wp2
      go_loopw [11, 12] (fun a i wr => ∃ (j : Nat) (av : Int), j ≤ p.length ∧ i = .int .i64 j ∧ a = .int .i64 av ∧ Hid (Below wo.heap.size wo wr) ∧ ((av = -1 ∧ Hid (∀ y ∈ p.take j, narrow paths Q fl k y = false)) ∨ (0 ≤ av ∧ Hid (p.find? (narrow paths Q fl k) = some av)))) (fun _ i _ => p.length - (intOf i).toNat)
      case atStart => exact ⟨0, -1, Nat.zero_le _, rfl, rfl, Lib.hid (Below.refl _ _), .inl ⟨rfl, Lib.hid (by simp)⟩⟩
      case round =>
        clear n0 n1 nz HO HB HN hB1
        obtain ⟨j, av, hj, rfl, rfl, HBJ, hav⟩ := hrel
        have HN := Lib.hid (HNo.out.go HBJ.out)
        have HO := Lib.hid (own_below HOo.out HBJ.out)
        have HB := Lib.hid (HBo.out.trans (HBJ.out.mono hBo))
        have hB1 := HB.out.size
        have hBJ := HBJ.out.size
        have hpcell' : wr.cell? ⟨bp, op + k, none⟩ = some (.slice Ap p.length cp') := (HBJ.out.cell (p := ⟨bp, op + k, none⟩) hbpz).trans hpcell
        obtain ⟨n0, n1, _, _, nz⟩ := HN.out.two
        rcases hav with ⟨rfl, HNA⟩ | ⟨hav0, HFD⟩
        · by_cases hjl : j < p.length
          · have j0 : (0 : Int) ≤ (j : Int) := by omega
            have j1 : (j : Int) < (p.length : Int) := by omega
            obtain ⟨bx, ox, x, rfl, hbx, hcx, _, HT, HXX⟩ := (HPI.out.below HBJ.out (by omega)).elem hjl
            have hxk : p[j]? = some x := by
              have := HXX.out
              rw [List.getD_eq_getElem?_getD, List.getElem?_eq_getElem hjl] at this
              rw [List.getElem?_eq_getElem hjl]; exact congrArg some this
            have HXK := Lib.hid hxk
            have hx0 : 0 ≤ x := HP0.out x (List.mem_of_getElem? hxk)
            obtain ⟨b1, hb1⟩ : ∃ b, inL fl x = b := ⟨_, rfl⟩
            have HIN := Lib.hid (refIn_any A8 c8 fl.length fl w2.heap.size wr ((HI8.out.below HB.out (Nat.le_refl _))) rfl x b1 hb1)
            obtain ⟨us, hus⟩ : ∃ us, users paths x = us := ⟨_, rfl⟩
            have hul : us.length ≤ 6 := by have := users_len paths x; rw [← hus]; omega
            have HUS := Lib.hid hus
            have hov : ovr paths x = us.map fun (i : Nat) => (i : Int) := by unfold ovr; rw [hus]
            have HOV := Lib.hid hov
            have HB1V : Hid (narrow paths Q fl k x = narrowTo paths Q k x 0 b1) := Lib.hid (by unfold narrow narrowTo; rw [hb1]; rfl)
            clear hxk HXX hb1 hus hov
            go_wp2_with fail
            refine HIN.out.mono ?_; rintro e w' ⟨rfl, rfl⟩
            clear HIN
            go_wp2_with fail
            refine (refUsers_any x _ _ cp _ paths us B _ (by omega) (HP.out.below (HB2.out.trans (HB.out.mono hz2)) hB) (by omega) HUS.out rfl).mono ?_; rintro e w3 ⟨A5, c5, rfl, hi5, hl5, hc5, hb3⟩
            have HI5 := Lib.hid (own_ints' hi5)
            unfold maxLen at hc5
            have HB3 := Lib.hid (HBJ.out.trans (hb3.mono hBJ))
            have hz3 := HB3.out.size
            clear hi5 hb3 n0 n1 nz hcx hpcell' HN HO HB hB1
            go_wp2
            go_loopw [14, 16] (fun ok i wr => ∃ (u : Nat) (b : Bool), u ≤ us.length ∧ i = .int .i64 u ∧ ok = .bool b ∧ Hid (narrow paths Q fl k x = narrowTo paths Q k x u b) ∧ Hid (Below w3.heap.size w3 wr)) (fun _ i _ => us.length - (intOf i).toNat)
            case atStart => exact ⟨0, b1, Nat.zero_le _, rfl, rfl, HB1V, Lib.hid (Below.refl _ _)⟩
            case round =>
              obtain ⟨u, b, hu, rfl, rfl, HNT, HBU⟩ := hrel
              have hBU := HBU.out.size
              have HBW := Lib.hid (HB3.out.trans (HBU.out.mono hz3))
              by_cases hcont : u < us.length ∧ b = true
              · obtain ⟨hul2, rfl⟩ := hcont
                have u0 : (0 : Int) ≤ (u : Int) := by omega
                have u1' : (u : Int) < (us.length : Int) := by omega
                obtain ⟨b3, o3, x3, rfl, hb3, hc3c, _, _, HX3⟩ := (HI5.out.below HBU.out (Nat.le_refl _)).elem (k := u) (by simpa using hul2)
                obtain ⟨hv, hv1, _⟩ := users_get HUS.out hul2
                obtain ⟨v, hv'⟩ : ∃ v, us.getD u 0 = v := ⟨_, rfl⟩
                rw [hv'] at hv hv1
                have hx3 : x3 = (v : Int) := by have := HX3.out; rw [List.getD_eq_getElem?_getD, List.getElem?_map, hv1] at this; exact this.symm
                subst hx3
                have hov2 : (ovr paths x)[u]? = some (v : Int) := by rw [HOV.out, List.getElem?_map, hv1]; rfl
                have hst := narrowTo_step (Q := Q) (f := k) hov2
                have hvq : v < Q.length := by have := HQL.out; omega
                have hBall := HB2.out.trans ((HBo.out.trans (HBW.out.mono hBo)).mono hz2)
                obtain ⟨br, or, hAr, hbr, r0, r1⟩ := frs_q (HR.out.below hBall hB) hvq
                obtain ⟨br', or', hAr', _, q0, q1⟩ := frs_q (HR.out.below hBall hB) hkq
                rw [hAr] at hAr'
                injection hAr' with hAr'
                injection hAr' with e1 e2
                subst e1 e2
                subst hAr
                have hgo := @greater_ord Q k v
                have hqv : QIn (Q.getD v 0) := HQ.out _ (by rw [List.getD_eq_getElem?_getD, List.getElem?_eq_getElem hvq]; exact List.getElem_mem hvq)
                have hqk : QIn (Q.getD k 0) := HQ.out _ (by rw [List.getD_eq_getElem?_getD, List.getElem?_eq_getElem hkq]; exact List.getElem_mem hkq)
                obtain ⟨qa, hqa⟩ : ∃ x, Q.getD v 0 = x := ⟨_, rfl⟩
                obtain ⟨qb, hqb⟩ : ∃ x, Q.getD k 0 = x := ⟨_, rfl⟩
                rw [hqa] at r0 r1 hgo hqv
                rw [hqb] at q0 q1 hgo hqk
                obtain ⟨o, ho⟩ : ∃ x, ordQ qa qb = x := ⟨_, rfl⟩
                have HOR := Lib.hid fun W => refOrder_q qa qb o W hqv hqk ho
                rw [ho] at hgo
                have HST := Lib.hid hst; have HGO := Lib.hid hgo
                have v0 : (0 : Int) ≤ (v : Int) := by omega
                have v1 : (v : Int) < (Q.length : Int) := by omega
                have kq1 : (k : Int) < (Q.length : Int) := by omega
                have hbrz : br < wr.heap.size := by have := hBall.size; omega
                clear hv' hv hv1 HX3 hov2 hst hBall hgo hqv hqk hqa hqb ho
                go_upto_region 19 with (fail)
                go_cut [85, 14, 16] (fun s85 s14 s16 wx => s85 = .bool (decide (0 < o)) ∧ s14 = .bool true ∧ s16 = .int .i64 u ∧ Hid (Below wr.heap.size wr wx))
                case first =>
                  go_region_law (go_simp; go_at_call 21; refine (HOR.out _).mono ?_; rintro e w5 ⟨rfl, hb5⟩; have HB5 : Hid (Below wr.heap.size wr w5) := Lib.hid (by first | exact hb5 | exact (Below.refl _ _).drew.trans hb5 | exact (Below.refl _ _).drew.drew.trans hb5); clear hb5)
                  all_goals
                    go_wp2
                    go_meet
                    exact ⟨rfl, rfl, rfl, Lib.hid (by first | exact HB5.out | exact HB5.out.drew | exact HB5.out.drew.drew)⟩
                case rest =>
                  clear HOR r0 r1 q0 q1 hc3c
                  obtain ⟨rfl, rfl, rfl, HBX⟩ := hcut
                  rw [HGO.out]
                  have HBX2 := Lib.hid (HBU.out.trans (HBX.out.mono hBU))
                  have hnt := HNT.out
                  rw [HST.out] at hnt
                  cases hgr : greater Q k (v : Int)
                  · rw [hgr] at hnt
                    have HNT2 := Lib.hid hnt
                    clear hnt hgr HST HGO
                    go_wp2
                    go_roundw
                    case rel => exact ⟨u + 1, true, by omega, by go_num, rfl, HNT2, HBX2⟩
                    case measure => simp [intOf]; omega
                  · rw [hgr] at hnt
                    have HNT2 := Lib.hid hnt
                    clear hnt hgr HST HGO
                    go_wp2
                    go_roundw
                    case rel => exact ⟨u + 1, false, by omega, by go_num, rfl, HNT2, HBX2⟩
                    case measure => simp [intOf]; omega
              · have HNE : Hid (narrow paths Q fl k x = b) := Lib.hid (by
                  rw [HNT.out]
                  refine narrowTo_end ?_
                  rw [HOV.out, List.length_map]
                  by_cases hb : b = true
                  · right; have : ¬ u < us.length := fun h => hcont ⟨h, hb⟩; omega
                  · left; simpa using hb)
                have hwcases : (u < us.length ∧ b = false) ∨ u = us.length := by
                  by_cases h1 : u < us.length
                  · left; refine ⟨h1, ?_⟩; cases b
                    · rfl
                    · exact absurd ⟨h1, rfl⟩ hcont
                  · right; omega
                clear hcont HNT
                rcases hwcases with ⟨hul2, rfl⟩ | rfl
                · have u1' : (u : Int) < (us.length : Int) := by omega
                  go_wp2
                  go_roundw
                  case rel => exact ⟨j + 1, -1, by omega, by go_num, rfl, HBW, .inl ⟨rfl, Lib.hid (none_snoc HNA.out HT.out HNE.out)⟩⟩
                  case measure => simp [intOf]; omega
                · cases b
                  · go_wp2
                    go_roundw
                    case rel => exact ⟨j + 1, -1, by omega, by go_num, rfl, HBW, .inl ⟨rfl, Lib.hid (none_snoc HNA.out HT.out HNE.out)⟩⟩
                    case measure => simp [intOf]; omega
                  · go_wp2
                    go_roundw
                    case rel => exact ⟨j + 1, x, by omega, by go_num, rfl, HBW, .inr ⟨hx0, Lib.hid (find_first HNA.out HXK.out HNE.out)⟩⟩
                    case measure => simp [intOf]; omega
          · obtain rfl : j = p.length := by omega
            have HVX : Hid (neckOf paths Q fl k = (-1)) := Lib.hid (by unfold neckOf; rw [HPG.out]; have := HNA.out; rw [List.take_length] at this; rw [find_none this]; rfl)
            go_wp2_with (at_builtin; refine wpList_push wr _ rfl (.tmp 88) (.tmp 90) 40 rfl w2.heap.size 3 (.int .i64 0) 1 8 Tryd.underlying40 Tryd.info_int rfl (by omega) _ _ _ rfl HO.out rfl rfl (by simp [Value.oneCell']) (by omega) (by omega) hB1 ?_; intro v' w7 hown7 hg7; have HO7 := Lib.hid hown7; have HB7 := Lib.hid (below_push HB.out HO.out hg7 (Nat.le_refl _) hB1); have HN7 := Lib.hid (HN.out.grown hg7 fun e => own_blk_ne HO.out HN.out (by decide) e.symm); clear hown7 hg7)
            go_roundw
            case rel => exact ⟨k + 1, by omega, by go_num, Lib.hid (by rw [necks_succ, HVX.out, List.map_append]; exact HO7.out), HB7, HN7⟩
            case measure => simp [intOf]; omega
        · have d0 : decide (av < 0) = false := decide_eq_false (by omega)
          by_cases hjl : j < p.length
          · have j1 : (j : Int) < (p.length : Int) := by omega
            have HVX : Hid (neckOf paths Q fl k = av) := Lib.hid (by unfold neckOf; rw [HPG.out, HFD.out]; rfl)
            go_wp2_with (at_builtin; refine wpList_push wr _ rfl (.tmp 88) (.tmp 90) 40 rfl w2.heap.size 3 (.int .i64 0) 1 8 Tryd.underlying40 Tryd.info_int rfl (by omega) _ _ _ rfl HO.out rfl rfl (by simp [Value.oneCell']) (by omega) (by omega) hB1 ?_; intro v' w7 hown7 hg7; have HO7 := Lib.hid hown7; have HB7 := Lib.hid (below_push HB.out HO.out hg7 (Nat.le_refl _) hB1); have HN7 := Lib.hid (HN.out.grown hg7 fun e => own_blk_ne HO.out HN.out (by decide) e.symm); clear hown7 hg7)
            go_roundw
            case rel => exact ⟨k + 1, by omega, by go_num, Lib.hid (by rw [necks_succ, HVX.out, List.map_append]; exact HO7.out), HB7, HN7⟩
            case measure => simp [intOf]; omega
          · obtain rfl : j = p.length := by omega
            have HVX : Hid (neckOf paths Q fl k = av) := Lib.hid (by unfold neckOf; rw [HPG.out, HFD.out]; rfl)
            go_wp2_with (at_builtin; refine wpList_push wr _ rfl (.tmp 88) (.tmp 90) 40 rfl w2.heap.size 3 (.int .i64 0) 1 8 Tryd.underlying40 Tryd.info_int rfl (by omega) _ _ _ rfl HO.out rfl rfl (by simp [Value.oneCell']) (by omega) (by omega) hB1 ?_; intro v' w7 hown7 hg7; have HO7 := Lib.hid hown7; have HB7 := Lib.hid (below_push HB.out HO.out hg7 (Nat.le_refl _) hB1); have HN7 := Lib.hid (HN.out.grown hg7 fun e => own_blk_ne HO.out HN.out (by decide) e.symm); clear hown7 hg7)
            go_roundw
            case rel => exact ⟨k + 1, by omega, by go_num, Lib.hid (by rw [necks_succ, HVX.out, List.map_append]; exact HO7.out), HB7, HN7⟩
            case measure => simp [intOf]; omega
    · obtain rfl : k = paths.length := by omega
      have ho := HO.out
      rw [HV.out] at ho
      obtain ⟨A9, c9, hv9, hn9, hi9⟩ := owns_ints ho
      subst hv9
      have HI9 := Lib.hid hi9
      clear hi9 hn9 ho HO
      obtain ⟨n0, n1, _, _, nz⟩ := HN.out.two
      go_wp2
      go_ret2
      exact ⟨A9, c9, rfl, HI9.out, HB2.out.trans (HB.out.mono hz2)⟩
end Go.Proofs.YtblanfaghnflkaaDoor
