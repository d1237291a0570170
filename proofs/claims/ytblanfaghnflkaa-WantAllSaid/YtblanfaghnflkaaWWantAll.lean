/- The walk of WantAll: it returns true for every input. -/
import Derived.Test.YtblanfaghnflkaaWant4
import Derived.Test.YtblanfaghnflkaaPlWantAll
import Derived.Test.YtblanfaghnflkaaFrSame
import Derived.Test.YtblanfaghnflkaaOpens3
namespace Go.Proofs.Ytblanfaghnflkaa
open Go.RowKit
set_option maxHeartbeats 8000000 in
set_option maxRecDepth 100000 in
theorem wantAll_walk (C : Option Addr) (cc : Nat) (caps : List Int) (w : World) (hc : Ints w w.heap.size C cc caps) (_ : ∀ n ∈ caps, (Lit.int .i64 n).wf = true) (P : Option Addr) (cp : Nat) (paths : List (List Int)) (hp : Rows2 w w.heap.size P cp paths) (_ : ∀ l ∈ paths, ∀ n ∈ l, (Lit.int .i64 n).wf = true) (hzz : paths.length * 24 ≤ 140737488351232) :
    Calls Try.prog 4 #[.agg #[.slice C caps.length cc, .slice P paths.length cp]] w fun e w' => e = .returned (.bool true) ∧ Below w.heap.size w w' := by
  have HC := Lib.hid hc
  have HP := Lib.hid hp
  have hpm := hp.cap; have hpl := hp.le; have hcm := hc.cap; have hcl := hc.le
  unfold maxLen at hpm hcm
  clear hc hp
  have HN0 := Lib.hid (Blk.new w 25 #[.slice C caps.length cc, .slice P paths.length cp])
  have HB0 := Lib.hid ((Below.refl w.heap.size w).alloc (Nat.le_refl _) (.cells #[.slice C caps.length cc, .slice P paths.length cp] 25))
  obtain ⟨wa, hwa⟩ : ∃ x, x = w.alloc (.cells #[.slice C caps.length cc, .slice P paths.length cp] 25) := ⟨_, rfl⟩
  rw [← hwa] at HN0 HB0
  have h1 : Hid (Blk ((((wa.alloc (.cells #[.int .i64 4] 3)).alloc (.cells #[.int .i64 0] 3)).alloc (.cells #[.slice (some ⟨wa.heap.size + 1, 0, none⟩) 1 1] 22)).alloc (.cells #[.int .i64 3] 3)) wa.heap.size 3 (List.map (Value.int .i64) [4]).toArray) := Lib.hid ((((Blk.new _ _ _).alloc _).alloc _).alloc _)
  have h2 : Hid (Blk ((((wa.alloc (.cells #[.int .i64 4] 3)).alloc (.cells #[.int .i64 0] 3)).alloc (.cells #[.slice (some ⟨wa.heap.size + 1, 0, none⟩) 1 1] 22)).alloc (.cells #[.int .i64 3] 3)) (wa.heap.size + 1) 3 (List.map (Value.int .i64) [0]).toArray) := Lib.hid (((Blk.new' _ _ _ (by simp)).alloc _).alloc _)
  have h3 : Hid (Blk ((((wa.alloc (.cells #[.int .i64 4] 3)).alloc (.cells #[.int .i64 0] 3)).alloc (.cells #[.slice (some ⟨wa.heap.size + 1, 0, none⟩) 1 1] 22)).alloc (.cells #[.int .i64 3] 3)) (wa.heap.size + 1 + 1) 22 #[.slice (some ⟨wa.heap.size + 1, 0, none⟩) ([0] : List Int).length 1]) := Lib.hid ((Blk.new' _ _ _ (by simp)).alloc _)
  have h4 : Hid (Blk ((((wa.alloc (.cells #[.int .i64 4] 3)).alloc (.cells #[.int .i64 0] 3)).alloc (.cells #[.slice (some ⟨wa.heap.size + 1, 0, none⟩) 1 1] 22)).alloc (.cells #[.int .i64 3] 3)) (wa.heap.size + 1 + 1 + 1) 3 (List.map (Value.int .i64) [3]).toArray) := Lib.hid (Blk.new' _ _ _ (by simp))
  have HBA : Hid (Below wa.heap.size wa ((((wa.alloc (.cells #[.int .i64 4] 3)).alloc (.cells #[.int .i64 0] 3)).alloc (.cells #[.slice (some ⟨wa.heap.size + 1, 0, none⟩) 1 1] 22)).alloc (.cells #[.int .i64 3] 3))) := Lib.hid (((((Below.refl _ _).alloc (Nat.le_refl _) _).alloc (by simp) _).alloc (by simp; omega) _).alloc (by simp; omega) _)
  have hza := HB0.out.size
  go_enter Try.func4, Try.ntmps4
  go_upto_region 1 with (fail)
  rw [← hwa]
  clear hwa
  go_wp2_with fail
  refine (wrates_yes (some ⟨wa.heap.size, 0, none⟩) 1 [4] (some ⟨wa.heap.size + 1 + 1, 0, none⟩) 1 1 [[0]] (some ⟨wa.heap.size + 1 + 1 + 1, 0, none⟩) 1 1 [3] _ _ 1 [3] (Nat.le_refl _) (Ints.blk h1.out h1.out.lt (by decide)) (Rows2.blk1 h3.out (Ints.blk h2.out h2.out.lt (by decide)) h3.out.lt) (Ints.blk h4.out h4.out.lt (by decide)) rfl rfl (by decide) want_one).mono ?_; rintro e w1 ⟨A1, c1, rfl, hf1, hb1⟩
  have HB1x := HBA.out.trans (hb1.mono HBA.out.size)
  have HN1 := Lib.hid (HN0.out.go HB1x)
  have HB1 := Lib.hid (HB0.out.trans (HB1x.mono hza))
  have HF1 := Lib.hid hf1
  have hl1 := hf1.le; have hm1 := hf1.cap
  have hz1 := HB1.out.size
  clear hf1 hb1 HB1x h1 h2 h3 h4 HBA HN0 HB0
  unfold maxLen at hm1
  have HL1 := Lib.hid (Blk.new w1 28 #[.int .i64 3, .int .i64 1])
  have HF2 := Lib.hid (HF1.out.at' ((Below.refl w1.heap.size w1).alloc (Nat.le_refl _) (.cells #[.int .i64 3, .int .i64 1] 28)))
  have HN2 := Lib.hid (HN1.out.alloc (.cells #[.int .i64 3, .int .i64 1] 28))
  have HB2 := Lib.hid (HB1.out.alloc hz1 (.cells #[.int .i64 3, .int .i64 1] 28))
  go_wp2_with fail
  refine (sameFr_any A1 (some ⟨w1.heap.size, 0, none⟩) c1 1 _ 1 ([3].map frQ) [⟨3, 1⟩] _ _ _ HF2.out (Frs.blk1 HL1.out HL1.out.lt) rfl rfl (Nat.le_refl _) (Nat.le_refl _) true (by decide +kernel)).mono ?_; rintro e w3 ⟨rfl, hb3⟩
  have HN3 := Lib.hid (HN2.out.go hb3)
  have HB3 := Lib.hid (HB2.out.trans (hb3.mono HB2.out.size))
  have hz3 := HB3.out.size
  obtain ⟨n0, n1, nf0, nf1, nz⟩ := HN3.out.two
  clear hb3 HN1 HB1 HF1 HL1 HF2 HN2 HB2 hl1 hm1 hz1
  go_wp2
  go_loopw [5, 6] (fun v i wr => ∃ k : Nat, k ≤ paths.length ∧ i = .int .i64 k ∧ Hid (wr.ownsRow w.heap.size 3 1 v k ((allW k).map (Value.int .i64))) ∧ Hid (Blk wr w.heap.size 25 #[.slice C caps.length cc, .slice P paths.length cp]) ∧ Hid (Below w.heap.size w wr) ∧ w.heap.size ≤ wr.heap.size) (fun _ i _ => paths.length - (intOf i).toNat)
  case atStart => exact ⟨0, Nat.zero_le _, rfl, Lib.hid (World.ownsRow_nil _ _ _ _), HN3, HB3, hz3⟩
  case round =>
    clear HN3 HB3 n0 n1 nf0 nf1 nz hz3
    obtain ⟨k, hk, rfl, HO, HN, HB, hwl⟩ := hrel
    have hB1 := HB.out.size
    obtain ⟨n0, n1, nf0, nf1, nz⟩ := HN.out.two
    by_cases hlt : k < paths.length
    · have k0 : (0 : Int) ≤ (k : Int) := by omega
      have hbx : (k + 1) * 8 ≤ 140737488355328 := by omega
      have hmx : k + 1 ≤ maxLen := by unfold maxLen; omega
      go_wp2_with (at_builtin; refine wpList_pushZ wr _ rfl (.tmp 39) (.tmp 40) 22 rfl w.heap.size 3 (.int .i64 0) 1 8 Try.underlying22 Try.info_int rfl (by omega) _ _ _ rfl HO.out rfl rfl (by simp [Value.oneCell']) hmx hbx hwl ?_; intro v' w7 hown7 hg7)
      have HO7 := Lib.hid hown7
      have HB7 := Lib.hid (below_push HB.out HO.out hg7 (Nat.le_refl _) hB1)
      have HN7 := Lib.hid (HN.out.grown hg7 fun e => own_blk_ne HO.out HN.out (by decide) e.symm)
      have hz7 := Nat.le_trans hwl hg7.size
      clear hown7 hg7 n0 n1 nf0 nf1 nz
      go_wp2
      go_roundw
      case rel => exact ⟨k + 1, by omega, by go_num, Lib.hid (by rw [allW_succ, List.map_append]; exact HO7.out), HN7, HB7, hz7⟩
      case measure => simp [intOf]; omega
    · obtain rfl : k = paths.length := by omega
      obtain ⟨A, c, hv, hn0, hi⟩ := owns_ints HO.out
      rw [allW_len] at hv
      subst hv
      clear hn0
      have HI := Lib.hid hi
      have him := hi.cap; have hil := hi.le
      rw [allW_len] at hil
      unfold maxLen at him
      have HC1 := Lib.hid ((HC.out.below HB.out (Nat.le_refl _)).more hB1); have HP1 := Lib.hid ((HP.out.below HB.out (Nat.le_refl _)).more hB1)
      obtain ⟨wo, hwo⟩ : ∃ x, x = wr := ⟨_, rfl⟩
      rw [← hwo] at HI HC1 HP1 HN HB n0 n1 nf0 nf1 nz hB1 ⊢
      clear hwo hi HO hwl hk hlt
      have HAE := Lib.hid (allW_err caps paths)
      by_cases he : netErr caps paths = 0
      · obtain ⟨K, R, hK⟩ := fill_ends (netOk_of he)
        have hw := HAE.out
        rw [he] at hw
        obtain ⟨K', R', hK'⟩ := fill_ends (wide_netOk hw)
        obtain rfl := want_all he hK hK'
        have hRl := hK.len (netOk_of he)
        have hF1 := (netErr_ok he).2.2.2.1
        have HE := Lib.hid he; have HK := Lib.hid hK; have HK' := Lib.hid hK'; have HW := Lib.hid hw; have HRL := Lib.hid hRl
        have hr6 : R'.length ≤ 6 := by omega
        clear he hw hK hK' hRl
        go_wp2_with fail
        refine (wrates_yes C cc caps P cp _ paths A c _ (allW paths.length) wo.heap.size wo K' R' (Nat.le_refl _) HC1.out HP1.out HI.out rfl (allW_len _).symm HW.out HK'.out).mono ?_; rintro e w2 ⟨A2, c2, rfl, hf2, hb⟩
        have HF := Lib.hid hf2; have hm2 := hf2.cap; have hl2 := hf2.le
        rw [List.length_map] at hl2
        unfold maxLen at hm2
        have HBx := Lib.hid (HB.out.trans (hb.mono HB.out.size)); have HNx := Lib.hid (HN.out.go hb)
        have HC1x := Lib.hid (HC1.out.at' hb)
        have HP1x := Lib.hid (HP1.out.at' hb)
        have HIx := Lib.hid ((HI.out.below hb (Nat.le_refl _)).more hb.size)
        clear hb hf2 n0 n1 nf0 nf1 nz HB HN HC1 HP1 HI
        have HB := HBx; have HN := HNx; have HC1 := HC1x; have HP1 := HP1x; have HI := HIx
        clear HBx HNx HC1x HP1x HIx
        obtain ⟨n0, n1, nf0, nf1, nz⟩ := HN.out.two
        go_wp2_with fail
        refine (frates_yes C cc caps P cp _ paths w2.heap.size w2 K R' (Nat.le_refl _) HC1.out HP1.out rfl HE.out HK.out).mono ?_; rintro e w3 ⟨A3, c3, rfl, hf3, hb⟩
        have HG := Lib.hid hf3; have hm3 := hf3.cap; have hl3 := hf3.le
        rw [List.length_map] at hl3
        unfold maxLen at hm3
        have HBx := Lib.hid (HB.out.trans (hb.mono HB.out.size)); have HNx := Lib.hid (HN.out.go hb)
        have HC1x := Lib.hid (HC1.out.at' hb)
        have HP1x := Lib.hid (HP1.out.at' hb)
        have HIx := Lib.hid ((HI.out.below hb (Nat.le_refl _)).more hb.size)
        have HFx := Lib.hid (HF.out.at' hb)
        clear hb hf3 n0 n1 nf0 nf1 nz HB HN HC1 HP1 HI HF
        have HB := HBx; have HN := HNx; have HC1 := HC1x; have HP1 := HP1x; have HI := HIx; have HF := HFx
        clear HBx HNx HC1x HP1x HIx HFx
        obtain ⟨n0, n1, nf0, nf1, nz⟩ := HN.out.two
        go_wp2_with fail
        refine (wsated_yes C cc caps P cp _ paths A c _ (allW paths.length) w3.heap.size w3 K' R' (Nat.le_refl _) HC1.out HP1.out HI.out rfl (allW_len _).symm HW.out HK'.out).mono ?_; rintro e w4 ⟨A4, c4, rfl, hs4, hb⟩
        have HS := Lib.hid hs4; have hm4 := hs4.cap; have hl4 := hs4.le
        rw [satTo_len] at hl4
        unfold maxLen at hm4
        have HBx := Lib.hid (HB.out.trans (hb.mono HB.out.size)); have HNx := Lib.hid (HN.out.go hb)
        have HFx := Lib.hid (HF.out.at' hb)
        have HGx := Lib.hid (HG.out.at' hb)
        clear hb hs4 n0 n1 nf0 nf1 nz HB HN HC1 HP1 HI HF HG
        have HB := HBx; have HN := HNx; have HF := HFx; have HG := HGx
        clear HBx HNx HFx HGx
        go_wp2_with fail
        refine (sameFr_any A2 A3 c2 c3 _ _ (R'.map frQ) (R'.map frQ) _ _ _ HF.out HG.out (by rw [List.length_map]) (by rw [List.length_map]) (Nat.le_refl _) (Nat.le_refl _) true (decide_eq_true rfl)).mono ?_; rintro e w5 ⟨rfl, hb⟩
        have HBx := Lib.hid (HB.out.trans (hb.mono HB.out.size))
        have HFx := Lib.hid (HF.out.at' hb)
        have HSx := Lib.hid (HS.out.at' hb)
        clear hb HB HN HF HG HS
        have HB := HBx; have HF := HFx; have HS := HSx
        clear HBx HFx HSx HE HK HK' HW
        go_wp2
        go_loopw [13] (fun i wr => ∃ j : Nat, j ≤ R'.length ∧ i = .int .i64 j ∧ Hid (Below w5.heap.size w5 wr)) (fun i _ => R'.length - (intOf i).toNat)
        case atStart => exact ⟨0, Nat.zero_le _, rfl, Lib.hid (Below.refl _ _)⟩
        case round =>
          obtain ⟨j, hj, rfl, HBD⟩ := hrel
          by_cases hjl : j < R'.length
          · have j0 : (0 : Int) ≤ (j : Int) := by omega
            have j1 : (j : Int) < (R'.length : Int) := by omega
            obtain ⟨b, off, rfl, hb, c0, c1⟩ := frs_q (HF.out.below HBD.out (Nat.le_refl _)) hjl
            obtain ⟨b', off', sx, rfl, hb', d0, HX⟩ := (HS.out.below HBD.out (Nat.le_refl _)).elem (k := j) (by rw [satTo_len]; exact hjl)
            have hsx : sx = satB (allW paths.length) R' j := by
              have := HX.out
              simp [satTo, hjl] at this
              exact this.symm
            unfold satB at hsx
            rw [allW_at (by have := HRL.out; omega)] at hsx
            obtain ⟨q, hq⟩ : ∃ q, R'.getD j 0 = q := ⟨_, rfl⟩
            rw [hq] at c0 c1 hsx
            have hiff := @q_int q 1000
            obtain ⟨a, ha⟩ : ∃ a, q.num = a := ⟨_, rfl⟩
            obtain ⟨dd, hd⟩ : ∃ d : Int, (q.den : Int) = d := ⟨_, rfl⟩
            rw [ha] at c0
            rw [hd] at c1
            rw [ha, hd] at hiff
            have hbz : b < wr.heap.size := by have := HBD.out.size; omega
            have hbz' : b' < wr.heap.size := by have := HBD.out.size; omega
            clear hq ha hd HX
            by_cases hx : q = ((1000 : Int) : Rat)
            · obtain ⟨e1, e2⟩ := hiff.1 hx
              have e3 : sx = true := by rw [hsx]; exact decide_eq_true hx
              subst e1 e2 e3
              clear hsx hiff hx
              go_wp2_with fail
              go_quiet (fail)
              go_wp2
              go_roundw
              case rel => exact ⟨j + 1, by omega, by go_num, Lib.hid (below_drewN HBD.out _)⟩
              case measure => simp [intOf]; omega
            · have hne : ¬ (a = 1000 ∧ dd = 1) := fun h => hx (hiff.2 h)
              have e3 : sx = false := by rw [hsx]; exact decide_eq_false hx
              subst e3
              clear hsx hiff hx
              by_cases e1 : a = 1000
              · have e2 : (dd == 1) = false := beq_eq_false_iff_ne.2 fun h => hne ⟨e1, h⟩
                subst e1
                clear hne
                go_wp2_with fail
                go_quiet (fail)
                go_wp2
                go_roundw
                case rel => exact ⟨j + 1, by omega, by go_num, Lib.hid (below_drewN HBD.out _)⟩
                case measure => simp [intOf]; omega
              · have e2 : (a == 1000) = false := beq_eq_false_iff_ne.2 e1
                clear hne e1
                go_wp2_with fail
                go_quiet (fail)
                go_wp2
                go_roundw
                case rel => exact ⟨j + 1, by omega, by go_num, Lib.hid (below_drewN HBD.out _)⟩
                case measure => simp [intOf]; omega
          · obtain rfl : j = R'.length := by omega
            go_wp2
            go_ret
            exact ⟨rfl, HB.out.trans (HBD.out.mono HB.out.size)⟩
      · obtain ⟨er, her⟩ : ∃ er, netErr caps paths = er := ⟨_, rfl⟩
        have hw := HAE.out
        rw [her] at he hw
        have HE := Lib.hid her; have HW := Lib.hid hw; have H0 := Lib.hid he
        clear her hw he
        go_wp2_with fail
        refine (wrates_er C cc caps P cp _ paths A c _ (allW paths.length) wo.heap.size wo er (Nat.le_refl _) HC1.out HP1.out HI.out rfl (allW_len _).symm HW.out H0.out).mono ?_; rintro e w2 ⟨rfl, hb⟩
        have HBx := Lib.hid (HB.out.trans (hb.mono HB.out.size)); have HNx := Lib.hid (HN.out.go hb)
        have HC1x := Lib.hid (HC1.out.at' hb)
        have HP1x := Lib.hid (HP1.out.at' hb)
        clear hb n0 n1 nf0 nf1 nz HB HN HC1 HP1 HI
        have HB := HBx; have HN := HNx; have HC1 := HC1x; have HP1 := HP1x
        clear HBx HNx HC1x HP1x
        obtain ⟨n0, n1, nf0, nf1, nz⟩ := HN.out.two
        go_wp2_with fail
        refine (frates_no C cc caps P cp _ paths w2.heap.size w2 er (Nat.le_refl _) HC1.out HP1.out rfl HE.out H0.out).mono ?_; rintro e w3 ⟨rfl, hb⟩
        have HB3 := Lib.hid (HB.out.trans (hb.mono HB.out.size))
        clear hb
        go_wp2
        go_ret
        exact ⟨rfl, HB3.out⟩
end Go.Proofs.Ytblanfaghnflkaa
