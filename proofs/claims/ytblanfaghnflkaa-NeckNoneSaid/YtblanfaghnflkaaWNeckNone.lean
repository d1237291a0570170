/- The walk of NeckNone: it returns true for every input. -/
import Derived.Test.YtblanfaghnflkaaLibJ
import Derived.Test.YtblanfaghnflkaaPlZero
import Derived.Test.YtblanfaghnflkaaTopOne
import Derived.Test.YtblanfaghnflkaaFrSame
import Derived.Test.YtblanfaghnflkaaOpens3
namespace Go.Proofs.Ytblanfaghnflkaa
open Go.RowKit
theorem neckNone_fact (g1 g2 g3 gf : Nat) (w : World) (h1 : Blk w g1 3 #[.int .i64 4]) (h2 : Blk w g2 3 #[.int .i64 0]) (h4 : Blk w g3 22 #[.slice (some ⟨g2, 0, none⟩) 1 1]) (h5 : Blk w gf 28 #[.int .i64 4, .int .i64 1]) :
    Calls Try.prog 21 #[.agg #[.slice (some ⟨g1, 0, none⟩) 1 1, .slice (some ⟨g3, 0, none⟩) 1 1], .slice (some ⟨gf, 0, none⟩) 1 1] w fun e w' => ∃ b o c, e = .returned (.tuple #[.slice (some ⟨b, o, none⟩) 1 c, .nilIface]) ∧ w'.cell? ⟨b, o, none⟩ = some (.int .i64 0) ∧ 0 < c ∧ c ≤ maxLen ∧ Below w.heap.size w w' := by
  have hq : ([4] : List Rat).map frQ = [⟨4, 1⟩] := by decide +kernel
  refine (necks_yes (some ⟨g1, 0, none⟩) 1 [4] (some ⟨g3, 0, none⟩) 1 1 [[0]] (some ⟨gf, 0, none⟩) 1 1 [4] [4] w.heap.size w (Nat.le_refl _) (Ints.blk (l := [4]) h1 h1.lt (by decide)) (Rows2.blk1 (l1 := [0]) h4 (Ints.blk (l := [0]) h2 h2.lt (by decide)) h4.lt) (by rw [hq]; exact Frs.blk1 h5 h5.lt) rfl rfl (by decide) rfl (fun q hq => of_decide_eq_true (List.all_eq_true.1 (show (([4] : List Rat).all fun q => decide (QIn q)) = true by decide +kernel) q hq)) (by decide +kernel) [0] (by decide +kernel)).mono ?_
  rintro e w' ⟨A, c, rfl, hi, hb⟩
  obtain ⟨b, o, x, rfl, _, hc, _, _, HX⟩ := hi.elem (k := 0) (by decide)
  have hx : x = 0 := by have := HX.out; simpa using this.symm
  subst hx
  have h1 := hi.le; have h2 := hi.cap
  exact ⟨b, o, c, rfl, hc, by simp at h1; omega, h2, hb⟩
set_option maxHeartbeats 8000000 in
set_option maxRecDepth 100000 in
theorem neckNone_walk (C : Option Addr) (cc : Nat) (caps : List Int) (w : World) (hc : Ints w w.heap.size C cc caps) (_ : ∀ n ∈ caps, (Lit.int .i64 n).wf = true) (P : Option Addr) (cp : Nat) (paths : List (List Int)) (hp : Rows2 w w.heap.size P cp paths) (_ : ∀ l ∈ paths, ∀ n ∈ l, (Lit.int .i64 n).wf = true) (hzz : paths.length * 24 ≤ 140737488351232) :
    Calls Try.prog 6 #[.agg #[.slice C caps.length cc, .slice P paths.length cp]] w fun e w' => e = .returned (.bool true) ∧ Below w.heap.size w w' := by
  have HC := Lib.hid hc
  have HP := Lib.hid hp
  have hpm := hp.cap; have hpl := hp.le; have hcm := hc.cap; have hcl := hc.le
  unfold maxLen at hpm hcm
  clear hc hp
  have HNN := Lib.hid (Blk.new w 25 #[.slice C caps.length cc, .slice P paths.length cp])
  have HBB := Lib.hid ((Below.refl w.heap.size w).alloc (Nat.le_refl _) (.cells #[.slice C caps.length cc, .slice P paths.length cp] 25))
  go_enter Try.func6, Try.ntmps6
  go_wp2_with fail
  refine (neckNone_fact (w.heap.size + 1) (w.heap.size + 1 + 1) (w.heap.size + 1 + 1 + 1) (w.heap.size + 1 + 1 + 1 + 1) _ (by repeat (first | (with_reducible apply Blk.new'; first | with_reducible rfl | (focus (simp; done))) | with_reducible apply Blk.alloc)) (by repeat (first | (with_reducible apply Blk.new'; first | with_reducible rfl | (focus (simp; done))) | with_reducible apply Blk.alloc)) (by repeat (first | (with_reducible apply Blk.new'; first | with_reducible rfl | (focus (simp; done))) | with_reducible apply Blk.alloc)) (by repeat (first | (with_reducible apply Blk.new'; first | with_reducible rfl | (focus (simp; done))) | with_reducible apply Blk.alloc))).mono ?_; rintro e w1 ⟨b0, o0, c0, rfl, hk0, hc0, hcm0, hb⟩
  unfold maxLen at hcm0
  have hc1 : (0 : Int) < (c0 : Int) := by omega
  have HN0 := Lib.hid (show Blk w1 w.heap.size 25 #[.slice C caps.length cc, .slice P paths.length cp] from Blk.go (by repeat (first | (with_reducible apply Blk.new'; first | with_reducible rfl | (focus (simp; done))) | with_reducible apply Blk.alloc)) hb)
  have HB0 : Hid (Below w.heap.size w w1) := Lib.hid (Below.trans (by repeat (first | with_reducible exact Below.refl _ _ | with_reducible apply Below.alloc | omega | (focus (simp; done)) | (simp; omega))) (hb.mono (by first | omega | (simp; done) | (simp; omega))))
  have hwb : w.heap.size ≤ w1.heap.size := HB0.out.size
  clear hb HNN HBB
  go_wp2
  go_loopw [5, 6] (fun v i wr => ∃ k : Nat, k ≤ paths.length ∧ i = .int .i64 k ∧ Hid (wr.ownsRow w1.heap.size 28 2 v k (qcells (zerosQ k))) ∧ Hid (Blk wr w.heap.size 25 #[.slice C caps.length cc, .slice P paths.length cp]) ∧ Hid (Below w.heap.size w wr) ∧ w1.heap.size ≤ wr.heap.size) (fun _ i _ => paths.length - (intOf i).toNat)
  case atStart => exact ⟨0, Nat.zero_le _, rfl, Lib.hid (World.ownsRow_nil _ _ _ _), HN0, HB0, by first | exact Nat.le_refl _ | (simp; done) | (simp; omega)⟩
  case round =>
    clear HN0 HB0
    obtain ⟨k, hk, rfl, HO, HN, HB, hwl⟩ := hrel
    have hB1 := HB.out.size
    obtain ⟨n0, n1, nf0, nf1, nz⟩ := HN.out.two
    by_cases hlt : k < paths.length
    · have k0 : (0 : Int) ≤ (k : Int) := by omega
      have hbx : (k + 1) * 16 ≤ 140737488355328 := by omega
      have hmx : k + 1 ≤ maxLen := by unfold maxLen; omega
      go_wp2_with (at_builtin; refine wpList_pushZ wr _ rfl (.tmp 42) (.tmp 44) 26 rfl w1.heap.size 28 (.agg #[.int .i64 0, .int .i64 0]) 2 16 Try.underlying26 Try.info_fr rfl (by omega) _ _ _ rfl HO.out rfl rfl (by simp [Value.oneCell']) hmx hbx hwl ?_; intro v' w7 hown7 hg7)
      have HO7 := Lib.hid hown7
      have HB7 := Lib.hid (below_push HB.out HO.out hg7 (by first | exact Nat.le_refl _ | exact hwb) hB1)
      have HN7 := Lib.hid (HN.out.grown hg7 fun e => own_blk_ne HO.out HN.out (by decide) e.symm)
      have hz7 := Nat.le_trans hwl hg7.size
      clear hown7 hg7 n0 n1 nf0 nf1 nz
      go_wp2
      go_roundw
      case rel => exact ⟨k + 1, by omega, by go_num, Lib.hid (by rw [zerosQ_succ, qcells_snoc]; exact HO7.out), HN7, HB7, hz7⟩
      case measure => simp [intOf]; omega
    · obtain rfl : k = paths.length := by omega
      obtain ⟨A, c, rfl, hn0, hf⟩ := owns_frs HO.out
      clear hn0
      rw [List.length_map, zerosQ_len]
      have HF := Lib.hid hf
      have hfm := hf.cap; have hfl := hf.le
      rw [List.length_map, zerosQ_len] at hfl
      unfold maxLen at hfm
      have HC1 := Lib.hid ((HC.out.below HB.out (Nat.le_refl _)).more hB1); have HP1 := Lib.hid ((HP.out.below HB.out (Nat.le_refl _)).more hB1)
      obtain ⟨wo, hwo⟩ : ∃ x, x = wr := ⟨_, rfl⟩
      rw [← hwo] at HF HC1 HP1 HN HB n0 n1 nf0 nf1 nz hB1 ⊢
      clear hwo hf HO hwl
      by_cases he : netErr caps paths = 0
      · have HE := Lib.hid he
        clear he
        obtain ⟨V, hV⟩ : ∃ V, necks paths (zerosQ paths.length) ((fulls caps (zerosQ caps.length)).map fun (i : Nat) => (i : Int)) paths.length = V := ⟨_, rfl⟩
        have HV := Lib.hid hV
        have HVR : Hid (V = List.replicate paths.length (-1)) := Lib.hid (by rw [← hV]; exact necks_zeros HE.out _ _)
        have hVl : V.length = paths.length := by rw [HVR.out]; simp
        have hn6 := (netErr_ok HE.out).2.2.2.1
        have hv6 : V.length ≤ 6 := by omega
        clear hV hVl
        go_wp2_with fail
        refine (necks_yes C cc caps P cp _ paths A c _ (zerosQ paths.length) (zerosQ caps.length) wo.heap.size wo (Nat.le_refl _) HC1.out HP1.out HF.out rfl (zerosQ_len _).symm HE.out (zerosQ_len _) (zerosQ_in _) (loads_zeros _ _ _) V HV.out).mono ?_; rintro e w2 ⟨A2, c2, rfl, hi2, hb⟩
        have HI2 := Lib.hid hi2; have hm2 := hi2.cap; have hl2 := hi2.le
        unfold maxLen at hm2
        clear hi2
        have HBx := Lib.hid (HB.out.trans (hb.mono HB.out.size)); have HNx := Lib.hid (HN.out.go hb)
        have hz_w2 := hb.size
        have HC1x := Lib.hid (HC1.out.at' hb)
        have HP1x := Lib.hid (HP1.out.at' hb)
        have HFx := Lib.hid (HF.out.at' hb)
        clear hb n0 n1 nf0 nf1 nz HB HN HC1 HP1 HF
        have HB := HBx; have HN := HNx; have HC1 := HC1x; have HP1 := HP1x; have HF := HFx
        clear HBx HNx HC1x HP1x HFx
        obtain ⟨n0, n1, nf0, nf1, nz⟩ := HN.out.two
        go_wp2_with fail
        refine (nfair_yes C cc caps P cp _ paths A c _ (zerosQ paths.length) (zerosQ caps.length) false w2.heap.size w2 (Nat.le_refl _) HC1.out HP1.out HF.out rfl (zerosQ_len _).symm HE.out (zerosQ_len _) (zerosQ_in _) (loads_zeros _ _ _) (fair_zeros HE.out)).mono ?_; rintro e w3 ⟨rfl, hb⟩
        have HBx := Lib.hid (HB.out.trans (hb.mono HB.out.size)); have HNx := Lib.hid (HN.out.go hb)
        have hz_w3 := hb.size
        have HC1x := Lib.hid (HC1.out.at' hb)
        have HP1x := Lib.hid (HP1.out.at' hb)
        have HFx := Lib.hid (HF.out.at' hb)
        have HI2x := Lib.hid (HI2.out.at' hb)
        clear hb n0 n1 nf0 nf1 nz HB HN HC1 HP1 HF HI2
        have HB := HBx; have HN := HNx; have HC1 := HC1x; have HP1 := HP1x; have HF := HFx; have HI2 := HI2x
        clear HBx HNx HC1x HP1x HFx HI2x
        obtain ⟨n0, n1, nf0, nf1, nz⟩ := HN.out.two
        clear HC1 HP1 HF
        go_wp2
        go_loopw [11] (fun i wr => ∃ j : Nat, j ≤ V.length ∧ i = .int .i64 j ∧ wr = w3) (fun i _ => V.length - (intOf i).toNat)
        case atStart => exact ⟨0, Nat.zero_le _, rfl, rfl⟩
        case round =>
          obtain ⟨j, hj, rfl, rfl⟩ := hrel
          by_cases hjl : j < V.length
          · have j0 : (0 : Int) ≤ (j : Int) := by omega
            obtain ⟨b, off, x, rfl, hb, hcx, _, _, HX⟩ := HI2.out.elem hjl
            have hx : x = -1 := by
              have h1 := HX.out
              have hjp : j < paths.length := by have := hjl; rw [HVR.out, List.length_replicate] at this; exact this
              rw [HVR.out, List.getD_eq_getElem?_getD, List.getElem?_replicate, if_pos hjp] at h1
              exact h1.symm
            subst hx
            clear HX
            go_wp2
            go_roundw
            case rel => exact ⟨j + 1, by omega, by go_num, trivial⟩
            case measure => simp [intOf]; omega
          · obtain rfl : j = V.length := by omega
            go_wp2
            go_ret
            exact ⟨rfl, HB.out⟩
      · obtain ⟨er, her⟩ : ∃ er, netErr caps paths = er := ⟨_, rfl⟩
        rw [her] at he
        have hck : chkErr caps paths ((zerosQ paths.length).map frQ) = er := by unfold chkErr; rw [her, if_neg he]
        have HCK := Lib.hid hck; have HE := Lib.hid her; have H0 := Lib.hid he
        clear hck her
        have hx : (chkErr caps paths ((zerosQ paths.length).map frQ) = er ∧ er ≠ 0) ∨ (∃ Q : List Rat, (zerosQ paths.length).map frQ = Q.map frQ ∧ netErr caps paths = 0 ∧ Q.length = paths.length ∧ (∀ q ∈ Q, QIn q) ∧ loadsTo paths Q caps.length = none ∧ er = 4) := .inl ⟨HCK.out, he⟩
        have HX := Lib.hid hx
        clear hx he
        go_wp2_with fail
        refine (necks_er C cc caps P cp _ paths A c _ ((zerosQ paths.length).map frQ) wo.heap.size wo er (Nat.le_refl _) HC1.out HP1.out HF.out rfl (by simp [zerosQ_len]) HX.out).mono ?_; rintro e w2 ⟨rfl, hb⟩
        have HBx := Lib.hid (HB.out.trans (hb.mono HB.out.size)); have HNx := Lib.hid (HN.out.go hb)
        have hz_w2 := hb.size
        have HC1x := Lib.hid (HC1.out.at' hb)
        have HP1x := Lib.hid (HP1.out.at' hb)
        have HFx := Lib.hid (HF.out.at' hb)
        clear hb n0 n1 nf0 nf1 nz HB HN HC1 HP1 HF
        have HB := HBx; have HN := HNx; have HC1 := HC1x; have HP1 := HP1x; have HF := HFx
        clear HBx HNx HC1x HP1x HFx
        obtain ⟨n0, n1, nf0, nf1, nz⟩ := HN.out.two
        go_wp2_with fail
        refine (nfair_er C cc caps P cp _ paths A c _ ((zerosQ paths.length).map frQ) w2.heap.size w2 er (Nat.le_refl _) HC1.out HP1.out HF.out rfl (by simp [zerosQ_len]) HX.out).mono ?_; rintro e w3 ⟨rfl, hb⟩
        have HBx := Lib.hid (HB.out.trans (hb.mono HB.out.size)); have HNx := Lib.hid (HN.out.go hb)
        have hz_w3 := hb.size
        have HC1x := Lib.hid (HC1.out.at' hb)
        have HP1x := Lib.hid (HP1.out.at' hb)
        have HFx := Lib.hid (HF.out.at' hb)
        clear hb n0 n1 nf0 nf1 nz HB HN HC1 HP1 HF
        have HB := HBx; have HN := HNx; have HC1 := HC1x; have HP1 := HP1x; have HF := HFx
        clear HBx HNx HC1x HP1x HFx
        obtain ⟨n0, n1, nf0, nf1, nz⟩ := HN.out.two
        have hne := H0.out
        go_wp2
        go_ret
        exact ⟨rfl, HB.out⟩
end Go.Proofs.Ytblanfaghnflkaa
