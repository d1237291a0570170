/- The walk of LoadNone: it returns true for every input. -/
import Derived.Test.YtblanfaghnflkaaLibJ
import Derived.Test.YtblanfaghnflkaaPlZero
import Derived.Test.YtblanfaghnflkaaTopOne
import Derived.Test.YtblanfaghnflkaaFrSame
import Derived.Test.YtblanfaghnflkaaOpens3
namespace Go.Proofs.Ytblanfaghnflkaa
open Go.RowKit
set_option maxHeartbeats 8000000 in
set_option maxRecDepth 100000 in
theorem loadNone_walk (C : Option Addr) (cc : Nat) (caps : List Int) (w : World) (hc : Ints w w.heap.size C cc caps) (_ : ∀ n ∈ caps, (Lit.int .i64 n).wf = true) (P : Option Addr) (cp : Nat) (paths : List (List Int)) (hp : Rows2 w w.heap.size P cp paths) (_ : ∀ l ∈ paths, ∀ n ∈ l, (Lit.int .i64 n).wf = true) (hzz : paths.length * 24 ≤ 140737488351232) :
    Calls Try.prog 3 #[.agg #[.slice C caps.length cc, .slice P paths.length cp]] w fun e w' => e = .returned (.bool true) ∧ Below w.heap.size w w' := by
  have HC := Lib.hid hc
  have HP := Lib.hid hp
  have hpm := hp.cap; have hpl := hp.le; have hcm := hc.cap; have hcl := hc.le
  unfold maxLen at hpm hcm
  clear hc hp
  have HN0 := Lib.hid (Blk.new w 25 #[.slice C caps.length cc, .slice P paths.length cp])
  have HB0 := Lib.hid ((Below.refl w.heap.size w).alloc (Nat.le_refl _) (.cells #[.slice C caps.length cc, .slice P paths.length cp] 25))
  go_enter Try.func3, Try.ntmps3
  go_wp2
  go_loopw [3, 4] (fun v i wr => ∃ k : Nat, k ≤ paths.length ∧ i = .int .i64 k ∧ Hid (wr.ownsRow w.heap.size 28 2 v k (qcells (zerosQ k))) ∧ Hid (Blk wr w.heap.size 25 #[.slice C caps.length cc, .slice P paths.length cp]) ∧ Hid (Below w.heap.size w wr) ∧ w.heap.size ≤ wr.heap.size) (fun _ i _ => paths.length - (intOf i).toNat)
  case atStart => exact ⟨0, Nat.zero_le _, rfl, Lib.hid (World.ownsRow_nil _ _ _ _), HN0, HB0, by first | exact Nat.le_refl _ | (simp; done) | (simp; omega)⟩
  case round =>
    clear HN0 HB0
    obtain ⟨k, hk, rfl, HO, HN, HB, hwl⟩ := hrel
    have hB1 := HB.out.size
    obtain ⟨n0, n1, nf0, nf1, nz⟩ := HN.out.two
    by_cases hlt : k < paths.length
    · have k0 : (0 : Int) ≤ (k : Int) := by omega
      have hbx : (k + 1) * 16 ≤ 140737488355328 := by omega
      have hmx : k + 1 ≤ maxLen := by unfold maxLen; omega
      go_wp2_with (at_builtin; refine wpList_pushZ wr _ rfl (.tmp 17) (.tmp 19) 26 rfl w.heap.size 28 (.agg #[.int .i64 0, .int .i64 0]) 2 16 Try.underlying26 Try.info_fr rfl (by omega) _ _ _ rfl HO.out rfl rfl (by simp [Value.oneCell']) hmx hbx hwl ?_; intro v' w7 hown7 hg7)
      have HO7 := Lib.hid hown7
      have HB7 := Lib.hid (below_push HB.out HO.out hg7 (by first | exact Nat.le_refl _ | exact hwb) hB1)
      have HN7 := Lib.hid (HN.out.grown hg7 fun e => own_blk_ne HO.out HN.out (by decide) e.symm)
      have hz7 := Nat.le_trans hwl hg7.size
      clear hown7 hg7 n0 n1 nf0 nf1 nz
      go_wp2
      go_roundw
      case rel => exact ⟨k + 1, by omega, by go_num, Lib.hid (by rw [zerosQ_succ, qcells_snoc]; exact HO7.out), HN7, HB7, hz7⟩
      case measure => simp [intOf]; omega
    · obtain rfl : k = paths.length := by omega
      obtain ⟨A, c, rfl, hn0, hf⟩ := owns_frs HO.out
      clear hn0
      rw [List.length_map, zerosQ_len]
      have HF := Lib.hid hf
      have hfm := hf.cap; have hfl := hf.le
      rw [List.length_map, zerosQ_len] at hfl
      unfold maxLen at hfm
      have HC1 := Lib.hid ((HC.out.below HB.out (Nat.le_refl _)).more hB1); have HP1 := Lib.hid ((HP.out.below HB.out (Nat.le_refl _)).more hB1)
      obtain ⟨wo, hwo⟩ : ∃ x, x = wr := ⟨_, rfl⟩
      rw [← hwo] at HF HC1 HP1 HN HB n0 n1 nf0 nf1 nz hB1 ⊢
      clear hwo hf HO hwl
      by_cases he : netErr caps paths = 0
      · have HE := Lib.hid he
        clear he
        go_wp2_with fail
        refine (lof_yes C cc caps P cp _ paths A c _ (zerosQ paths.length) (zerosQ caps.length) wo.heap.size wo (Nat.le_refl _) HC1.out HP1.out HF.out rfl (zerosQ_len _).symm HE.out (zerosQ_len _) (zerosQ_in _) (loads_zeros _ _ _)).mono ?_; rintro e w2 ⟨A2, c2, rfl, hf2, _, hb⟩
        have HF2 := Lib.hid hf2; have hm2 := hf2.cap; have hl2 := hf2.le
        rw [List.length_map, zerosQ_len] at hl2
        unfold maxLen at hm2
        clear hf2
        have HBx := Lib.hid (HB.out.trans (hb.mono HB.out.size)); have HNx := Lib.hid (HN.out.go hb)
        have hz_w2 := hb.size
        have HC1x := Lib.hid (HC1.out.at' hb)
        have HP1x := Lib.hid (HP1.out.at' hb)
        have HFx := Lib.hid (HF.out.at' hb)
        clear hb n0 n1 nf0 nf1 nz HB HN HC1 HP1 HF
        have HB := HBx; have HN := HNx; have HC1 := HC1x; have HP1 := HP1x; have HF := HFx
        clear HBx HNx HC1x HP1x HFx
        obtain ⟨n0, n1, nf0, nf1, nz⟩ := HN.out.two
        go_wp2_with fail
        refine (fits_yes' C cc caps P cp _ paths A c _ (zerosQ paths.length) (zerosQ caps.length) true w2.heap.size w2 (Nat.le_refl _) HC1.out HP1.out HF.out rfl (zerosQ_len _).symm HE.out (zerosQ_len _) (zerosQ_in _) (loads_zeros _ _ _) (fits_zeros HE.out _)).mono ?_; rintro e w3 ⟨rfl, hb⟩
        have HBx := Lib.hid (HB.out.trans (hb.mono HB.out.size)); have HNx := Lib.hid (HN.out.go hb)
        have hz_w3 := hb.size
        have HC1x := Lib.hid (HC1.out.at' hb)
        have HP1x := Lib.hid (HP1.out.at' hb)
        have HFx := Lib.hid (HF.out.at' hb)
        have HF2x := Lib.hid (HF2.out.at' hb)
        clear hb n0 n1 nf0 nf1 nz HB HN HC1 HP1 HF HF2
        have HB := HBx; have HN := HNx; have HC1 := HC1x; have HP1 := HP1x; have HF := HFx; have HF2 := HF2x
        clear HBx HNx HC1x HP1x HFx HF2x
        obtain ⟨n0, n1, nf0, nf1, nz⟩ := HN.out.two
        clear HC1 HP1 HF
        go_wp2
        go_loopw [9] (fun i wr => ∃ j d : Nat, j ≤ caps.length ∧ i = .int .i64 j ∧ Hid (wr = w3.drewN d)) (fun i _ => caps.length - (intOf i).toNat)
        case atStart => exact ⟨0, 0, Nat.zero_le _, rfl, Lib.hid rfl⟩
        case round =>
          clear n0 n1 nf0 nf1 nz
          obtain ⟨j, d, hj, rfl, HD⟩ := hrel
          have HBD : Hid (Below w3.heap.size w3 wr) := Lib.hid (by rw [HD.out]; exact below_drewN (Below.refl _ _) _)
          have HND := Lib.hid (HN.out.go HBD.out)
          obtain ⟨n0, n1, nf0, nf1, nz⟩ := HND.out.two
          by_cases hjl : j < caps.length
          · have j0 : (0 : Int) ≤ (j : Int) := by omega
            have j1 : (j : Int) < (caps.length : Int) := by omega
            obtain ⟨b, off, rfl, hb, c0, c1⟩ := frs_q (HF2.out.below HBD.out (Nat.le_refl _)) (show j < (zerosQ caps.length).length by rw [zerosQ_len]; exact hjl)
            rw [zerosQ_at] at c0 c1
            have d0 : wr.cell? ⟨b, off + j * 2, none⟩ = some (.int .i64 0) := c0
            have d1 : wr.cell? ⟨b, off + j * 2 + 1, none⟩ = some (.int .i64 1) := c1
            clear c0 c1
            have hbz : b < wr.heap.size := by have := HBD.out.size; omega
            go_wp2
            go_roundw
            case rel => exact ⟨j + 1, d, by omega, by go_num, HD⟩
            case measure => simp [intOf]; omega
          · obtain rfl : j = caps.length := by omega
            go_wp2
            go_ret
            exact ⟨rfl, HB.out.trans (HBD.out.mono (by have := HB.out.size; omega))⟩
      · obtain ⟨er, her⟩ : ∃ er, netErr caps paths = er := ⟨_, rfl⟩
        rw [her] at he
        have hck : chkErr caps paths ((zerosQ paths.length).map frQ) = er := by unfold chkErr; rw [her, if_neg he]
        have HCK := Lib.hid hck; have HE := Lib.hid her; have H0 := Lib.hid he
        clear hck her
        have hx : (chkErr caps paths ((zerosQ paths.length).map frQ) = er ∧ er ≠ 0) ∨ (∃ Q : List Rat, (zerosQ paths.length).map frQ = Q.map frQ ∧ netErr caps paths = 0 ∧ Q.length = paths.length ∧ (∀ q ∈ Q, QIn q) ∧ loadsTo paths Q caps.length = none ∧ er = 4) := .inl ⟨HCK.out, he⟩
        have HX := Lib.hid hx
        clear hx he
        go_wp2_with fail
        refine (lof_er C cc caps P cp _ paths A c _ ((zerosQ paths.length).map frQ) wo.heap.size wo er (Nat.le_refl _) HC1.out HP1.out HF.out rfl (by simp [zerosQ_len]) HX.out).mono ?_; rintro e w2 ⟨rfl, hb⟩
        have HBx := Lib.hid (HB.out.trans (hb.mono HB.out.size)); have HNx := Lib.hid (HN.out.go hb)
        have hz_w2 := hb.size
        have HC1x := Lib.hid (HC1.out.at' hb)
        have HP1x := Lib.hid (HP1.out.at' hb)
        have HFx := Lib.hid (HF.out.at' hb)
        clear hb n0 n1 nf0 nf1 nz HB HN HC1 HP1 HF
        have HB := HBx; have HN := HNx; have HC1 := HC1x; have HP1 := HP1x; have HF := HFx
        clear HBx HNx HC1x HP1x HFx
        obtain ⟨n0, n1, nf0, nf1, nz⟩ := HN.out.two
        go_wp2_with fail
        refine (fits_er C cc caps P cp _ paths A c _ ((zerosQ paths.length).map frQ) w2.heap.size w2 er (Nat.le_refl _) HC1.out HP1.out HF.out rfl (by simp [zerosQ_len]) HX.out).mono ?_; rintro e w3 ⟨rfl, hb⟩
        have HBx := Lib.hid (HB.out.trans (hb.mono HB.out.size)); have HNx := Lib.hid (HN.out.go hb)
        have hz_w3 := hb.size
        have HC1x := Lib.hid (HC1.out.at' hb)
        have HP1x := Lib.hid (HP1.out.at' hb)
        have HFx := Lib.hid (HF.out.at' hb)
        clear hb n0 n1 nf0 nf1 nz HB HN HC1 HP1 HF
        have HB := HBx; have HN := HNx; have HC1 := HC1x; have HP1 := HP1x; have HF := HFx
        clear HBx HNx HC1x HP1x HFx
        obtain ⟨n0, n1, nf0, nf1, nz⟩ := HN.out.two
        go_wp2_with fail
        refine (ncheck_er C cc caps P cp paths w3.heap.size _ er (by first | omega | (focus (simp; done)) | (simp; omega)) (HC1.out.below (by repeat (first | with_reducible exact Below.refl _ _ | with_reducible apply Below.drew | with_reducible apply below_drewN)) (Nat.le_refl _)) (HP1.out.below (by repeat (first | with_reducible exact Below.refl _ _ | with_reducible apply Below.drew | with_reducible apply below_drewN)) (Nat.le_refl _)) HE.out H0.out).mono ?_; rintro e w4 ⟨rfl, hb⟩
        have HB9 := Lib.hid (HB.out.trans (hb.mono (by have := HB.out.size; omega)))
        clear hb
        go_wp2
        go_ret
        exact ⟨rfl, HB9.out⟩
end Go.Proofs.Ytblanfaghnflkaa
