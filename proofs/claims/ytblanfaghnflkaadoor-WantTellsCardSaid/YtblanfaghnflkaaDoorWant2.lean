/- want.wide: a link more for each flow. -/
import Derived.Test.YtblanfaghnflkaaDoorWant1
import Derived.Deep.RegionLaw
namespace Go.Proofs.YtblanfaghnflkaaDoor
open Go.RowKit
set_option maxHeartbeats 16000000 in
set_option maxRecDepth 100000 in
theorem wide_any (C : Option Addr) (cc : Nat) (caps : List Int) (P : Option Addr) (cp : Nat) (paths : List (List Int)) (A : Option Addr) (c : Nat) (want : List Int) (B : Nat) (w : World) (hB : B ≤ w.heap.size)
    (hc : Ints w B C cc caps) (hp : Rows2 w B P cp paths) (hi : Ints w B A c want) (hl : want.length = paths.length) (h0 : 0 < paths.length) (hcl : caps.length ≤ 1000) (hpl : paths.length ≤ 1000) (hll : ∀ l ∈ paths, l.length ≤ 1000) :
    Calls Tryd.prog 110 #[.agg #[.slice C caps.length cc, .slice P paths.length cp], .slice A want.length c] w fun e w' => ∃ cv pv vs, e = .returned (.agg #[cv, pv]) ∧ NetOwn w' w.heap.size cv pv vs (caps ++ want) (wideP paths caps.length) ∧ Below w.heap.size w w' := by
  have HOW := Lib.hid fun (W : World) (h : Below w.heap.size w W) => own_any C cc caps P cp paths B W (Nat.le_trans hB h.size) (hc.below h hB) (hp.below h hB) hcl hpl hll
  have HI := Lib.hid hi
  have HLL := Lib.hid (show ∀ k, k < paths.length → (paths.getD k []).length ≤ 1000 from fun k hk => hll _ (by rw [List.getD_eq_getElem?_getD, List.getElem?_eq_getElem hk]; exact List.getElem_mem hk))
  have HN0 := Lib.hid ((Blk.new w 43 #[.slice C caps.length cc, .slice P paths.length cp]).alloc (.cells #[.slice none 0 0, .slice none 0 0] 43))
  have HR0 := Lib.hid (Blk.new' (w.alloc (.cells #[.slice C caps.length cc, .slice P paths.length cp] 43)) 43 #[.slice none 0 0, .slice none 0 0] (g := w.heap.size + 1) (by simp))
  have HB0 := Lib.hid (((Below.refl w.heap.size w).alloc (Nat.le_refl _) (.cells #[.slice C caps.length cc, .slice P paths.length cp] 43)).alloc (by simp) (.cells #[.slice none 0 0, .slice none 0 0] 43))
  have him := hi.cap; have hil := hi.le
  unfold maxLen at him
  clear hc hp hll hi
  go_enter Tryd.func110, Tryd.ntmps110
  go_wp2_with fail
  refine (HOW.out _ HB0.out).mono ?_; rintro e w1 ⟨cv, pv, vs, rfl, ho, hb1⟩
  obtain ⟨Cv, ccv, rfl, _, _⟩ := owns_ints ho.capO
  obtain ⟨gp, cpv, rfl, hgp1, hgp2, _, _⟩ := own_form ho.own h0
  have hsz0 := HB0.out.size
  have HR1 := Lib.hid ((HR0.out.go hb1).alloc (.cells #[.slice Cv caps.length ccv, .slice (some ⟨gp, 0, none⟩) paths.length cpv] 43))
  have HG1 := Lib.hid (Blk.new w1 43 #[.slice Cv caps.length ccv, .slice (some ⟨gp, 0, none⟩) paths.length cpv])
  have hb2 := HB0.out.trans (hb1.mono HB0.out.size)
  have hw1 := hb2.size
  have HB1 := Lib.hid (hb2.alloc hb2.size (.cells #[.slice Cv caps.length ccv, .slice (some ⟨gp, 0, none⟩) paths.length cpv] 43))
  have ho' := ho.below ((Below.refl w1.heap.size w1).alloc (Nat.le_refl _) (.cells #[.slice Cv caps.length ccv, .slice (some ⟨gp, 0, none⟩) paths.length cpv] 43))
  have HO1 : Hid (NetOwn (w1.alloc (.cells #[.slice Cv caps.length ccv, .slice (some ⟨gp, 0, none⟩) paths.length cpv] 43)) w.heap.size (.slice Cv caps.length ccv) (.slice (some ⟨gp, 0, none⟩) paths.length cpv) vs (caps ++ want.take 0) (wideK paths caps.length 0)) := Lib.hid (by
    rw [List.take_zero, List.append_nil, wideK_zero]
    exact ⟨own_baseB ho'.capO hsz0, own_baseB ho'.own hsz0, fun i u l a b => own_baseB (ho'.row i u l a b) hsz0, ho'.apC, ho'.apR⟩)
  have hg1 : w.heap.size + 1 < w1.heap.size := by have := hb1.size; simp at this; omega
  have hgp : w.heap.size ≤ gp := by omega
  have hrne : w.heap.size + 1 ≠ gp := by simp at hgp1; omega
  have hgp3 : gp < w1.heap.size := by omega
  clear ho ho' hb1 hb2 HN0 HR0 HB0 HOW hsz0 hgp1 hgp2
  obtain ⟨go, hgo⟩ : ∃ x, x = w1.heap.size := ⟨_, rfl⟩
  rw [← hgo] at HG1 hg1 hw1 hgp3
  have hgne : go ≠ gp := by omega
  obtain ⟨n0, n1, nf0, nf1, nz⟩ := HG1.out.two
  go_wp2
  rw [← hgo]
  clear n0 n1 nf0 nf1 nz hgo
  go_loopw [12] (fun i wr => ∃ (k : Nat) (cv : Value) (vs : List Value), k ≤ paths.length ∧ i = .int .i64 k ∧ Hid (NetOwn wr w.heap.size cv (.slice (some ⟨gp, 0, none⟩) paths.length cpv) vs (caps ++ want.take k) (wideK paths caps.length k)) ∧ Hid (Blk wr go 43 #[cv, .slice (some ⟨gp, 0, none⟩) paths.length cpv]) ∧ Hid (Blk wr (w.heap.size + 1) 43 #[.slice none 0 0, .slice none 0 0]) ∧ Hid (Below w.heap.size w wr)) (fun i _ => paths.length - (intOf i).toNat)
  case atStart => exact ⟨0, _, _, Nat.zero_le _, rfl, HO1, HG1, HR1, HB1⟩
  case round =>
    clear HR1 HG1 HB1 HO1
    obtain ⟨k, cv, vs, hk, rfl, HO, HG, HR, HB⟩ := hrel
    have hsz := HB.out.size
    obtain ⟨Cc, cc', rfl, _, hci⟩ := owns_ints HO.out.capO
    obtain ⟨m, hm⟩ : ∃ m, m = caps.length + k := ⟨_, rfl⟩
    have hmm : m ≤ 1000000 := by omega
    have hml : (caps ++ want.take k).length = m := by rw [List.length_append, List.length_take, hm]; omega
    have hcm := hci.cap; have hcle := hci.le
    unfold maxLen at hcm
    rw [hml] at HO HG hcle
    have hgz := HG.out.lt
    by_cases hlt : k < paths.length
    · obtain ⟨l, hpl'⟩ : ∃ l, paths.getD k [] = l := ⟨_, rfl⟩
      have hl1 := HLL.out k hlt
      rw [hpl'] at hl1
      have hLk : (wideK paths caps.length k)[k]? = some l := by rw [wideK_at hlt, hpl']
      have hvl := HO.out.len
      rw [wideK_len] at hvl
      obtain ⟨u, hu⟩ : ∃ u, vs[k]? = some u := ⟨_, List.getElem?_eq_getElem (by omega)⟩
      obtain ⟨A', c', rfl, _, _⟩ := owns_ints (HO.out.row k u l hu hLk)
      have HPA0 : Hid (wr.ownsRow w.heap.size 40 1 (.slice (some ⟨gp, 0, none⟩) paths.length cpv) paths.length vs) := Lib.hid (by have := HO.out.own; rwa [wideK_len] at this)
      have q0 : wr.cell? ⟨gp, k, none⟩ = some (.slice A' l.length c') := (HPA0.out.cellAt k (by omega)).trans hu
      have qf : wr.frozen? ⟨gp, k, none⟩ = false := HPA0.out.frozenAt k
      have gpz : gp < wr.heap.size := (HPA0.out.lt gp rfl).2
      have k0 : (0 : Int) ≤ (k : Int) := by omega
      have k1 : (k : Int) < (paths.length : Int) := by omega
      have HLK := Lib.hid hLk; have HU := Lib.hid hu
      have hset := wideK_set (paths := paths) (n := caps.length) (k := k)
      rw [hpl', ← hm] at hset
      have HSET := Lib.hid hset
      have HM := Lib.hid hm
      have HOA := Lib.hid (HO.out.below (((Below.refl wr.heap.size wr).alloc (Nat.le_refl _) (.cells #[.int .i64 m] 3)).drew))
      have HRA := Lib.hid (HOA.out.row k _ l HU.out HLK.out)
      have HPA := Lib.hid (own_below HPA0.out (((Below.refl wr.heap.size wr).alloc (Nat.le_refl _) (.cells #[.int .i64 m] 3)).drew))
      have HGA := Lib.hid ((HG.out.alloc (.cells #[.int .i64 m] 3)).drew)
      have HRRA := Lib.hid ((HR.out.alloc (.cells #[.int .i64 m] 3)).drew)
      have HBA := Lib.hid ((HB.out.alloc hsz (.cells #[.int .i64 m] 3)).drew)
      have hga : Hid ((wr.alloc (.cells #[.int .i64 m] 3)).drew.heap[wr.heap.size]? = some (.cells #[.int .i64 m] 3 (0, 0))) := Lib.hid (heap_alloc_new wr _)
      have one1 : Hid (∀ u ∈ (#[Value.int .i64 m] : Array Value).toList, u.oneCell' = true) := Lib.hid (by simp [Value.oneCell'])
      have hba : Hid (w.heap.size ≤ (wr.alloc (.cells #[.int .i64 m] 3)).drew.heap.size) := Lib.hid HBA.out.size
      have hlm : l.length ≤ 1000000 := by omega
      clear hu hLk hvl hset HPA0 hpl' hm
      obtain ⟨n0, n1, nf0, nf1, nz⟩ := HG.out.two
      go_upto_region 5 with (fail)
      go_cut [5] (fun s5 wx => s5 = .pointer (some ⟨go, 0, none⟩) ∧ ∃ vs', Hid (NetOwn wx w.heap.size (.slice Cc m cc') (.slice (some ⟨gp, 0, none⟩) paths.length cpv) vs' (caps ++ want.take k) (wideK paths caps.length (k + 1))) ∧ Hid (Blk wx go 43 #[.slice Cc m cc', .slice (some ⟨gp, 0, none⟩) paths.length cpv]) ∧ Hid (Blk wx (w.heap.size + 1) 43 #[.slice none 0 0, .slice none 0 0]) ∧ Hid (Below w.heap.size w wx))
      case first =>
        go_region_law (refine step_push rfl (.tmp 22) (.tmp 26) 40 rfl w.heap.size 3 (.int .i64 0) 1 8 Tryd.underlying40 Tryd.info_int rfl Nat.one_pos _ l.length _ rfl HRA.out wr.heap.size #[.int .i64 m] rfl hga.out rfl one1.out hlm (by decide) hba.out ?_; intro v9 w9 hown9 hg9 hblk9; obtain ⟨g9, c9, rfl, _, _, _, _⟩ := own_form hown9 (Nat.succ_pos _); have HO9 := Lib.hid (HOA.out.rowPush (wideK_len paths caps.length k).symm HU.out HLK.out hown9 hg9 hblk9 (Nat.le_refl _)); have HG9 := Lib.hid (HGA.out.grown hg9 (fun e => own_blk_ne HRA.out HGA.out (by decide) e.symm)); have HR9 := Lib.hid (HRRA.out.grown hg9 (fun e => own_blk_ne HRA.out HRRA.out (by decide) e.symm)); have HB9 := Lib.hid (below_push HBA.out HRA.out hg9 (Nat.le_refl _) hba.out); have hp9 := own_grown HPA.out hg9 (own_apart HPA.out HRA.out (by decide)); have p9 : w9.cell? ⟨gp, k, none⟩ = some (.slice A' l.length c') := (hp9.cellAt k (by omega)).trans HU.out; have pf9 : w9.frozen? ⟨gp, k, none⟩ = false := hp9.frozenAt k; have pz9 : gp < w9.heap.size := (hp9.lt gp rfl).2; clear hown9 hg9 hblk9 hp9; obtain ⟨x0, x1, y0, y1, yz⟩ := HG9.out.two)
        all_goals
          go_wp2
          go_meet
          exact ⟨rfl, _, Lib.hid (by rw [← HSET.out]; exact HO9.out), Lib.hid (HG9.out.far (p := ⟨gp, k, none⟩) hgne _), Lib.hid (HR9.out.far (p := ⟨gp, k, none⟩) hrne _), Lib.hid (HB9.out.setCell (p := ⟨gp, k, none⟩) hgp _)⟩
      case rest =>
        clear HO HG HR HB n0 n1 nf0 nf1 nz HOA HRA HGA HRRA HBA HPA hga one1 hba q0 qf HLK HU HSET hsz gpz hgz
        obtain ⟨rfl, vs', HO, HG, HR, HB⟩ := hcut
        obtain ⟨w6, hw6⟩ : ∃ x, x = wc := ⟨_, rfl⟩
        rw [← hw6] at HO HG HR HB ⊢
        clear hw6
        have hsz := HB.out.size
        obtain ⟨n0, n1, nf0, nf1, nz⟩ := HG.out.two
        have hkw : k < want.length := by omega
        have k2 : (k : Int) < (want.length : Int) := by omega
        obtain ⟨b, off, x, rfl, hb, hcell, _, HT, _⟩ := (HI.out.below HB.out hB).elem hkw
        have hbz : b < w6.heap.size := by omega
        have HOA := Lib.hid (HO.out.below (((Below.refl w6.heap.size w6).alloc (Nat.le_refl _) (.cells #[.int .i64 x] 3)).drew))
        have HCA : Hid ((w6.alloc (.cells #[.int .i64 x] 3)).drew.ownsRow w.heap.size 3 1 (.slice Cc m cc') m ((caps ++ want.take k).map (Value.int .i64))) := Lib.hid (by have := HOA.out.capO; rwa [hml] at this)
        have HGA := Lib.hid ((HG.out.alloc (.cells #[.int .i64 x] 3)).drew)
        have HRRA := Lib.hid ((HR.out.alloc (.cells #[.int .i64 x] 3)).drew)
        have HBA := Lib.hid ((HB.out.alloc hsz (.cells #[.int .i64 x] 3)).drew)
        have hga : Hid ((w6.alloc (.cells #[.int .i64 x] 3)).drew.heap[w6.heap.size]? = some (.cells #[.int .i64 x] 3 (0, 0))) := Lib.hid (heap_alloc_new w6 _)
        have one1 : Hid (∀ u ∈ (#[Value.int .i64 x] : Array Value).toList, u.oneCell' = true) := Lib.hid (by simp [Value.oneCell'])
        have hba : Hid (w.heap.size ≤ (w6.alloc (.cells #[.int .i64 x] 3)).drew.heap.size) := Lib.hid HBA.out.size
        have HML := Lib.hid hml
        clear hml
        go_upto_region 6 with (fail)
        go_region_law (refine step_push rfl (.tmp 30) (.tmp 35) 40 rfl w.heap.size 3 (.int .i64 0) 1 8 Tryd.underlying40 Tryd.info_int rfl Nat.one_pos _ m _ rfl HCA.out w6.heap.size #[.int .i64 x] rfl hga.out rfl one1.out hmm (by decide) hba.out ?_; intro v9 w9 hown9 hg9 hblk9; obtain ⟨g9, c9, rfl, _, _, _, _⟩ := own_form hown9 (Nat.succ_pos _); have HO9 := Lib.hid (HOA.out.capPush (by rw [HML.out]; exact hown9) hg9 hblk9 (Nat.le_refl _)); have HG9 := Lib.hid (HGA.out.grown hg9 (fun e => own_blk_ne HCA.out HGA.out (by decide) e.symm)); have HR9 := Lib.hid (HRRA.out.grown hg9 (fun e => own_blk_ne HCA.out HRRA.out (by decide) e.symm)); have HB9 := Lib.hid (below_push HBA.out HCA.out hg9 (Nat.le_refl _) hba.out); clear hown9 hg9 hblk9; obtain ⟨x0, x1, y0, y1, yz⟩ := HG9.out.two)
        all_goals
          go_wp2
          go_roundw
          case rel => exact ⟨k + 1, _, _, by omega, by go_num, Lib.hid (by rw [HT.out, ← List.append_assoc]; exact HO9.out.far HG9.out (by decide) (by decide) 0 _), Lib.hid (HG9.out.s2_0 _), Lib.hid (HR9.out.far (p := ⟨go, 0, none⟩) (Nat.ne_of_lt hg1) _), Lib.hid (HB9.out.setCell (p := ⟨go, 0, none⟩) hw1 _)⟩
          case measure => simp [intOf]; omega
    · obtain rfl : k = paths.length := by omega
      rw [show want.take paths.length = want from List.take_of_length_le (by omega), wideK_all] at HO
      obtain ⟨n0, n1, nf0, nf1, nz⟩ := HG.out.two
      obtain ⟨r0, r1, rf0, rf1, rz⟩ := HR.out.two
      clear hm hml
      have HFIN := Lib.hid ((HB.out.setCell (p := ⟨w.heap.size + 1, 0, none⟩) (Nat.le_succ _) (.slice Cc m cc')).setCell (p := ⟨w.heap.size + 1, 1, none⟩) (Nat.le_succ _) (.slice (some ⟨gp, 0, none⟩) paths.length cpv))
      have HOF := Lib.hid ((HO.out.far HR.out (by decide) (by decide) 0 (.slice Cc m cc')).far (HR.out.s2_0 _) (by decide) (by decide) 1 (.slice (some ⟨gp, 0, none⟩) paths.length cpv))
      go_wp2
      refine bodyPost_ret (v := .agg #[.slice Cc m cc', .slice (some ⟨gp, 0, none⟩) paths.length cpv]) (by simp [results, Tryd.results110, go_sem, r0, r1]) rfl (by first | exact ⟨_, _, vs, rfl, HOF.out, HFIN.out⟩ | exact ⟨_, _, rfl, ⟨vs, HOF.out⟩, HFIN.out⟩)
end Go.Proofs.YtblanfaghnflkaaDoor
