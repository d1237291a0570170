/- (*Road).send: all send. -/
import Derived.Test.YtblanfaghnflkaaDoorRoadAt
import Derived.Test.YtblanfaghnflkaaDoorPlRoad
import Derived.Test.YtblanfaghnflkaaDoorRepeat
import Derived.Test.YtblanfaghnflkaaDoorLibA
import Derived.Deep.CutRange
import Derived.Deep.DeepCutAuto
namespace Go.Proofs.YtblanfaghnflkaaDoor
open Go.RowKit
def midS (S : List Src) (i : Nat) : List Src := (S.take i).map Src.sent ++ S.drop i
theorem midS_len (S : List Src) (i : Nat) : (midS S i).length = S.length := by simp [midS]; omega
theorem midS_at {S : List Src} {i : Nat} {s : Src} (h : S[i]? = some s) : (midS S i)[i]? = some s := by
  have hl : i < S.length := (List.getElem?_eq_some_iff.1 h).1
  unfold midS
  rw [List.getElem?_append_right (by simp; omega)]
  simp only [List.length_map, List.length_take]
  rw [show i - min i S.length = 0 by omega, List.getElem?_drop]
  exact h
theorem midS_set {S : List Src} {i : Nat} {s : Src} (h : S[i]? = some s) : (midS S i).set i s.sent = midS S (i + 1) := by
  have hl : i < S.length := (List.getElem?_eq_some_iff.1 h).1
  have hs : S[i] = s := by rw [List.getElem?_eq_getElem hl] at h; exact Option.some.inj h
  unfold midS
  rw [List.set_append_right _ _ (by simp; omega), List.take_add_one, h]
  simp only [List.length_map, List.length_take, Option.toList_some, List.map_append, List.map_cons, List.map_nil, List.append_assoc]
  congr 1
  rw [show i - min i S.length = 0 by omega, List.drop_eq_getElem_cons hl]
  rfl
theorem midS_zero (S : List Src) : midS S 0 = S := by simp [midS]
theorem midS_all (S : List Src) : midS S S.length = S.map Src.sent := by simp [midS]
theorem sends_snoc (S : List Src) (i j : Nat) (s : Src) (h : S[i]? = some s) : sends j (S.take (i + 1)) = sends j (S.take i) ++ List.replicate s.n.toNat (j + i) := by
  induction S generalizing i j with
  | nil => simp at h
  | cons t S ih =>
    cases i with
    | zero => simp at h; subst h; simp [sends]
    | succ i =>
      have := ih i (j + 1) (by simpa using h)
      simp only [List.take_succ_cons, sends, this, List.append_assoc]
      congr 3; omega
theorem cameOf_snoc (S : List Src) (i : Nat) (s : Src) (h : S[i]? = some s) : cameOf (S.take (i + 1)) = cameOf (S.take i) + s.n := by
  induction S generalizing i with
  | nil => simp at h
  | cons t S ih =>
    cases i with
    | zero => simp at h; subst h; simp [cameOf]
    | succ i =>
      have := ih i (by simpa using h)
      simp only [List.take_succ_cons, cameOf, this]; omega
/-- a source stored -/
theorem RoadAt.store {w : World} {base g gs cs n : Nat} {vr : Value} {S : List Src} {r p k : Int} {row : List Nat} (h : RoadAt w base g gs cs n vr S r p k row) {i : Nat} (s : Src) (hi : i < S.length) :
    RoadAt ((((w.setCell ⟨gs, i * 4, none⟩ (.int .i64 s.W)).setCell ⟨gs, i * 4 + 1, none⟩ (.int .i64 s.a)).setCell ⟨gs, i * 4 + 2, none⟩ (.int .i64 s.l)).setCell ⟨gs, i * 4 + 3, none⟩ (.int .i64 s.c)) base g gs cs n vr (S.set i s) r p k row := by
  have hne := h.ne_gs
  have hap := h.apart
  refine ⟨?_, ?_, ?_, h.lo, by simpa using h.len⟩
  · exact (((h.blk.far (p := ⟨gs, _, none⟩) (fun e => hne e.symm) _).far (p := ⟨gs, _, none⟩) (fun e => hne e.symm) _).far (p := ⟨gs, _, none⟩) (fun e => hne e.symm) _).far (p := ⟨gs, _, none⟩) (fun e => hne e.symm) _
  · rw [← srcCells_set S i s hi]
    exact ((((h.srcs.stored _ _).1.stored _ _).1.stored _ _).1.stored _ _).1
  · exact own_far' (own_far' (own_far' (own_far' h.row hap _) hap _) hap _) hap _
/-- behind an append to the row: all that stands, the row's own cell not yet turned -/
structure RoadMid (w : World) (base g gs cs n : Nat) (vr vr' : Value) (S : List Src) (r p k : Int) (row : List Nat) : Prop where
  blk : Blk w g 136 #[.slice (some ⟨gs, 0, none⟩) n cs, .int .i64 r, .int .i64 p, .int .i64 k, vr]
  srcs : w.ownsRow base 74 4 (.slice (some ⟨gs, 0, none⟩) n cs) n (srcCells S)
  row : w.ownsRow base 3 1 vr' row.length (idxs row)
  lo : base ≤ g
  len : S.length = n
theorem RoadAt.push {w w' : World} {base g gs cs n m : Nat} {vr v' : Value} {S : List Src} {r p k : Int} {row : List Nat} {i : Nat} (h : RoadAt w base g gs cs n vr S r p k row)
    (ho : w'.ownsRow base 3 1 v' (row.length + m) (idxs row ++ List.replicate m (.int .i64 (i : Int)))) (hg : w.grownBy w' vr.ownBlock) : RoadMid w' base g gs cs n vr v' S r p k (row ++ List.replicate m i) ∧ w'.cell? ⟨g, 4, none⟩ = some vr ∧ w'.frozen? ⟨g, 4, none⟩ = false ∧ g < w'.heap.size := by
  have hb := h.blk.grown hg (fun e => h.ne_row e.symm)
  refine ⟨⟨hb, h.srcs.kept hg (.inr fun e => h.apart e.symm), ?_, h.lo, h.len⟩, hb.cell 4, hb.frozen 4, hb.lt⟩
  have e : idxs (row ++ List.replicate m i) = idxs row ++ List.replicate m (.int .i64 (i : Int)) := by simp [idxs]
  rw [e, List.length_append, List.length_replicate]
  exact ho
theorem RoadMid.store {w : World} {base g gs cs n : Nat} {vr vr' : Value} {S : List Src} {r p k : Int} {row : List Nat} (h : RoadMid w base g gs cs n vr vr' S r p k row) : RoadAt (w.setCell ⟨g, 4, none⟩ vr') base g gs cs n vr' S r p k row :=
  ⟨h.blk.set_ 4 vr', own_far' h.srcs (fun e => own_blk_ne h.srcs h.blk (by decide) e) _, own_far' h.row (fun e => own_blk_ne h.row h.blk (by decide) e) _, h.lo, h.len⟩
theorem RoadAt.drew {w : World} {base g gs cs n : Nat} {vr : Value} {S : List Src} {r p k : Int} {row : List Nat} (h : RoadAt w base g gs cs n vr S r p k row) : RoadAt w.drew base g gs cs n vr S r p k row := h.below (Below.refl _ _).drew
theorem RoadAt.alloc {w : World} {base g gs cs n : Nat} {vr : Value} {S : List Src} {r p k : Int} {row : List Nat} (h : RoadAt w base g gs cs n vr S r p k row) (o : Obj) : RoadAt (w.alloc o) base g gs cs n vr S r p k row := h.below ((Below.refl _ _).alloc (Nat.le_refl _) o)
theorem RoadAt.far {w : World} {base g gs cs n : Nat} {vr : Value} {S : List Src} {r p k : Int} {row : List Nat} (h : RoadAt w base g gs cs n vr S r p k row) {g' : Nat} {t : TypeId} {c : Array Value} (hb : Blk w g' t c)
    (h1 : t ≠ 136) (h2 : t ≠ 74) (h3 : t ≠ 3) (j : Nat) (u : Value) : RoadAt (w.setCell ⟨g', j, none⟩ u) base g gs cs n vr S r p k row :=
  ⟨h.blk.far (p := ⟨g', j, none⟩) (fun e => Blk.ne_ hb h.blk h1 e.symm) u, own_far' h.srcs (fun e => own_blk_ne h.srcs hb (fun e => h2 e.symm) e) u, own_far' h.row (fun e => own_blk_ne h.row hb (fun e => h3 e.symm) e) u, h.lo, h.len⟩
theorem Others.setNew {w w' : World} (h : Others w w') {g : Nat} (hg : w.heap.size ≤ g) (k : Nat) (u : Value) : Others w (w'.setCell ⟨g, k, none⟩ u) :=
  ⟨by have := h.1; simpa [World.setCell] using this, fun i t cs hb a b c => (h.2 i t cs hb a b c).far (fun e => by have := hb.lt; have e' : i = g := e; omega) u⟩
set_option maxHeartbeats 8000000 in
set_option maxRecDepth 100000 in
theorem send_any (w : World) (base g gs cs n : Nat) (vr : Value) (S : List Src) (r p k : Int) (row : List Nat) (h : RoadAt w base g gs cs n vr S r p k row) (hb : base ≤ w.heap.size) (h6 : n ≤ 6)
    (hok : ∀ s ∈ S, SourceOk s.W s.a s.l s.c) (hn : ∀ s ∈ S, 0 ≤ s.n ∧ s.n ≤ 1000) (hr : row.length ≤ 60000) :
    Calls Tryd.prog 102 #[.pointer (some ⟨g, 0, none⟩)] w fun e w' => ∃ vr', e = .returned (.int .i64 (cameOf S)) ∧ RoadAt w' base g gs cs n vr' (S.map Src.sent) r p k (row ++ sends 0 S) ∧ Below base w w' ∧ Others w w' := by
  have HOK := Lib.hid hok
  have HN := Lib.hid hn
  have HLEN := Lib.hid h.len
  have H := Lib.hid h
  obtain ⟨c0, _, _, _, _, _, _, _, _, _, z⟩ := h.cells
  clear h hok hn
  go_enter Tryd.func102, Tryd.ntmps102
  go_wp2
  go_loopw [3, 13] (fun vc vi wr => ∃ (i : Nat) (vr' : Value), i ≤ n ∧ vi = .int .i64 i ∧ vc = .int .i64 (cameOf (S.take i)) ∧ Hid (RoadAt wr base g gs cs n vr' (midS S i) r p k (row ++ sends 0 (S.take i))) ∧ Hid (Below base w wr) ∧ Hid (Others w wr)) (fun _ vi _ => n - (intOf vi).toNat)
  case atStart => exact ⟨0, vr, Nat.zero_le _, rfl, rfl, Lib.hid (by rw [midS_zero]; simpa [sends] using H.out), Lib.hid (Below.refl _ _), Lib.hid (Others.refl _)⟩
  case round =>
    obtain ⟨i, vr', hin, rfl, rfl, HR, HB, HOT⟩ := hrel
    clear c0 z
    by_cases hlt : i < n
    · have hiS : i < S.length := by rw [HLEN.out]; exact hlt
      obtain ⟨s, hs⟩ : ∃ s, S[i]? = some s := ⟨S[i], List.getElem?_eq_getElem hiS⟩
      have hsm : s ∈ S := List.mem_of_getElem? hs
      have hsok := HOK.out s hsm
      obtain ⟨n0, n1⟩ := HN.out s hsm
      have hcb := cameOf_bd (S.take i) (fun t ht => HN.out t (List.mem_of_mem_take ht))
      have htl : (S.take i).length ≤ i := List.length_take_le _ _
      obtain ⟨c0, c1, c2, c3, c4, f0, f1, f2, f3, f4, z⟩ := HR.out.cells
      obtain ⟨s0, s1, s2, s3, _⟩ := HR.out.src (midS_at hs)
      obtain ⟨gl, gz⟩ := HR.out.gs_lo
      have hsa := fun W => sent_any s.W s.a s.l s.c W hsok
      obtain ⟨nn, hnn⟩ : ∃ x, sentN s.W s.a s.l = x := ⟨_, rfl⟩
      have hsn : s.n = nn := hnn
      rw [hsn] at n0 n1
      rw [hnn] at hsa
      have HNN := Lib.hid hsn
      have HSA := Lib.hid hsa
      have hsnoc := cameOf_snoc S i s hs
      rw [hsn] at hsnoc
      have HSN := Lib.hid hsnoc
      have HS := Lib.hid hs
      have i0 : (0 : Int) ≤ (i : Int) := by omega
      have i1 : (i : Int) < n := by omega
      clear hs hsm hsok hsa hnn hsn hsnoc
      obtain ⟨sW, sa, sl, sc⟩ := s
      simp only at s0 s1 s2 s3 HSA
      go_upto_region 6 with (go_at_call 122; refine (HSA.out _).mono ?_; rintro e w' ⟨rfl, rfl⟩)
      have HRa := HR.out.alloc (.cells #[.int .i64 sW, .int .i64 sa, .int .i64 sl, .int .i64 sc] 74)
      have HRb := (HRa.alloc (.cells #[.int .i64 sW, .int .i64 (sa + nn), .int .i64 (sl - nn), .int .i64 sc] 74)).alloc (.cells #[.int .i64 sW, .int .i64 (sa + nn), .int .i64 (sl - nn), .int .i64 sc] 74)
      have HRc := HRb.alloc (.cells #[.int .i64 sW, .int .i64 (sa + nn), .int .i64 (sl - nn), .int .i64 sc] 74)
      have HBc := (((HB.out.alloc (by have := HB.out.size; omega) (.cells #[.int .i64 sW, .int .i64 sa, .int .i64 sl, .int .i64 sc] 74)).alloc (by have := HB.out.size; simp; omega) (.cells #[.int .i64 sW, .int .i64 (sa + nn), .int .i64 (sl - nn), .int .i64 sc] 74)).alloc (by have := HB.out.size; simp; omega) (.cells #[.int .i64 sW, .int .i64 (sa + nn), .int .i64 (sl - nn), .int .i64 sc] 74)).alloc (by have := HB.out.size; simp; omega) (.cells #[.int .i64 sW, .int .i64 (sa + nn), .int .i64 (sl - nn), .int .i64 sc] 74)
      have HOc := (((HOT.out.alloc (.cells #[.int .i64 sW, .int .i64 sa, .int .i64 sl, .int .i64 sc] 74)).alloc (.cells #[.int .i64 sW, .int .i64 (sa + nn), .int .i64 (sl - nn), .int .i64 sc] 74)).alloc (.cells #[.int .i64 sW, .int .i64 (sa + nn), .int .i64 (sl - nn), .int .i64 sc] 74)).alloc (.cells #[.int .i64 sW, .int .i64 (sa + nn), .int .i64 (sl - nn), .int .i64 sc] 74)
      have HPN := Blk.new' ((((wr.alloc (.cells #[.int .i64 sW, .int .i64 sa, .int .i64 sl, .int .i64 sc] 74))).alloc (.cells #[.int .i64 sW, .int .i64 (sa + nn), .int .i64 (sl - nn), .int .i64 sc] 74)).alloc (.cells #[.int .i64 sW, .int .i64 (sa + nn), .int .i64 (sl - nn), .int .i64 sc] 74)) 74 #[.int .i64 sW, .int .i64 (sa + nn), .int .i64 (sl - nn), .int .i64 sc] (g := wr.heap.size + 1 + 1 + 1) (by simp)
      obtain ⟨wq, hwq⟩ : ∃ x, x = ((((wr.alloc (.cells #[.int .i64 sW, .int .i64 sa, .int .i64 sl, .int .i64 sc] 74))).alloc (.cells #[.int .i64 sW, .int .i64 (sa + nn), .int .i64 (sl - nn), .int .i64 sc] 74)).alloc (.cells #[.int .i64 sW, .int .i64 (sa + nn), .int .i64 (sl - nn), .int .i64 sc] 74)).alloc (.cells #[.int .i64 sW, .int .i64 (sa + nn), .int .i64 (sl - nn), .int .i64 sc] 74) := ⟨_, rfl⟩
      rw [← hwq] at HRc HBc HOc HPN ⊢
      have HOq := Lib.hid HOc
      have HRq := Lib.hid HRc
      have HBq := Lib.hid HBc
      obtain ⟨gp, hgp⟩ : ∃ x, x = wr.heap.size + 1 + 1 + 1 := ⟨_, rfl⟩
      rw [← hgp] at HPN ⊢
      have hgp1 : base ≤ gp := by have := HB.out.size; omega
      obtain ⟨p0, p1, p2, p3, _, _, _, _, zp⟩ := HPN.four
      clear HRa HRb HRc HBc HOc HOT HPN hwq hgp c0 c1 c2 c3 c4 f0 f1 f2 f3 f4 z s0 s1 s2 s3 HR HB gz HSA
      obtain ⟨c0, c1, c2, c3, c4, f0, f1, f2, f3, f4, z⟩ := HRq.out.cells
      obtain ⟨s0, s1, s2, s3, sf⟩ := HRq.out.src (midS_at HS.out)
      have q0 := sf (i * 4)
      have q1 := sf (i * 4 + 1)
      have q2 := sf (i * 4 + 2)
      have q3 := sf (i * 4 + 3)
      clear sf
      go_cut [13] from 13 to 45 (fun vi wx => vi = .int .i64 i ∧ Hid (RoadAt wx base g gs cs n vr' (midS S (i + 1)) r p k (row ++ sends 0 (S.take i))) ∧ Hid (Below base w wx) ∧ Hid (Others w wx))
      case first =>
        go_region
        go_wp2_with fail
        go_meet
        refine ⟨rfl, Lib.hid ?_, Lib.hid ?_, Lib.hid (HOq.out.store HRq.out _ _ _ _ _ _ _ _).drew⟩
        · rw [← midS_set HS.out]
          have es : Src.sent ⟨sW, sa, sl, sc⟩ = ⟨sW, sa + nn, sl - nn, sc⟩ := by unfold Src.sent; rw [HNN.out]
          rw [es]
          exact RoadAt.drew (HRq.out.store ⟨sW, sa + nn, sl - nn, sc⟩ (by rw [midS_len]; exact hiS))
        · exact ((((HBq.out.setCell gl _).setCell gl _).setCell gl _).setCell gl _).drew
      case rest =>
        obtain ⟨rfl, HR2, HB2, HO2⟩ := hcut
        clear c0 c1 c2 c3 c4 f0 f1 f2 f3 f4 z s0 s1 s2 s3 q0 q1 q2 q3 p0 p1 p2 p3 zp HRq HBq HOq
        obtain ⟨m, hm⟩ : ∃ m : Nat, (m : Int) = nn := ⟨nn.toNat, by omega⟩
        rw [← hm] at HNN HSN n0 n1 ⊢
        have hsl : (row ++ sends 0 (S.take i)).length ≤ 70000 := by
          have h1 := sends_len (S.take i) (fun t ht => (HN.out t (List.mem_of_mem_take ht)).1) 0
          rw [List.length_append]; omega
        have HSS0 : row ++ sends 0 (S.take (i + 1)) = (row ++ sends 0 (S.take i)) ++ List.replicate m i := by
          rw [sends_snoc S i 0 _ HS.out, HNN.out, Int.toNat_natCast, Nat.zero_add, List.append_assoc]
        obtain ⟨vrow, hvrow⟩ : ∃ x, row ++ sends 0 (S.take i) = x := ⟨_, rfl⟩
        have HVR := Lib.hid hvrow
        rw [hvrow] at HR2 hsl HSS0
        have HSS := Lib.hid HSS0; clear HSS0
        obtain ⟨c0, c1, c2, c3, c4, f0, f1, f2, f3, f4, z⟩ := HR2.out.cells
        have hbw := HB2.out.size
        clear hm hvrow
        have z1 : g < wc.heap.size + 1 := by omega
        have hb2 : base ≤ wc.heap.size := by omega
        have hm6 : m ≤ 1000000 := by omega
        go_wp2_with fail
        have one1 : Hid (∀ u ∈ List.replicate m (Value.int .i64 (i : Int)), u.oneCell' = true) := Lib.hid (fun u hu => by rw [List.eq_of_mem_replicate hu]; rfl)
        have hvm : vrow.length + m ≤ 1000000 := by omega
        go_region_law (first
          | (refine step_pushN rfl (.tmp 34) (.tmp 38) 40 rfl base 3 (.int .i64 0) 8 Tryd.underlying40 Tryd.info_int rfl _ vrow.length (idxs vrow) rfl HZ.out.row gz m m (List.replicate m (.int .i64 i)) rfl HBZ.out List.length_replicate one1.out hvm (by decide) hbase ?_; intro v9 w9 hown9 hgr9; have H9 := Lib.hid (HZ.out.push hown9 hgr9); obtain ⟨A9, cp9, rfl, _, _, _⟩ := owns_reads hown9; have O9 := Lib.hid (HOZ.out.grown HZ.out.row hgr9); have B9 := Lib.hid (HLZ.out.grown hgr9 hbase fun k hk => (HZ.out.row.lt k hk).1); have M9 := Lib.hid H9.out.1; obtain ⟨_, c49, f49, z49⟩ := H9.out; clear H9; clear hown9 hgr9)
          | (go_simp; go_at_call 123; refine (repeat_any i m ⟨wc.heap.size, 0, none⟩ _ hm6 (by simp) (by simp)).mono ?_; rintro e wz ⟨gz, rfl, hgz, hbz, hbelz⟩; have HZ := Lib.hid (((HR2.out.alloc (.cells #[.int .i64 (i : Int)] 3)).drew).below hbelz); have hzs := hbelz.size; simp at hzs; obtain ⟨d0, d1, d2, d3, d4, e0, e1, e2, e3, e4, zz⟩ := HZ.out.cells; have HBZ := Lib.hid hbz; have HLZ := Lib.hid (((HB2.out.alloc hb2 (.cells #[.int .i64 (i : Int)] 3)).drew).trans (hbelz.mono (Nat.le_trans hb2 (by simp)))); have HOZ := Lib.hid (((HO2.out.alloc (.cells #[.int .i64 (i : Int)] 3)).drew).below hbelz); have hbase : base ≤ wz.heap.size := (by omega); clear hbz hbelz))
        all_goals
          have HF := Lib.hid (show RoadAt _ base g gs cs n (.slice A9 (vrow.length + m) cp9) (midS S (i + 1)) r p k (row ++ sends 0 (S.take (i + 1))) from by
            rw [HSS.out]; exact M9.out.store)
          have HFB := Lib.hid (B9.out.setCell (p := ⟨g, 4, none⟩) M9.out.lo (.slice A9 (vrow.length + m) cp9))
          have HFO := Lib.hid (O9.out.set (k := 4) (u := .slice A9 (vrow.length + m) cp9) M9.out.blk (.inl rfl))
          clear M9 B9 O9 HOZ HO2 HZ HBZ HLZ HR2 HB2 c49 f49 z49 d0 d1 d2 d3 d4 e0 e1 e2 e3 e4 zz c0 c1 c2 c3 c4 f0 f1 f2 f3 f4 z
          go_wp2
          go_roundw
          case rel => exact ⟨i + 1, _, by omega, by go_num, by rw [HSN.out], HF, HFB, HFO⟩
          case measure => simp [intOf]; omega
    · obtain rfl : i = n := by omega
      have HL := HLEN.out
      have e1 : S.take i = S := by rw [← HL]; exact List.take_length
      have e2 : midS S i = S.map Src.sent := by rw [← HL]; exact midS_all S
      rw [e1] at HR ⊢
      rw [e2] at HR
      clear e1 e2 HL
      go_wp2
      go_ret
      exact ⟨vr', rfl, HR.out, HB.out, HOT.out⟩
end Go.Proofs.YtblanfaghnflkaaDoor
