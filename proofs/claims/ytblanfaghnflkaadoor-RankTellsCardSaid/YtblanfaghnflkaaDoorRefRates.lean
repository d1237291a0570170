/- fairref1.Rates: rates sorted, one put in its place after the other. -/
import Derived.Test.YtblanfaghnflkaaDoorRank3
import Derived.Test.YtblanfaghnflkaaDoorRefLoad
import Derived.Test.YtblanfaghnflkaaDoorRefWith
namespace Go.Proofs.YtblanfaghnflkaaDoor
open Go.RowKit
theorem ins_split {x : Rat} : ∀ {L : List Rat} {k : Nat}, (∀ y ∈ L.take k, y ≤ x) → (L.length ≤ k ∨ ∃ y, L[k]? = some y ∧ x < y) → L.take k ++ x :: L.drop k = MM.ins x L
  | [], k, _, _ => by simp [MM.ins]
  | b :: L, 0, _, h => by
    rcases h with h | ⟨y, hy, hlt⟩
    · simp at h
    · have e : b = y := by simpa using hy
      subst e
      show x :: b :: L = if b ≤ x then _ else _
      rw [if_neg (by grind)]
  | b :: L, k + 1, h, h2 => by
    have hb : b ≤ x := h b (by simp)
    show b :: (L.take k ++ x :: L.drop k) = if b ≤ x then _ else _
    rw [if_pos hb, ins_split (L := L) (k := k) (fun y hy => h y (by rw [List.take_succ_cons]; exact List.mem_cons_of_mem _ hy)) (by
      rcases h2 with h2 | ⟨y, hy, hlt⟩
      · exact .inl (by simp at h2; omega)
      · exact .inr ⟨y, by simpa using hy, hlt⟩)]
theorem srt_snoc (L : List Rat) (x : Rat) : MM.ins x (MM.srt L) = MM.srt (L ++ [x]) := by
  refine QS.is_srt ?_ (MM.up_ins x _ (MM.up_srt L))
  refine (MM.perm_ins x _).trans ((List.Perm.cons x (MM.perm_srt L)).trans ?_)
  exact (List.perm_append_comm (l₁ := [x]) (l₂ := L))
/-- what the reference, and the program, tell of rates -/
structure RkIs (S T : List Fr) : Prop where
  no : rkErr S ≠ 0 → T = []
  yes : rkErr S = 0 → ∃ Q : List Rat, S = Q.map frQ ∧ Q.length ≤ 6 ∧ (∀ q ∈ Q, QIn q) ∧ T = (MM.srt Q).map frQ
theorem rkIs_ex (S : List Fr) : ∃ T, RkIs S T := by
  by_cases h : rkErr S = 0
  · obtain ⟨Q, h1, h2, h3⟩ := rk_ok h
    exact ⟨_, fun h' => absurd h h', fun _ => ⟨Q, h1, h2, h3, rfl⟩⟩
  · exact ⟨[], fun _ => rfl, fun h' => absurd h' h⟩
theorem frs_none' (w : World) (B : Nat) : Frs w B none 0 [] := ⟨⟨by simp [frCells], fun h => absurd h (by simp)⟩, Nat.le_refl _, by simp [maxLen]⟩
theorem rsort_tot (A : Option Addr) (c : Nat) (S T : List Fr) (e : Int) (B : Nat) (w : World) (hB : B ≤ w.heap.size) (hr : Frs w B A c S) (he : rkErr S = e) (hT : RkIs S T) :
    Calls Tryd.prog 68 #[.slice A S.length c] w fun r w' => ∃ A' c', r = .returned (.tuple #[.slice A' T.length c', errVal e]) ∧ Frs w' w'.heap.size A' c' T ∧ Below w.heap.size w w' := by
  by_cases h : e = 0
  · subst h
    obtain ⟨Q, rfl, h6, hq, rfl⟩ := hT.yes he
    refine (rsort_yes A c _ Q B w hB hr (by rw [List.length_map]) h6 hq).mono ?_
    rintro r w' ⟨A', c', rfl, hf, hb⟩
    exact ⟨A', c', by rw [List.length_map, QS.srt_len]; rfl, hf, hb⟩
  · obtain rfl := hT.no (by rw [he]; exact h)
    refine (rsort_er A c _ S B w e hB hr rfl he h).mono ?_
    rintro r w' ⟨rfl, hb⟩
    exact ⟨none, 0, by rw [errVal_pos h]; rfl, frs_none' _ _, hb⟩
theorem frs_take {w : World} {B : Nat} {A : Option Addr} {c : Nat} {L : List Rat} (h : Frs w B A c (L.map frQ)) : ∀ (k j : Nat) (u : Value), (qcells (L.take k))[j]? = some u → ∃ b off, A = some ⟨b, off, none⟩ ∧ w.cell? ⟨b, off + j, none⟩ = some u := by
  intro k j u hu
  have hpos : 0 < (L.map frQ).length := by
    rcases Nat.eq_zero_or_pos (L.map frQ).length with h0 | h0
    · have : L = [] := by simpa using h0
      subst this; simp [qcells, frCells] at hu
    · exact h0
  obtain ⟨b, off, e, _, hc⟩ := h.rd.2 hpos
  refine ⟨b, off, e, hc j u ?_⟩
  have e2 : qcells L = qcells (L.take k) ++ qcells (L.drop k) := by unfold qcells; rw [← frCells_append, ← List.map_append, List.take_append_drop]
  have : (qcells L)[j]? = some u := by rw [e2, List.getElem?_append_left (List.getElem?_eq_some_iff.1 hu).1]; exact hu
  exact this
theorem qcells_len (L : List Rat) : (qcells L).length = L.length * 2 := by unfold qcells; rw [frCells_len, List.length_map]
theorem frs_drop {w : World} {B b off : Nat} {c : Nat} {L : List Rat} (h : Frs w B (some ⟨b, off, none⟩) c (L.map frQ)) (k j : Nat) (u : Value) (hk : k ≤ L.length) (hu : (qcells (L.drop k))[j]? = some u) : w.cell? ⟨b, off + (k * 2 + j), none⟩ = some u := by
  have hpos : 0 < (L.map frQ).length := by
    rcases Nat.eq_zero_or_pos (L.map frQ).length with h0 | h0
    · have : L = [] := by simpa using h0
      subst this; simp [qcells, frCells] at hu
    · exact h0
  obtain ⟨b', off', e, _, hc⟩ := h.rd.2 hpos
  injection e with e
  injection e with e1 e2
  subst e1 e2
  refine hc _ u ?_
  have e2 : qcells L = qcells (L.take k) ++ qcells (L.drop k) := by unfold qcells; rw [← frCells_append, ← List.map_append, List.take_append_drop]
  have hl : (qcells (L.take k)).length = k * 2 := by rw [qcells_len, List.length_take]; omega
  show (qcells L)[k * 2 + j]? = some u
  rw [e2, List.getElem?_append_right (by omega), hl, Nat.add_sub_cancel_left]; exact hu
theorem qcells_one (L : List Rat) : ∀ u ∈ qcells L, u.oneCell' = true := frCells_one _
theorem map_frQ_inj : ∀ {L Q : List Rat}, L.map frQ = Q.map frQ → L = Q
  | [], [], _ => rfl
  | [], _ :: _, h => by simp at h
  | _ :: _, [], h => by simp at h
  | a :: L, b :: Q, h => by
    rw [List.map_cons, List.map_cons] at h
    injection h with h1 h2
    rw [frQ_inj h1, map_frQ_inj h2]
set_option maxHeartbeats 16000000 in
set_option maxRecDepth 100000 in
theorem refRates_any (A : Option Addr) (c : Nat) (S T : List Fr) (e : Int) (B : Nat) (w : World) (hB : B ≤ w.heap.size) (hr : Frs w B A c S) (he : rkErr S = e) (hT : RkIs S T) :
    Calls Tryd.prog 67 #[.slice A S.length c] w fun r w' => ∃ A' c', r = .returned (.tuple #[.slice A' T.length c', .int .i64 e]) ∧ Frs w' w'.heap.size A' c' T ∧ Below w.heap.size w w' := by
  have HR := Lib.hid hr; have HT := Lib.hid hT; have HEE := Lib.hid he
  have hm := hr.cap; have hml := hr.le
  unfold maxLen at hm
  clear hr hT
  unfold rkErr at he
  by_cases h6 : 6 < S.length
  · rw [if_pos h6] at he
    subst he
    have hT0 := HT.out.no (by rw [HEE.out]; decide)
    subst hT0
    have h6' : (6 : Int) < (S.length : Int) := by omega
    go_enter Tryd.func67, Tryd.ntmps67
    go_wp2
    go_ret2
    exact ⟨none, 0, rfl, frs_none' _ _, Below.refl _ _⟩
  · rw [if_neg h6] at he
    have h6' : decide ((6 : Int) < (S.length : Int)) = false := decide_eq_false (by omega)
    have hs6 : S.length ≤ 6 := by omega
    unfold ratesErr at he
    have HEV := Lib.hid he
    obtain ⟨i0, hi0, hz0, hz1, hz2⟩ := info_parts Tryd.info_fr
    clear he h6
    go_enter Tryd.func67, Tryd.ntmps67
    go_wp2
    go_loopw [4, 5] (fun v iv wr => ∃ (i : Nat) (L : List Rat) (A' : Option Addr) (c' : Nat), i ≤ S.length ∧ v = .slice A' i c' ∧ iv = .int .i64 i ∧ (i = 0 → A' = none ∧ c' = 0) ∧ Hid (S.take i = L.map frQ) ∧ Hid (∀ q ∈ L, QIn q) ∧ Hid (firstFrom (fun i => frErr (S.getD i ⟨0, 1⟩)) (S.length - i) i = e) ∧ Hid (Frs wr wr.heap.size A' c' ((MM.srt L).map frQ)) ∧ Hid (Below w.heap.size w wr)) (fun _ iv _ => S.length - (intOf iv).toNat)
    case atStart => exact ⟨0, [], none, 0, Nat.zero_le _, rfl, rfl, fun _ => ⟨rfl, rfl⟩, Lib.hid rfl, Lib.hid (fun q h => by cases h), HEV, Lib.hid (frs_none' _ _), Lib.hid (Below.refl _ _)⟩
    case round =>
      clear HEV
      obtain ⟨i, L, A', c', hi, rfl, rfl, hA0, HST, HLQ, HEV, HO, HB⟩ := hrel
      have hB1 := HB.out.size
      have hLl : (MM.srt L).length = i := by
        rw [QS.srt_len]
        have := congrArg List.length HST.out
        rw [List.length_take, List.length_map] at this; omega
      have hom := HO.out.cap; have hol := HO.out.le
      rw [List.length_map, hLl] at hol
      unfold maxLen at hom
      have HLL := Lib.hid hLl
      by_cases hlt : i < S.length
      · clear hLl
        obtain ⟨b, off, s, rfl, hb, c0, c1, HX⟩ := (HR.out.below HB.out hB).elem hlt
        have i0' : (0 : Int) ≤ (i : Int) := by omega
        have i1' : (i : Int) < (S.length : Int) := by omega
        have hbz : b < wr.heap.size := by omega
        have hst := HEV.out
        rw [firstFrom_step hlt] at hst
        have hg : S.getD i ⟨0, 1⟩ = s := by rw [List.getD_eq_getElem?_getD, HX.out]; rfl
        simp only [hg] at hst
        have hts := take_snoc' S i s HX.out
        obtain ⟨t, d⟩ := s
        simp only at c0 c1
        by_cases hz : frErr ⟨t, d⟩ = 0
        · rw [if_pos hz] at hst
          have HS := Lib.hid hst
          obtain ⟨x, ht, hd, hxi⟩ := frac_rat (show fracErr t d = 0 from hz)
          subst ht hd
          have HTS : Hid (S.take (i + 1) = (L ++ [x]).map frQ) := Lib.hid (by rw [hts, HST.out, List.map_append]; rfl)
          have HXI := Lib.hid hxi
          clear hst hz hg HX hts HST
          go_wp2_with fail
          refine (refFrac_q x _ HXI.out).mono ?_; rintro r w2 ⟨rfl, hb2⟩
          have HB2 := Lib.hid (HB.out.trans (hb2.mono hB1))
          have HO2 := Lib.hid (HO.out.at' hb2)
          have d0 : w2.cell? ⟨b, off + i * 2, none⟩ = some (.int .i64 x.num) := (hb2.cell (p := ⟨b, off + i * 2, none⟩) hbz).trans c0
          have d1 : w2.cell? ⟨b, off + i * 2 + 1, none⟩ = some (.int .i64 x.den) := (hb2.cell (p := ⟨b, off + i * 2 + 1, none⟩) hbz).trans c1
          have hz2' := hb2.size
          have hbz2 : b < w2.heap.size := by omega
          clear hb2 c0 c1 hbz HO HB
          go_wp2
          go_loopw [8] (fun jv wq => ∃ k : Nat, k ≤ i ∧ jv = .int .i64 k ∧ Hid (∀ y ∈ (MM.srt L).take k, y ≤ x) ∧ Hid (Below w2.heap.size w2 wq)) (fun jv _ => i - (intOf jv).toNat)
          case atStart => exact ⟨0, Nat.zero_le _, rfl, Lib.hid (by simp), Lib.hid (Below.refl _ _)⟩
          case round =>
            obtain ⟨k, hk, rfl, HLE, HQ⟩ := hrel
            have hzq := HQ.out.size
            by_cases hki : k < i
            · have hkl : k < (MM.srt L).length := by rw [HLL.out]; exact hki
              obtain ⟨b', off', rfl, hb', y0, y1⟩ := frs_q (HO2.out.below HQ.out (Nat.le_refl _)) hkl
              obtain ⟨y, hy⟩ : ∃ y, (MM.srt L).getD k 0 = y := ⟨_, rfl⟩
              have HYK : Hid ((MM.srt L)[k]? = some y) := Lib.hid (by rw [← hy]; exact q_at hkl)
              rw [hy] at y0 y1
              have HYI := Lib.hid (srt_in HLQ.out y (List.mem_of_getElem? HYK.out))
              obtain ⟨o, ho⟩ : ∃ o, ordQ y x = o := ⟨_, rfl⟩
              have HORD := Lib.hid fun W => refOrder_q y x o W HYI.out HXI.out ho
              have HOO := Lib.hid ho
              have k0 : (0 : Int) ≤ (k : Int) := by omega
              have k1 : (k : Int) < (i : Int) := by omega
              have g0 : wr.cell? ⟨b, off + i * 2, none⟩ = some (.int .i64 x.num) := (HQ.out.cell (p := ⟨b, off + i * 2, none⟩) hbz2).trans d0
              have g1 : wr.cell? ⟨b, off + i * 2 + 1, none⟩ = some (.int .i64 x.den) := (HQ.out.cell (p := ⟨b, off + i * 2 + 1, none⟩) hbz2).trans d1
              have hbq : b < wr.heap.size := by omega
              have hbq' : b' < wr.heap.size := by omega
              clear hy hkl ho
              by_cases hoz : o ≤ 0
              · have HLE2 : Hid (∀ z ∈ (MM.srt L).take (k + 1), z ≤ x) := Lib.hid fun z hz => by
                  rw [take_snoc' _ _ _ HYK.out] at hz
                  rcases List.mem_append.1 hz with h | h
                  · exact HLE.out z h
                  · rw [List.mem_singleton.1 h]
                    have := HOO.out
                    unfold ordQ at this
                    split at this
                    · grind
                    · split at this
                      · omega
                      · grind
                go_wp2_with fail
                go_region_held3 (fun w' => w'.cell? ⟨b', off' + k * 2, none⟩ = some (.int .i64 y.num) ∧ w'.cell? ⟨b', off' + k * 2 + 1, none⟩ = some (.int .i64 y.den) ∧ w'.cell? ⟨b, off + i * 2, none⟩ = some (.int .i64 x.num) ∧ w'.cell? ⟨b, off + i * 2 + 1, none⟩ = some (.int .i64 x.den)) (go_keep)
                  (first
                    | (go_simp; go_at_call 21; refine (HORD.out _).mono ?_; rintro r w5 ⟨rfl, hb5⟩; have HB5q : Hid (Below wr.heap.size wr w5) := Lib.hid (by first | exact hb5 | exact (Below.refl _ _).drew.trans hb5); have z0 : w5.cell? ⟨b', off' + k * 2, none⟩ = some (.int .i64 y.num) := (HB5q.out.cell (p := ⟨b', off' + k * 2, none⟩) hbq').trans y0; have z1 : w5.cell? ⟨b', off' + k * 2 + 1, none⟩ = some (.int .i64 y.den) := (HB5q.out.cell (p := ⟨b', off' + k * 2 + 1, none⟩) hbq').trans y1; have z2 : w5.cell? ⟨b, off + i * 2, none⟩ = some (.int .i64 x.num) := (HB5q.out.cell (p := ⟨b, off + i * 2, none⟩) hbq).trans g0; have z3 : w5.cell? ⟨b, off + i * 2 + 1, none⟩ = some (.int .i64 x.den) := (HB5q.out.cell (p := ⟨b, off + i * 2 + 1, none⟩) hbq).trans g1; have hz5q := HB5q.out.size; clear hb5; dsimp only))
                have HB5 := Lib.hid (HQ.out.trans (HB5q.out.mono hzq))
                clear z0 z1 z2 z3 y0 y1 g0 g1 hz5q HB5q
                go_wp2
                go_roundw
                case rel => exact ⟨k + 1, by omega, by go_num, HLE2, HB5⟩
                case measure => simp [intOf]; omega
              · have HGT : Hid (x < y) := Lib.hid (by
                  have := HOO.out
                  unfold ordQ at this
                  split at this
                  · omega
                  · split at this
                    · assumption
                    · omega)
                have hck : ¬ c' = k := by omega
                have hck2 : ¬ k = c' := by omega
                have kc : (k : Int) ≤ (c' : Int) := by omega
                have ki : (k : Int) ≤ (i : Int) := by omega
                go_wp2_with fail
                go_region_held3 (fun w' => w'.cell? ⟨b', off' + k * 2, none⟩ = some (.int .i64 y.num) ∧ w'.cell? ⟨b', off' + k * 2 + 1, none⟩ = some (.int .i64 y.den) ∧ w'.cell? ⟨b, off + i * 2, none⟩ = some (.int .i64 x.num) ∧ w'.cell? ⟨b, off + i * 2 + 1, none⟩ = some (.int .i64 x.den)) (go_keep)
                  (first
                    | (go_simp; go_at_call 21; refine (HORD.out _).mono ?_; rintro r w5 ⟨rfl, hb5⟩; have HB5q : Hid (Below wr.heap.size wr w5) := Lib.hid (by first | exact hb5 | exact (Below.refl _ _).drew.trans hb5); have z0 : w5.cell? ⟨b', off' + k * 2, none⟩ = some (.int .i64 y.num) := (HB5q.out.cell (p := ⟨b', off' + k * 2, none⟩) hbq').trans y0; have z1 : w5.cell? ⟨b', off' + k * 2 + 1, none⟩ = some (.int .i64 y.den) := (HB5q.out.cell (p := ⟨b', off' + k * 2 + 1, none⟩) hbq').trans y1; have z2 : w5.cell? ⟨b, off + i * 2, none⟩ = some (.int .i64 x.num) := (HB5q.out.cell (p := ⟨b, off + i * 2, none⟩) hbq).trans g0; have z3 : w5.cell? ⟨b, off + i * 2 + 1, none⟩ = some (.int .i64 x.den) := (HB5q.out.cell (p := ⟨b, off + i * 2 + 1, none⟩) hbq).trans g1; have hz5q := HB5q.out.size; clear hb5; dsimp only))
                have HB5 := Lib.hid (HQ.out.trans (HB5q.out.mono hzq))
                clear z0 z1 z2 z3 y0 y1 g0 g1 hz5q HB5q
                have HB5w := Lib.hid (HB2.out.trans (HB5.out.mono (Nat.le_trans hB1 hz2')))
                have HO5 := Lib.hid (HO2.out.at' HB5.out)
                have e0 : w5.cell? ⟨b, off + i * 2, none⟩ = some (.int .i64 x.num) := (HB5.out.cell (p := ⟨b, off + i * 2, none⟩) hbz2).trans d0
                have e1 : w5.cell? ⟨b, off + i * 2 + 1, none⟩ = some (.int .i64 x.den) := (HB5.out.cell (p := ⟨b, off + i * 2 + 1, none⟩) hbz2).trans d1
                have hz5 : w2.heap.size ≤ w5.heap.size := HB5.out.size
                have hbz5 : b < w5.heap.size := by omega
                have hw5 := HB5w.out.size
                have HSP : Hid ((MM.srt L).take k ++ x :: (MM.srt L).drop k = MM.srt (L ++ [x])) := Lib.hid (by rw [← srt_snoc]; exact ins_split HLE.out (.inr ⟨y, HYK.out, HGT.out⟩))
                have HTL : Hid ((qcells ((MM.srt L).take k)).length = k * 2) := Lib.hid (by rw [qcells_len, List.length_take, HLL.out]; omega)
                have HNW : Hid (∀ (j : Nat) (u : Value), (qcells ((MM.srt L).take k))[j]? = some u → w5.cell? ((⟨b', off', none⟩ : Addr).add j) = some u) := Lib.hid fun j u hu => by
                  obtain ⟨b9, off9, e9, h9⟩ := frs_take HO5.out k j u hu
                  injection e9 with e9
                  injection e9 with e91 e92
                  subst e91 e92
                  rw [addr_add']; exact h9
                go_upto_region 15 with (at_builtin; refine wpList_append_own _ rfl (.tmp 44) (.tmp 47) 78 rfl w5.heap.size 23 i0 (.agg #[.int .i64 0, .int .i64 0]) 2 16 Tryd.underlying78 hi0 hz0 hz1 hz2 rfl (by omega) (.slice none 0 0) 0 [] rfl (World.ownsRow_nil _ _ _ _) ⟨b', off', none⟩ k c' (qcells ((MM.srt L).take k)) rfl HTL.out HNW.out (qcells_one _) (by simp only [maxLen]; omega) (by omega) (Nat.le_refl _) ?_; intro v6 w6 hown6 hgrow6 _; rw [Nat.zero_add, List.nil_append] at hown6; obtain ⟨A6, c6, rfl, hl6, hm6, _⟩ := owns_reads hown6; have HO6 := Lib.hid hown6; have HB6 : Hid (Below w5.heap.size w5 w6) := Lib.hid ((Below.refl _ _).grown hgrow6 (Nat.le_refl _) (fun k hk => by cases hk)); clear hown6 hgrow6)
                have f0 : w6.cell? ⟨b, off + i * 2, none⟩ = some (.int .i64 x.num) := (HB6.out.cell (p := ⟨b, off + i * 2, none⟩) hbz5).trans e0
                have f1 : w6.cell? ⟨b, off + i * 2 + 1, none⟩ = some (.int .i64 x.den) := (HB6.out.cell (p := ⟨b, off + i * 2 + 1, none⟩) hbz5).trans e1
                have hz6 := HB6.out.size
                have hbz6 : b < w6.heap.size := by omega
                go_upto_region 16 with (at_builtin; refine wpList_push w6 _ rfl (.tmp 49) (.tmp 54) 78 rfl w5.heap.size 23 (.agg #[.int .i64 0, .int .i64 0]) 2 16 Tryd.underlying78 Tryd.info_fr rfl (by omega) _ _ _ rfl HO6.out rfl rfl (by simp [Value.oneCell']) (by omega) (by omega) hz6 ?_; intro v7 w7 hown7 hg7; obtain ⟨g7, c7, rfl, _, _, hc7, hm7⟩ := own_form hown7 (Nat.succ_pos _); have HO7 := Lib.hid hown7; have HB7 : Hid (Below w5.heap.size w5 w7) := Lib.hid (below_push HB6.out HO6.out hg7 (Nat.le_refl _) hz6); clear hown7 hg7)
                have hz7 := HB7.out.size
                have HDL : Hid ((qcells ((MM.srt L).drop k)).length = (i - k) * 2) := Lib.hid (by rw [qcells_len, List.length_drop, HLL.out])
                have HO57 := Lib.hid (HO5.out.at' HB7.out)
                have HNW7 : Hid (∀ (j : Nat) (u : Value), (qcells ((MM.srt L).drop k))[j]? = some u → w7.cell? ((⟨b', off' + k * 2, none⟩ : Addr).add j) = some u) := Lib.hid fun j u hu => by
                  rw [addr_add', Nat.add_assoc]
                  exact frs_drop HO57.out k j u (by rw [HLL.out]; omega) hu
                go_wp2_with (at_builtin; refine wpList_append_own _ rfl (.tmp 56) (.tmp 59) 78 rfl w5.heap.size 23 i0 (.agg #[.int .i64 0, .int .i64 0]) 2 16 Tryd.underlying78 hi0 hz0 hz1 hz2 rfl (by omega) _ _ _ rfl HO7.out ⟨b', off' + k * 2, none⟩ (i - k) (c' - k) (qcells ((MM.srt L).drop k)) rfl HDL.out HNW7.out (qcells_one _) (by simp only [maxLen]; omega) (by omega) hz7 ?_; intro v8 w8 hown8 hgrow8 _; have HB8 : Hid (Below w5.heap.size w5 w8) := Lib.hid (HB7.out.grown hgrow8 hz7 (fun k hk => (HO7.out.lt k hk).1)); clear hgrow8)
                have HO8 : Hid (w8.ownsRow w5.heap.size 23 2 v8 (i + 1) (qcells ((MM.srt L).take k ++ x :: (MM.srt L).drop k))) := Lib.hid (by
                  have e1 : qcells ((MM.srt L).take k ++ x :: (MM.srt L).drop k) = qcells ((MM.srt L).take k) ++ [.int .i64 x.num, .int .i64 x.den] ++ qcells ((MM.srt L).drop k) := by
                    unfold qcells; rw [List.map_append, frCells_append, List.map_cons, List.append_assoc]; rfl
                  have e2 : k + 1 + (i - k) = i + 1 := by omega
                  rw [e1, ← e2]; exact hown8)
                clear hown8
                obtain ⟨A8, c8, hv8, hn8, hf8⟩ := owns_frs (S := (MM.srt (L ++ [x])).map frQ) (by have h := HO8.out; rw [HSP.out] at h; exact h)
                have hln : ((MM.srt (L ++ [x])).map frQ).length = i + 1 := by rw [List.length_map, QS.srt_len, List.length_append, List.length_singleton, ← QS.srt_len, HLL.out]
                rw [hln] at hv8
                subst hv8
                clear hn8 hln
                have HF8 := Lib.hid hf8
                have HB9 := Lib.hid (HB5w.out.trans (HB8.out.mono hw5))
                have HLQ9 : Hid (∀ q ∈ L ++ [x], QIn q) := Lib.hid fun q hq => by
                  rcases List.mem_append.1 hq with h | h
                  · exact HLQ.out q h
                  · rw [List.mem_singleton.1 h]; exact HXI.out
                clear hf8
                go_wp2
                go_roundw
                case rel => exact ⟨i + 1, L ++ [x], _, _, by omega, by first | rfl | (simp; done), by go_num, fun h => absurd h (Nat.succ_ne_zero _), HTS, HLQ9, HS, HF8, HB9⟩
                case measure => simp [intOf]; omega
            · have hki2 : i = k := by omega
              subst hki2
              have hii : decide ((i : Int) < (i : Int)) = false := decide_eq_false (by omega)
              have HB5 := Lib.hid (HQ.out.drew)
              have ic : (i : Int) ≤ (c' : Int) := by omega
              by_cases hi00 : i = 0
              · obtain ⟨rfl, rfl⟩ := hA0 hi00
                subst hi00
                have HL0 : Hid (L = []) := Lib.hid (by have := HLL.out; rw [QS.srt_len] at this; exact List.length_eq_zero_iff.1 this)
                go_upto_region 12 with (fail)
                go_region
                obtain ⟨w5, hw5⟩ : ∃ y, y = wr.drew := ⟨_, rfl⟩
                rw [← hw5] at HB5 ⊢
                clear hw5
                have HB5w := Lib.hid (HB2.out.trans (HB5.out.mono (Nat.le_trans hB1 hz2')))
                have HO5 := Lib.hid (HO2.out.at' HB5.out)
                have e0 : w5.cell? ⟨b, off, none⟩ = some (.int .i64 x.num) := by have := (HB5.out.cell (p := ⟨b, off + 0 * 2, none⟩) hbz2).trans d0; rwa [Nat.zero_mul, Nat.add_zero] at this
                have e1 : w5.cell? ⟨b, off + 1, none⟩ = some (.int .i64 x.den) := by have := (HB5.out.cell (p := ⟨b, off + 0 * 2 + 1, none⟩) hbz2).trans d1; rwa [Nat.zero_mul, Nat.add_zero] at this
                have hz5 : w2.heap.size ≤ w5.heap.size := HB5.out.size
                have hbz5 : b < w5.heap.size := by omega
                have hw5 := HB5w.out.size
                have HSP : Hid ([x] = MM.srt (L ++ [x])) := Lib.hid (by rw [HL0.out]; rfl)
                go_upto_region 15 with (fail)
                have HO6 : Hid (w5.ownsRow w5.heap.size 23 2 (.slice none 0 0) 0 []) := Lib.hid (World.ownsRow_nil _ _ _ _)
                go_upto_region 16 with (at_builtin; refine wpList_push w5 _ rfl (.tmp 49) (.tmp 54) 78 rfl w5.heap.size 23 (.agg #[.int .i64 0, .int .i64 0]) 2 16 Tryd.underlying78 Tryd.info_fr rfl (by omega) _ _ _ rfl HO6.out rfl rfl (by simp [Value.oneCell']) (by omega) (by omega) (Nat.le_refl _) ?_; intro v7 w7 hown7 hg7; obtain ⟨g7, c7, rfl, _, _, hc7, hm7⟩ := own_form hown7 (Nat.succ_pos _); have HO7 := Lib.hid hown7; have HB7 : Hid (Below w5.heap.size w5 w7) := Lib.hid (below_push (Below.refl _ _) HO6.out hg7 (Nat.le_refl _) (Nat.le_refl _)); clear hown7 hg7)
                have hz7 := HB7.out.size
                go_wp2
                have HO8 : Hid (w7.ownsRow w5.heap.size 23 2 (.slice (some ⟨g7, 0, none⟩) 1 c7) 1 (qcells [x])) := Lib.hid HO7.out
                have HB8 := HB7
                obtain ⟨A8, c8, hv8, hn8, hf8⟩ := owns_frs (S := (MM.srt (L ++ [x])).map frQ) (by have h := HO8.out; rw [HSP.out] at h; exact h)
                have hln : ((MM.srt (L ++ [x])).map frQ).length = 0 + 1 := by rw [List.length_map, QS.srt_len, List.length_append, List.length_singleton, ← QS.srt_len, HLL.out]
                rw [hln] at hv8
                injection hv8 with q1 q2 q3
                subst q1 q3
                clear hn8 hln q2
                have HF8 := Lib.hid hf8
                have HB9 := Lib.hid (HB5w.out.trans (HB8.out.mono hw5))
                have HLQ9 : Hid (∀ q ∈ L ++ [x], QIn q) := Lib.hid fun q hq => by
                  rcases List.mem_append.1 hq with h | h
                  · exact HLQ.out q h
                  · rw [List.mem_singleton.1 h]; exact HXI.out
                clear hf8
                go_roundw
                case rel => exact ⟨0 + 1, L ++ [x], _, _, by omega, by first | rfl | (simp; done), by go_num, fun h => absurd h (Nat.succ_ne_zero _), HTS, HLQ9, HS, HF8, HB9⟩
                case measure => simp [intOf]; omega
              · obtain ⟨b', off', rfl, _, _, _⟩ := frs_q HO2.out (show 0 < (MM.srt L).length by rw [HLL.out]; omega)
                by_cases hcc : c' = i
                · have hcc3 : i = c' := hcc.symm
                  subst hcc3
                  go_upto_region 12 with (fail)
                  go_region
                  obtain ⟨w5, hw5⟩ : ∃ y, y = wr.drew := ⟨_, rfl⟩
                  rw [← hw5] at HB5 ⊢
                  clear hw5
                  have HB5w := Lib.hid (HB2.out.trans (HB5.out.mono (Nat.le_trans hB1 hz2')))
                  have HO5 := Lib.hid (HO2.out.at' HB5.out)
                  have e0 : w5.cell? ⟨b, off + i * 2, none⟩ = some (.int .i64 x.num) := (HB5.out.cell (p := ⟨b, off + i * 2, none⟩) hbz2).trans d0
                  have e1 : w5.cell? ⟨b, off + i * 2 + 1, none⟩ = some (.int .i64 x.den) := (HB5.out.cell (p := ⟨b, off + i * 2 + 1, none⟩) hbz2).trans d1
                  have hz5 : w2.heap.size ≤ w5.heap.size := HB5.out.size
                  have hbz5 : b < w5.heap.size := by omega
                  have hw5 := HB5w.out.size
                  have HSP : Hid ((MM.srt L).take i ++ x :: (MM.srt L).drop i = MM.srt (L ++ [x])) := Lib.hid (by rw [← srt_snoc]; exact ins_split HLE.out (.inl (by rw [HLL.out]; exact Nat.le_refl _)))
                  have HTL : Hid ((qcells ((MM.srt L).take i)).length = i * 2) := Lib.hid (by rw [qcells_len, List.length_take, HLL.out]; omega)
                  have HNW : Hid (∀ (j : Nat) (u : Value), (qcells ((MM.srt L).take i))[j]? = some u → w5.cell? ((⟨b', off', none⟩ : Addr).add j) = some u) := Lib.hid fun j u hu => by
                    obtain ⟨b9, off9, e9, h9⟩ := frs_take HO5.out i j u hu
                    injection e9 with e9
                    injection e9 with e91 e92
                    subst e91 e92
                    rw [addr_add']; exact h9
                  go_upto_region 15 with (at_builtin; refine wpList_append_own _ rfl (.tmp 44) (.tmp 47) 78 rfl w5.heap.size 23 i0 (.agg #[.int .i64 0, .int .i64 0]) 2 16 Tryd.underlying78 hi0 hz0 hz1 hz2 rfl (by omega) (.slice none 0 0) 0 [] rfl (World.ownsRow_nil _ _ _ _) ⟨b', off', none⟩ i i (qcells ((MM.srt L).take i)) rfl HTL.out HNW.out (qcells_one _) (by simp only [maxLen]; omega) (by omega) (Nat.le_refl _) ?_; intro v6 w6 hown6 hgrow6 _; rw [Nat.zero_add, List.nil_append] at hown6; obtain ⟨A6, c6, rfl, hl6, hm6, _⟩ := owns_reads hown6; have HO6 := Lib.hid hown6; have HB6 : Hid (Below w5.heap.size w5 w6) := Lib.hid ((Below.refl _ _).grown hgrow6 (Nat.le_refl _) (fun k hk => by cases hk)); clear hown6 hgrow6)
                  have f0 : w6.cell? ⟨b, off + i * 2, none⟩ = some (.int .i64 x.num) := (HB6.out.cell (p := ⟨b, off + i * 2, none⟩) hbz5).trans e0
                  have f1 : w6.cell? ⟨b, off + i * 2 + 1, none⟩ = some (.int .i64 x.den) := (HB6.out.cell (p := ⟨b, off + i * 2 + 1, none⟩) hbz5).trans e1
                  have hz6 := HB6.out.size
                  have hbz6 : b < w6.heap.size := by omega
                  go_upto_region 16 with (at_builtin; refine wpList_push w6 _ rfl (.tmp 49) (.tmp 54) 78 rfl w5.heap.size 23 (.agg #[.int .i64 0, .int .i64 0]) 2 16 Tryd.underlying78 Tryd.info_fr rfl (by omega) _ _ _ rfl HO6.out rfl rfl (by simp [Value.oneCell']) (by omega) (by omega) hz6 ?_; intro v7 w7 hown7 hg7; obtain ⟨g7, c7, rfl, _, _, hc7, hm7⟩ := own_form hown7 (Nat.succ_pos _); have HO7 := Lib.hid hown7; have HB7 : Hid (Below w5.heap.size w5 w7) := Lib.hid (below_push HB6.out HO6.out hg7 (Nat.le_refl _) hz6); clear hown7 hg7)
                  have hz7 := HB7.out.size
                  go_wp2_with (at_builtin; refine wpList_append_own _ rfl (.tmp 56) (.tmp 59) 78 rfl w5.heap.size 23 i0 (.agg #[.int .i64 0, .int .i64 0]) 2 16 Tryd.underlying78 hi0 hz0 hz1 hz2 rfl (by omega) _ _ _ rfl HO7.out ⟨b', off', none⟩ 0 0 ([]) rfl rfl (fun j u hu => by simp at hu) (fun u hu => by cases hu) (by simp only [maxLen]; omega) (by omega) hz7 ?_; intro v8 w8 hown8 hgrow8 _; have HB8 : Hid (Below w5.heap.size w5 w8) := Lib.hid (HB7.out.grown hgrow8 hz7 (fun k hk => (HO7.out.lt k hk).1)); clear hgrow8)
                  have HO8 : Hid (w8.ownsRow w5.heap.size 23 2 v8 (i + 1) (qcells ((MM.srt L).take i ++ x :: (MM.srt L).drop i))) := Lib.hid (by
                    have e1 : qcells ((MM.srt L).take i ++ x :: (MM.srt L).drop i) = qcells ((MM.srt L).take i) ++ [.int .i64 x.num, .int .i64 x.den] ++ [] := by
                      rw [List.drop_of_length_le (by rw [HLL.out]; exact Nat.le_refl _), qcells_snoc, List.append_nil]
                    rw [e1]; exact hown8)
                  clear hown8
                  obtain ⟨A8, c8, hv8, hn8, hf8⟩ := owns_frs (S := (MM.srt (L ++ [x])).map frQ) (by have h := HO8.out; rw [HSP.out] at h; exact h)
                  have hln : ((MM.srt (L ++ [x])).map frQ).length = i + 1 := by rw [List.length_map, QS.srt_len, List.length_append, List.length_singleton, ← QS.srt_len, HLL.out]
                  rw [hln] at hv8
                  subst hv8
                  clear hn8 hln
                  have HF8 := Lib.hid hf8
                  have HB9 := Lib.hid (HB5w.out.trans (HB8.out.mono hw5))
                  have HLQ9 : Hid (∀ q ∈ L ++ [x], QIn q) := Lib.hid fun q hq => by
                    rcases List.mem_append.1 hq with h | h
                    · exact HLQ.out q h
                    · rw [List.mem_singleton.1 h]; exact HXI.out
                  clear hf8
                  go_wp2
                  go_roundw
                  case rel => exact ⟨i + 1, L ++ [x], _, _, by omega, by first | rfl | (simp; done), by go_num, fun h => absurd h (Nat.succ_ne_zero _), HTS, HLQ9, HS, HF8, HB9⟩
                  case measure => simp [intOf]; omega
                · have hcc2 : ¬ i = c' := fun h => hcc h.symm
                  go_upto_region 12 with (fail)
                  go_region
                  obtain ⟨w5, hw5⟩ : ∃ y, y = wr.drew := ⟨_, rfl⟩
                  rw [← hw5] at HB5 ⊢
                  clear hw5
                  have HB5w := Lib.hid (HB2.out.trans (HB5.out.mono (Nat.le_trans hB1 hz2')))
                  have HO5 := Lib.hid (HO2.out.at' HB5.out)
                  have e0 : w5.cell? ⟨b, off + i * 2, none⟩ = some (.int .i64 x.num) := (HB5.out.cell (p := ⟨b, off + i * 2, none⟩) hbz2).trans d0
                  have e1 : w5.cell? ⟨b, off + i * 2 + 1, none⟩ = some (.int .i64 x.den) := (HB5.out.cell (p := ⟨b, off + i * 2 + 1, none⟩) hbz2).trans d1
                  have hz5 : w2.heap.size ≤ w5.heap.size := HB5.out.size
                  have hbz5 : b < w5.heap.size := by omega
                  have hw5 := HB5w.out.size
                  have HSP : Hid ((MM.srt L).take i ++ x :: (MM.srt L).drop i = MM.srt (L ++ [x])) := Lib.hid (by rw [← srt_snoc]; exact ins_split HLE.out (.inl (by rw [HLL.out]; exact Nat.le_refl _)))
                  have HTL : Hid ((qcells ((MM.srt L).take i)).length = i * 2) := Lib.hid (by rw [qcells_len, List.length_take, HLL.out]; omega)
                  have HNW : Hid (∀ (j : Nat) (u : Value), (qcells ((MM.srt L).take i))[j]? = some u → w5.cell? ((⟨b', off', none⟩ : Addr).add j) = some u) := Lib.hid fun j u hu => by
                    obtain ⟨b9, off9, e9, h9⟩ := frs_take HO5.out i j u hu
                    injection e9 with e9
                    injection e9 with e91 e92
                    subst e91 e92
                    rw [addr_add']; exact h9
                  go_upto_region 15 with (at_builtin; refine wpList_append_own _ rfl (.tmp 44) (.tmp 47) 78 rfl w5.heap.size 23 i0 (.agg #[.int .i64 0, .int .i64 0]) 2 16 Tryd.underlying78 hi0 hz0 hz1 hz2 rfl (by omega) (.slice none 0 0) 0 [] rfl (World.ownsRow_nil _ _ _ _) ⟨b', off', none⟩ i c' (qcells ((MM.srt L).take i)) rfl HTL.out HNW.out (qcells_one _) (by simp only [maxLen]; omega) (by omega) (Nat.le_refl _) ?_; intro v6 w6 hown6 hgrow6 _; rw [Nat.zero_add, List.nil_append] at hown6; obtain ⟨A6, c6, rfl, hl6, hm6, _⟩ := owns_reads hown6; have HO6 := Lib.hid hown6; have HB6 : Hid (Below w5.heap.size w5 w6) := Lib.hid ((Below.refl _ _).grown hgrow6 (Nat.le_refl _) (fun k hk => by cases hk)); clear hown6 hgrow6)
                  have f0 : w6.cell? ⟨b, off + i * 2, none⟩ = some (.int .i64 x.num) := (HB6.out.cell (p := ⟨b, off + i * 2, none⟩) hbz5).trans e0
                  have f1 : w6.cell? ⟨b, off + i * 2 + 1, none⟩ = some (.int .i64 x.den) := (HB6.out.cell (p := ⟨b, off + i * 2 + 1, none⟩) hbz5).trans e1
                  have hz6 := HB6.out.size
                  have hbz6 : b < w6.heap.size := by omega
                  go_upto_region 16 with (at_builtin; refine wpList_push w6 _ rfl (.tmp 49) (.tmp 54) 78 rfl w5.heap.size 23 (.agg #[.int .i64 0, .int .i64 0]) 2 16 Tryd.underlying78 Tryd.info_fr rfl (by omega) _ _ _ rfl HO6.out rfl rfl (by simp [Value.oneCell']) (by omega) (by omega) hz6 ?_; intro v7 w7 hown7 hg7; obtain ⟨g7, c7, rfl, _, _, hc7, hm7⟩ := own_form hown7 (Nat.succ_pos _); have HO7 := Lib.hid hown7; have HB7 : Hid (Below w5.heap.size w5 w7) := Lib.hid (below_push HB6.out HO6.out hg7 (Nat.le_refl _) hz6); clear hown7 hg7)
                  have hz7 := HB7.out.size
                  go_wp2_with (at_builtin; refine wpList_append_own _ rfl (.tmp 56) (.tmp 59) 78 rfl w5.heap.size 23 i0 (.agg #[.int .i64 0, .int .i64 0]) 2 16 Tryd.underlying78 hi0 hz0 hz1 hz2 rfl (by omega) _ _ _ rfl HO7.out ⟨b', off' + i * 2, none⟩ 0 (c' - i) ([]) rfl rfl (fun j u hu => by simp at hu) (fun u hu => by cases hu) (by simp only [maxLen]; omega) (by omega) hz7 ?_; intro v8 w8 hown8 hgrow8 _; have HB8 : Hid (Below w5.heap.size w5 w8) := Lib.hid (HB7.out.grown hgrow8 hz7 (fun k hk => (HO7.out.lt k hk).1)); clear hgrow8)
                  have HO8 : Hid (w8.ownsRow w5.heap.size 23 2 v8 (i + 1) (qcells ((MM.srt L).take i ++ x :: (MM.srt L).drop i))) := Lib.hid (by
                    have e1 : qcells ((MM.srt L).take i ++ x :: (MM.srt L).drop i) = qcells ((MM.srt L).take i) ++ [.int .i64 x.num, .int .i64 x.den] ++ [] := by
                      rw [List.drop_of_length_le (by rw [HLL.out]; exact Nat.le_refl _), qcells_snoc, List.append_nil]
                    rw [e1]; exact hown8)
                  clear hown8
                  obtain ⟨A8, c8, hv8, hn8, hf8⟩ := owns_frs (S := (MM.srt (L ++ [x])).map frQ) (by have h := HO8.out; rw [HSP.out] at h; exact h)
                  have hln : ((MM.srt (L ++ [x])).map frQ).length = i + 1 := by rw [List.length_map, QS.srt_len, List.length_append, List.length_singleton, ← QS.srt_len, HLL.out]
                  rw [hln] at hv8
                  subst hv8
                  clear hn8 hln
                  have HF8 := Lib.hid hf8
                  have HB9 := Lib.hid (HB5w.out.trans (HB8.out.mono hw5))
                  have HLQ9 : Hid (∀ q ∈ L ++ [x], QIn q) := Lib.hid fun q hq => by
                    rcases List.mem_append.1 hq with h | h
                    · exact HLQ.out q h
                    · rw [List.mem_singleton.1 h]; exact HXI.out
                  clear hf8
                  go_wp2
                  go_roundw
                  case rel => exact ⟨i + 1, L ++ [x], _, _, by omega, by first | rfl | (simp; done), by go_num, fun h => absurd h (Nat.succ_ne_zero _), HTS, HLQ9, HS, HF8, HB9⟩
                  case measure => simp [intOf]; omega
        · rw [if_neg hz] at hst
          have HZ := Lib.hid (show fracErr t d = e from hst)
          rw [hst] at hz
          have hT0 := HT.out.no (by rw [HEE.out]; exact hz)
          subst hT0
          have hze : (e == 0) = false := beq_eq_false_iff_ne.2 hz
          clear hst hz hg HX hts
          go_wp2_with fail
          refine (refFrac_any t d _).mono ?_; rintro r w2 ⟨rfl, hb2⟩
          rw [HZ.out]
          have HB2 := Lib.hid (HB.out.trans (hb2.mono hB1))
          clear hb2
          go_wp2
          go_ret2
          exact ⟨none, 0, rfl, frs_none' _ _, HB2.out⟩
      · obtain rfl : i = S.length := by omega
        have hst := HEV.out
        rw [firstFrom_end] at hst
        subst hst
        obtain ⟨Q, hSQ, _, _, hTQ⟩ := HT.out.yes HEE.out
        have hLQ : L = Q := map_frQ_inj (by rw [← hSQ, ← HST.out, List.take_length])
        subst hLQ hTQ
        clear hLl hSQ
        go_wp2
        go_ret2
        exact ⟨A', c', by first | (rw [List.length_map, HLL.out]; done) | (rw [HLL.out]; done) | (simp [HLL.out]; done), HO.out, HB.out⟩
end Go.Proofs.YtblanfaghnflkaaDoor
