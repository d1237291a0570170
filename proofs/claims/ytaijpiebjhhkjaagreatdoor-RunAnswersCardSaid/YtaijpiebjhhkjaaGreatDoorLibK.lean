/- Several texts in one: Fill3, Fill4, Load3, Load4. -/
import Derived.Test.YtaijpiebjhhkjaaGreatDoorFill2
import Derived.Test.YtaijpiebjhhkjaaGreatDoorLibN
import Derived.Laws.OwnMore
import Derived.Test.YtaijpiebjhhkjaaGreatDoorLibL
/- fill.Of: round by round till all are done. -/
namespace Go.Proofs.YtaijpiebjhhkjaaGreatDoor
open Go.RowKit
/-- is there a false one? -/
theorem ixB_any (g : Nat) (st : St) (n : Nat) (w : World) (h : Blk w g 4 (doneCells st).toArray) (hn : n = st.length) (h6 : n ≤ 6) (b : Bool) (hb : allDone st = b) :
    Calls Tryz.prog 122 #[.slice (some ⟨g, 0, none⟩) n n, .bool false] w fun e w' => ∃ j : Int, e = .returned (.int .i64 j) ∧ Hid (decide (0 ≤ j) = !b) ∧ w = w' := by
  subst hn
  have H := Lib.hid h
  have hg := h.lt
  have HB := Lib.hid hb
  clear h hb
  go_enter Tryz.func122, Tryz.ntmps122
  go_wp2
  go_loop [8] (fun i => ∃ k : Nat, k ≤ st.length ∧ i = .int .i64 k ∧ Hid ((st.take k).all Option.isSome = true)) (fun i => st.length - (intOf i).toNat)
  case atStart => exact ⟨0, Nat.zero_le _, rfl, Lib.hid (by simp)⟩
  case round =>
    obtain ⟨k, hk, rfl, HN⟩ := hrel
    by_cases hlt : k < st.length
    · have k0 : (0 : Int) ≤ (k : Int) := by omega
      have hc : w.cell? ⟨g, k, none⟩ = some (.bool (st.at_ k).isSome) := by
        rw [H.out.cell, List.getElem?_toArray]
        unfold doneCells
        rw [List.getElem?_map, at_get hlt]; rfl
      have HT : Hid (st.take (k + 1) = st.take k ++ [st.at_ k]) := Lib.hid (by rw [List.take_add_one, at_get hlt]; rfl)
      cases hat : st.at_ k with
      | none =>
        rw [hat] at hc HT
        have hc' : w.cell? ⟨g, k, none⟩ = some (.bool false) := hc
        have HQ : Hid (b = false) := Lib.hid (by
          rw [← HB.out]
          unfold allDone
          rw [List.all_eq_false]
          exact ⟨none, List.mem_of_mem_take (i := k + 1) (by rw [HT.out]; simp), by simp⟩)
        clear hc hat HT
        go_wp2
        go_ret
        exact ⟨_, rfl, Lib.hid (by rw [HQ.out]; simp), rfl⟩
      | some q =>
        rw [hat] at hc HT
        have hc' : w.cell? ⟨g, k, none⟩ = some (.bool true) := hc
        have HQ : Hid ((st.take (k + 1)).all Option.isSome = true) := Lib.hid (by rw [HT.out, List.all_append, HN.out]; rfl)
        clear hc hat HT
        go_wp2
        go_round
        case rel => exact ⟨k + 1, by omega, by go_num, HQ⟩
        case measure => simp [intOf]; omega
    · have HQ : Hid (b = true) := Lib.hid (by rw [← HB.out]; have := HN.out; rwa [List.take_of_length_le (by omega)] at this)
      go_wp2
      go_ret
      exact ⟨_, rfl, Lib.hid (by rw [HQ.out]; rfl), rfl⟩
theorem conB_any (g : Nat) (st : St) (n : Nat) (w : World) (h : Blk w g 4 (doneCells st).toArray) (hn : n = st.length) (h6 : n ≤ 6) (b : Bool) (hb : (!allDone st) = b) :
    Calls Tryz.prog 87 #[.slice (some ⟨g, 0, none⟩) n n, .bool false] w fun e w' => e = .returned (.bool b) ∧ w = w' := by
  have HI := Lib.hid (ixB_any g st n w h hn h6 _ rfl)
  have HB := Lib.hid hb
  clear h hn hb
  go_enter Tryz.func87, Tryz.ntmps87
  go_wp2_with fail
  refine HI.out.mono ?_; rintro e w' ⟨j, rfl, hj, rfl⟩
  go_wp2
  go_ret
  exact ⟨by rw [← HB.out, ← hj.out]; rfl, rfl⟩
theorem madeR (n : Nat) (h : n ≤ 6) : madeCells #[Value.int .i64 0, Value.int .i64 0] (n * 2) = (rateCells (List.replicate n none)).toArray := by
  have : n = 0 ∨ n = 1 ∨ n = 2 ∨ n = 3 ∨ n = 4 ∨ n = 5 ∨ n = 6 := by omega
  rcases this with rfl | rfl | rfl | rfl | rfl | rfl | rfl <;> (clear h; show _ = _; kernel_rfl)
theorem madeD (n : Nat) (h : n ≤ 6) : madeCells #[Value.bool false] (n * 1) = (doneCells (List.replicate n none)).toArray := by
  have : n = 0 ∨ n = 1 ∨ n = 2 ∨ n = 3 ∨ n = 4 ∨ n = 5 ∨ n = 6 := by omega
  rcases this with rfl | rfl | rfl | rfl | rfl | rfl | rfl <;> (clear h; show _ = _; kernel_rfl)
theorem Tryz.info_boolF : (Tryz.prog.info? 4).map (fun i => (i.zero, i.size, i.bytes)) = some (some (.bool false), 1, 1) := by kernel_rfl
theorem makeR (n : Nat) (h : n ≤ 6) (W : World) : (Instr.makeSlice 33 (.int .i64 n) (.int .i64 n)).run Tryz.prog W = .ok (.slice (some ⟨W.heap.size, 0, none⟩) n n) (W.alloc (.cells (rateCells (List.replicate n none)).toArray 37)) := by
  obtain ⟨i, hi, h2, h3, h4⟩ := info_parts Tryz.info_fr
  have := run_make (P := Tryz.prog) W 33 37 i _ Tryz.underlying33 hi h2 .i64 .i64 n n (by omega) (Int.le_refl _) (by rw [h4]; omega) (by omega)
  rw [Int.toNat_natCast, h3, show Value.cells (.agg #[.int .i64 0, .int .i64 0]) = #[Value.int .i64 0, Value.int .i64 0] from rfl, madeR n h] at this
  exact this
theorem makeD (n : Nat) (h : n ≤ 6) (W : World) : (Instr.makeSlice 84 (.int .i64 n) (.int .i64 n)).run Tryz.prog W = .ok (.slice (some ⟨W.heap.size, 0, none⟩) n n) (W.alloc (.cells (doneCells (List.replicate n none)).toArray 4)) := by
  obtain ⟨i, hi, h2, h3, h4⟩ := info_parts Tryz.info_boolF
  have := run_make (P := Tryz.prog) W 84 4 i _ Tryz.underlying84 hi h2 .i64 .i64 n n (by omega) (Int.le_refl _) (by rw [h4]; omega) (by omega)
  rw [Int.toNat_natCast, h3, show Value.cells (.bool false) = #[Value.bool false] from rfl, madeD n h] at this
  exact this
theorem own_kept2 {w w' : World} {base e size n g1 g2 : Nat} {v : Value} {xs : List Value} (h : w.ownsRow base e size v n xs) (hk : Kept2 w w' g1 g2) (h1 : v.ownBlock ≠ some g1) (h2 : v.ownBlock ≠ some g2) : w'.ownsRow base e size v n xs := by
  refine ⟨h.1, ?_⟩
  rcases h.2 with h0 | ⟨g, cap, cur, rfl, hb, hg, hr⟩
  · exact .inl h0
  · have hlt : g < w.heap.size := (Array.getElem?_eq_some_iff.1 hg).1
    exact .inr ⟨g, cap, cur, rfl, hb, (hk.block g hlt (fun e => h1 (by rw [e]; rfl)) (fun e => h2 (by rw [e]; rfl))).trans hg, hr⟩
theorem NetOwn.kept2 {w w' : World} {base : Nat} {cv pv : Value} {vs : List Value} {caps : List Int} {L : List (List Int)} {g1 g2 : Nat} {c1 c2 : Array Value} (h : NetOwn w base cv pv vs caps L) (hk : Kept2 w w' g1 g2) (h1 : Blk w g1 37 c1) (h2 : Blk w g2 4 c2) : NetOwn w' base cv pv vs caps L :=
  ⟨own_kept2 h.capO hk (own_blk_ne h.capO h1 (by decide)) (own_blk_ne h.capO h2 (by decide)), own_kept2 h.own hk (own_blk_ne h.own h1 (by decide)) (own_blk_ne h.own h2 (by decide)),
    fun i u l a b => own_kept2 (h.row i u l a b) hk (own_blk_ne (h.row i u l a b) h1 (by decide)) (own_blk_ne (h.row i u l a b) h2 (by decide)), h.apC, h.apR⟩
theorem Kept2.toBelow {B : Nat} {w wr w' : World} {g1 g2 : Nat} (hb : Below B w wr) (hk : Kept2 wr w' g1 g2) (h1 : B ≤ g1) (h2 : B ≤ g2) (h3 : B ≤ wr.heap.size) : Below B w w' :=
  hb.trans ⟨hk.os, hk.tape, hk.output, hk.size, fun k hlt => hk.block k (by omega) (by omega) (by omega)⟩
theorem FillAt.grownR {w w' : World} {B g gr gd : Nat} {C : Option Addr} {cc : Nat} {P : Option Addr} {cp : Nat} {caps : List Int} {paths : List (List Int)} {st : St} (h : FillAt w B g gr gd C cc P cp caps paths st)
    {base n : Nat} {v : Value} {xs : List Value} (ho : w.ownsRow base 22 1 v n xs) (hb : B ≤ base) (hg : w.grownBy w' v.ownBlock) : FillAt w' B g gr gd C cc P cp caps paths st :=
  have hB : Below B w w' := below_push (Below.refl _ _) ho hg hb h.size
  ⟨h.blk.grown hg fun e => own_blk_ne ho h.blk (by decide) e.symm, h.rate.grown hg fun e => own_blk_ne ho h.rate (by decide) e.symm, h.done.grown hg fun e => own_blk_ne ho h.done (by decide) e.symm, h.ic.below hB (Nat.le_refl _), h.ip.below hB (Nat.le_refl _), h.lo, h.lor, h.lod, h.len⟩
def lenOf : Value → Nat
  | .slice _ n _ => n
  | _ => 0
def rounds (caps : List Int) (paths : List (List Int)) (k : Nat) : List (List Int) := (roundsTo caps paths k).map ints
theorem rounds_succ' (caps : List Int) (paths : List (List Int)) (k : Nat) : rounds caps paths (k + 1) = rounds caps paths k ++ [ints (roundOut caps paths (fillSt caps paths k))] := by
  unfold rounds roundsTo
  rw [List.range_succ, List.map_append, List.map_append]; rfl
theorem rounds_len (caps : List Int) (paths : List (List Int)) (k : Nat) : (rounds caps paths k).length = k := by simp [rounds, roundsTo]
theorem rate_own {w : World} {gr n base : Nat} {R : List Rat} (h : Blk w gr 37 (rateCells (R.map some)).toArray) (hn : n = R.length) (hb : base ≤ gr) (h6 : n ≤ 6) : w.ownsRow base 37 2 (.slice (some ⟨gr, 0, none⟩) n n) n (qcells R) := by
  have e : rateCells (R.map some) = qcells R := by unfold rateCells qcells; rw [List.map_map]; rfl
  have hl : (qcells R).length = n * 2 := by unfold qcells; rw [frCells_len, List.length_map, hn]
  rw [e] at h
  refine ⟨hl, .inr ⟨gr, n, (qcells R).toArray, rfl, hb, h, Nat.le_refl _, by simp [maxLen]; omega, by simpa using hl, ?_⟩⟩
  exact List.take_of_length_le (by simp [hl])
set_option maxHeartbeats 8000000 in
set_option maxRecDepth 100000 in
theorem fillOf_any (C : Option Addr) (cc : Nat) (P : Option Addr) (cp : Nat) (caps : List Int) (paths : List (List Int)) (B : Nat) (w : World) (hB : B ≤ w.heap.size) (hc : Ints w B C cc caps) (hp : Rows2 w B P cp paths) (ok : NetOk caps paths) (K : Nat) (R : List Rat) (hK : FillEnds caps paths K R) :
    Calls Tryz.prog 64 #[.agg #[.slice C caps.length cc, .slice P paths.length cp]] w fun e w' => ∃ v u vs, e = .returned (.tuple #[v, u]) ∧ w'.ownsRow w.heap.size 37 2 v R.length (qcells R) ∧ NetOwn w' w.heap.size (.slice none 0 0) u vs [] (rounds caps paths K) ∧ Below w.heap.size w w' := by
  have hF1 := ok.F1
  have hRl := hK.len ok
  have hKF := hK.K_le ok
  have HMR := makeR paths.length hF1
  have HMD := makeD paths.length hF1
  have HINV := Lib.hid fun (k : Nat) (hk : k < K) => (show FInv caps paths (fillSt caps paths k) ∧ allDone (fillSt caps paths k) = false ∧ ∃ b, bestTo (share caps paths (fillSt caps paths k)) caps.length = some b from
    ⟨(finv_at ok k fun i hi => hK.2.1 i (by omega)).1, hK.2.1 k hk, best_is (finv_at ok k fun i hi => hK.2.1 i (by omega)).1 ok (hK.2.1 k hk)⟩)
  have HKD := Lib.hid hK.1
  have HKS := Lib.hid hK.2.2
  have HRL := Lib.hid hRl
  have hpm := hp.cap; have hpl := hp.le
  unfold maxLen at hpm
  have h1 := hc.below ((Below.refl w.heap.size w).alloc (Nat.le_refl _) (.cells #[.slice C caps.length cc, .slice P paths.length cp] 42)) hB
  have HC := Lib.hid hc; have HP := Lib.hid hp
  clear hc hp hK h1 hRl
  go_enter Tryz.func64, Tryz.ntmps64
  go_upto_region 1 with (fail)
  go_cut [4] (fun s4 wx => ∃ g gr gd, s4 = .pointer (some ⟨g, 0, none⟩) ∧ Hid (FillAt wx B g gr gd C cc P cp caps paths (fillSt caps paths 0)) ∧ w.heap.size ≤ g ∧ w.heap.size ≤ gr ∧ w.heap.size ≤ gd ∧ Hid (Below w.heap.size w wx))
  case first =>
    go_region
    all_goals
      go_wp2
      go_meet
      rw [show fillSt caps paths 0 = List.replicate paths.length none from rfl]
      first
        | (refine ⟨w.heap.size + 1 + 1 + 1, w.heap.size + 1, w.heap.size + 1 + 1, rfl, Lib.hid ⟨?_, ?_, ?_, HC.out.below (C := w.heap.size) ?_ hB, HP.out.below (C := w.heap.size) ?_ hB, by omega, by omega, by omega, by simp⟩, by omega, by omega, by omega, Lib.hid ?_⟩
           · ((repeat (first | with_reducible apply Blk.drew | (with_reducible apply Blk.new'; first | with_reducible rfl | (focus (simp; done))) | with_reducible apply Blk.alloc)); done)
           · ((repeat (first | with_reducible apply Blk.drew | (with_reducible apply Blk.new'; first | with_reducible rfl | (focus (simp; done))) | with_reducible apply Blk.alloc)); done)
           · ((repeat (first | with_reducible apply Blk.drew | (with_reducible apply Blk.new'; first | with_reducible rfl | (focus (simp; done))) | with_reducible apply Blk.alloc)); done)
           · ((repeat (first | with_reducible exact Below.refl _ _ | with_reducible apply Below.drew | with_reducible apply Below.alloc | (focus (simp; done)) | (simp; omega))); done)
           · ((repeat (first | with_reducible exact Below.refl _ _ | with_reducible apply Below.drew | with_reducible apply Below.alloc | (focus (simp; done)) | (simp; omega))); done)
           · ((repeat (first | with_reducible exact Below.refl _ _ | with_reducible apply Below.drew | with_reducible apply Below.alloc | (focus (simp; done)) | (simp; omega))); done))
        | (refine ⟨w.heap.size + 1 + 1 + 1, w.heap.size + 1 + 1, w.heap.size + 1, rfl, Lib.hid ⟨?_, ?_, ?_, HC.out.below (C := w.heap.size) ?_ hB, HP.out.below (C := w.heap.size) ?_ hB, by omega, by omega, by omega, by simp⟩, by omega, by omega, by omega, Lib.hid ?_⟩
           · ((repeat (first | with_reducible apply Blk.drew | (with_reducible apply Blk.new'; first | with_reducible rfl | (focus (simp; done))) | with_reducible apply Blk.alloc)); done)
           · ((repeat (first | with_reducible apply Blk.drew | (with_reducible apply Blk.new'; first | with_reducible rfl | (focus (simp; done))) | with_reducible apply Blk.alloc)); done)
           · ((repeat (first | with_reducible apply Blk.drew | (with_reducible apply Blk.new'; first | with_reducible rfl | (focus (simp; done))) | with_reducible apply Blk.alloc)); done)
           · ((repeat (first | with_reducible exact Below.refl _ _ | with_reducible apply Below.drew | with_reducible apply Below.alloc | (focus (simp; done)) | (simp; omega))); done)
           · ((repeat (first | with_reducible exact Below.refl _ _ | with_reducible apply Below.drew | with_reducible apply Below.alloc | (focus (simp; done)) | (simp; omega))); done)
           · ((repeat (first | with_reducible exact Below.refl _ _ | with_reducible apply Below.drew | with_reducible apply Below.alloc | (focus (simp; done)) | (simp; omega))); done))
  case rest =>
    obtain ⟨g, gr, gd, rfl, HF, hlg, hlr, hld, HB⟩ := hcut
    clear HMR HMD
    obtain ⟨w0, hw0⟩ : ∃ x, x = wc := ⟨_, rfl⟩
    rw [← hw0] at HF HB ⊢
    clear hw0
    go_wp2
    go_loopw [5] (fun v wr => ∃ (k : Nat) (vs : List Value), k ≤ K ∧ Hid (FillAt wr B g gr gd C cc P cp caps paths (fillSt caps paths k)) ∧ Hid (NetOwn wr w.heap.size (.slice none 0 0) v vs [] (rounds caps paths k)) ∧ Hid (Below w.heap.size w wr)) (fun v _ => K - lenOf v)
    case atStart => exact ⟨0, [], Nat.zero_le _, HF, Lib.hid ⟨World.ownsRow_nil _ _ _ _, World.ownsRow_nil _ _ _ _, fun i u l h => by simp at h, fun i u h => by simp at h, fun i j u u' h => by simp at h⟩, HB⟩
    case round =>
      clear HF HB
      obtain ⟨k, vs, hk, HF, HO, HB⟩ := hrel
      have hB1 := HB.out.size
      obtain ⟨P5, c5, rfl, _⟩ := HO.out.rows
      obtain ⟨f0, f1, f2, f3, _, _, _, _, fz⟩ := HF.out.blk.four
      by_cases hlt : k < K
      · obtain ⟨hinv, hd, b0, hb0⟩ := HINV.out k hlt
        have HCON := Lib.hid (conB_any gd (fillSt caps paths k) paths.length wr HF.out.done HF.out.len.symm hF1 true (by rw [hd]; rfl))
        have HRO := Lib.hid (fround_any wr B g gr gd C cc P cp caps paths (fillSt caps paths k) b0 HF.out ok hinv hb0)
        have hrl : (roundOut caps paths (fillSt caps paths k)).length ≤ 6 := Nat.le_trans (outTo_le _ _ _ _) hF1
        clear hinv hd hb0
        go_wp2_with fail
        refine HCON.out.mono ?_; rintro e w' ⟨rfl, rfl⟩
        go_wp2_with fail
        refine HRO.out.mono ?_; rintro e w1 ⟨u, rfl, hu, hf1, hk1⟩
        obtain ⟨U, cu, rfl, hu1, hu2, _⟩ := own_sl hu
        have HU := Lib.hid hu
        have HF1 : Hid (FillAt w1 B g gr gd C cc P cp caps paths (fillSt caps paths (k + 1))) := Lib.hid hf1
        have HO1 := Lib.hid (HO.out.kept2 hk1 HF.out.rate HF.out.done)
        have HB1 := Lib.hid (Kept2.toBelow HB.out hk1 hlr hld hB1)
        have hsz1 := hk1.size
        have HLT := Lib.hid HO.out.lt
        have hBs : B ≤ w.heap.size := hB
        clear hu hf1 hk1 HO HF HB HRO HCON f0 f1 f2 f3 fz
        have hB2 := HB1.out.size
        go_wp2_with (at_builtin; refine wpList_push w1 _ rfl (.tmp 22) (.tmp 25) 23 rfl w.heap.size 22 (.slice none 0 0) 1 24 Tryz.underlying23 Tryz.info_row rfl (by omega) _ _ _ rfl HO1.out.own rfl rfl (by simp [Value.oneCell']) (by rw [rounds_len]; omega) (by decide) hB2 ?_; intro v' w7 hown7 hg7; have HF7 := Lib.hid (HF1.out.grownR HO1.out.own hBs hg7); have HB7 := Lib.hid (below_push HB1.out HO1.out.own hg7 (Nat.le_refl _) hB2); have HO7 := Lib.hid (HO1.out.push (l := ints (roundOut caps paths (fillSt caps paths k))) HLT.out (by rw [ints_len]; exact HU.out) hB1 hown7 hg7); clear hown7 hg7)
        rw [← rounds_succ'] at HO7
        obtain ⟨P7, c7, hv7, _⟩ := HO7.out.rows
        rw [rounds_len] at hv7
        subst hv7
        rw [rounds_len]
        go_roundw
        case rel => exact ⟨k + 1, _, by omega, HF7, HO7, HB7⟩
        case measure => simp [lenOf]; omega
      · obtain rfl : k = K := by omega
        have HCON := Lib.hid (conB_any gd (fillSt caps paths k) paths.length wr HF.out.done HF.out.len.symm hF1 false (by rw [HKD.out]; rfl))
        have hr := HF.out.rate
        rw [HKS.out] at hr
        have HR := Lib.hid (rate_own hr HRL.out.symm hlr hF1)
        clear hr
        go_wp2_with fail
        refine HCON.out.mono ?_; rintro e w' ⟨rfl, rfl⟩
        go_wp2
        go_ret2
        exact ⟨_, _, vs, rfl, by rw [HRL.out]; exact HR.out, HO.out, HB.out⟩
end Go.Proofs.YtaijpiebjhhkjaaGreatDoor
/- fill.Rates, fill.Rounds: the forms for laws. -/
namespace Go.Proofs.YtaijpiebjhhkjaaGreatDoor
open Go.RowKit
theorem rates_frs {w : World} {base n : Nat} {v : Value} {R : List Rat} (h : w.ownsRow base 37 2 v n (qcells R)) : ∃ A c, v = .slice A R.length c ∧ Frs w w.heap.size A c (R.map frQ) := by
  obtain ⟨A, c, rfl, _, hf⟩ := owns_frs h
  exact ⟨A, c, by rw [List.length_map], hf⟩
theorem frates_no (C : Option Addr) (cc : Nat) (caps : List Int) (P : Option Addr) (cp m : Nat) (paths : List (List Int)) (B : Nat) (w : World) (er : Int) (hB : B ≤ w.heap.size) (hc : Ints w B C cc caps) (hp : Rows2 w B P cp paths) (hm : m = paths.length) (he : netErr caps paths = er) (h0 : er ≠ 0) :
    Calls Tryz.prog 32 #[.agg #[.slice C caps.length cc, .slice P m cp]] w fun e w' => e = .returned (.tuple #[.slice none 0 0, .iface 74 (.int .i64 er)]) ∧ Below w.heap.size w w' := by
  subst hm
  have HB0 : Hid (Below w.heap.size w (w.alloc (.cells #[.slice C caps.length cc, .slice P paths.length cp] 42))) := Lib.hid ((Below.refl _ _).alloc (Nat.le_refl _) _)
  have HC := Lib.hid (hc.below HB0.out hB); have HP := Lib.hid (hp.below HB0.out hB); have HE := Lib.hid he; have H0 := Lib.hid h0
  clear hc hp he h0
  go_enter Tryz.func32, Tryz.ntmps32
  go_wp2_with fail
  refine (ncheck_er C cc caps P cp paths B _ er (by simp; omega) HC.out HP.out HE.out H0.out).mono ?_; rintro e w1 ⟨rfl, hb1⟩
  have HB1 := Lib.hid (HB0.out.trans (hb1.mono HB0.out.size))
  clear hb1
  go_wp2
  go_ret2
  exact ⟨rfl, HB1.out⟩
theorem frates_yes (C : Option Addr) (cc : Nat) (caps : List Int) (P : Option Addr) (cp m : Nat) (paths : List (List Int)) (B : Nat) (w : World) (K : Nat) (R : List Rat) (hB : B ≤ w.heap.size) (hc : Ints w B C cc caps) (hp : Rows2 w B P cp paths) (hm : m = paths.length) (he : netErr caps paths = 0) (hK : FillEnds caps paths K R) :
    Calls Tryz.prog 32 #[.agg #[.slice C caps.length cc, .slice P m cp]] w fun e w' => ∃ A c, e = .returned (.tuple #[.slice A R.length c, .nilIface]) ∧ Frs w' w'.heap.size A c (R.map frQ) ∧ Below w.heap.size w w' := by
  subst hm
  have HB0 : Hid (Below w.heap.size w (w.alloc (.cells #[.slice C caps.length cc, .slice P paths.length cp] 42))) := Lib.hid ((Below.refl _ _).alloc (Nat.le_refl _) _)
  have HN0 := Lib.hid (Blk.new w 42 #[.slice C caps.length cc, .slice P paths.length cp])
  have HC := Lib.hid hc; have HP := Lib.hid hp; have HE := Lib.hid he; have HK := Lib.hid hK
  clear hc hp he hK
  go_enter Tryz.func32, Tryz.ntmps32
  go_wp2_with fail
  refine (ncheck_ok C cc caps P cp paths B _ (by simp; omega) (HC.out.below HB0.out hB) (HP.out.below HB0.out hB) HE.out).mono ?_; rintro e w1 ⟨rfl, hb1⟩
  have HB1 := Lib.hid (HB0.out.trans (hb1.mono HB0.out.size))
  have HN1 := Lib.hid (HN0.out.go hb1)
  obtain ⟨n0, n1, _, _, nz⟩ := HN1.out.two
  have hsz := HB1.out.size
  clear hb1 HB0 HN0
  go_wp2_with fail
  refine (fillOf_any C cc P cp caps paths B _ (by omega) (HC.out.below HB1.out hB) (HP.out.below HB1.out hB) (netOk_of HE.out) K R HK.out).mono ?_; rintro e w2 ⟨v, u, vs, rfl, hv, _, hb2⟩
  have HB2 := Lib.hid (HB1.out.trans (hb2.mono hsz))
  obtain ⟨A, c, rfl, hf⟩ := rates_frs hv
  have HF := Lib.hid hf
  clear hb2 hv hf n0 n1 nz
  go_wp2
  go_ret2
  exact ⟨A, c, rfl, HF.out, HB2.out⟩
end Go.Proofs.YtaijpiebjhhkjaaGreatDoor
/- load.Of in the form for laws; load.Fits. -/
namespace Go.Proofs.YtaijpiebjhhkjaaGreatDoor
open Go.RowKit
theorem lof_yes (C : Option Addr) (cc : Nat) (caps : List Int) (P : Option Addr) (cp m : Nat) (paths : List (List Int)) (A : Option Addr) (c n : Nat) (Q L : List Rat) (B : Nat) (w : World) (hB : B ≤ w.heap.size) (hc : Ints w B C cc caps) (hp : Rows2 w B P cp paths) (hr : Frs w B A c (Q.map frQ))
    (hm : m = paths.length) (hn : n = Q.length) (he : netErr caps paths = 0) (hl : Q.length = paths.length) (hq : ∀ q ∈ Q, QIn q) (hL : loadsTo paths Q caps.length = some L) :
    Calls Tryz.prog 65 #[.agg #[.slice C caps.length cc, .slice P m cp], .slice A n c] w fun e w' => ∃ A' c', e = .returned (.tuple #[.slice A' caps.length c', .nilIface]) ∧ Frs w' w'.heap.size A' c' (L.map frQ) ∧ w'.ownsRow w.heap.size 37 2 (.slice A' caps.length c') caps.length (qcells L) ∧ Below w.heap.size w w' := by
  subst hm hn
  refine (lof_any C cc caps P cp paths A c Q B w hB hc hp hr he hl hq).mono ?_
  rintro e w' ⟨h, hb⟩
  rcases h with ⟨L', v, h1, rfl, hv⟩ | ⟨h1, _⟩
  · rw [hL] at h1
    injection h1 with h1
    subst h1
    obtain ⟨A', c', rfl, hf⟩ := rates_frs hv
    rw [loadsTo_len hL] at hv ⊢
    exact ⟨A', c', rfl, hf, hv, hb⟩
  · rw [hL] at h1; cases h1
theorem lof_full (C : Option Addr) (cc : Nat) (caps : List Int) (P : Option Addr) (cp m : Nat) (paths : List (List Int)) (A : Option Addr) (c n : Nat) (Q : List Rat) (B : Nat) (w : World) (hB : B ≤ w.heap.size) (hc : Ints w B C cc caps) (hp : Rows2 w B P cp paths) (hr : Frs w B A c (Q.map frQ))
    (hm : m = paths.length) (hn : n = Q.length) (he : netErr caps paths = 0) (hl : Q.length = paths.length) (hq : ∀ q ∈ Q, QIn q) (hL : loadsTo paths Q caps.length = none) :
    Calls Tryz.prog 65 #[.agg #[.slice C caps.length cc, .slice P m cp], .slice A n c] w fun e w' => e = .returned (.tuple #[.slice none 0 0, .iface 74 (.int .i64 4)]) ∧ Below w.heap.size w w' := by
  subst hm hn
  refine (lof_any C cc caps P cp paths A c Q B w hB hc hp hr he hl hq).mono ?_
  rintro e w' ⟨h, hb⟩
  rcases h with ⟨L', v, h1, _⟩ | ⟨_, rfl⟩
  · rw [hL] at h1; cases h1
  · exact ⟨rfl, hb⟩
theorem lof_bad (C : Option Addr) (cc : Nat) (caps : List Int) (P : Option Addr) (cp m : Nat) (paths : List (List Int)) (A : Option Addr) (c n : Nat) (S : List Fr) (B : Nat) (w : World) (er : Int) (hB : B ≤ w.heap.size) (hc : Ints w B C cc caps) (hp : Rows2 w B P cp paths) (hr : Frs w B A c S)
    (hm : m = paths.length) (hn : n = S.length) (he : chkErr caps paths S = er) (h0 : er ≠ 0) :
    Calls Tryz.prog 65 #[.agg #[.slice C caps.length cc, .slice P m cp], .slice A n c] w fun e w' => e = .returned (.tuple #[.slice none 0 0, .iface 74 (.int .i64 er)]) ∧ Below w.heap.size w w' := by
  subst hm
  have HB0 : Hid (Below w.heap.size w (w.alloc (.cells #[.slice C caps.length cc, .slice P paths.length cp] 42))) := Lib.hid ((Below.refl _ _).alloc (Nat.le_refl _) _)
  have HC := Lib.hid (hc.below HB0.out hB); have HP := Lib.hid (hp.below HB0.out hB); have HR := Lib.hid (hr.below HB0.out hB); have HE := Lib.hid he; have H0 := Lib.hid h0; have HN := Lib.hid hn
  clear hc hp hr he h0 hn
  go_enter Tryz.func65, Tryz.ntmps65
  go_wp2_with fail
  refine (lcheck_er C cc caps P cp paths A c S B n _ er (by simp; omega) HC.out HP.out HR.out HN.out HE.out H0.out).mono ?_; rintro e w1 ⟨rfl, hb1⟩
  have HB1 := Lib.hid (HB0.out.trans (hb1.mono HB0.out.size))
  clear hb1
  go_wp2
  go_ret2
  exact ⟨rfl, HB1.out⟩
/-- load.Of, whatever it is asked -/
def lofErr (caps : List Int) (paths : List (List Int)) (S : List Fr) (Q : List Rat) : Int := if chkErr caps paths S = 0 then (if loadsTo paths Q caps.length = none then 4 else 0) else chkErr caps paths S
theorem lof_er (C : Option Addr) (cc : Nat) (caps : List Int) (P : Option Addr) (cp m : Nat) (paths : List (List Int)) (A : Option Addr) (c n : Nat) (S : List Fr) (B : Nat) (w : World) (er : Int) (hB : B ≤ w.heap.size) (hc : Ints w B C cc caps) (hp : Rows2 w B P cp paths) (hr : Frs w B A c S)
    (hm : m = paths.length) (hn : n = S.length) (he : (chkErr caps paths S = er ∧ er ≠ 0) ∨ (∃ Q : List Rat, S = Q.map frQ ∧ netErr caps paths = 0 ∧ Q.length = paths.length ∧ (∀ q ∈ Q, QIn q) ∧ loadsTo paths Q caps.length = none ∧ er = 4)) :
    Calls Tryz.prog 65 #[.agg #[.slice C caps.length cc, .slice P m cp], .slice A n c] w fun e w' => e = .returned (.tuple #[.slice none 0 0, .iface 74 (.int .i64 er)]) ∧ Below w.heap.size w w' := by
  rcases he with ⟨h1, h2⟩ | ⟨Q, rfl, h1, h2, h3, h4, rfl⟩
  · exact lof_bad C cc caps P cp m paths A c n S B w er hB hc hp hr hm hn h1 h2
  · exact lof_full C cc caps P cp m paths A c n Q B w hB hc hp hr hm (by simpa using hn) h1 h2 h3 h4
/-- what may come of load.Of -/
theorem lof_cases (caps : List Int) (paths : List (List Int)) (S : List Fr) :
    (∃ er : Int, er ≠ 0 ∧ ((chkErr caps paths S = er ∧ er ≠ 0) ∨ (∃ Q : List Rat, S = Q.map frQ ∧ netErr caps paths = 0 ∧ Q.length = paths.length ∧ (∀ q ∈ Q, QIn q) ∧ loadsTo paths Q caps.length = none ∧ er = 4))) ∨
    (∃ Q L : List Rat, S = Q.map frQ ∧ netErr caps paths = 0 ∧ Q.length = paths.length ∧ (∀ q ∈ Q, QIn q) ∧ loadsTo paths Q caps.length = some L) := by
  by_cases h : chkErr caps paths S = 0
  · obtain ⟨h1, Q, rfl, h2, h3⟩ := chk_ok h
    cases hL : loadsTo paths Q caps.length with
    | none => exact .inl ⟨4, by decide, .inr ⟨Q, rfl, h1, h2, h3, hL, rfl⟩⟩
    | some L => exact .inr ⟨Q, L, rfl, h1, h2, h3, hL⟩
  · exact .inl ⟨_, h, .inl ⟨rfl, h⟩⟩
theorem any_q {Q : List Rat} {k : Nat} (h : k < Q.length) : negB (Q.take (k + 1)) = (negB (Q.take k) || decide ((Q.getD k 0).num < 0)) := by
  unfold negB
  rw [List.take_succ_eq_append_getElem h, List.any_append]
  simp [List.getD_eq_getElem?_getD, h]
theorem any_over (caps : List Int) (L : List Rat) (k : Nat) : (List.range (k + 1)).any (overB caps L) = ((List.range k).any (overB caps L) || overB caps L k) := by
  rw [List.range_succ, List.any_append]; simp
theorem fits_er (C : Option Addr) (cc : Nat) (caps : List Int) (P : Option Addr) (cp m : Nat) (paths : List (List Int)) (A : Option Addr) (c n : Nat) (S : List Fr) (B : Nat) (w : World) (er : Int) (hB : B ≤ w.heap.size) (hc : Ints w B C cc caps) (hp : Rows2 w B P cp paths) (hr : Frs w B A c S)
    (hm : m = paths.length) (hn : n = S.length) (he : (chkErr caps paths S = er ∧ er ≠ 0) ∨ (∃ Q : List Rat, S = Q.map frQ ∧ netErr caps paths = 0 ∧ Q.length = paths.length ∧ (∀ q ∈ Q, QIn q) ∧ loadsTo paths Q caps.length = none ∧ er = 4)) :
    Calls Tryz.prog 34 #[.agg #[.slice C caps.length cc, .slice P m cp], .slice A n c] w fun e w' => e = .returned (.tuple #[.bool false, .iface 74 (.int .i64 er)]) ∧ Below w.heap.size w w' := by
  subst hm
  have HB0 : Hid (Below w.heap.size w (w.alloc (.cells #[.slice C caps.length cc, .slice P paths.length cp] 42))) := Lib.hid ((Below.refl _ _).alloc (Nat.le_refl _) _)
  have HL := Lib.hid (lof_er C cc caps P cp _ paths A c n S B (w.alloc (.cells #[.slice C caps.length cc, .slice P paths.length cp] 42)) er (by simp; omega) (hc.below HB0.out hB) (hp.below HB0.out hB) (hr.below HB0.out hB) rfl hn he)
  clear hc hp hr he hn
  go_enter Tryz.func34, Tryz.ntmps34
  go_wp2_with fail
  refine HL.out.mono ?_; rintro e w1 ⟨rfl, hb1⟩
  have HB1 := Lib.hid (HB0.out.trans (hb1.mono HB0.out.size))
  clear hb1
  go_wp2
  go_ret2
  exact ⟨rfl, HB1.out⟩
set_option maxHeartbeats 8000000 in
set_option maxRecDepth 100000 in
theorem fits_yes' (C : Option Addr) (cc : Nat) (caps : List Int) (P : Option Addr) (cp m : Nat) (paths : List (List Int)) (A : Option Addr) (c n : Nat) (Q L : List Rat) (bb : Bool) (B : Nat) (w : World) (hB : B ≤ w.heap.size) (hc : Ints w B C cc caps) (hp : Rows2 w B P cp paths) (hr : Frs w B A c (Q.map frQ))
    (hm : m = paths.length) (hn : n = Q.length) (he : netErr caps paths = 0) (hl : Q.length = paths.length) (hq : ∀ q ∈ Q, QIn q) (hL : loadsTo paths Q caps.length = some L) (hb : fitsB caps Q L = bb) :
    Calls Tryz.prog 34 #[.agg #[.slice C caps.length cc, .slice P m cp], .slice A n c] w fun e w' => e = .returned (.tuple #[.bool bb, .nilIface]) ∧ Below w.heap.size w w' := by
  subst hm hn
  obtain ⟨k1, k2, k3, k4, _, _⟩ := netErr_ok he
  have HB0 : Hid (Below w.heap.size w (w.alloc (.cells #[.slice C caps.length cc, .slice P paths.length cp] 42))) := Lib.hid ((Below.refl _ _).alloc (Nat.le_refl _) _)
  have HN0 := Lib.hid (Blk.new w 42 #[.slice C caps.length cc, .slice P paths.length cp])
  have HL := Lib.hid (lof_yes C cc caps P cp _ paths A c _ Q L B (w.alloc (.cells #[.slice C caps.length cc, .slice P paths.length cp] 42)) (by simp; omega) (hc.below HB0.out hB) (hp.below HB0.out hB) (hr.below HB0.out hB) rfl rfl he hl hq hL)
  have hLl := loadsTo_len hL
  have HLI := Lib.hid (loadsTo_in hL)
  have HC := Lib.hid hc; have HR := Lib.hid hr; have HBB := Lib.hid hb
  have hcm := hc.cap; have hcl := hc.le; have hrm := hr.cap; have hrl := hr.le
  rw [List.length_map] at hrl
  unfold maxLen at hcm hrm
  have hql : Q.length ≤ 6 := by omega
  have HLL := Lib.hid hLl
  have HKC := Lib.hid (netErr_ok he).2.2.2.2.1
  clear hc hp hr he hl hq hL hb hLl
  go_enter Tryz.func34, Tryz.ntmps34
  go_wp2_with fail
  refine HL.out.mono ?_; rintro e w1 ⟨A', c', rfl, hf, _, hb1⟩
  have HF := Lib.hid hf
  have hcm' := hf.cap; have hcl' := hf.le
  rw [List.length_map, HLL.out] at hcl'
  unfold maxLen at hcm'
  have HB1 := Lib.hid (HB0.out.trans (hb1.mono HB0.out.size))
  have HN1 := Lib.hid (HN0.out.go hb1)
  clear hb1 HB0 HN0 HL hf
  go_wp2
  go_loopw [23] (fun i wr => ∃ k : Nat, k ≤ Q.length ∧ i = .int .i64 k ∧ Hid (negB (Q.take k) = false) ∧ Hid (Below w1.heap.size w1 wr)) (fun i _ => Q.length - (intOf i).toNat)
  case atStart => exact ⟨0, Nat.zero_le _, rfl, Lib.hid (by simp [negB]), Lib.hid (Below.refl _ _)⟩
  case round =>
    obtain ⟨k, hk, rfl, HNG, HB⟩ := hrel
    have hB1 := HB.out.size
    have hBw := HB1.out.size
    by_cases hlt : k < Q.length
    · have k0 : (0 : Int) ≤ (k : Int) := by omega
      obtain ⟨br, or, rfl, hbr, r0, r1⟩ := frs_q (HR.out.below (HB1.out.trans (HB.out.mono hBw)) hB) hlt
      have hbz : br < wr.heap.size := by omega
      have hng := any_q hlt
      rw [HNG.out, Bool.false_or] at hng
      obtain ⟨q, hqq⟩ : ∃ q, Q.getD k 0 = q := ⟨_, rfl⟩
      rw [hqq] at hng r0 r1
      clear hqq
      by_cases hneg : q.num < 0
      · have hfb : Hid (bb = false) := Lib.hid (by
          rw [← HBB.out]; unfold fitsB
          have : negB Q = true := by
            unfold negB at *
            rw [List.any_eq_true]
            have h1 : (Q.take (k + 1)).any (fun q => decide (q.num < 0)) = true := by rw [hng]; exact decide_eq_true hneg
            rw [List.any_eq_true] at h1
            obtain ⟨x, hx, hx2⟩ := h1
            exact ⟨x, List.mem_of_mem_take hx, hx2⟩
          rw [this]; rfl)
        clear hng
        go_wp2
        go_ret2
        exact ⟨by rw [hfb.out]; rfl, (HB1.out.trans (HB.out.mono hBw)).alloc (by omega) _⟩
      · have HNG' : Hid (negB (Q.take (k + 1)) = false) := Lib.hid (by rw [hng]; exact decide_eq_false hneg)
        have hd : decide (q.num < 0) = false := decide_eq_false hneg
        clear hng
        go_wp2
        go_roundw
        case rel => exact ⟨k + 1, by omega, by go_num, HNG', Lib.hid (HB.out.alloc hB1 _)⟩
        case measure => simp [intOf]; omega
    · obtain rfl : k = Q.length := by omega
      have hng := HNG.out
      rw [List.take_length] at hng
      have HNG' := Lib.hid hng
      have HN2 := Lib.hid (HN1.out.go HB.out)
      obtain ⟨n0, n1, _, _, nz⟩ := HN2.out.two
      have HB2 := Lib.hid (HB1.out.trans (HB.out.mono hBw))
      have HF2 := Lib.hid (HF.out.below HB.out (Nat.le_refl _))
      obtain ⟨w2, hw2⟩ : ∃ x, x = wr := ⟨_, rfl⟩
      rw [← hw2] at HB2 HF2 n0 n1 nz ⊢
      have hz2 : w1.heap.size ≤ w2.heap.size := by rw [hw2]; exact hB1
      clear hng hw2 HN2 HB HN1 HB1 HF
      go_wp2
      go_loopw [34] (fun i wr => ∃ k : Nat, k ≤ caps.length ∧ i = .int .i64 k ∧ Hid ((List.range k).any (overB caps L) = false) ∧ Hid (Below w2.heap.size w2 wr)) (fun i _ => caps.length - (intOf i).toNat)
      case atStart => exact ⟨0, Nat.zero_le _, rfl, Lib.hid (by simp), Lib.hid (Below.refl _ _)⟩
      case round =>
        clear n0 n1 nz
        obtain ⟨k, hk, rfl, HOV, HB⟩ := hrel
        have hB1 := HB.out.size
        have hBw := HB2.out.size
        by_cases hlt : k < caps.length
        · have k0 : (0 : Int) ≤ (k : Int) := by omega
          have hlk : k < L.length := by rw [HLL.out]; exact hlt
          obtain ⟨bl, ol, rfl, hbl, l0, l1⟩ := frs_q (HF2.out.below HB.out hz2) hlk
          obtain ⟨bc, oc, rfl, hbc, hcell⟩ := caps_get (HC.out.below (HB2.out.trans (HB.out.mono hBw)) hB) hlt
          have hov := any_over caps L k
          rw [HOV.out, Bool.false_or] at hov
          have hqin : QIn (L.getD k 0) := HLI.out _ (by rw [List.getD_eq_getElem?_getD, List.getElem?_eq_getElem hlk]; exact List.getElem_mem hlk)
          have hcin := HKC.out _ (List.getElem_mem hlt)
          have hcg : caps.getD k 0 = caps[k] := by rw [List.getD_eq_getElem?_getD, List.getElem?_eq_getElem hlt]; rfl
          rw [← hcg] at hcin
          have hoe : overB caps L k = decide (((caps.getD k 0 : Int) : Rat) < L.getD k 0) := rfl
          obtain ⟨cv, hcv⟩ : ∃ x, caps.getD k 0 = x := ⟨_, rfl⟩
          obtain ⟨q, hqq⟩ : ∃ q, L.getD k 0 = q := ⟨_, rfl⟩
          rw [hcv] at hcell hcin hoe
          rw [hqq] at hqin l0 l1 hoe
          rw [hoe] at hov
          have hcq : QIn (cv : Rat) := by unfold QIn FracIn; simp; omega
          have hol : (k : Int) < (caps.length : Int) := by omega
          have hblz : bl < wr.heap.size := by omega
          have hbcz : bc < wr.heap.size := by omega
          have HOR := Lib.hid fun (o : Int) (ho : ordQ q cv = o) (W : World) => (show Calls Tryz.prog 66 #[.agg #[.int .i64 q.num, .int .i64 q.den], .agg #[.int .i64 cv, .int .i64 1]] W fun e w' => e = .returned (.int .i64 o) ∧ Below W.heap.size W w' from by have := order_q q cv o W hqin hcq ho; simpa using this)
          clear hqin hcin hcg hoe hcv hqq hcq
          by_cases hover : (cv : Rat) < q
          · have hfb : Hid (bb = false) := Lib.hid (by
              rw [← HBB.out]; unfold fitsB
              have : (List.range caps.length).any (overB caps L) = true := by
                have h1 : (List.range (k + 1)).any (overB caps L) = true := by rw [hov]; exact decide_eq_true hover
                rw [List.any_eq_true] at h1 ⊢
                obtain ⟨x, hx, hx2⟩ := h1
                exact ⟨x, List.mem_range.2 (by have := List.mem_range.1 hx; omega), hx2⟩
              rw [this]; simp)
            have HO1 := Lib.hid (HOR.out 1 (by unfold ordQ; rw [if_neg (by grind), if_pos hover]))
            clear hov HOR
            go_wp2_with fail
            go_region_held3 (fun w' => w'.cell? ⟨bl, ol + k * 2, none⟩ = some (.int .i64 q.num) ∧ w'.cell? ⟨bl, ol + k * 2 + 1, none⟩ = some (.int .i64 q.den)) (go_keep)
              (first
                | (go_simp; go_at_call 67; refine (whole_any cv _).mono ?_; rintro e w5 ⟨rfl, hb5⟩; have HB5 : Hid (Below wr.heap.size wr w5) := Lib.hid (by first | exact hb5 | exact (Below.refl _ _).drew.trans hb5); have y2 : w5.cell? ⟨bl, ol + k * 2, none⟩ = some (.int .i64 q.num) := (HB5.out.cell (p := ⟨bl, ol + k * 2, none⟩) hblz).trans l0; have y3 : w5.cell? ⟨bl, ol + k * 2 + 1, none⟩ = some (.int .i64 q.den) := (HB5.out.cell (p := ⟨bl, ol + k * 2 + 1, none⟩) hblz).trans l1; have hz5 := HB5.out.size; clear hb5; dsimp only)
                | (go_simp; go_at_call 66; refine (HO1.out _).mono ?_; rintro e w6 ⟨rfl, hb6⟩; have HB6 : Hid (Below w5.heap.size w5 w6) := Lib.hid (by first | exact hb6 | exact (Below.refl _ _).drew.trans hb6); have z2 : w6.cell? ⟨bl, ol + k * 2, none⟩ = some (.int .i64 q.num) := (HB6.out.cell (p := ⟨bl, ol + k * 2, none⟩) (by show bl < _; omega)).trans y2; have z3 : w6.cell? ⟨bl, ol + k * 2 + 1, none⟩ = some (.int .i64 q.den) := (HB6.out.cell (p := ⟨bl, ol + k * 2 + 1, none⟩) (by show bl < _; omega)).trans y3; clear hb6; dsimp only))
            all_goals
              go_wp2
              go_ret2
              exact ⟨by rw [hfb.out]; rfl, HB2.out.trans ((HB.out.trans ((HB5.out.trans (HB6.out.mono hz5)).mono hB1)).mono hBw)⟩
          · have HOV' : Hid ((List.range (k + 1)).any (overB caps L) = false) := Lib.hid (by rw [hov]; exact decide_eq_false hover)
            obtain ⟨o, ho, ho0⟩ : ∃ o : Int, ordQ q cv = o ∧ o ≤ 0 := ⟨_, rfl, by unfold ordQ; split <;> (first | omega | (rw [if_neg hover]; omega))⟩
            have HO1 := Lib.hid (HOR.out o ho)
            have hod : decide (0 < o) = false := decide_eq_false (by omega)
            clear hov HOR ho
            go_wp2_with fail
            go_region_held3 (fun w' => w'.cell? ⟨bl, ol + k * 2, none⟩ = some (.int .i64 q.num) ∧ w'.cell? ⟨bl, ol + k * 2 + 1, none⟩ = some (.int .i64 q.den)) (go_keep)
              (first
                | (go_simp; go_at_call 67; refine (whole_any cv _).mono ?_; rintro e w5 ⟨rfl, hb5⟩; have HB5 : Hid (Below wr.heap.size wr w5) := Lib.hid (by first | exact hb5 | exact (Below.refl _ _).drew.trans hb5); have y2 : w5.cell? ⟨bl, ol + k * 2, none⟩ = some (.int .i64 q.num) := (HB5.out.cell (p := ⟨bl, ol + k * 2, none⟩) hblz).trans l0; have y3 : w5.cell? ⟨bl, ol + k * 2 + 1, none⟩ = some (.int .i64 q.den) := (HB5.out.cell (p := ⟨bl, ol + k * 2 + 1, none⟩) hblz).trans l1; have hz5 := HB5.out.size; clear hb5; dsimp only)
                | (go_simp; go_at_call 66; refine (HO1.out _).mono ?_; rintro e w6 ⟨rfl, hb6⟩; have HB6 : Hid (Below w5.heap.size w5 w6) := Lib.hid (by first | exact hb6 | exact (Below.refl _ _).drew.trans hb6); have z2 : w6.cell? ⟨bl, ol + k * 2, none⟩ = some (.int .i64 q.num) := (HB6.out.cell (p := ⟨bl, ol + k * 2, none⟩) (by show bl < _; omega)).trans y2; have z3 : w6.cell? ⟨bl, ol + k * 2 + 1, none⟩ = some (.int .i64 q.den) := (HB6.out.cell (p := ⟨bl, ol + k * 2 + 1, none⟩) (by show bl < _; omega)).trans y3; clear hb6; dsimp only))
            all_goals
              go_wp2
              go_roundw
              case rel => exact ⟨k + 1, by omega, by go_num, HOV', Lib.hid (HB.out.trans ((HB5.out.trans (HB6.out.mono hz5)).mono hB1))⟩
              case measure => simp [intOf]; omega
        · obtain rfl : k = caps.length := by omega
          have hfb : Hid (bb = true) := Lib.hid (by rw [← HBB.out]; unfold fitsB; rw [HNG'.out, HOV.out]; rfl)
          go_wp2
          go_ret2
          exact ⟨by rw [hfb.out]; rfl, HB2.out.trans (HB.out.mono hBw)⟩
end Go.Proofs.YtaijpiebjhhkjaaGreatDoor
/- load.Left: what is left on each link. -/
namespace Go.Proofs.YtaijpiebjhhkjaaGreatDoor
open Go.RowKit
theorem qin_neg {q : Rat} (h : QIn q) : QIn (-q) := by
  unfold QIn FracIn at *
  simp only [Rat.neg_num, Rat.neg_den]
  omega
/-- what is left on a link -/
def leftQ (caps : List Int) (L : List Rat) (i : Nat) : Rat := capQ caps i + -(L.getD i 0)
def leftL (caps : List Int) (L : List Rat) (n k : Nat) : List Rat := (List.range n).map fun i => if i < k then leftQ caps L i else L.getD i 0
def leftAll (caps : List Int) (L : List Rat) (n : Nat) : List Rat := (List.range n).map (leftQ caps L)
theorem leftL_len (caps : List Int) (L : List Rat) (n k : Nat) : (leftL caps L n k).length = n := by simp [leftL]
theorem leftL_zero (caps : List Int) (L : List Rat) : leftL caps L L.length 0 = L := by
  apply List.ext_getElem
  · simp [leftL]
  · intro i h1 h2; simp [leftL, List.getD_eq_getElem?_getD, h2]
theorem leftL_end (caps : List Int) (L : List Rat) (n : Nat) : leftL caps L n n = leftAll caps L n := by
  unfold leftL leftAll
  refine List.map_congr_left fun i hi => ?_
  rw [if_pos (List.mem_range.1 hi)]
theorem leftL_at {caps : List Int} {L : List Rat} {n k : Nat} (h : k < n) : (leftL caps L n k)[k]? = some (L.getD k 0) := by simp [leftL, h]
theorem leftL_set {caps : List Int} {L : List Rat} {n k : Nat} : (leftL caps L n k).set k (leftQ caps L k) = leftL caps L n (k + 1) := by
  apply List.ext_getElem
  · simp [leftL]
  · intro i h1 h2
    rw [List.getElem_set]
    simp only [leftL, List.getElem_map, List.getElem_range]
    by_cases e : k = i
    · subst e; rw [if_pos rfl, if_pos (by omega)]
    · rw [if_neg e]
      by_cases h3 : i < k
      · rw [if_pos h3, if_pos (by omega)]
      · rw [if_neg h3, if_neg (by omega)]
theorem qcells_at {S : List Rat} {k : Nat} {q : Rat} (h : S[k]? = some q) : (qcells S)[k * 2]? = some (.int .i64 q.num) ∧ (qcells S)[k * 2 + 1]? = some (.int .i64 q.den) := by
  have hs : (S.map frQ)[k]? = some (frQ q) := by rw [List.getElem?_map, h]; rfl
  exact frCells_at _ _ _ hs
theorem qcells_set {S : List Rat} {k : Nat} (q : Rat) (h : k < S.length) : ((qcells S).set (k * 2) (.int .i64 q.num)).set (k * 2 + 1) (.int .i64 q.den) = qcells (S.set k q) := by
  unfold qcells
  have := frCells_set (S.map frQ) k (frQ q) (by simpa using h)
  rw [List.map_set]
  exact this
theorem qrow_put {w : World} {base g c n : Nat} {S : List Rat} (h : w.ownsRow base 37 2 (.slice (some ⟨g, 0, none⟩) n c) n (qcells S)) {k : Nat} (hk : k < S.length) (q : Rat) :
    ((w.setCell ⟨g, k * 2, none⟩ (.int .i64 q.num)).setCell ⟨g, k * 2 + 1, none⟩ (.int .i64 q.den)).ownsRow base 37 2 (.slice (some ⟨g, 0, none⟩) n c) n (qcells (S.set k q)) := by
  have h1 := (h.stored (k * 2) (.int .i64 q.num)).1
  have h2 := (h1.stored (k * 2 + 1) (.int .i64 q.den)).1
  rw [qcells_set q hk] at h2
  exact h2
end Go.Proofs.YtaijpiebjhhkjaaGreatDoor
