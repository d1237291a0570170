/- The reference's Sent. -/
import Derived.Test.YtkheobdkmmbjnaaDoorBucketRef
namespace Go.Proofs.YtkheobdkmmbjnaaDoor
open Go.RowKit
attribute [local go_sem ↓] run_min_mn run_max_mx
theorem refFill_is (s r h y : Int) (w : World) (h1 : -100000 ≤ h) (h2 : h ≤ 100000) (r1 : 0 ≤ r) (r2 : r ≤ 10000) (hy : min s (h + r) = y) : Calls Tryd.prog 41 #[.agg #[.int .i64 s, .int .i64 r, .int .i64 h]] w fun e w' =>
    e = .returned (.agg #[.int .i64 s, .int .i64 r, .int .i64 y]) ∧ Below w.heap.size w w' := by
  subst hy
  refine (refFill s r h w h1 h2 r1 r2).mono ?_
  rintro e w' ⟨rfl, rfl⟩
  exact ⟨rfl, ((Below.refl _ _).alloc (Nat.le_refl _) _).alloc (by simp) _⟩
/-- as wpList_push, the new block's number spelt otherwise -/
theorem wpList_pushH {P : Program} {ops : Array Oper} {rest : List Oper} {o : Oper} {a : Act} {Q : Exit → Act → World → Prop} (wr : World) (cs : Array Value) (H : Nat) (hH : wr.heap.size = H) (hgd : o.guard = none) (s x : Operand) (t : TypeId)
    (ho : o.op = .call { callee := .builtin .append, args := #[s, x], argTypes := #[t, t] })
    (base : Nat) (e : TypeId) (z : Value) (size bytes : Nat) (ht : P.underlying t = some (.slice e)) (hinfo : (P.info? e).map (fun i => (i.zero, i.size, i.bytes)) = some (some z, size, bytes))
    (hzs : z.cells.size = size) (hsz : 0 < size) (v : Value) (n : Nat) (xs : List Value) (hs : a.eval s = v) (hown : wr.ownsRow base e size v n xs)
    (hx : a.eval x = .slice (some ⟨H, 0, none⟩) 1 1) (hl : cs.size = size) (h1 : ∀ u ∈ cs.toList, u.oneCell' = true) (hn : n ≤ 1000000) (hb : bytes ≤ 64) (hbase : base ≤ wr.heap.size)
    (h : ∀ v' w', w'.ownsRow base e size v' (n + 1) (xs ++ cs.toList) → wr.grownBy w' v.ownBlock → wpList P ops Q rest (a.put o.dst v') w') : wpList P ops Q (o :: rest) a (wr.alloc (.cells cs e)) := by
  subst hH
  exact wpList_push wr cs hgd s x t ho base e z size bytes ht hinfo hzs hsz v n xs hs hown hx hl h1 hn hb hbase h
set_option maxHeartbeats 4000000 in
set_option maxRecDepth 100000 in
theorem refSent (s r h : Int) (A : Option Addr) (cp : Nat) (l : List Int) (w : World) (ok : BucketOk s r h) (hi : Ints w w.heap.size A cp l) (hl : l.length ≤ 60) (hok : l.any badRate = false) :
    Calls Tryd.prog 42 #[.agg #[.int .i64 s, .int .i64 r, .int .i64 h], .slice A l.length cp] w fun e w' =>
      ∃ v, e = .returned v ∧ w'.ownsRow (w.heap.size + 1) 3 1 v l.length ((PB.send s r h 0 l).map (Value.int .i64)) ∧ Below w.heap.size w w' := by
  obtain ⟨g1, g2, g3, g4, g5, g6⟩ := ok
  have HI := Lib.hid hi; clear hi
  have HO := Lib.hid hok; clear hok
  go_enter Tryd.func42, Tryd.ntmps42
  go_wp2_with fail
  have BEL : Hid (Below w.heap.size w w) := Lib.hid (Below.refl _ _)
  have yB : w.heap.size ≤ w.heap.size := Nat.le_refl _
  go_loopw [5, 6, 7] (fun u v i wr => ∃ (j : Nat) (ha wt : Int), j ≤ l.length ∧ i = .int .i64 j ∧ u = .int .i64 wt ∧ Hid (PB.after s r h 0 (l.take j) = (ha, wt)) ∧ 0 ≤ wt ∧ wt ≤ 10000 * j ∧ 0 ≤ ha ∧ ha ≤ s ∧ Hid (Blk wr w.heap.size 35 #[.int .i64 s, .int .i64 r, .int .i64 ha]) ∧ Hid (wr.ownsRow (w.heap.size + 1) 3 1 v j ((PB.send s r h 0 (l.take j)).map (Value.int .i64))) ∧ Hid (Below w.heap.size w wr) ∧ w.heap.size + 1 ≤ wr.heap.size)
    (fun _ _ i _ => l.length - (intOf i).toNat)
  case atStart => exact ⟨0, h, 0, Nat.zero_le _, rfl, rfl, rfl, by omega, by omega, g5, g6, Lib.hid (Blk.val (by (repeat (first | (with_reducible apply Blk.new'; first | with_reducible rfl | (focus (simp; done)) | (focus (simp; omega))) | with_reducible apply Blk.set_ | with_reducible apply Blk.far | with_reducible apply Blk.alloc | with_reducible apply Blk.drew | with_reducible apply Blk.drewN | (first | omega | (focus (simp; done)) | (focus (simp; omega)) | (focus (simp [World.setCell]; omega)))))) (by first | rfl | simp)), World.ownsRow_nil _ _ _ _, Lib.hid (by repeat (first | with_reducible exact BEL.out | with_reducible apply Below.alloc | with_reducible apply Below.setCell | with_reducible apply Below.drew | with_reducible apply below_drewN | (first | omega | (focus (simp; done)) | (focus (simp; omega)) | (focus (simp [World.setCell]; omega))))), by simp⟩
  case round =>
    obtain ⟨j, ha, wt, hj, rfl, rfl, HR, a0, a1, y0, y1, HP, HOWN, BEL, zz⟩ := hrel
    have y_wr : w.heap.size ≤ wr.heap.size := BEL.out.size
    obtain ⟨pP0, pP1, pP2, fP0, fP1, fP2, zP⟩ := HP.out.three
    have zP_1 : w.heap.size < wr.heap.size + 1 := by omega
    have zP_2 : w.heap.size < wr.heap.size + 1 + 1 := by omega
    have zP_3 : w.heap.size < wr.heap.size + 1 + 1 + 1 := by omega
    by_cases hlt : j < l.length
    · obtain ⟨bb, off, n, rfl, hbb, hc, hn, HTK, HXX⟩ := (HI.out.below BEL.out (Nat.le_refl _)).elem hlt
      obtain ⟨n0, n1⟩ := ticks_in HO.out n hn
      obtain ⟨q, hq⟩ : ∃ q, min (wt + n) ha = q := ⟨_, rfl⟩
      obtain ⟨mm, hmm⟩ : ∃ v, min s (ha - q + r) = v := ⟨_, rfl⟩
      have HS' : Hid ((PB.send s r h 0 (l.take (j + 1))).map (Value.int .i64) = (PB.send s r h 0 (l.take j)).map (Value.int .i64) ++ [.int .i64 q]) := by
        show _ = _
        rw [HTK.out, PB.send_snoc, HR.out]; simp only [List.map_append, List.map_cons, List.map_nil]; rw [hq]
      have HA' : Hid (PB.after s r h 0 (l.take (j + 1)) = (mm, wt + n - q)) := by
        show _ = _
        rw [HTK.out, PB.after_snoc, HR.out]; simp only []; rw [hq, hmm]
      have qb : 0 ≤ q ∧ q ≤ ha ∧ q ≤ wt + n := by omega
      obtain ⟨q0, q1, q2⟩ := qb
      have mb : 0 ≤ mm ∧ mm ≤ s := by omega
      obtain ⟨m0, m1⟩ := mb
      have hj60 : (j : Int) ≤ 60 := by omega
      have HQ := Lib.hid hq
      have HM := Lib.hid hmm
      clear HTK HXX hn hq hmm
      by_cases c1 : ha < wt + n
      · have eq : ha = q := by have := HQ.out; omega
        subst eq
        have e0 : ha - ha = 0 := by omega
        have HM' : Hid (min s (0 + r) = mm) := Lib.hid (by have := HM.out; rwa [e0] at this)
        clear HM e0
        go_wp2_with fail
        refine (refFill_is s r (0) mm _ (by omega) (by omega) (by omega) (by omega) HM'.out).mono ?_; rintro e v1 ⟨rfl, hbv⟩
        have HO1 := Lib.hid (own_below (own_set HOWN.out (g := w.heap.size) (i := 2) (Nat.lt_succ_self _) (.int .i64 (0))) hbv)
        have z_v1 : wr.heap.size ≤ v1.heap.size := Nat.le_trans (by first | with_reducible exact Nat.le_refl _ | (simp; done) | (simp; omega) | (simp [World.setCell]; done)) hbv.size
        replace HP := Lib.hid (show Blk v1 (w.heap.size) 35 _ from by (with_reducible apply Blk.below (hb := hbv); (repeat (first | with_reducible exact HP.out | (with_reducible apply Blk.new'; first | with_reducible rfl | (focus (simp; done)) | (focus (simp; omega))) | with_reducible apply Blk.set_ | with_reducible apply Blk.far | with_reducible apply Blk.alloc | with_reducible apply Blk.drew | with_reducible apply Blk.drewN | (first | omega | (focus (simp; done)) | (focus (simp; omega)) | (focus (simp [World.setCell]; omega)))))))
        replace BEL : Hid (Below w.heap.size w v1) := Lib.hid (Below.trans (by repeat (first | with_reducible exact BEL.out | with_reducible apply Below.alloc | with_reducible apply Below.setCell | with_reducible apply Below.drew | with_reducible apply below_drewN | (first | omega | (focus (simp; done)) | (focus (simp; omega)) | (focus (simp [World.setCell]; omega))))) (hbv.mono (by (first | omega | (focus (simp; done)) | (focus (simp; omega)) | (focus (simp [World.setCell]; omega))))))
        have y_v1 : w.heap.size ≤ v1.heap.size := BEL.out.size
        clear hbv
        clear pP0 pP1 pP2 fP0 fP1 fP2 zP zP_1 zP_2 zP_3
        have zz2 : w.heap.size + 1 ≤ v1.heap.size := by omega
        obtain ⟨pP0, pP1, pP2, fP0, fP1, fP2, zP⟩ := HP.out.three
        have zP_1 : w.heap.size < v1.heap.size + 1 := by omega
        have zP_2 : w.heap.size < v1.heap.size + 1 + 1 := by omega
        have zP_3 : w.heap.size < v1.heap.size + 1 + 1 + 1 := by omega
        have HO2 := Lib.hid (own_set (own_set (own_set HO1.out (g := w.heap.size) (i := 0) (Nat.lt_succ_self _) (.int .i64 s)) (g := w.heap.size) (i := 1) (Nat.lt_succ_self _) (.int .i64 r)) (g := w.heap.size) (i := 2) (Nat.lt_succ_self _) (.int .i64 mm))
        have HP := Lib.hid ((((HP.out.set_ 0 (.int .i64 s)).set_ 1 (.int .i64 r)).set_ 2 (.int .i64 mm)).val (cs' := #[.int .i64 s, .int .i64 r, .int .i64 mm]) rfl)
        have BEL := Lib.hid (((BEL.out.setCell (p := ⟨w.heap.size, 0, none⟩) (Nat.le_refl _) (.int .i64 s)).setCell (p := ⟨w.heap.size, 1, none⟩) (Nat.le_refl _) (.int .i64 r)).setCell (p := ⟨w.heap.size, 2, none⟩) (Nat.le_refl _) (.int .i64 mm))
        go_wp2_with (at_builtin; refine wpList_pushH _ _ v1.heap.size (by simp [World.setCell]) rfl (.tmp 38) (.tmp 40) 42 rfl (w.heap.size + 1) 3 (.int .i64 0) 1 8 Tryd.underlying42 Tryd.info_int rfl (by omega) _ j _ rfl HO2.out rfl rfl (by simp [Value.oneCell']) (by omega) (by omega) (by simp [World.setCell]; omega) ?_)
        intro v' w4 hown4 hg4
        go_wp2
        go_roundw
        case rel =>
          refine ⟨j + 1, mm, wt + n - ha, by omega, by go_num, rfl, HA', by omega, by omega, m0, m1, ?_, ?_, ?_, ?_⟩
          · exact Lib.hid (HP.out.grown hg4 (fun e => by have := (HO2.out.lt _ e.symm).1; omega))
          · show World.ownsRow _ _ _ _ _ _ _
            rw [HS'.out]; exact hown4
          · exact Lib.hid (below_push BEL.out HO2.out hg4 (by omega) (by simp [World.setCell]; omega))
          · have := hg4.size; simp [World.setCell] at this; omega
        case measure => simp [intOf]; omega
      · have eq : (wt + n) = q := by have := HQ.out; omega
        subst eq
        have e0 : wt + n - (wt + n) = 0 := by omega
        have HM' := HM
        rw [e0] at HA'
        clear HM e0
        go_wp2_with fail
        refine (refFill_is s r (ha - (wt + n)) mm _ (by omega) (by omega) (by omega) (by omega) HM'.out).mono ?_; rintro e v1 ⟨rfl, hbv⟩
        have HO1 := Lib.hid (own_below (own_set HOWN.out (g := w.heap.size) (i := 2) (Nat.lt_succ_self _) (.int .i64 (ha - (wt + n)))) hbv)
        have z_v1 : wr.heap.size ≤ v1.heap.size := Nat.le_trans (by first | with_reducible exact Nat.le_refl _ | (simp; done) | (simp; omega) | (simp [World.setCell]; done)) hbv.size
        replace HP := Lib.hid (show Blk v1 (w.heap.size) 35 _ from by (with_reducible apply Blk.below (hb := hbv); (repeat (first | with_reducible exact HP.out | (with_reducible apply Blk.new'; first | with_reducible rfl | (focus (simp; done)) | (focus (simp; omega))) | with_reducible apply Blk.set_ | with_reducible apply Blk.far | with_reducible apply Blk.alloc | with_reducible apply Blk.drew | with_reducible apply Blk.drewN | (first | omega | (focus (simp; done)) | (focus (simp; omega)) | (focus (simp [World.setCell]; omega)))))))
        replace BEL : Hid (Below w.heap.size w v1) := Lib.hid (Below.trans (by repeat (first | with_reducible exact BEL.out | with_reducible apply Below.alloc | with_reducible apply Below.setCell | with_reducible apply Below.drew | with_reducible apply below_drewN | (first | omega | (focus (simp; done)) | (focus (simp; omega)) | (focus (simp [World.setCell]; omega))))) (hbv.mono (by (first | omega | (focus (simp; done)) | (focus (simp; omega)) | (focus (simp [World.setCell]; omega))))))
        have y_v1 : w.heap.size ≤ v1.heap.size := BEL.out.size
        clear hbv
        clear pP0 pP1 pP2 fP0 fP1 fP2 zP zP_1 zP_2 zP_3
        have zz2 : w.heap.size + 1 ≤ v1.heap.size := by omega
        obtain ⟨pP0, pP1, pP2, fP0, fP1, fP2, zP⟩ := HP.out.three
        have zP_1 : w.heap.size < v1.heap.size + 1 := by omega
        have zP_2 : w.heap.size < v1.heap.size + 1 + 1 := by omega
        have zP_3 : w.heap.size < v1.heap.size + 1 + 1 + 1 := by omega
        have HO2 := Lib.hid (own_set (own_set (own_set HO1.out (g := w.heap.size) (i := 0) (Nat.lt_succ_self _) (.int .i64 s)) (g := w.heap.size) (i := 1) (Nat.lt_succ_self _) (.int .i64 r)) (g := w.heap.size) (i := 2) (Nat.lt_succ_self _) (.int .i64 mm))
        have HP := Lib.hid ((((HP.out.set_ 0 (.int .i64 s)).set_ 1 (.int .i64 r)).set_ 2 (.int .i64 mm)).val (cs' := #[.int .i64 s, .int .i64 r, .int .i64 mm]) rfl)
        have BEL := Lib.hid (((BEL.out.setCell (p := ⟨w.heap.size, 0, none⟩) (Nat.le_refl _) (.int .i64 s)).setCell (p := ⟨w.heap.size, 1, none⟩) (Nat.le_refl _) (.int .i64 r)).setCell (p := ⟨w.heap.size, 2, none⟩) (Nat.le_refl _) (.int .i64 mm))
        go_wp2_with (at_builtin; refine wpList_pushH _ _ v1.heap.size (by simp [World.setCell]) rfl (.tmp 38) (.tmp 40) 42 rfl (w.heap.size + 1) 3 (.int .i64 0) 1 8 Tryd.underlying42 Tryd.info_int rfl (by omega) _ j _ rfl HO2.out rfl rfl (by simp [Value.oneCell']) (by omega) (by omega) (by simp [World.setCell]; omega) ?_)
        intro v' w4 hown4 hg4
        go_wp2
        go_roundw
        case rel =>
          refine ⟨j + 1, mm, 0, by omega, by go_num, rfl, HA', by omega, by omega, m0, m1, ?_, ?_, ?_, ?_⟩
          · exact Lib.hid (HP.out.grown hg4 (fun e => by have := (HO2.out.lt _ e.symm).1; omega))
          · show World.ownsRow _ _ _ _ _ _ _
            rw [HS'.out]; exact hown4
          · exact Lib.hid (below_push BEL.out HO2.out hg4 (by omega) (by simp [World.setCell]; omega))
          · have := hg4.size; simp [World.setCell] at this; omega
        case measure => simp [intOf]; omega
    · obtain rfl : j = l.length := by omega
      go_wp2
      go_ret
      refine ⟨_, rfl, ?_, BEL.out⟩
      have := HOWN.out
      rwa [List.take_length] at this
end Go.Proofs.YtkheobdkmmbjnaaDoor
