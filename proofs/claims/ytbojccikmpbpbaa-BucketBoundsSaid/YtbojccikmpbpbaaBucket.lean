/- Package bucket: what its functions compute. -/
import Derived.Test.YtbojccikmpbpbaaTicks
import Derived.Test.YtbojccikmpbpbaaPlBucket
import Derived.Test.YtbojccikmpbpbaaLibA
namespace Go.Proofs.Ytbojccikmpbpbaa
open Go.RowKit
attribute [local go_sem ↓] run_min_mn run_max_mx
def BucketOk (s r h : Int) : Prop := 1 ≤ s ∧ s ≤ 10000 ∧ 0 ≤ r ∧ r ≤ s ∧ 0 ≤ h ∧ h ≤ s
set_option maxHeartbeats 1000000 in
theorem bcheck_yes (s r h : Int) (w : World) (ok : BucketOk s r h) : Calls Try.prog 5 #[.agg #[.int .i64 s, .int .i64 r, .int .i64 h]] w fun e w' => e = .returned .nilIface ∧ w.alloc (.cells #[.int .i64 s, .int .i64 r, .int .i64 h] 23) = w' := by
  obtain ⟨g1, g2, g3, g4, g5, g6⟩ := ok
  go_enter Try.func5, Try.ntmps5
  go_wp2
  go_ret
  exact ⟨rfl, rfl⟩
set_option maxHeartbeats 4000000 in
theorem bcheck_no (s r h : Int) (w : World) (no : ¬ BucketOk s r h) : Calls Try.prog 5 #[.agg #[.int .i64 s, .int .i64 r, .int .i64 h]] w fun e w' => e = .returned (.iface 33 (.int .i64 1)) ∧ w.alloc (.cells #[.int .i64 s, .int .i64 r, .int .i64 h] 23) = w' := by
  unfold BucketOk at no
  have d : s < 1 ∨ (1 ≤ s ∧ 10000 < s) ∨ (1 ≤ s ∧ s ≤ 10000 ∧ r < 0) ∨ (1 ≤ s ∧ s ≤ 10000 ∧ 0 ≤ r ∧ s < r) ∨ (1 ≤ s ∧ s ≤ 10000 ∧ 0 ≤ r ∧ r ≤ s ∧ h < 0) ∨ (1 ≤ s ∧ s ≤ 10000 ∧ 0 ≤ r ∧ r ≤ s ∧ 0 ≤ h ∧ s < h) := by omega
  clear no
  rcases d with d | ⟨d1, d⟩ | ⟨d1, d2, d⟩ | ⟨d1, d2, d3, d⟩ | ⟨d1, d2, d3, d4, d⟩ | ⟨d1, d2, d3, d4, d5, d⟩
  all_goals
    go_enter Try.func5, Try.ntmps5
    go_wp2
    go_ret
    exact ⟨rfl, rfl⟩
theorem btick_any (s r h : Int) (w : World) (h1 : -100000 ≤ h) (h2 : h ≤ 100000) (r1 : 0 ≤ r) (r2 : r ≤ 10000) :
    Calls Try.prog 7 #[.agg #[.int .i64 s, .int .i64 r, .int .i64 h]] w fun e w' => e = .returned (.agg #[.int .i64 s, .int .i64 r, .int .i64 (min s (h + r))]) ∧
      (w.alloc (.cells #[.int .i64 s, .int .i64 r, .int .i64 (min s (h + r))] 23)).alloc (.cells #[.int .i64 s, .int .i64 r, .int .i64 (min s (h + r))] 23) = w' := by
  go_enter Try.func7, Try.ntmps7
  go_wp2
  exact bodyPost_ret (v := .agg #[.int .i64 s, .int .i64 r, .int .i64 (min s (h + r))]) (by simp [results, Try.results7, go_sem]) rfl ⟨rfl, rfl⟩
set_option maxHeartbeats 4000000 in
theorem bsend_yes (s r h : Int) (A : Option Addr) (cp : Nat) (l : List Int) (w : World) (ok : BucketOk s r h) (hi : Ints w w.heap.size A cp l) (hl : l.length ≤ 60) (hok : l.any badRate = false) :
    Calls Try.prog 4 #[.agg #[.int .i64 s, .int .i64 r, .int .i64 h], .slice A l.length cp] w fun e w' =>
      ∃ v, e = .returned (.tuple #[v, .nilIface]) ∧ w'.ownsRow (w.heap.size + 1) 3 1 v l.length ((PB.send s r h 0 l).map (Value.int .i64)) ∧ Below w.heap.size w w' := by
  have hk := ok
  obtain ⟨g1, g2, g3, g4, g5, g6⟩ := hk
  have H := Lib.hid ok; clear ok
  have HI := Lib.hid hi; clear hi
  have HO := Lib.hid hok; clear hok
  have b0 : Below w.heap.size w (w.alloc (.cells #[.int .i64 s, .int .i64 r, .int .i64 h] 23)) := (Below.refl _ _).alloc (Nat.le_refl _) _
  go_enter Try.func4, Try.ntmps4
  go_wp2_with fail
  refine (bcheck_yes s r h _ H.out).mono ?_; rintro e w1 ⟨rfl, rfl⟩
  have HP1 := Lib.hid ((Blk.new w 23 #[.int .i64 s, .int .i64 r, .int .i64 h]).alloc (.cells #[.int .i64 s, .int .i64 r, .int .i64 h] 23))
  have hw1 := b0.alloc (by simp) (.cells #[.int .i64 s, .int .i64 r, .int .i64 h] 23)
  go_wp2_with fail
  refine (ticks_ok A cp l w.heap.size _ (HI.out.below hw1 (Nat.le_refl _)) hl HO.out).mono ?_; rintro e w2 ⟨rfl, rfl⟩
  go_wp2_with fail
  go_loopw [8, 9, 25] (fun v u i wr => ∃ (j : Nat) (ha wt : Int), j ≤ l.length ∧ i = .int .i64 j ∧ u = .int .i64 wt ∧ Hid (PB.after s r h 0 (l.take j) = (ha, wt)) ∧ 0 ≤ wt ∧ wt ≤ 10000 * j ∧ 0 ≤ ha ∧ ha ≤ s ∧
      Hid (Blk wr w.heap.size 23 #[.int .i64 s, .int .i64 r, .int .i64 ha]) ∧ Hid (wr.ownsRow (w.heap.size + 1) 3 1 v j ((PB.send s r h 0 (l.take j)).map (Value.int .i64))) ∧ Below w.heap.size w wr ∧ w.heap.size + 1 ≤ wr.heap.size)
    (fun _ _ i _ => l.length - (intOf i).toNat)
  case atStart => exact ⟨0, h, 0, Nat.zero_le _, rfl, rfl, rfl, by omega, by omega, g5, g6, HP1, World.ownsRow_nil _ _ _ _, hw1, by simp⟩
  case round =>
    obtain ⟨j, ha, wt, hj, rfl, rfl, HR, a0, a1, y0, y1, HP, HOWN, hbel, hsz⟩ := hrel
    by_cases hlt : j < l.length
    · obtain ⟨bb, off, n, rfl, hbb, hc, hn, HT, HX⟩ := (HI.out.below hbel (Nat.le_refl _)).elem hlt
      obtain ⟨n0, n1⟩ := ticks_in HO.out n hn
      obtain ⟨p0, p1, p2, f0, f1, f2, z0⟩ := HP.out.three
      have HS' : Hid ((PB.send s r h 0 (l.take (j + 1))).map (Value.int .i64) = (PB.send s r h 0 (l.take j)).map (Value.int .i64) ++ [.int .i64 (min (wt + n) ha)]) := by
        show _ = _
        rw [HT.out, PB.send_snoc, HR.out]; simp
      have HA' : Hid (PB.after s r h 0 (l.take (j + 1)) = (min s (ha - min (wt + n) ha + r), wt + n - min (wt + n) ha)) := by
        show _ = _
        rw [HT.out, PB.after_snoc, HR.out]
      clear HT HX
      have hj60 : (j : Int) ≤ 60 := by omega
      go_wp2_with (at_builtin; refine wpList_push wr _ rfl (.tmp 36) (.tmp 38) 24 rfl (w.heap.size + 1) 3 (.int .i64 0) 1 8 Try.underlying24 Try.info_int rfl (by omega) _ j _ rfl HOWN.out rfl rfl (by simp [Value.oneCell']) (by omega) (by omega) hsz ?_)
      intro v' w4 hown4 hg4
      have HP4 := Lib.hid (HP.out.grown hg4 (fun e => by have := (HOWN.out.lt _ e.symm).1; omega))
      have hw4 := below_push hbel HOWN.out hg4 (by omega) (by omega)
      have hs4 : w.heap.size + 1 ≤ w4.heap.size := by have := hg4.size; omega
      have HO4 := Lib.hid hown4
      clear hown4 hg4 HP HOWN hbel p0 p1 p2 f0 f1 f2 z0 hc hbb
      obtain ⟨p0, p1, p2, f0, f1, f2, z0⟩ := HP4.out.three
      have hx := (HP4.out.set_ 2 (.int .i64 (ha - min (wt + n) ha))).val (cs' := #[.int .i64 s, .int .i64 r, .int .i64 (ha - min (wt + n) ha)]) rfl
      have HX := Lib.hid hx
      obtain ⟨x0, x1, x2, fx0, fx1, fx2, _⟩ := hx.three
      clear hx
      go_wp2_with fail
      refine (btick_any s r (ha - min (wt + n) ha) _ (by omega) (by omega) (by omega) (by omega)).mono ?_; rintro e w5 ⟨rfl, rfl⟩
      have z1 : w.heap.size < w4.heap.size + 1 := by omega
      go_wp2
      go_roundw
      case rel =>
        refine ⟨j + 1, min s (ha - min (wt + n) ha + r), wt + n - min (wt + n) ha, by omega, by go_num, rfl, HA', by omega, by omega, by omega, by omega, ?_, ?_, ?_, ?_⟩
        · exact (((((HX.out.set_ 0 _).set_ 1 _).set_ 2 _).alloc _).alloc _)
        · rw [HS'.out]
          exact ((own_set (own_set (own_set (own_set HO4.out (by omega) _) (by omega) _) (by omega) _) (by omega) _).alloc _).alloc _
        · exact ((((((hw4.setCell (by simp) _).setCell (by simp) _).setCell (by simp) _).setCell (by simp) _).alloc (by simp; omega) _).alloc (by simp; omega) _)
        · simp [World.setCell]; omega
      case measure => simp [intOf]; omega
    · have hj' : j = l.length := by omega
      subst hj'
      go_wp2
      go_ret2
      refine ⟨_, rfl, ?_, hbel⟩
      have := HOWN.out
      rwa [List.take_length] at this
theorem bsend_no (s r h : Int) (A : Option Addr) (cp n : Nat) (w : World) (no : ¬ BucketOk s r h) :
    Calls Try.prog 4 #[.agg #[.int .i64 s, .int .i64 r, .int .i64 h], .slice A n cp] w fun e w' => e = .returned (.tuple #[.slice none 0 0, .iface 33 (.int .i64 1)]) ∧ Below w.heap.size w w' := by
  have H := Lib.hid no; clear no
  go_enter Try.func4, Try.ntmps4
  go_wp2_with fail
  refine (bcheck_no s r h _ H.out).mono ?_; rintro e w1 ⟨rfl, rfl⟩
  go_wp2
  go_ret2
  exact ⟨rfl, (by repeat (first | exact Below.refl _ _ | refine Below.alloc ?_ (by simp <;> omega) _))⟩
theorem bsend_full (s r h : Int) (A : Option Addr) (cp n : Nat) (w : World) (ok : BucketOk s r h) (hn : 60 < n) (hm : n ≤ maxLen) :
    Calls Try.prog 4 #[.agg #[.int .i64 s, .int .i64 r, .int .i64 h], .slice A n cp] w fun e w' => e = .returned (.tuple #[.slice none 0 0, .iface 33 (.int .i64 4)]) ∧ Below w.heap.size w w' := by
  have H := Lib.hid ok; clear ok
  go_enter Try.func4, Try.ntmps4
  go_wp2_with fail
  refine (bcheck_yes s r h _ H.out).mono ?_; rintro e w1 ⟨rfl, rfl⟩
  go_wp2_with fail
  refine (ticks_full A cp n _ hn hm).mono ?_; rintro e w1 ⟨rfl, rfl⟩
  go_wp2
  go_ret2
  exact ⟨rfl, (by repeat (first | exact Below.refl _ _ | refine Below.alloc ?_ (by simp <;> omega) _))⟩
theorem bsend_bad (s r h : Int) (A : Option Addr) (cp : Nat) (l : List Int) (w : World) (ok : BucketOk s r h) (hi : Ints w w.heap.size A cp l) (hl : l.length ≤ 60) (hbad : l.any badRate = true) :
    Calls Try.prog 4 #[.agg #[.int .i64 s, .int .i64 r, .int .i64 h], .slice A l.length cp] w fun e w' => e = .returned (.tuple #[.slice none 0 0, .iface 33 (.int .i64 1)]) ∧ Below w.heap.size w w' := by
  have H := Lib.hid ok; clear ok
  have HI := Lib.hid hi; clear hi
  have HO := Lib.hid hbad; clear hbad
  go_enter Try.func4, Try.ntmps4
  go_wp2_with fail
  refine (bcheck_yes s r h _ H.out).mono ?_; rintro e w1 ⟨rfl, rfl⟩
  go_wp2_with fail
  refine (ticks_bad A cp l w.heap.size _ (HI.out.below ((((Below.refl _ _).alloc (Nat.le_refl _) _).alloc (by simp) _)) (Nat.le_refl _)) hl HO.out).mono ?_; rintro e w1 ⟨rfl, rfl⟩
  go_wp2
  go_ret2
  exact ⟨rfl, (by repeat (first | exact Below.refl _ _ | refine Below.alloc ?_ (by simp <;> omega) _))⟩
/-- what bucket.Send gives, of whatever comes -/
def SendIs (s r h : Int) (l : List Int) (n : Nat) (base : Nat) (w : World) (v : Value) : Prop :=
  (BucketOk s r h ∧ l.length ≤ 60 ∧ l.any badRate = false ∧ n = l.length ∧ ∃ u, v = .tuple #[u, .nilIface] ∧ w.ownsRow base 3 1 u l.length ((PB.send s r h 0 l).map (Value.int .i64))) ∨
  (¬ (BucketOk s r h ∧ l.length ≤ 60 ∧ l.any badRate = false) ∧ ∃ e, v = .tuple #[.slice none 0 0, .iface 33 (.int .i64 e)])
theorem bsend_any (s r h : Int) (A : Option Addr) (cp : Nat) (l : List Int) (w : World) (hi : Ints w w.heap.size A cp l) :
    Calls Try.prog 4 #[.agg #[.int .i64 s, .int .i64 r, .int .i64 h], .slice A l.length cp] w fun e w' => ∃ v, e = .returned v ∧ SendIs s r h l l.length (w.heap.size + 1) w' v ∧ Below w.heap.size w w' := by
  by_cases hp : BucketOk s r h
  · by_cases hl : l.length ≤ 60
    · cases hb : l.any badRate
      · exact (bsend_yes s r h A cp l w hp hi hl hb).mono fun _ _ ⟨v, he, ho, hw⟩ => ⟨_, he, .inl ⟨hp, hl, hb, rfl, v, rfl, ho⟩, hw⟩
      · exact (bsend_bad s r h A cp l w hp hi hl hb).mono fun _ _ ⟨he, hw⟩ => ⟨_, he, .inr ⟨(fun h => by rw [hb] at h; cases h.2.2), _, rfl⟩, hw⟩
    · exact (bsend_full s r h A cp l.length w hp (by omega) (Nat.le_trans hi.le hi.cap)).mono fun _ _ ⟨he, hw⟩ => ⟨_, he, .inr ⟨fun h => hl h.2.1, _, rfl⟩, hw⟩
  · exact (bsend_no s r h A cp l.length w hp).mono fun _ _ ⟨he, hw⟩ => ⟨_, he, .inr ⟨fun h => hp h.1, _, rfl⟩, hw⟩
end Go.Proofs.Ytbojccikmpbpbaa
