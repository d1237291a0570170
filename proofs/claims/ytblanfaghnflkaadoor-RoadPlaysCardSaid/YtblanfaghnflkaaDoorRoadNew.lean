/- road.check, road.New. -/
import Derived.Test.YtblanfaghnflkaaDoorRoadTick
namespace Go.Proofs.YtblanfaghnflkaaDoor
open Go.RowKit
attribute [local go_sem ↓] run_min_mn run_max_mx
instance (W a l c : Int) : Decidable (SourceOk W a l c) := by unfold SourceOk; infer_instance
def srcErr (s : Src) : Int := if SourceOk s.W s.a s.l s.c then (if s.a ≠ 0 ∨ s.c ≠ 0 then 3 else 0) else 1
def firstErr : List Src → Int
  | [] => 0
  | s :: S => if srcErr s = 0 then firstErr S else srcErr s
def roadErr (S : List Src) : Int := if S.length = 0 then 5 else if 6 < S.length then 4 else firstErr S
theorem firstErr_at {S : List Src} {k : Nat} {s : Src} (h : S[k]? = some s) : firstErr (S.drop k) = if srcErr s = 0 then firstErr (S.drop (k + 1)) else srcErr s := by
  have hk : k < S.length := (List.getElem?_eq_some_iff.1 h).1
  have hs : S[k] = s := (List.getElem?_eq_some_iff.1 h).2
  rw [List.drop_eq_getElem_cons hk, hs]; rfl
set_option maxHeartbeats 2000000 in
theorem rcheck_in (A : Option Addr) (c : Nat) (S : List Src) (w : World) (h : Srcs w w.heap.size A c S) (h0 : 0 < S.length) (h6 : S.length ≤ 6) :
    Calls Tryd.prog 94 #[.slice A S.length c] w fun e w' => e = .returned (errVal (firstErr S)) ∧ Below w.heap.size w w' := by
  have H := Lib.hid h
  clear h
  obtain ⟨ev, hev⟩ : ∃ ev, firstErr S = ev := ⟨_, rfl⟩
  rw [hev]
  have HEV := Lib.hid hev
  clear hev
  have e1 : ((S.length : Int) == 0) = false := beq_eq_false_iff_ne.2 (by omega)
  have e2 : decide ((6 : Int) < (S.length : Int)) = false := decide_eq_false (by omega)
  go_enter Tryd.func94, Tryd.ntmps94
  go_wp2
  go_loopw [18] (fun i wr => ∃ k : Nat, k ≤ S.length ∧ i = .int .i64 k ∧ Hid (firstErr (S.drop k) = ev) ∧ Hid (Below w.heap.size w wr)) (fun i _ => S.length - (intOf i).toNat)
  case atStart => exact ⟨0, Nat.zero_le _, rfl, HEV, Lib.hid (Below.refl _ _)⟩
  case round =>
    clear HEV
    obtain ⟨k, hk, rfl, HEV, HB⟩ := hrel
    by_cases hlt : k < S.length
    · obtain ⟨b, off, s, rfl, hbw, s0, s1, s2, s3, hs⟩ := (H.out.below HB.out (Nat.le_refl _)).elem hlt
      have hsz := HB.out.size
      have hbr : b < wr.heap.size := by omega
      have k0 : (0 : Int) ≤ (k : Int) := by omega
      have HF := firstErr_at hs.out
      rw [HEV.out] at HF
      have HBA := Lib.hid (HB.out.alloc hsz (.cells #[.int .i64 s.W, .int .i64 s.a, .int .i64 s.l, .int .i64 s.c] 74))
      obtain ⟨W, a, l, sc⟩ := s
      simp only at s0 s1 s2 s3
      by_cases ok : SourceOk W a l sc
      · by_cases ha : a = 0
        · subst ha
          by_cases hc : sc = 0
          · subst hc
            have he : srcErr ⟨W, 0, l, 0⟩ = 0 := by unfold srcErr; rw [if_pos ok, if_neg (by simp)]
            rw [he, if_pos rfl] at HF
            have HF := Lib.hid HF.symm
            have OK := Lib.hid ok
            clear he ok
            go_wp2_with fail
            refine (scheck_yes W 0 l 0 _ OK.out).mono ?_; rintro e w' ⟨rfl, rfl⟩
            go_wp2
            go_roundw
            case rel => exact ⟨k + 1, by omega, by go_num, HF, Lib.hid (HBA.out.alloc (by simp; omega) _)⟩
            case measure => simp [intOf]; omega
          · have he : srcErr ⟨W, 0, l, sc⟩ = 3 := by unfold srcErr; rw [if_pos ok, if_pos (.inr hc)]
            rw [he, if_neg (by decide)] at HF
            subst HF
            have hcb : (sc != 0) = true := by rw [bne_iff_ne]; exact hc
            have OK := Lib.hid ok
            clear he ok hc
            go_wp2_with fail
            refine (scheck_yes W 0 l sc _ OK.out).mono ?_; rintro e w' ⟨rfl, rfl⟩
            go_wp2
            go_ret
            exact ⟨rfl, HBA.out.alloc (by simp; omega) _⟩
        · have he : srcErr ⟨W, a, l, sc⟩ = 3 := by unfold srcErr; rw [if_pos ok, if_pos (.inl ha)]
          rw [he, if_neg (by decide)] at HF
          subst HF
          have hcb : (a != 0) = true := by rw [bne_iff_ne]; exact ha
          have OK := Lib.hid ok
          clear he ok ha
          go_wp2_with fail
          refine (scheck_yes W a l sc _ OK.out).mono ?_; rintro e w' ⟨rfl, rfl⟩
          go_wp2
          go_ret
          exact ⟨rfl, HBA.out.alloc (by simp; omega) _⟩
      · have he : srcErr ⟨W, a, l, sc⟩ = 1 := by unfold srcErr; rw [if_neg ok]
        rw [he, if_neg (by decide)] at HF
        subst HF
        have OK := Lib.hid ok
        clear he ok
        go_wp2_with fail
        refine (scheck_no W a l sc _ OK.out).mono ?_; rintro e w' ⟨rfl, rfl⟩
        go_wp2
        go_ret
        exact ⟨rfl, HBA.out.alloc (by simp; omega) _⟩
    · obtain rfl : k = S.length := by omega
      have he := HEV.out
      rw [List.drop_length] at he
      subst he
      go_wp2
      go_ret
      exact ⟨rfl, HB.out⟩
theorem rcheck_all (A : Option Addr) (c : Nat) (S : List Src) (w : World) (h : Srcs w w.heap.size A c S) :
    Calls Tryd.prog 94 #[.slice A S.length c] w fun e w' => e = .returned (errVal (roadErr S)) ∧ Below w.heap.size w w' := by
  unfold roadErr
  by_cases h0 : S.length = 0
  · rw [if_pos h0, h0]
    clear h
    go_enter Tryd.func94, Tryd.ntmps94
    go_wp2
    go_ret
    exact ⟨rfl, Below.refl _ _⟩
  · rw [if_neg h0]
    by_cases h6 : 6 < S.length
    · rw [if_pos h6]
      have hc := h.le
      have hm := h.cap
      unfold maxLen at hm
      clear h
      have e1 : ((S.length : Int) == 0) = false := beq_eq_false_iff_ne.2 (by omega)
      have e2 : (6 : Int) < S.length := by omega
      have e3 : ¬ (S.length : Int) = 0 := by omega
      clear h6
      generalize S.length = n at *
      go_enter Tryd.func94, Tryd.ntmps94
      go_wp2
      go_ret
      exact ⟨rfl, Below.refl _ _⟩
    · rw [if_neg h6]; exact rcheck_in A c S w h (by omega) (by omega)
instance (r c k : Int) : Decidable (PoolOk r c k) := by unfold PoolOk; infer_instance
def newErr (S : List Src) (r p k : Int) : Int := if roadErr S = 0 then (if PoolOk r p k then (if k = 0 then 0 else 3) else 1) else roadErr S
theorem roadErr_len {S : List Src} (h : roadErr S = 0) : 0 < S.length ∧ S.length ≤ 6 := by
  unfold roadErr at h
  split at h
  · omega
  · split at h
    · omega
    · omega
set_option maxHeartbeats 2000000 in
theorem rnew_no (A : Option Addr) (c : Nat) (S : List Src) (r p k er : Int) (w : World) (h : Srcs w w.heap.size A c S) (he : newErr S r p k = er) (hp : er ≠ 0) :
    Calls Tryd.prog 37 #[.slice A S.length c, .agg #[.int .i64 r, .int .i64 p, .int .i64 k]] w fun e w' => e = .returned (.tuple #[.pointer none, .iface 119 (.int .i64 er)]) ∧ Below w.heap.size w w' := by
  have HC := Lib.hid fun (W : World) (hW : Below w.heap.size w W) => rcheck_all A c S W (h.at' hW)
  clear h
  unfold newErr at he
  generalize roadErr S = x at *
  by_cases h1 : x = 0
  · subst h1
    rw [if_pos rfl] at he
    by_cases h2 : PoolOk r p k
    · rw [if_pos h2] at he
      by_cases h3 : k = 0
      · rw [if_pos h3] at he; exact absurd he.symm hp
      · rw [if_neg h3] at he
        subst he
        have HP := Lib.hid h2
        have hkb : (k != 0) = true := by rw [bne_iff_ne]; exact h3
        have HB0 := Lib.hid (Blk.new w 60 #[.int .i64 r, .int .i64 p, .int .i64 k])
        clear h2 h3 hp
        rw [errVal_zero] at HC
        go_enter Tryd.func37, Tryd.ntmps37
        go_wp2_with fail
        refine (HC.out _ ((Below.refl _ _).alloc (Nat.le_refl _) _)).mono ?_; rintro e w1 ⟨rfl, hb1⟩
        have HB1 := Lib.hid (HB0.out.go hb1)
        have HBEL := Lib.hid (((Below.refl w.heap.size w).alloc (Nat.le_refl _) (.cells #[.int .i64 r, .int .i64 p, .int .i64 k] 60)).trans (hb1.mono (by simp)))
        obtain ⟨p0, p1, p2, f0, f1, f2, z0, z1, z2, z3⟩ := HB1.out.three'
        clear hb1
        go_wp2_with fail
        refine (pcheck_yes r p k _ HP.out).mono ?_; rintro e w2 ⟨rfl, rfl⟩
        go_wp2
        go_ret2
        exact ⟨rfl, HBEL.out.alloc HBEL.out.size _⟩
    · rw [if_neg h2] at he
      subst he
      have HP := Lib.hid h2
      have HB0 := Lib.hid (Blk.new w 60 #[.int .i64 r, .int .i64 p, .int .i64 k])
      clear h2 hp
      rw [errVal_zero] at HC
      go_enter Tryd.func37, Tryd.ntmps37
      go_wp2_with fail
      refine (HC.out _ ((Below.refl _ _).alloc (Nat.le_refl _) _)).mono ?_; rintro e w1 ⟨rfl, hb1⟩
      have HB1 := Lib.hid (HB0.out.go hb1)
      have HBEL := Lib.hid (((Below.refl w.heap.size w).alloc (Nat.le_refl _) (.cells #[.int .i64 r, .int .i64 p, .int .i64 k] 60)).trans (hb1.mono (by simp)))
      obtain ⟨p0, p1, p2, f0, f1, f2, z0, z1, z2, z3⟩ := HB1.out.three'
      clear hb1
      go_wp2_with fail
      refine (pcheck_no r p k _ HP.out).mono ?_; rintro e w2 ⟨rfl, rfl⟩
      go_wp2
      go_ret2
      exact ⟨rfl, HBEL.out.alloc HBEL.out.size _⟩
  · rw [if_neg h1] at he
    subst he
    rw [errVal_pos h1] at HC
    clear h1 hp
    go_enter Tryd.func37, Tryd.ntmps37
    go_wp2_with fail
    refine (HC.out _ ((Below.refl _ _).alloc (Nat.le_refl _) _)).mono ?_; rintro e w1 ⟨rfl, hb1⟩
    go_wp2
    go_ret2
    exact ⟨rfl, ((Below.refl w.heap.size w).alloc (Nat.le_refl _) _).trans (hb1.mono (by simp))⟩
set_option maxHeartbeats 4000000 in
theorem rnew_yes (A : Option Addr) (c : Nat) (S : List Src) (r p : Int) (w : World) (h : Srcs w w.heap.size A c S) (he : roadErr S = 0) (hp : PoolOk r p 0) :
    Calls Tryd.prog 37 #[.slice A S.length c, .agg #[.int .i64 r, .int .i64 p, .int .i64 0]] w fun e w' => ∃ g gs cs, e = .returned (.tuple #[.pointer (some ⟨g, 0, none⟩), .nilIface]) ∧ RoadAt w' w.heap.size g gs cs S.length (.slice none 0 0) S r p 0 [] ∧ Below w.heap.size w w' := by
  have HC := Lib.hid fun (W : World) (hW : Below w.heap.size w W) => rcheck_all A c S W (h.at' hW)
  rw [he, errVal_zero] at HC
  obtain ⟨h0, h6⟩ := roadErr_len he
  have H := Lib.hid h
  have HP := Lib.hid hp
  have HB0 := Lib.hid (Blk.new w 60 #[.int .i64 r, .int .i64 p, .int .i64 0])
  clear h he hp
  go_enter Tryd.func37, Tryd.ntmps37
  go_wp2_with fail
  refine (HC.out _ ((Below.refl _ _).alloc (Nat.le_refl _) _)).mono ?_; rintro e w1 ⟨rfl, hb1⟩
  have HB1 := Lib.hid (HB0.out.go hb1)
  have HBEL := Lib.hid (((Below.refl w.heap.size w).alloc (Nat.le_refl _) (.cells #[.int .i64 r, .int .i64 p, .int .i64 0] 60)).trans (hb1.mono (by simp)))
  obtain ⟨p0, p1, p2, f0, f1, f2, z0, z1, z2, z3⟩ := HB1.out.three'
  clear hb1
  go_wp2_with fail
  refine (pcheck_yes r p 0 _ HP.out).mono ?_; rintro e w2 ⟨rfl, rfl⟩
  have HS := Lib.hid (H.out.at' (HBEL.out.alloc HBEL.out.size (.cells #[.int .i64 r, .int .i64 p, .int .i64 0] 60)))
  have HBA := Lib.hid (HBEL.out.alloc HBEL.out.size (.cells #[.int .i64 r, .int .i64 p, .int .i64 0] 60))
  have HB2 := Lib.hid (HB1.out.alloc (.cells #[.int .i64 r, .int .i64 p, .int .i64 0] 60))
  clear HBEL HB1 HC
  go_wp2_with fail
  clear HP HB0
  go_region_law (go_simp; go_at_call 96; refine (cloneSrc_any A c S _ (HS.out.at' (Below.refl _ _).drew) h0 (by omega)).mono ?_; rintro e wz ⟨v, rfl, hoz, hbz⟩; obtain ⟨gs, cs, rfl, hgs, _, _, _⟩ := own_form hoz h0; have HOZ := Lib.hid (own_base' hoz HBA.out.drew.size); have HB3 := Lib.hid (HB2.out.drew.go hbz); have HBZ := Lib.hid (HBA.out.drew.trans (hbz.mono HBA.out.drew.size)); clear hoz hbz; obtain ⟨q0, q1, q2, _, _, _, qz⟩ := HB3.out.three)
  all_goals
    go_wp2
    go_ret2
    refine ⟨wz.heap.size, gs, cs, rfl, ⟨?_, ?_, ?_, HBZ.out.size, rfl⟩, ?_⟩
    · repeat (first | (with_reducible apply Blk.new'; with_reducible rfl) | with_reducible apply Blk.drew)
    · repeat (first | with_reducible exact HOZ.out | with_reducible apply own_drew | with_reducible apply own_alloc)
    · exact ⟨by simp [idxs], .inl ⟨rfl, rfl⟩⟩
    · repeat (first | with_reducible exact HBZ.out | with_reducible apply Below.drew | with_reducible apply Below.alloc | exact HBZ.out.size)
end Go.Proofs.YtblanfaghnflkaaDoor
