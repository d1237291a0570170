/- slices.Repeat of a row of one number. -/
import Derived.Test.YtblanfaghnflkaaDoorMul
import Derived.Test.YtblanfaghnflkaaDoorLibA
import Derived.Laws.CopyOwn
import Derived.BigRegion
namespace Go.Proofs.YtblanfaghnflkaaDoor
open Go.RowKit
theorem own_full {w : World} {base e n g : Nat} {xs : List Value} (h : w.ownsRow base e 1 (.slice (some ⟨g, 0, none⟩) n n) n xs) : Blk w g e xs.toArray := by
  rcases h.2 with ⟨h, _⟩ | ⟨g', cap, cur, he, _, hg, _, _, hs, ht⟩
  · cases h
  · injection he with h1 h2 h3
    injection h1 with h1
    injection h1 with h1
    subst h1 h3
    unfold Blk
    rw [hg, ← ht, List.take_of_length_le (by simp [hs])]
theorem full_own {w : World} {base e n g : Nat} {xs : List Value} (h : Blk w g e xs.toArray) (hl : xs.length = n) (hb : base ≤ g) (hn : n ≤ maxLen) : w.ownsRow base e 1 (.slice (some ⟨g, 0, none⟩) n n) n xs :=
  ⟨by simpa using hl, .inr ⟨g, n, xs.toArray, rfl, hb, h, Nat.le_refl _, hn, by simpa using hl, by simp [List.take_of_length_le (Nat.le_of_eq hl)]⟩⟩
def repRow (u : Value) (z : Value) (n k : Nat) : List Value := List.replicate k u ++ List.replicate (n - k) z
theorem repRow_len (u z : Value) (n k : Nat) (h : k ≤ n) : (repRow u z n k).length = n := by simp [repRow]; omega
theorem repRow_splice (u z : Value) (n k m : Nat) (_ : k + m ≤ n) : splice (repRow u z n k) k (List.replicate m u) = repRow u z n (k + m) := by
  unfold splice repRow
  rw [List.take_left' (by simp), List.length_replicate, List.drop_append, List.drop_of_length_le (by simp), List.length_replicate, Nat.add_sub_cancel_left, List.drop_replicate, List.nil_append, ← List.append_assoc, List.replicate_append_replicate]
  congr 2; omega
theorem repRow_at (u z : Value) (n k j : Nat) (h : j < k) : (repRow u z n k)[j]? = some u := by
  unfold repRow
  rw [List.getElem?_append_left (by simpa using h)]
  simp [h]
theorem repRow_all (u z : Value) (n : Nat) : repRow u z n n = List.replicate n u := by simp [repRow]
theorem repRow_zero (u z : Value) (n : Nat) : repRow u z n 0 = List.replicate n z := by simp [repRow]
theorem Tryd.size_int : (Tryd.prog.info? 3).map (·.size) = some 1 := by kernel_rfl
set_option maxHeartbeats 4000000 in
set_option maxRecDepth 100000 in
theorem repeat_any (i : Int) (n : Nat) (ad : Addr) (w : World) (hn : n ≤ 1000000) (hc : w.cell? ad = some (.int .i64 i)) (had : ad.block < w.heap.size) :
    Calls Tryd.prog 123 #[.slice (some ad) 1 1, .int .i64 n] w fun e w' => ∃ g, e = .returned (.slice (some ⟨g, 0, none⟩) n n) ∧ w.heap.size ≤ g ∧ Blk w' g 3 (List.replicate n (.int .i64 i)).toArray ∧ Below w.heap.size w w' := by
  have HM := Lib.hid fun W => mul_one n hn W
  have hn0 : ¬ (n : Int) < 0 := by omega
  have HC := Lib.hid hc
  have HAD := Lib.hid had
  clear hc had
  have wn : IntKind.u64.wrap (n : Int) = n := by rw [IntKind.wrap_u64]; omega
  have wn2 : IntKind.i64.wrap (n : Int) = n := IntWalk.i64_in _ (by omega)
  go_enter Tryd.func123, Tryd.ntmps123
  go_wp2_with fail
  refine (HM.out _).mono ?_; rintro e w' ⟨rfl, rfl⟩
  have hn1 : ¬ (9223372036854775807 : Int) < (n : Int) := by omega
  go_wp2_with (first
    | (refine wpList_makeN w rfl (.tmp 29) (.tmp 29) 40 rfl w.heap.size 3 (.int .i64 0) 8 Tryd.underlying40 Tryd.info_int rfl n rfl rfl hn (by decide) (Nat.le_refl _) ?_; intro w1 hown1 hgr1 hsz1; have HB0 := Lib.hid (show Blk w1 w.heap.size 3 (repRow (.int .i64 i) (.int .i64 0) n 0).toArray from by rw [repRow_zero]; exact own_full hown1); have HBL := Lib.hid (below_none (Below.refl _ _) hgr1 (Nat.le_refl _)); clear hown1 hgr1)
    | (refine wpList_copy_splice (o := ⟨some 33, _, _, _, _, _⟩) rfl (.tmp 31) (.tmp 32) 40 40 rfl 3 Tryd.underlying40 Tryd.size_int (some ⟨w.heap.size, 0, none⟩) (some ad) n n 1 1 rfl rfl w.heap.size 0 (repRow (.int .i64 i) (.int .i64 0) n 0) 3 HB0.out (List.replicate (min 1 n) (.int .i64 i)) (by simp) (fun _ => ⟨rfl, ad, rfl, fun j v hj => by
          have hj1 : j < min 1 n := by simpa using (List.getElem?_eq_some_iff.1 hj).1
          obtain rfl : j = 0 := by omega
          have hv : v = .int .i64 i := List.eq_of_mem_replicate (List.mem_of_getElem? hj)
          subst hv
          have ha : ad.add 0 = ad := by unfold Addr.add; simp
          rw [ha]; exact (HBL.out.cell HAD.out).trans HC.out⟩) (by rw [repRow_len _ _ _ _ (Nat.zero_le _)]; simp; omega) (fun v hv => by rw [List.eq_of_mem_replicate hv]; rfl) w.heap.size w HBL.out (Nat.le_refl _) ?_; intro w2 hb2 hbel2))
  have hb3 : Hid (Blk w2 w.heap.size 3 (repRow (.int .i64 i) (.int .i64 0) n (min 1 n)).toArray) := Lib.hid (by
    have := hb2.out
    rw [repRow_splice _ _ _ _ _ (by omega), Nat.zero_add] at this
    exact this)
  have HBL2 := Lib.hid hbel2
  clear hb2 HB0 HBL hbel2 hsz1
  go_loopw [8] (fun v wr => ∃ k : Nat, k ≤ n ∧ (0 < n → 0 < k) ∧ v = .int .i64 k ∧ Hid (Blk wr w.heap.size 3 (repRow (.int .i64 i) (.int .i64 0) n k).toArray) ∧ Hid (Below w.heap.size w wr)) (fun v _ => n - (intOf v).toNat)
  case atStart => exact ⟨min 1 n, by omega, by omega, by simp, hb3, HBL2⟩
  case round =>
    obtain ⟨k, hk, hkp, rfl, HB, HBL⟩ := hrel
    clear hb3 HBL2
    by_cases hlt : k < n
    · have hkn : ¬ n = k := by omega
      have k0 : (0 : Int) ≤ (k : Int) := by omega
      have k1 : (k : Int) ≤ (n : Int) := by omega
      have hkp' : 0 < k := hkp (by omega)
      clear hkp
      obtain ⟨m, hm⟩ : ∃ m, m = min k (n - k) := ⟨_, rfl⟩
      have hmk : k + m ≤ n := by omega
      have hm0 : 0 < m := by omega
      have hm2 : m ≤ k := by omega
      obtain ⟨cs, hcs⟩ : ∃ cs, cs = List.replicate m (Value.int .i64 i) := ⟨_, rfl⟩
      obtain ⟨cur, hcur⟩ : ∃ cur, cur = repRow (.int .i64 i) (.int .i64 0) n k := ⟨_, rfl⟩
      have hB := HB.out
      rw [← hcur] at hB
      have HBc : Hid (wr.drew.heap[w.heap.size]? = some (.cells cur.toArray 3 (0, 0))) := Lib.hid hB
      have s1 : Hid (cs.length = Nat.min k (n - k)) := Lib.hid (by rw [hcs, List.length_replicate, hm])
      have s2 : Hid (∀ j v, cs[j]? = some v → wr.drew.cell? ((⟨w.heap.size, 0, none⟩ : Addr).add j) = some v) := Lib.hid fun j v hj => by
        rw [hcs] at hj
        have hjm : j < m := by simpa using (List.getElem?_eq_some_iff.1 hj).1
        have hv : v = .int .i64 i := List.eq_of_mem_replicate (List.mem_of_getElem? hj)
        subst hv
        have hadd : (⟨w.heap.size, 0, none⟩ : Addr).add j = ⟨w.heap.size, j, none⟩ := by unfold Addr.add; split <;> simp_all
        rw [hadd]
        show wr.cell? _ = _
        rw [HB.out.cell j]
        rw [List.getElem?_toArray]; exact repRow_at _ _ _ _ _ (by omega)
      have s3 : Hid (k + cs.length ≤ cur.length) := Lib.hid (by rw [hcs, hcur, List.length_replicate, repRow_len _ _ _ _ hk]; exact hmk)
      have s4 : Hid (∀ v ∈ cs, v.oneCell' = true) := Lib.hid (fun v hv => by rw [hcs] at hv; rw [List.eq_of_mem_replicate hv]; rfl)
      have s5 : Hid (Below w.heap.size w wr.drew) := Lib.hid HBL.out.drew
      have sp : Hid (splice cur k cs = repRow (.int .i64 i) (.int .i64 0) n (k + m)) := Lib.hid (by rw [hcur, hcs, repRow_splice _ _ _ _ _ hmk])
      have sl : Hid (cs.length = m) := Lib.hid (by rw [hcs]; simp)
      have wk : IntKind.i64.wrap ((k : Int) + (cs.length : Int)) = ((k + m : Nat) : Int) := by rw [sl.out]; exact (IntWalk.i64_in _ (by omega)).trans (by omega)
      clear hcs hcur hB HB hm
      go_wp2_with fail
      go_region_law (refine step_copy_splice rfl (.tmp 41) (.tmp 44) 40 40 rfl 3 Tryd.underlying40 Tryd.size_int (some ⟨w.heap.size, k, none⟩) (some ⟨w.heap.size, 0, none⟩) (n - k) (n - k) k n (by simp [Act.eval, Act.put]) (by simp [Act.eval, Act.put]) w.heap.size k cur 3 HBc.out cs s1.out (fun _ => ⟨rfl, ⟨w.heap.size, 0, none⟩, rfl, s2.out⟩) s3.out s4.out w.heap.size w s5.out (Nat.le_refl _) ?_; intro wz hwz hbz)
      have HZ : Hid (Blk wz w.heap.size 3 (repRow (.int .i64 i) (.int .i64 0) n (k + m)).toArray) := Lib.hid (by rw [← sp.out]; exact hwz.out)
      have HBZ := Lib.hid hbz
      clear hwz hbz
      go_simp
      go_roundw
      case rel => (repeat apply Exists.intro); exact ⟨⟨k + m, hmk, by omega, by first | go_num | (rw [sl.out]; go_num) | (congr 1; omega), HZ, HBZ⟩, rfl⟩
      case measure => simp [intOf]; omega
    · obtain rfl : k = n := by omega
      have HF : Hid (Blk wr w.heap.size 3 (List.replicate k (.int .i64 i)).toArray) := Lib.hid (by have := HB.out; rwa [repRow_all] at this)
      go_wp2
      go_ret
      exact ⟨w.heap.size, rfl, Nat.le_refl _, HF.out, HBL.out⟩
end Go.Proofs.YtblanfaghnflkaaDoor
