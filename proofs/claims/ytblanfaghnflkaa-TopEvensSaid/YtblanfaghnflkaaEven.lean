/- Package even: what its functions compute. -/
import Derived.Test.YtblanfaghnflkaaLibF
import Derived.Test.YtblanfaghnflkaaLibA
namespace Go.Proofs.Ytblanfaghnflkaa
open Go.RowKit
attribute [local go_sem ↓] run_min_mn run_max_mx
theorem echeck1_any (n : Int) (w : World) : Calls Try.prog 89 (#[.int .i64 n] ++ #[]) w fun e w' => e = .returned (.bool (badTo 1000 n)) ∧ w = w' := by
  show Calls Try.prog 89 #[.int .i64 n] w _
  by_cases h : n < 0
  · have hb : badTo 1000 n = true := by simp [badTo, h]
    rw [hb]; clear hb
    go_enter Try.func89, Try.ntmps89
    go_wp2
    go_ret
    exact ⟨rfl, rfl⟩
  · have hd : decide (n < 0) = false := decide_eq_false h
    have hb : badTo 1000 n = decide (1000 < n) := by simp [badTo, hd]
    rw [hb]; clear hb
    go_enter Try.func89, Try.ntmps89
    go_wp2
    go_ret
    exact ⟨rfl, rfl⟩
theorem echeck1_cf (a : Array Value) (W : World) : (callFunc 89 a).run Try.prog W = .ok (.enter 89 a) W := by kernel_rfl
theorem echeck_all (A : Option Addr) (c : Nat) (l : List Int) (B : Nat) (w : World) (h : Ints w B A c l) :
    Calls Try.prog 64 #[.slice A l.length c] w fun e w' => e = .returned (errVal (fewErr l 1000)) ∧ w = w' := by
  have hm := Nat.le_trans h.le h.cap
  unfold maxLen at hm
  by_cases h0 : l.length = 0
  · have e : fewErr l 1000 = 5 := by unfold fewErr; rw [if_pos h0]
    rw [e, h0]; clear h
    go_enter Try.func64, Try.ntmps64
    go_wp2
    go_ret
    exact ⟨rfl, rfl⟩
  · have hz : ((l.length : Int) == 0) = false := beq_eq_false_iff_ne.2 (by omega)
    by_cases h6 : 6 < l.length
    · have e : fewErr l 1000 = 4 := by unfold fewErr; rw [if_neg h0, if_pos h6]
      rw [e]; clear h e
      go_enter Try.func64, Try.ntmps64
      go_wp2
      go_ret
      exact ⟨rfl, rfl⟩
    · have HC := Lib.hid (contains_any A c l B w h 89 #[] (badTo 1000) echeck1_cf fun x _ => echeck1_any x w)
      have e : fewErr l 1000 = if l.any (badTo 1000) then 1 else 0 := by unfold fewErr; rw [if_neg h0, if_neg h6]
      rw [e]; clear h e
      cases hb : l.any (badTo 1000)
      · rw [hb] at HC
        clear hb
        go_enter Try.func64, Try.ntmps64
        go_wp2_with fail
        refine HC.out.mono ?_; rintro e w' ⟨rfl, rfl⟩
        go_wp2
        go_ret
        exact ⟨rfl, rfl⟩
      · rw [hb] at HC
        clear hb
        go_enter Try.func64, Try.ntmps64
        go_wp2_with fail
        refine HC.out.mono ?_; rintro e w' ⟨rfl, rfl⟩
        go_wp2
        go_ret
        exact ⟨rfl, rfl⟩
theorem echeck_no (A : Option Addr) (c : Nat) (l : List Int) (B : Nat) (w : World) (h : Ints w B A c l) (er : Int) (he : fewErr l 1000 = er) (hp : er ≠ 0) :
    Calls Try.prog 64 #[.slice A l.length c] w fun e w' => e = .returned (.iface 71 (.int .i64 er)) ∧ w = w' :=
  (echeck_all A c l B w h).mono fun _ _ ⟨h1, h2⟩ => ⟨by rw [h1, he, errVal_pos hp], h2⟩
theorem echeck_yes (A : Option Addr) (c : Nat) (l : List Int) (B : Nat) (w : World) (h : Ints w B A c l) (he : fewErr l 1000 = 0) :
    Calls Try.prog 64 #[.slice A l.length c] w fun e w' => e = .returned .nilIface ∧ w = w' :=
  (echeck_all A c l B w h).mono fun _ _ ⟨h1, h2⟩ => ⟨by rw [h1, he, errVal_zero], h2⟩
theorem few_ok {l : List Int} {most : Int} (h : fewErr l most = 0) : 0 < l.length ∧ l.length ≤ 6 ∧ l.any (badTo most) = false := by
  unfold fewErr at h
  split at h
  · omega
  · split at h
    · omega
    · split at h
      · omega
      · rename_i h1 h2 h3
        exact ⟨by omega, by omega, by simpa using h3⟩
/-- the sum of the squares -/
def sqs (l : List Int) : Int := tot (l.map fun x => x * x)
theorem sqs_snoc (l : List Int) (x : Int) : sqs (l ++ [x]) = sqs l + x * x := by
  unfold sqs; rw [List.map_append]; simp only [List.map_cons, List.map_nil]; exact tot_snoc _ _
theorem sq_bd {x : Int} (h0 : 0 ≤ x) (h1 : x ≤ 1000) : 0 ≤ x * x ∧ x * x ≤ 1000000 :=
  ⟨Int.mul_nonneg h0 h0, Int.mul_le_mul h1 h1 h0 (by omega)⟩
theorem sqs_bd (l : List Int) (h : ∀ a ∈ l, 0 ≤ a ∧ a ≤ 1000) : 0 ≤ sqs l ∧ sqs l ≤ l.length * 1000000 := by
  have := tot_bound (l.map fun x => x * x) 1000000 fun a ha => by
    obtain ⟨x, hx, rfl⟩ := List.mem_map.1 ha
    exact sq_bd (h x hx).1 (h x hx).2
  simpa [sqs] using this
theorem tot_nonneg (l : List Int) (h : ∀ a ∈ l, 0 ≤ a) : 0 ≤ tot l := by
  induction l with
  | nil => simp [tot]
  | cons b l ih =>
    have h1 := ih fun x hx => h x (List.mem_cons_of_mem _ hx)
    have h2 := h b List.mem_cons_self
    simp only [tot]; omega
theorem sqs_nonneg (l : List Int) : 0 ≤ sqs l := tot_nonneg _ fun a ha => by
  obtain ⟨x, _, rfl⟩ := List.mem_map.1 ha
  rcases Int.le_total 0 x with h | h
  · exact Int.mul_nonneg h h
  · exact Int.mul_nonneg_of_nonpos_of_nonpos h h
theorem tot_sq (l : List Int) (h : ∀ a ∈ l, 0 ≤ a) : sqs l = 0 ↔ tot l = 0 := by
  induction l with
  | nil => simp [sqs, tot]
  | cons a l ih =>
    have ih := ih fun b hb => h b (List.mem_cons_of_mem _ hb)
    have ha := h a List.mem_cons_self
    have h1 : 0 ≤ a * a := Int.mul_nonneg ha ha
    have h2 := tot_nonneg l fun b hb => h b (List.mem_cons_of_mem _ hb)
    have h3 := sqs_nonneg l
    have e1 : sqs (a :: l) = a * a + sqs l := rfl
    have e2 : tot (a :: l) = a + tot l := rfl
    rw [e1, e2]
    constructor
    · intro hh
      have h4 : a * a = 0 := by omega
      have h5 : a = 0 := by rcases Int.mul_eq_zero.1 h4 with h | h <;> exact h
      have := ih.1 (by omega)
      omega
    · intro hh
      have h5 : a = 0 := by omega
      have := ih.2 (by omega)
      subst h5; omega
def idxErr (l : List Int) : Int := if fewErr l 1000 ≠ 0 then fewErr l 1000 else if tot l = 0 then 5 else 0
def idxT (l : List Int) : Int := lowT (tot l * tot l) (l.length * sqs l)
def idxB (l : List Int) : Int := lowB (tot l * tot l) (l.length * sqs l)
set_option maxHeartbeats 1000000 in
theorem index_err (A : Option Addr) (c : Nat) (l : List Int) (w : World) (h : Ints w w.heap.size A c l) (er : Int) (he : fewErr l 1000 = er) (hp : er ≠ 0) :
    Calls Try.prog 69 #[.slice A l.length c] w fun e w' => e = .returned (.tuple #[.agg #[.int .i64 0, .int .i64 0], .iface 71 (.int .i64 er)]) ∧ Below w.heap.size w w' := by
  have HC := Lib.hid (echeck_no A c l w.heap.size _ (h.below ((Below.refl w.heap.size w).alloc (Nat.le_refl _) (.cells #[.int .i64 0, .int .i64 0] 28)) (Nat.le_refl _)) er he hp)
  clear h he hp
  go_enter Try.func69, Try.ntmps69
  go_wp2_with fail
  refine HC.out.mono ?_; rintro e w1 ⟨rfl, rfl⟩
  go_wp2
  refine bodyPost_ret (v := .tuple #[.agg #[.int .i64 0, .int .i64 0], .iface 71 (.int .i64 er)]) (by simp [results, Try.results69, go_sem]) rfl ⟨rfl, ?_⟩
  repeat (first | exact Below.refl _ _ | apply Below.drew | refine Below.setCell ?_ (by simp <;> omega) _ | refine Below.alloc ?_ (by simp <;> omega) _)
set_option maxHeartbeats 4000000 in
set_option maxRecDepth 100000 in
theorem index_in (A : Option Addr) (c : Nat) (l : List Int) (w : World) (h : Ints w w.heap.size A c l) (he : fewErr l 1000 = 0) :
    Calls Try.prog 69 #[.slice A l.length c] w fun e w' => Below w.heap.size w w' ∧
      ((tot l = 0 ∧ e = .returned (.tuple #[.agg #[.int .i64 0, .int .i64 0], .iface 71 (.int .i64 5)])) ∨
       (tot l ≠ 0 ∧ e = .returned (.tuple #[.agg #[.int .i64 (idxT l), .int .i64 (idxB l)], .nilIface]))) := by
  obtain ⟨h0, h6, hbad⟩ := few_ok he
  have HB := Lib.hid (badTo_in hbad)
  have H := Lib.hid h
  have HC := Lib.hid (echeck_yes A c l w.heap.size _ (h.below ((Below.refl w.heap.size w).alloc (Nat.le_refl _) (.cells #[.int .i64 0, .int .i64 0] 28)) (Nat.le_refl _)) he)
  have b0 : Below w.heap.size w (w.alloc (.cells #[.int .i64 0, .int .i64 0] 28)) := (Below.refl _ _).alloc (Nat.le_refl _) _
  have HW := Lib.hid (H.out.below b0 (Nat.le_refl _))
  clear h he hbad b0
  go_enter Try.func69, Try.ntmps69
  go_wp2_with fail
  refine HC.out.mono ?_; rintro e w1 ⟨rfl, rfl⟩
  go_wp2_with fail
  go_loop [5, 6, 17] (fun s q i => ∃ k : Nat, k ≤ l.length ∧ i = .int .i64 k ∧ s = .int .i64 (tot (l.take k)) ∧ q = .int .i64 (sqs (l.take k))) (fun _ _ i => l.length - (intOf i).toNat)
  case atStart => exact ⟨0, Nat.zero_le _, rfl, rfl, rfl⟩
  case round =>
    obtain ⟨k, hk, rfl, rfl, rfl⟩ := hrel
    by_cases hlt : k < l.length
    · obtain ⟨b, off, x, rfl, hbb, hc, hx, HT, HX⟩ := HW.out.elem hlt
      have h1 := tot_bound_take l 1000 HB.out k
      have h2 := HB.out x hx
      have h3 : (l.take k).length ≤ k := List.length_take_le _ _
      have h4 := sq_bd h2.1 h2.2
      have h5 := sqs_bd (l.take k) fun a ha => HB.out a (List.mem_of_mem_take ha)
      have HS : Hid (tot (l.take (k + 1)) = tot (l.take k) + x) := Lib.hid (by rw [HT.out, tot_snoc])
      have HQ : Hid (sqs (l.take (k + 1)) = sqs (l.take k) + x * x) := Lib.hid (by rw [HT.out, sqs_snoc])
      clear HT HX hx
      generalize tot (l.take k) = S at *
      generalize sqs (l.take k) = Q at *
      go_wp2
      go_round
      case rel => exact ⟨k + 1, by omega, by go_num, by rw [HS.out], by rw [HQ.out]⟩
      case measure => simp [intOf]; omega
    · obtain rfl : k = l.length := by omega
      have e1 : l.take l.length = l := List.take_length
      rw [e1]; clear e1
      have s1 := tot_bound l 1000 HB.out
      have s2 := sqs_bd l HB.out
      have HZ := Lib.hid (tot_sq l fun a ha => (HB.out a ha).1)
      have hT : Hid (idxT l = lowT (tot l * tot l) (l.length * sqs l) ∧ idxB l = lowB (tot l * tot l) (l.length * sqs l)) := Lib.hid ⟨rfl, rfl⟩
      generalize hS : tot l = S at *
      generalize sqs l = Q at *
      have HSS := Lib.hid hS; clear hS
      have m1 : 0 ≤ S * S ∧ S * S ≤ 6000 * 6000 := ⟨Int.mul_nonneg s1.1 s1.1, Int.mul_le_mul (by omega) (by omega) s1.1 (by omega)⟩
      have m2 : 0 ≤ (l.length : Int) * Q ∧ (l.length : Int) * Q ≤ 6 * 6000000 := ⟨Int.mul_nonneg (by omega) s2.1, Int.mul_le_mul (by omega) (by omega) s2.1 (by omega)⟩
      obtain ⟨m1, m3⟩ := m1
      obtain ⟨m2, m4⟩ := m2
      by_cases hz : Q = 0
      · have HE := Lib.hid (HZ.out.1 hz)
        have hz1 : (Q == 0) = true := by simp [hz]
        clear hz
        go_wp2
        refine bodyPost_ret (v := .tuple #[.agg #[.int .i64 0, .int .i64 0], .iface 71 (.int .i64 5)]) (by simp [results, Try.results69, go_sem]) rfl ⟨?_, .inl ⟨by rw [HSS.out]; exact HE.out, rfl⟩⟩
        repeat (first | exact Below.refl _ _ | apply Below.drew | refine Below.setCell ?_ (by simp <;> omega) _ | refine Below.alloc ?_ (by simp <;> omega) _)
      · have HE : Hid (S ≠ 0) := Lib.hid fun h => hz (HZ.out.2 h)
        have hz1 : (Q == 0) = false := beq_eq_false_iff_ne.2 hz
        have m5 : 0 < (l.length : Int) * Q := Int.mul_pos (by omega) (by omega)
        clear hz
        go_wp2_with fail
        refine (low_any _ _ _ (by omega) (by omega) m5 (by omega)).mono ?_; rintro e w2 ⟨rfl, hb2⟩
        have HP := Lib.hid ((Blk.new w 28 #[.int .i64 0, .int .i64 0]).below hb2 (by simp))
        obtain ⟨p0, p1, f0, f1, z0⟩ := HP.out.two
        have hbel := ((Below.refl w.heap.size w).alloc (Nat.le_refl _) (.cells #[.int .i64 0, .int .i64 0] 28)).trans (hb2.mono (by simp))
        rw [← hT.out.1, ← hT.out.2]
        generalize hvt : idxT l = vt at *
        generalize hvb : idxB l = vb at *
        have HV := Lib.hid (And.intro hvt hvb)
        clear hvt hvb
        have HBEL := Lib.hid hbel
        clear hbel hb2
        go_wp2
        refine bodyPost_ret (v := .tuple #[.agg #[.int .i64 vt, .int .i64 vb], .nilIface]) (by simp [results, Try.results69, go_sem, *]) rfl ⟨?_, .inr ⟨by rw [HSS.out]; exact HE.out, by rw [HV.out.1, HV.out.2]⟩⟩
        exact (HBEL.out.setCell (p := ⟨w.heap.size, 0, none⟩) (Nat.le_refl _) _).setCell (p := ⟨w.heap.size, 1, none⟩) (Nat.le_refl _) _
end Go.Proofs.Ytblanfaghnflkaa
