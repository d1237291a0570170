/- Several texts in one: Even, EvenGap, EvenGive, EvenLow, EvenIdx, EvenJain. -/
import Derived.Test.YtaijpiebjhhkjaaGreatDoorLibF
import Derived.Test.YtaijpiebjhhkjaaGreatDoorLibA
/- Package even: what its functions compute. -/
namespace Go.Proofs.YtaijpiebjhhkjaaGreatDoor
open Go.RowKit
attribute [local go_sem ↓] run_min_mn run_max_mx
theorem echeck1_any (n : Int) (w : World) : Calls Tryz.prog 170 (#[.int .i64 n] ++ #[]) w fun e w' => e = .returned (.bool (badTo 1000 n)) ∧ w = w' := by
  show Calls Tryz.prog 170 #[.int .i64 n] w _
  by_cases h : n < 0
  · have hb : badTo 1000 n = true := by simp [badTo, h]
    rw [hb]; clear hb
    go_enter Tryz.func170, Tryz.ntmps170
    go_wp2
    go_ret
    exact ⟨rfl, rfl⟩
  · have hd : decide (n < 0) = false := decide_eq_false h
    have hb : badTo 1000 n = decide (1000 < n) := by simp [badTo, hd]
    rw [hb]; clear hb
    go_enter Tryz.func170, Tryz.ntmps170
    go_wp2
    go_ret
    exact ⟨rfl, rfl⟩
theorem echeck1_cf (a : Array Value) (W : World) : (callFunc 170 a).run Tryz.prog W = .ok (.enter 170 a) W := by kernel_rfl
theorem echeck_all (A : Option Addr) (c : Nat) (l : List Int) (B : Nat) (w : World) (h : Ints w B A c l) :
    Calls Tryz.prog 150 #[.slice A l.length c] w fun e w' => e = .returned (errVal (fewErr l 1000)) ∧ w = w' := by
  have hm := Nat.le_trans h.le h.cap
  unfold maxLen at hm
  by_cases h0 : l.length = 0
  · have e : fewErr l 1000 = 5 := by unfold fewErr; rw [if_pos h0]
    rw [e, h0]; clear h
    go_enter Tryz.func150, Tryz.ntmps150
    go_wp2
    go_ret
    exact ⟨rfl, rfl⟩
  · have hz : ((l.length : Int) == 0) = false := beq_eq_false_iff_ne.2 (by omega)
    by_cases h6 : 6 < l.length
    · have e : fewErr l 1000 = 4 := by unfold fewErr; rw [if_neg h0, if_pos h6]
      rw [e]; clear h e
      go_enter Tryz.func150, Tryz.ntmps150
      go_wp2
      go_ret
      exact ⟨rfl, rfl⟩
    · have HC := Lib.hid (contains_any A c l B w h 170 #[] (badTo 1000) echeck1_cf fun x _ => echeck1_any x w)
      have e : fewErr l 1000 = if l.any (badTo 1000) then 1 else 0 := by unfold fewErr; rw [if_neg h0, if_neg h6]
      rw [e]; clear h e
      cases hb : l.any (badTo 1000)
      · rw [hb] at HC
        clear hb
        go_enter Tryz.func150, Tryz.ntmps150
        go_wp2_with fail
        refine HC.out.mono ?_; rintro e w' ⟨rfl, rfl⟩
        go_wp2
        go_ret
        exact ⟨rfl, rfl⟩
      · rw [hb] at HC
        clear hb
        go_enter Tryz.func150, Tryz.ntmps150
        go_wp2_with fail
        refine HC.out.mono ?_; rintro e w' ⟨rfl, rfl⟩
        go_wp2
        go_ret
        exact ⟨rfl, rfl⟩
theorem echeck_no (A : Option Addr) (c : Nat) (l : List Int) (B : Nat) (w : World) (h : Ints w B A c l) (er : Int) (he : fewErr l 1000 = er) (hp : er ≠ 0) :
    Calls Tryz.prog 150 #[.slice A l.length c] w fun e w' => e = .returned (.iface 74 (.int .i64 er)) ∧ w = w' :=
  (echeck_all A c l B w h).mono fun _ _ ⟨h1, h2⟩ => ⟨by rw [h1, he, errVal_pos hp], h2⟩
theorem echeck_yes (A : Option Addr) (c : Nat) (l : List Int) (B : Nat) (w : World) (h : Ints w B A c l) (he : fewErr l 1000 = 0) :
    Calls Tryz.prog 150 #[.slice A l.length c] w fun e w' => e = .returned .nilIface ∧ w = w' :=
  (echeck_all A c l B w h).mono fun _ _ ⟨h1, h2⟩ => ⟨by rw [h1, he, errVal_zero], h2⟩
theorem few_ok {l : List Int} {most : Int} (h : fewErr l most = 0) : 0 < l.length ∧ l.length ≤ 6 ∧ l.any (badTo most) = false := by
  unfold fewErr at h
  split at h
  · omega
  · split at h
    · omega
    · split at h
      · omega
      · rename_i h1 h2 h3
        exact ⟨by omega, by omega, by simpa using h3⟩
/-- the sum of the squares -/
def sqs (l : List Int) : Int := tot (l.map fun x => x * x)
theorem sqs_snoc (l : List Int) (x : Int) : sqs (l ++ [x]) = sqs l + x * x := by
  unfold sqs; rw [List.map_append]; simp only [List.map_cons, List.map_nil]; exact tot_snoc _ _
theorem sq_bd {x : Int} (h0 : 0 ≤ x) (h1 : x ≤ 1000) : 0 ≤ x * x ∧ x * x ≤ 1000000 :=
  ⟨Int.mul_nonneg h0 h0, Int.mul_le_mul h1 h1 h0 (by omega)⟩
theorem sqs_bd (l : List Int) (h : ∀ a ∈ l, 0 ≤ a ∧ a ≤ 1000) : 0 ≤ sqs l ∧ sqs l ≤ l.length * 1000000 := by
  have := tot_bound (l.map fun x => x * x) 1000000 fun a ha => by
    obtain ⟨x, hx, rfl⟩ := List.mem_map.1 ha
    exact sq_bd (h x hx).1 (h x hx).2
  simpa [sqs] using this
theorem tot_nonneg (l : List Int) (h : ∀ a ∈ l, 0 ≤ a) : 0 ≤ tot l := by
  induction l with
  | nil => simp [tot]
  | cons b l ih =>
    have h1 := ih fun x hx => h x (List.mem_cons_of_mem _ hx)
    have h2 := h b List.mem_cons_self
    simp only [tot]; omega
theorem sqs_nonneg (l : List Int) : 0 ≤ sqs l := tot_nonneg _ fun a ha => by
  obtain ⟨x, _, rfl⟩ := List.mem_map.1 ha
  rcases Int.le_total 0 x with h | h
  · exact Int.mul_nonneg h h
  · exact Int.mul_nonneg_of_nonpos_of_nonpos h h
theorem tot_sq (l : List Int) (h : ∀ a ∈ l, 0 ≤ a) : sqs l = 0 ↔ tot l = 0 := by
  induction l with
  | nil => simp [sqs, tot]
  | cons a l ih =>
    have ih := ih fun b hb => h b (List.mem_cons_of_mem _ hb)
    have ha := h a List.mem_cons_self
    have h1 : 0 ≤ a * a := Int.mul_nonneg ha ha
    have h2 := tot_nonneg l fun b hb => h b (List.mem_cons_of_mem _ hb)
    have h3 := sqs_nonneg l
    have e1 : sqs (a :: l) = a * a + sqs l := rfl
    have e2 : tot (a :: l) = a + tot l := rfl
    rw [e1, e2]
    constructor
    · intro hh
      have h4 : a * a = 0 := by omega
      have h5 : a = 0 := by rcases Int.mul_eq_zero.1 h4 with h | h <;> exact h
      have := ih.1 (by omega)
      omega
    · intro hh
      have h5 : a = 0 := by omega
      have := ih.2 (by omega)
      subst h5; omega
def idxErr (l : List Int) : Int := if fewErr l 1000 ≠ 0 then fewErr l 1000 else if tot l = 0 then 5 else 0
def idxT (l : List Int) : Int := lowT (tot l * tot l) (l.length * sqs l)
def idxB (l : List Int) : Int := lowB (tot l * tot l) (l.length * sqs l)
set_option maxHeartbeats 1000000 in
theorem index_err (A : Option Addr) (c : Nat) (l : List Int) (w : World) (h : Ints w w.heap.size A c l) (er : Int) (he : fewErr l 1000 = er) (hp : er ≠ 0) :
    Calls Tryz.prog 118 #[.slice A l.length c] w fun e w' => e = .returned (.tuple #[.agg #[.int .i64 0, .int .i64 0], .iface 74 (.int .i64 er)]) ∧ Below w.heap.size w w' := by
  have HC := Lib.hid (echeck_no A c l w.heap.size _ (h.below ((Below.refl w.heap.size w).alloc (Nat.le_refl _) (.cells #[.int .i64 0, .int .i64 0] 37)) (Nat.le_refl _)) er he hp)
  clear h he hp
  go_enter Tryz.func118, Tryz.ntmps118
  go_wp2_with fail
  refine HC.out.mono ?_; rintro e w1 ⟨rfl, rfl⟩
  go_wp2
  refine bodyPost_ret (v := .tuple #[.agg #[.int .i64 0, .int .i64 0], .iface 74 (.int .i64 er)]) (by simp [results, Tryz.results118, go_sem]) rfl ⟨rfl, ?_⟩
  repeat (first | exact Below.refl _ _ | apply Below.drew | refine Below.setCell ?_ (by simp <;> omega) _ | refine Below.alloc ?_ (by simp <;> omega) _)
set_option maxHeartbeats 4000000 in
set_option maxRecDepth 100000 in
theorem index_in (A : Option Addr) (c : Nat) (l : List Int) (w : World) (h : Ints w w.heap.size A c l) (he : fewErr l 1000 = 0) :
    Calls Tryz.prog 118 #[.slice A l.length c] w fun e w' => Below w.heap.size w w' ∧
      ((tot l = 0 ∧ e = .returned (.tuple #[.agg #[.int .i64 0, .int .i64 0], .iface 74 (.int .i64 5)])) ∨
       (tot l ≠ 0 ∧ e = .returned (.tuple #[.agg #[.int .i64 (idxT l), .int .i64 (idxB l)], .nilIface]))) := by
  obtain ⟨h0, h6, hbad⟩ := few_ok he
  have HB := Lib.hid (badTo_in hbad)
  have H := Lib.hid h
  have HC := Lib.hid (echeck_yes A c l w.heap.size _ (h.below ((Below.refl w.heap.size w).alloc (Nat.le_refl _) (.cells #[.int .i64 0, .int .i64 0] 37)) (Nat.le_refl _)) he)
  have b0 : Below w.heap.size w (w.alloc (.cells #[.int .i64 0, .int .i64 0] 37)) := (Below.refl _ _).alloc (Nat.le_refl _) _
  have HW := Lib.hid (H.out.below b0 (Nat.le_refl _))
  clear h he hbad b0
  go_enter Tryz.func118, Tryz.ntmps118
  go_wp2_with fail
  refine HC.out.mono ?_; rintro e w1 ⟨rfl, rfl⟩
  go_wp2_with fail
  go_loop [5, 6, 17] (fun s q i => ∃ k : Nat, k ≤ l.length ∧ i = .int .i64 k ∧ s = .int .i64 (tot (l.take k)) ∧ q = .int .i64 (sqs (l.take k))) (fun _ _ i => l.length - (intOf i).toNat)
  case atStart => exact ⟨0, Nat.zero_le _, rfl, rfl, rfl⟩
  case round =>
    obtain ⟨k, hk, rfl, rfl, rfl⟩ := hrel
    by_cases hlt : k < l.length
    · obtain ⟨b, off, x, rfl, hbb, hc, hx, HT, HX⟩ := HW.out.elem hlt
      have h1 := tot_bound_take l 1000 HB.out k
      have h2 := HB.out x hx
      have h3 : (l.take k).length ≤ k := List.length_take_le _ _
      have h4 := sq_bd h2.1 h2.2
      have h5 := sqs_bd (l.take k) fun a ha => HB.out a (List.mem_of_mem_take ha)
      have HS : Hid (tot (l.take (k + 1)) = tot (l.take k) + x) := Lib.hid (by rw [HT.out, tot_snoc])
      have HQ : Hid (sqs (l.take (k + 1)) = sqs (l.take k) + x * x) := Lib.hid (by rw [HT.out, sqs_snoc])
      clear HT HX hx
      generalize tot (l.take k) = S at *
      generalize sqs (l.take k) = Q at *
      go_wp2
      go_round
      case rel => exact ⟨k + 1, by omega, by go_num, by rw [HS.out], by rw [HQ.out]⟩
      case measure => simp [intOf]; omega
    · obtain rfl : k = l.length := by omega
      have e1 : l.take l.length = l := List.take_length
      rw [e1]; clear e1
      have s1 := tot_bound l 1000 HB.out
      have s2 := sqs_bd l HB.out
      have HZ := Lib.hid (tot_sq l fun a ha => (HB.out a ha).1)
      have hT : Hid (idxT l = lowT (tot l * tot l) (l.length * sqs l) ∧ idxB l = lowB (tot l * tot l) (l.length * sqs l)) := Lib.hid ⟨rfl, rfl⟩
      generalize hS : tot l = S at *
      generalize sqs l = Q at *
      have HSS := Lib.hid hS; clear hS
      have m1 : 0 ≤ S * S ∧ S * S ≤ 6000 * 6000 := ⟨Int.mul_nonneg s1.1 s1.1, Int.mul_le_mul (by omega) (by omega) s1.1 (by omega)⟩
      have m2 : 0 ≤ (l.length : Int) * Q ∧ (l.length : Int) * Q ≤ 6 * 6000000 := ⟨Int.mul_nonneg (by omega) s2.1, Int.mul_le_mul (by omega) (by omega) s2.1 (by omega)⟩
      obtain ⟨m1, m3⟩ := m1
      obtain ⟨m2, m4⟩ := m2
      by_cases hz : Q = 0
      · have HE := Lib.hid (HZ.out.1 hz)
        have hz1 : (Q == 0) = true := by simp [hz]
        clear hz
        go_wp2
        refine bodyPost_ret (v := .tuple #[.agg #[.int .i64 0, .int .i64 0], .iface 74 (.int .i64 5)]) (by simp [results, Tryz.results118, go_sem]) rfl ⟨?_, .inl ⟨by rw [HSS.out]; exact HE.out, rfl⟩⟩
        repeat (first | exact Below.refl _ _ | apply Below.drew | refine Below.setCell ?_ (by simp <;> omega) _ | refine Below.alloc ?_ (by simp <;> omega) _)
      · have HE : Hid (S ≠ 0) := Lib.hid fun h => hz (HZ.out.2 h)
        have hz1 : (Q == 0) = false := beq_eq_false_iff_ne.2 hz
        have m5 : 0 < (l.length : Int) * Q := Int.mul_pos (by omega) (by omega)
        clear hz
        go_wp2_with fail
        refine (low_any _ _ _ (by omega) (by omega) m5 (by omega)).mono ?_; rintro e w2 ⟨rfl, hb2⟩
        have HP := Lib.hid ((Blk.new w 37 #[.int .i64 0, .int .i64 0]).below hb2 (by simp))
        obtain ⟨p0, p1, f0, f1, z0⟩ := HP.out.two
        have hbel := ((Below.refl w.heap.size w).alloc (Nat.le_refl _) (.cells #[.int .i64 0, .int .i64 0] 37)).trans (hb2.mono (by simp))
        rw [← hT.out.1, ← hT.out.2]
        generalize hvt : idxT l = vt at *
        generalize hvb : idxB l = vb at *
        have HV := Lib.hid (And.intro hvt hvb)
        clear hvt hvb
        have HBEL := Lib.hid hbel
        clear hbel hb2
        go_wp2
        refine bodyPost_ret (v := .tuple #[.agg #[.int .i64 vt, .int .i64 vb], .nilIface]) (by simp [results, Tryz.results118, go_sem, *]) rfl ⟨?_, .inr ⟨by rw [HSS.out]; exact HE.out, by rw [HV.out.1, HV.out.2]⟩⟩
        exact (HBEL.out.setCell (p := ⟨w.heap.size, 0, none⟩) (Nat.le_refl _) _).setCell (p := ⟨w.heap.size, 1, none⟩) (Nat.le_refl _) _
end Go.Proofs.YtaijpiebjhhkjaaGreatDoor
/- slices.Max, slices.Min over ints, even.Gap. -/
namespace Go.Proofs.YtaijpiebjhhkjaaGreatDoor
open Go.RowKit
attribute [local go_sem ↓] run_min_mn run_max_mx
/-- the greatest, the least of a list that is not empty -/
def lmax (l : List Int) : Int := l.foldl max (l.headD 0)
def lmin (l : List Int) : Int := l.foldl min (l.headD 0)
theorem lmax_snoc (l : List Int) (x : Int) (h : l ≠ []) : lmax (l ++ [x]) = max (lmax l) x := by
  cases l with
  | nil => exact absurd rfl h
  | cons a l => simp [lmax]
theorem lmin_snoc (l : List Int) (x : Int) (h : l ≠ []) : lmin (l ++ [x]) = min (lmin l) x := by
  cases l with
  | nil => exact absurd rfl h
  | cons a l => simp [lmin]
theorem foldl_max (l : List Int) (a : Int) : (l.foldl max a = a ∨ l.foldl max a ∈ l) ∧ a ≤ l.foldl max a ∧ ∀ x ∈ l, x ≤ l.foldl max a := by
  induction l generalizing a with
  | nil => simp
  | cons b l ih =>
    obtain ⟨h1, h2, h3⟩ := ih (max a b)
    simp only [List.foldl_cons]
    refine ⟨?_, by omega, fun x hx => ?_⟩
    · rcases h1 with h | h
      · rcases Int.le_total a b with hab | hab
        · exact .inr (by rw [h, show max a b = b by omega]; exact List.mem_cons_self)
        · exact .inl (by rw [h]; omega)
      · exact .inr (List.mem_cons_of_mem _ h)
    · rcases List.mem_cons.1 hx with rfl | hx
      · omega
      · exact h3 x hx
theorem foldl_min (l : List Int) (a : Int) : (l.foldl min a = a ∨ l.foldl min a ∈ l) ∧ l.foldl min a ≤ a ∧ ∀ x ∈ l, l.foldl min a ≤ x := by
  induction l generalizing a with
  | nil => simp
  | cons b l ih =>
    obtain ⟨h1, h2, h3⟩ := ih (min a b)
    simp only [List.foldl_cons]
    refine ⟨?_, by omega, fun x hx => ?_⟩
    · rcases h1 with h | h
      · rcases Int.le_total a b with hab | hab
        · exact .inl (by rw [h]; omega)
        · exact .inr (by rw [h, show min a b = b by omega]; exact List.mem_cons_self)
      · exact .inr (List.mem_cons_of_mem _ h)
    · rcases List.mem_cons.1 hx with rfl | hx
      · omega
      · exact h3 x hx
theorem lmax_spec (l : List Int) (h : l ≠ []) : lmax l ∈ l ∧ ∀ x ∈ l, x ≤ lmax l := by
  cases l with
  | nil => exact absurd rfl h
  | cons a l =>
    obtain ⟨h1, h2, h3⟩ := foldl_max (a :: l) a
    refine ⟨?_, h3⟩
    show (a :: l).foldl max a ∈ a :: l
    rcases h1 with h | h
    · rw [h]; exact List.mem_cons_self
    · exact h
theorem lmin_spec (l : List Int) (h : l ≠ []) : lmin l ∈ l ∧ ∀ x ∈ l, lmin l ≤ x := by
  cases l with
  | nil => exact absurd rfl h
  | cons a l =>
    obtain ⟨h1, h2, h3⟩ := foldl_min (a :: l) a
    refine ⟨?_, h3⟩
    show (a :: l).foldl min a ∈ a :: l
    rcases h1 with h | h
    · rw [h]; exact List.mem_cons_self
    · exact h
def gapL (l : List Int) : Int := lmax l - lmin l
theorem gapL_of {l : List Int} {lo hi : Int} (h1 : lo ∈ l) (h2 : hi ∈ l) (h3 : ∀ a ∈ l, lo ≤ a ∧ a ≤ hi) : hi - lo = gapL l := by
  have hne : l ≠ [] := List.ne_nil_of_mem h1
  obtain ⟨m1, m2⟩ := lmax_spec l hne
  obtain ⟨n1, n2⟩ := lmin_spec l hne
  have := m2 hi h2; have := (h3 _ m1).2; have := n2 lo h1; have := (h3 _ n1).1
  unfold gapL; omega
end Go.Proofs.YtaijpiebjhhkjaaGreatDoor
/- even.Give: some go from one to another. -/
namespace Go.Proofs.YtaijpiebjhhkjaaGreatDoor
open Go.RowKit
attribute [local go_sem ↓] run_min_mn run_max_mx
def GiveRange (n : Nat) (f t m : Int) : Prop := 0 ≤ f ∧ f < n ∧ 0 ≤ t ∧ t < n ∧ 0 ≤ m ∧ m ≤ 1000
abbrev boxed (w : World) (A : Option Addr) (n c : Nat) : World := w.alloc (.cells #[.slice A n c] 22)
/-- some go from one place to another -/
def giveTo (l : List Int) (f t : Nat) (m : Int) : List Int := (l.set f (l.getD f 0 - m)).set t ((l.set f (l.getD f 0 - m)).getD t 0 + m)
end Go.Proofs.YtaijpiebjhhkjaaGreatDoor
/- Plain: lowest terms of numbers that are times as great; indexes and gaps of shares that are times as great. -/
namespace Go.Proofs.YtaijpiebjhhkjaaGreatDoor
open Go.RowKit
theorem low_scale (t b k : Int) (hk : 0 < k) : lowT (t * k) (b * k) = lowT t b ∧ lowB (t * k) (b * k) = lowB t b := by
  have e : ((Int.gcd (t * k) (b * k) : Nat) : Int) = Int.gcd t b * k := by
    rw [Int.gcd_mul_right, Int.natCast_mul]; congr 1; omega
  unfold lowT lowB
  rw [e]
  constructor
  · rw [Int.mul_comm t k, Int.mul_comm _ k]; exact Int.mul_tdiv_mul_of_pos _ _ hk
  · rw [Int.mul_ediv_mul_of_pos_left _ _ hk]
def scale (l : List Int) (k : Int) : List Int := l.map (· * k)
theorem tot_scale (l : List Int) (k : Int) : tot (scale l k) = tot l * k := by
  induction l with
  | nil => simp [scale, tot]
  | cons a l ih => simp only [scale, List.map_cons, tot] at *; rw [ih, Int.add_mul]
theorem sqs_scale (l : List Int) (k : Int) : sqs (scale l k) = sqs l * (k * k) := by
  induction l with
  | nil => simp [scale, sqs, tot]
  | cons a l ih =>
    have e1 : sqs (scale (a :: l) k) = a * k * (a * k) + sqs (scale l k) := rfl
    have e2 : sqs (a :: l) = a * a + sqs l := rfl
    rw [e1, e2, ih, Int.add_mul, Int.mul_assoc a k (a * k), Int.mul_assoc a a (k * k), Int.mul_left_comm k a k]
theorem idx_scale (l : List Int) (k : Int) (hk : 0 < k) : idxT (scale l k) = idxT l ∧ idxB (scale l k) = idxB l := by
  have hkk : 0 < k * k := Int.mul_pos hk hk
  have := low_scale (tot l * tot l) (l.length * sqs l) (k * k) hkk
  have e1 : tot l * k * (tot l * k) = tot l * tot l * (k * k) := by rw [Int.mul_assoc (tot l) k, Int.mul_left_comm k (tot l) k, Int.mul_assoc (tot l) (tot l)]
  have e2 : (l.length : Int) * (sqs l * (k * k)) = l.length * sqs l * (k * k) := (Int.mul_assoc _ _ _).symm
  unfold idxT idxB
  rw [tot_scale, sqs_scale, show (scale l k).length = l.length by simp [scale], e1, e2]
  exact this
theorem gap_scale (l : List Int) (k : Int) (hk : 0 < k) (hne : l ≠ []) : gapL (scale l k) = gapL l * k := by
  obtain ⟨m1, m2⟩ := lmax_spec l hne
  obtain ⟨n1, n2⟩ := lmin_spec l hne
  have : lmax l * k - lmin l * k = gapL (scale l k) := gapL_of (List.mem_map.2 ⟨_, n1, rfl⟩) (List.mem_map.2 ⟨_, m1, rfl⟩) fun a ha => by
    obtain ⟨x, hx, rfl⟩ := List.mem_map.1 ha
    exact ⟨Int.mul_le_mul_of_nonneg_right (n2 x hx) (by omega), Int.mul_le_mul_of_nonneg_right (m2 x hx) (by omega)⟩
  rw [← this, gapL, Int.sub_mul]
theorem few_scale {l : List Int} {k : Int} (h : fewErr l 1000 = 0) (hk : 0 < k) (hb : ∀ a ∈ l, a * k ≤ 1000) : fewErr (scale l k) 1000 = 0 := by
  obtain ⟨h0, h6, hbad⟩ := few_ok h
  have hin := badTo_in hbad
  have hl : (scale l k).length = l.length := by simp [scale]
  unfold fewErr
  rw [hl, if_neg (by omega), if_neg (by omega)]
  have : (scale l k).any (badTo 1000) = false := by
    cases e : (scale l k).any (badTo 1000)
    · rfl
    · obtain ⟨y, hy, hbd⟩ := List.any_eq_true.1 e
      obtain ⟨x, hx, rfl⟩ := List.mem_map.1 hy
      rw [(badTo_iff 1000 (x * k)).2 ⟨Int.mul_nonneg (hin x hx).1 (by omega), hb x hx⟩] at hbd; cases hbd
  rw [this]; rfl
theorem Ints.ofBlk {w : World} {g : Nat} {t : TypeId} {l : List Int} (h : Blk w g t (l.map (Value.int .i64)).toArray) (hl : l.length ≤ 1000) : Ints w w.heap.size (some ⟨g, 0, none⟩) l.length l :=
  ⟨⟨by simp, fun _ => ⟨g, 0, rfl, h.lt, fun j u hu => by
    rw [Nat.zero_add, h.cell j]; simpa using hu⟩⟩, Nat.le_refl _, by simp only [maxLen]; omega⟩
end Go.Proofs.YtaijpiebjhhkjaaGreatDoor
/- even.Index, Gap, Give: what they answer, as the laws ask it. -/
namespace Go.Proofs.YtaijpiebjhhkjaaGreatDoor
open Go.RowKit
theorem index_bad (A : Option Addr) (c : Nat) (l : List Int) (w : World) (h : Ints w w.heap.size A c l) (er : Int) (he : idxErr l = er) (hp : er ≠ 0) :
    Calls Tryz.prog 118 #[.slice A l.length c] w fun e w' => e = .returned (.tuple #[.agg #[.int .i64 0, .int .i64 0], .iface 74 (.int .i64 er)]) ∧ Below w.heap.size w w' := by
  unfold idxErr at he
  split at he
  · exact index_err A c l w h er he hp
  · rename_i h0
    split at he
    · subst he
      refine (index_in A c l w h (by simpa using h0)).mono ?_
      rintro e w' ⟨hb, ⟨_, rfl⟩ | ⟨h1, _⟩⟩
      · exact ⟨rfl, hb⟩
      · exact absurd (by assumption) h1
    · exact absurd he.symm hp
theorem index_ok (A : Option Addr) (c : Nat) (l : List Int) (w : World) (h : Ints w w.heap.size A c l) (he : idxErr l = 0) (vt vb : Int) (ht : idxT l = vt) (hb : idxB l = vb) :
    Calls Tryz.prog 118 #[.slice A l.length c] w fun e w' => e = .returned (.tuple #[.agg #[.int .i64 vt, .int .i64 vb], .nilIface]) ∧ Below w.heap.size w w' := by
  subst ht hb
  unfold idxErr at he
  split at he
  · rename_i h0; exact absurd he h0
  · rename_i h0
    split at he
    · omega
    · refine (index_in A c l w h (by simpa using h0)).mono ?_
      rintro e w' ⟨hb, ⟨h1, _⟩ | ⟨_, rfl⟩⟩
      · exact absurd h1 (by assumption)
      · exact ⟨rfl, hb⟩
theorem idx_parts {l : List Int} (h : idxErr l = 0) : fewErr l 1000 = 0 ∧ tot l ≠ 0 := by
  unfold idxErr at h
  split at h
  · rename_i h0; exact absurd h h0
  · rename_i h0
    split at h
    · omega
    · exact ⟨by simpa using h0, by assumption⟩
theorem index_ok' (A : Option Addr) (c n : Nat) (l : List Int) (w : World) (h : Ints w w.heap.size A c l) (he : idxErr l = 0) (vt vb : Int) (ht : idxT l = vt) (hb : idxB l = vb) (hn : n = l.length) :
    Calls Tryz.prog 118 #[.slice A n c] w fun e w' => e = .returned (.tuple #[.agg #[.int .i64 vt, .int .i64 vb], .nilIface]) ∧ Below w.heap.size w w' := by
  subst hn; exact index_ok A c l w h he vt vb ht hb
end Go.Proofs.YtaijpiebjhhkjaaGreatDoor
/- Plain: Jain's index lies between one by how many and 1, 1 just if all are alike; what a richer one gives a poorer one makes it no less. -/
namespace Go.Proofs.YtaijpiebjhhkjaaGreatDoor
open Go.RowKit
theorem sq_nn (x : Int) : 0 ≤ x * x := by
  rcases Int.le_total 0 x with h | h
  · exact Int.mul_nonneg h h
  · exact Int.mul_nonneg_of_nonpos_of_nonpos h h
theorem low_spec (t b : Int) (hb : 0 < b) : ∃ g : Int, 0 < g ∧ lowT t b * g = t ∧ lowB t b * g = b ∧ Int.gcd (lowT t b) (lowB t b) = 1 ∧ 0 < lowB t b := by
  have hg := gcd_pos_of t b hb
  have e1 : lowT t b * (Int.gcd t b) = t := Int.tdiv_mul_cancel (Int.gcd_dvd_left ..)
  have e2 : lowB t b * (Int.gcd t b) = b := Int.ediv_mul_cancel (Int.gcd_dvd_right ..)
  refine ⟨Int.gcd t b, by omega, e1, e2, ?_, ?_⟩
  · unfold lowT lowB
    rw [Int.tdiv_eq_ediv_of_dvd (Int.gcd_dvd_left ..)]
    exact Int.gcd_ediv_gcd_ediv_gcd hg
  · rcases Int.lt_or_le 0 (lowB t b) with h | h
    · exact h
    · have : lowB t b * (Int.gcd t b) ≤ 0 := Int.mul_nonpos_of_nonpos_of_nonneg h (by omega)
      omega
theorem low_err (t b : Int) (ht0 : -1000000000 ≤ t) (ht1 : t ≤ 1000000000) (hb : 0 < b) (hb1 : b ≤ 100000000) : fracErr (lowT t b) (lowB t b) = 0 := by
  obtain ⟨g, hg, e1, e2, e3, e4⟩ := low_spec t b hb
  have l1 := abs_tdiv_le t (Int.gcd t b)
  have l2 : lowB t b ≤ b := Int.ediv_le_self _ (by omega)
  have l3 : -(t.natAbs : Int) ≤ lowT t b ∧ lowT t b ≤ t.natAbs := l1
  unfold fracErr
  rw [if_neg, if_neg]
  · rw [e3]; simp
  · intro h; exact h ⟨by omega, by omega, by omega, by omega⟩
theorem low_cmp (t b u c : Int) (hb : 0 < b) (hc : 0 < c) : (lowT t b * lowB u c ≤ lowT u c * lowB t b ↔ t * c ≤ u * b) ∧ (lowT u c * lowB t b ≤ lowT t b * lowB u c ↔ u * b ≤ t * c) := by
  obtain ⟨g, hg, e1, e2, _, _⟩ := low_spec t b hb
  obtain ⟨k, hk, f1, f2, _, _⟩ := low_spec u c hc
  have hgk : 0 < g * k := Int.mul_pos hg hk
  have x1 : lowT t b * lowB u c * (g * k) = t * c := by
    rw [show lowT t b * lowB u c * (g * k) = (lowT t b * g) * (lowB u c * k) by grind, e1, f2]
  have x2 : lowT u c * lowB t b * (g * k) = u * b := by
    rw [show lowT u c * lowB t b * (g * k) = (lowT u c * k) * (lowB t b * g) by grind, f1, e2]
  rw [← x1, ← x2]
  exact ⟨⟨fun h => Int.mul_le_mul_of_nonneg_right h (by omega), fun h => Int.le_of_mul_le_mul_right h hgk⟩, ⟨fun h => Int.mul_le_mul_of_nonneg_right h (by omega), fun h => Int.le_of_mul_le_mul_right h hgk⟩⟩
def dev (a : Int) (l : List Int) : Int := tot (l.map fun x => (a - x) * (a - x))
def vari (l : List Int) : Int := l.length * sqs l - tot l * tot l
theorem dev_eq (a : Int) (l : List Int) : dev a l = l.length * a * a - 2 * a * tot l + sqs l := by
  induction l with
  | nil => simp [dev, tot, sqs]
  | cons x l ih =>
    have e1 : dev a (x :: l) = (a - x) * (a - x) + dev a l := rfl
    have e2 : tot (x :: l) = x + tot l := rfl
    have e3 : sqs (x :: l) = x * x + sqs l := rfl
    have e4 : ((x :: l).length : Int) = l.length + 1 := by simp
    rw [e1, e2, e3, e4, ih]; grind
theorem vari_cons (a : Int) (l : List Int) : vari (a :: l) = vari l + dev a l := by
  have e2 : tot (a :: l) = a + tot l := rfl
  have e3 : sqs (a :: l) = a * a + sqs l := rfl
  have e4 : ((a :: l).length : Int) = l.length + 1 := by simp
  rw [dev_eq]; unfold vari; rw [e2, e3, e4]; grind
theorem dev_nn (a : Int) (l : List Int) : 0 ≤ dev a l := tot_nonneg _ fun y hy => by
  obtain ⟨x, _, rfl⟩ := List.mem_map.1 hy
  exact sq_nn _
theorem dev_zero (a : Int) (l : List Int) (h : dev a l = 0) : ∀ x ∈ l, x = a := by
  induction l with
  | nil => simp
  | cons y l ih =>
    have e1 : dev a (y :: l) = (a - y) * (a - y) + dev a l := rfl
    have h1 := sq_nn (a - y)
    have h2 := dev_nn a l
    intro x hx
    rcases List.mem_cons.1 hx with rfl | hx
    · have : (a - x) * (a - x) = 0 := by omega
      rcases Int.mul_eq_zero.1 this with h | h <;> omega
    · exact ih (by omega) x hx
theorem vari_nn (l : List Int) : 0 ≤ vari l := by
  induction l with
  | nil => simp [vari, tot, sqs]
  | cons a l ih => have := dev_nn a l; rw [vari_cons]; omega
theorem vari_zero (l : List Int) : vari l = 0 ↔ ∀ x ∈ l, ∀ y ∈ l, x = y := by
  induction l with
  | nil => simp [vari, tot, sqs]
  | cons a l ih =>
    have h1 := vari_nn l
    have h2 := dev_nn a l
    rw [vari_cons]
    constructor
    · intro h
      have hd := dev_zero a l (by omega)
      intro x hx y hy
      have hx' : x = a := by rcases List.mem_cons.1 hx with h | h; exact h; exact hd x h
      have hy' : y = a := by rcases List.mem_cons.1 hy with h | h; exact h; exact hd y h
      rw [hx', hy']
    · intro h
      have v0 := ih.2 fun x hx y hy => h x (List.mem_cons_of_mem _ hx) y (List.mem_cons_of_mem _ hy)
      have d0 : dev a l = 0 := by
        unfold dev
        have : ∀ y ∈ l.map (fun x => (a - x) * (a - x)), y = 0 := fun y hy => by
          obtain ⟨x, hx, rfl⟩ := List.mem_map.1 hy
          rw [h x (List.mem_cons_of_mem _ hx) a List.mem_cons_self]; simp
        generalize l.map (fun x => (a - x) * (a - x)) = m at this
        induction m with
        | nil => rfl
        | cons b m ihm =>
          have e : tot (b :: m) = b + tot m := rfl
          rw [e, this b List.mem_cons_self, ihm fun y hy => this y (List.mem_cons_of_mem _ hy)]; rfl
      omega
theorem sqs_le (l : List Int) (h : ∀ a ∈ l, 0 ≤ a) : sqs l ≤ tot l * tot l := by
  induction l with
  | nil => simp [sqs, tot]
  | cons a l ih =>
    have h1 := ih fun b hb => h b (List.mem_cons_of_mem _ hb)
    have h2 := h a List.mem_cons_self
    have h3 := tot_nonneg l fun b hb => h b (List.mem_cons_of_mem _ hb)
    have h4 := Int.mul_nonneg h2 h3
    have e2 : tot (a :: l) = a + tot l := rfl
    have e3 : sqs (a :: l) = a * a + sqs l := rfl
    rw [e2, e3]; grind
theorem gap_zero (l : List Int) (hne : l ≠ []) : gapL l = 0 ↔ ∀ x ∈ l, ∀ y ∈ l, x = y := by
  obtain ⟨m1, m2⟩ := lmax_spec l hne
  obtain ⟨n1, n2⟩ := lmin_spec l hne
  unfold gapL
  constructor
  · intro h x hx y hy
    have := m2 x hx; have := n2 x hx; have := m2 y hy; have := n2 y hy
    omega
  · intro h
    have := h _ m1 _ n1
    omega
theorem cmp_le {x y : Int} : cmpI x y ≤ 0 ↔ x ≤ y := by unfold cmpI; split <;> (try split) <;> omega
theorem cmp_zero {x y : Int} : cmpI x y = 0 ↔ x = y := by unfold cmpI; split <;> (try split) <;> omega
theorem tot_set (l : List Int) (i : Nat) (v : Int) (h : i < l.length) : tot (l.set i v) = tot l - l.getD i 0 + v := by
  induction l generalizing i with
  | nil => simp at h
  | cons a l ih =>
    cases i with
    | zero => simp [tot]; omega
    | succ i =>
      have := ih i (by simpa using h)
      simp only [List.set_cons_succ, tot, List.getD_cons_succ]; omega
theorem sqs_set (l : List Int) (i : Nat) (v : Int) (h : i < l.length) : sqs (l.set i v) = sqs l - l.getD i 0 * l.getD i 0 + v * v := by
  induction l generalizing i with
  | nil => simp at h
  | cons a l ih =>
    have e3 : ∀ (b : Int) (m : List Int), sqs (b :: m) = b * b + sqs m := fun _ _ => rfl
    cases i with
    | zero => simp only [List.set_cons_zero, List.getD_cons_zero, e3]; omega
    | succ i =>
      have := ih i (by simpa using h)
      simp only [List.set_cons_succ, List.getD_cons_succ, e3]; omega
/-- what is given leaves the sum, and no greater squares, and no wider gap -/
theorem give_laws (l : List Int) (f t : Nat) (m : Int) (hf : f < l.length) (ht : t < l.length) (m0 : 0 ≤ m) (hm : 2 * m ≤ l.getD f 0 - l.getD t 0) :
    (giveTo l f t m).length = l.length ∧ tot (giveTo l f t m) = tot l ∧ sqs (giveTo l f t m) ≤ sqs l ∧ (∀ x ∈ giveTo l f t m, lmin l ≤ x ∧ x ≤ lmax l) := by
  have hne : l ≠ [] := by intro h; rw [h] at hf; simp at hf
  obtain ⟨q1, q2⟩ := lmax_spec l hne
  obtain ⟨r1, r2⟩ := lmin_spec l hne
  have a1 := q2 _ (getD_mem l f hf); have a2 := r2 _ (getD_mem l f hf)
  have b1 := q2 _ (getD_mem l t ht); have b2 := r2 _ (getD_mem l t ht)
  by_cases hft : f = t
  · subst hft
    have hm' : m = 0 := by omega
    subst hm'
    have e : giveTo l f f 0 = l := by
      unfold giveTo
      have h1 : l.set f (l.getD f 0 - 0) = l := by
        rw [Int.sub_zero]
        apply List.ext_getElem?
        intro i
        rw [List.getElem?_set]
        split
        · rename_i h; subst h; rw [getD_some l f hf]
        · rfl
      rw [h1, Int.add_zero]
      rw [Int.sub_zero] at h1; exact h1
    rw [e]
    exact ⟨rfl, rfl, Int.le_refl _, fun x hx => ⟨r2 x hx, q2 x hx⟩⟩
  · have hg : (l.set f (l.getD f 0 - m)).getD t 0 = l.getD t 0 := by
      simp [List.getD_eq_getElem?_getD, hft]
    unfold giveTo
    rw [hg]
    refine ⟨by simp, ?_, ?_, ?_⟩
    · rw [tot_set _ _ _ (by simpa using ht), tot_set _ _ _ hf, hg]; omega
    · rw [sqs_set _ _ _ (by simpa using ht), sqs_set _ _ _ hf, hg]
      generalize l.getD f 0 = a at *
      generalize l.getD t 0 = b at *
      have : 0 ≤ m * (a - b - m) := Int.mul_nonneg m0 (by omega)
      grind
    · intro x hx
      rcases List.mem_or_eq_of_mem_set hx with h | h
      · rcases List.mem_or_eq_of_mem_set h with h | h
        · exact ⟨r2 x h, q2 x h⟩
        · omega
      · omega
end Go.Proofs.YtaijpiebjhhkjaaGreatDoor
