/- Several texts in one: PlSref, SCut. -/
import Derived.Test.YtaijpiebjhhkjaaGreatDoorLibT
import Derived.Test.YtaijpiebjhhkjaaGreatDoorLibY
import Derived.Test.YtaijpiebjhhkjaaGreatDoorLibP
import Derived.Test.YtaijpiebjhhkjaaGreatDoorLibB
/- Plain: what run's references do: a number of a word, a text cut, the least of some. -/
namespace Go.Proofs.YtaijpiebjhhkjaaGreatDoor
open Go.RowKit
theorem cut_step {c y : UInt8} {m w : List UInt8} {r : List (List UInt8)} (hy : ¬ y = c) (h : RN.cutAt c m = w :: r) : RN.cutAt c (y :: m) = (y :: w) :: r := by
  rw [RN.cutAt, if_neg hy, h]
theorem cut_snoc {c : UInt8} : ∀ {l : List UInt8} {A : List (List UInt8)} {b : List UInt8}, RN.cutAt c l = A ++ [b] → ∀ x, RN.cutAt c (l ++ [x]) = if x = c then A ++ [b, []] else A ++ [b ++ [x]]
  | [], A, b, h, x => by
    have hA : A = [] ∧ b = [] := by
      cases A with
      | nil => simpa [RN.cutAt] using h.symm
      | cons a A =>
        have := congrArg List.length h
        simp [RN.cutAt] at this
    obtain ⟨rfl, rfl⟩ := hA
    by_cases hx : x = c
    · rw [if_pos hx]; simp [RN.cutAt, hx]
    · rw [if_neg hx]; simp [RN.cutAt, hx]
  | y :: l, A, b, h, x => by
    obtain ⟨A', b', h'⟩ : ∃ A' b', RN.cutAt c l = A' ++ [b'] := ⟨_, _, (List.dropLast_concat_getLast (RN.cutAt_ne c l)).symm⟩
    have ih := cut_snoc h' x
    rw [List.cons_append]
    by_cases hy : y = c
    · have e1 : RN.cutAt c (y :: l) = [] :: RN.cutAt c l := by rw [RN.cutAt, if_pos hy]
      have e2 : RN.cutAt c (y :: (l ++ [x])) = [] :: RN.cutAt c (l ++ [x]) := by rw [RN.cutAt, if_pos hy]
      rw [e1, h'] at h
      have hh : A = [] :: A' ∧ b = b' := by
        have h2 : ([] :: A') ++ [b'] = A ++ [b] := h
        obtain ⟨q1, q2⟩ := List.append_inj' h2 rfl
        exact ⟨q1.symm, by injection q2 with q2; exact q2.symm⟩
      obtain ⟨rfl, rfl⟩ := hh
      rw [e2, ih]
      split <;> rfl
    · cases A' with
      | nil =>
        rw [cut_step hy h'] at h
        have h2 : [] ++ [y :: b'] = A ++ [b] := h
        obtain ⟨q1, q2⟩ := List.append_inj' h2 rfl
        injection q2 with q2
        rw [← q1, ← q2]
        by_cases hx : x = c
        · rw [if_pos hx] at ih ⊢
          rw [cut_step hy ih]; rfl
        · rw [if_neg hx] at ih ⊢
          rw [cut_step hy ih]; rfl
      | cons a A' =>
        rw [cut_step hy h'] at h
        have h2 : ((y :: a) :: A') ++ [b'] = A ++ [b] := h
        obtain ⟨q1, q2⟩ := List.append_inj' h2 rfl
        injection q2 with q2
        rw [← q1, ← q2]
        by_cases hx : x = c
        · rw [if_pos hx] at ih ⊢
          rw [cut_step hy ih]; rfl
        · rw [if_neg hx] at ih ⊢
          rw [cut_step hy ih]; rfl
/-- digits -/
abbrev isDig (c : UInt8) : Bool := decide (48 ≤ c.toNat ∧ c.toNat ≤ 57)
def digV (l : List UInt8) : Nat := l.foldl (fun a c => a * 10 + (c.toNat - 48)) 0
theorem digV_snoc (l : List UInt8) (c : UInt8) : digV (l ++ [c]) = digV l * 10 + (c.toNat - 48) := by simp [digV]
def refNum (l : List UInt8) : Option Nat := if l = [] ∨ 4 < l.length ∨ (l.head? = some 48 ∧ 1 < l.length) then none else if l.all isDig = true then some (digV l) else none
theorem dig_back {a : UInt8} (h : isDig a = true) : UInt8.ofNat (48 + (a.toNat - 48)) = a := by
  have := of_decide_eq_true h
  apply UInt8.toNat_inj.1
  rw [RN.dig_nat (by omega)]
  omega
theorem dig_is {i : Nat} (h : i < 10) : isDig (UInt8.ofNat (48 + i)) = true := by
  refine decide_eq_true ?_
  rw [RN.dig_nat h]
  omega
theorem dig_ne {i : Nat} (h : i < 10) (h0 : i ≠ 0) : UInt8.ofNat (48 + i) ≠ 48 := fun e => by
  have := congrArg UInt8.toNat e
  rw [RN.dig_nat h] at this
  have h48 : (48 : UInt8).toNat = 48 := rfl
  omega
theorem refNum_of {n : Nat} (h : n < 10000) : refNum (Lib.decDigits n) = some n := by
  have key : ∀ l : List UInt8, l ≠ [] → l.length ≤ 4 → (1 < l.length → l.head? ≠ some 48) → l.all isDig = true → digV l = n → refNum l = some n := by
    intro l h0 h1 h2 h3 h4
    unfold refNum
    rw [if_neg (by rintro (e | e | ⟨e1, e2⟩); exact h0 e; omega; exact h2 e2 e1), if_pos h3, h4]
  have hv : ∀ i, i < 10 → (UInt8.ofNat (48 + i)).toNat - 48 = i := fun i hi => by rw [RN.dig_nat hi]; omega
  rcases RN.dec_four h with ⟨h1, e⟩ | ⟨h1, h2, e⟩ | ⟨h1, h2, e⟩ | ⟨h1, e⟩
  · rw [e]
    refine key _ (by simp) (by simp) (by simp) (by simp only [List.all_cons, List.all_nil, dig_is h1]; rfl) ?_
    simp only [digV, List.foldl_cons, List.foldl_nil, hv n h1]; omega
  · rw [e]
    have d1 : n / 10 < 10 := by omega
    have d2 : n % 10 < 10 := by omega
    refine key _ (by simp) (by simp) (fun _ q => dig_ne d1 (by omega) (by simpa using q)) (by simp only [List.all_cons, List.all_nil, dig_is d1, dig_is d2]; rfl) ?_
    simp only [digV, List.foldl_cons, List.foldl_nil, hv _ d1, hv _ d2]; omega
  · rw [e]
    have d1 : n / 100 < 10 := by omega
    have d2 : n / 10 % 10 < 10 := by omega
    have d3 : n % 10 < 10 := by omega
    refine key _ (by simp) (by simp) (fun _ q => dig_ne d1 (by omega) (by simpa using q)) (by simp only [List.all_cons, List.all_nil, dig_is d1, dig_is d2, dig_is d3]; rfl) ?_
    simp only [digV, List.foldl_cons, List.foldl_nil, hv _ d1, hv _ d2, hv _ d3]; omega
  · rw [e]
    have d1 : n / 1000 < 10 := by omega
    have d2 : n / 100 % 10 < 10 := by omega
    have d3 : n / 10 % 10 < 10 := by omega
    have d4 : n % 10 < 10 := by omega
    refine key _ (by simp) (by simp) (fun _ q => dig_ne d1 (by omega) (by simpa using q)) (by simp only [List.all_cons, List.all_nil, dig_is d1, dig_is d2, dig_is d3, dig_is d4]; rfl) ?_
    simp only [digV, List.foldl_cons, List.foldl_nil, hv _ d1, hv _ d2, hv _ d3, hv _ d4]; omega
theorem refNum_back {l : List UInt8} {n : Nat} (h : refNum l = some n) : n < 10000 ∧ Lib.decDigits n = l := by
  unfold refNum at h
  split at h
  · cases h
  · rename_i hc
    split at h
    · rename_i hd
      injection h with h
      have hne : ∀ a r, l = a :: r → 0 < r.length → a.toNat ≠ 48 := fun a r e hr e2 => hc (.inr (.inr ⟨by rw [e]; simp; exact UInt8.toNat_inj.1 e2, by rw [e]; simp; exact hr⟩))
      have hl4 : l.length ≤ 4 := Nat.not_lt.1 fun e => hc (.inr (.inl e))
      have hl0 : l ≠ [] := fun e => hc (.inl e)
      clear hc
      have hdd : ∀ a ∈ l, 48 ≤ a.toNat ∧ a.toNat ≤ 57 := fun a ha => of_decide_eq_true (List.all_eq_true.1 hd a ha)
      have back : ∀ (a : UInt8) (i : Nat), i < 10 → a.toNat = 48 + i → UInt8.ofNat (48 + i) = a := fun a i hi e => UInt8.toNat_inj.1 (by rw [RN.dig_nat hi, e])
      match l, hl0, hl4 with
      | [a], _, _ =>
        have ha := hdd a (by simp)
        simp only [digV, List.foldl_cons, List.foldl_nil] at h
        have hn : n < 10 := by omega
        refine ⟨by omega, ?_⟩
        rw [Lib.decDigits_one hn, back a n hn (by omega)]
      | [a, b], _, _ =>
        have ha := hdd a (by simp); have hb := hdd b (by simp)
        have h48 := hne a [b] rfl (by simp)
        simp only [digV, List.foldl_cons, List.foldl_nil] at h
        have hn : n < 100 := by omega
        refine ⟨by omega, ?_⟩
        rw [Lib.decDigits_two (by omega) hn, back a (n / 10) (by omega) (by omega), back b (n % 10) (by omega) (by omega)]
      | [a, b, c], _, _ =>
        have ha := hdd a (by simp); have hb := hdd b (by simp); have hc := hdd c (by simp)
        have h48 := hne a [b, c] rfl (by simp)
        simp only [digV, List.foldl_cons, List.foldl_nil] at h
        have hn : n < 1000 := by omega
        refine ⟨by omega, ?_⟩
        rcases RN.dec_four (n := n) (by omega) with ⟨h1, e⟩ | ⟨h1, h2, e⟩ | ⟨h1, h2, e⟩ | ⟨h1, e⟩
        · omega
        · omega
        · rw [e, back a (n / 100) (by omega) (by omega), back b (n / 10 % 10) (by omega) (by omega), back c (n % 10) (by omega) (by omega)]
        · omega
      | [a, b, c, d], _, _ =>
        have ha := hdd a (by simp); have hb := hdd b (by simp); have hc := hdd c (by simp); have hd := hdd d (by simp)
        have h48 := hne a [b, c, d] rfl (by simp)
        simp only [digV, List.foldl_cons, List.foldl_nil] at h
        refine ⟨by omega, ?_⟩
        rcases RN.dec_four (n := n) (by omega) with ⟨h1, e⟩ | ⟨h1, h2, e⟩ | ⟨h1, h2, e⟩ | ⟨h1, e⟩
        · omega
        · omega
        · omega
        · rw [e, back a (n / 1000) (by omega) (by omega), back b (n / 100 % 10) (by omega) (by omega), back c (n / 10 % 10) (by omega) (by omega), back d (n % 10) (by omega) (by omega)]
      | _ :: _ :: _ :: _ :: _ :: _, _, h5 => simp at h5
    · cases h
theorem num_ref (l : List UInt8) : RN.num l = refNum l := by
  cases h : refNum l with
  | some n => exact RN.num_some.2 (refNum_back h)
  | none =>
    cases h2 : RN.num l with
    | none => rfl
    | some n =>
      obtain ⟨h3, h4⟩ := RN.num_some.1 h2
      rw [← h4, refNum_of h3] at h
      cases h
/-- the least of some -/
theorem least_is {R : List Rat} {b : Rat} (hb : b ∈ R) (hle : ∀ q ∈ R, b ≤ q) : (MM.srt R).headD 0 = b := by
  have hu := MM.up_srt R
  have hp := MM.perm_srt R
  cases hs : MM.srt R with
  | nil =>
    have := hp.mem_iff.2 hb
    rw [hs] at this
    cases this
  | cons a l =>
    rw [hs] at hu hp
    have h1 : b ≤ a := hle a (hp.mem_iff.1 List.mem_cons_self)
    have h2 : a ≤ b := by
      rcases List.mem_cons.1 (hp.mem_iff.2 hb) with e | e
      · rw [e]; exact Rat.le_refl
      · exact (List.pairwise_cons.1 hu).1 b e
    exact Rat.le_antisymm h2 h1
end Go.Proofs.YtaijpiebjhhkjaaGreatDoor
/- fairref2: Cut, number. -/
namespace Go.Proofs.YtaijpiebjhhkjaaGreatDoor
open Go.RowKit
theorem bytes_sub (s : ByteArray) (f k : Nat) (h : k ≤ s.size) : (s.extract f k).data.toList = (s.data.toList.take k).drop f := by
  have h1 : s.extract f k = (s.extract 0 k).extract f (s.extract 0 k).size := by
    apply ByteArray.ext
    simp [Nat.min_eq_left h]
  rw [h1, bytes_drop, bytes_take]
theorem wordsOf_snoc (T : List ByteArray) (x : ByteArray) : wordsOf (T ++ [x]) = wordsOf T ++ [x.data.toList] := by simp [wordsOf]
theorem byte_at {s : ByteArray} {k : Nat} (h : k < s.size) : s.data.toList[k]? = some s[k] := by
  rw [List.getElem?_eq_getElem (by rw [bytes_len]; exact h)]
  rfl
theorem byte_take {s : ByteArray} {k : Nat} (h : k < s.size) : s.data.toList.take (k + 1) = s.data.toList.take k ++ [s[k]] := by
  rw [List.take_add_one, byte_at h]; rfl
set_option maxHeartbeats 4000000 in
set_option maxRecDepth 100000 in
theorem cutS_any (s : ByteArray) (c : UInt8) (cv : Int) (hc : cv = c.toNat) (w : World) (hs : s.size ≤ 100000) :
    Calls Tryz.prog 27 #[.string s, .int .u8 cv] w fun e w' => ∃ (S : List ByteArray) (A : Option Addr) (c' : Nat), e = .returned (.slice A S.length c') ∧ wordsOf S = RN.cutAt c s.data.toList ∧ Strs w' w'.heap.size A c' S ∧ Below w.heap.size w w' := by
  go_enter Tryz.func27, Tryz.ntmps27
  go_wp2
  go_loopw [5, 6, 7] (fun v5 v6 v7 wr => ∃ (k f : Nat) (T : List ByteArray), k ≤ s.size ∧ f ≤ k ∧ T.length ≤ k ∧ v7 = .int .i64 k ∧ v6 = .int .i64 f ∧ Hid (RN.cutAt c (s.data.toList.take k) = wordsOf T ++ [(s.data.toList.take k).drop f]) ∧ Hid (wr.ownsRow w.heap.size 9 1 v5 T.length (T.map Value.string)) ∧ Hid (Below w.heap.size w wr)) (fun _ _ v7 _ => s.size - (intOf v7).toNat)
  case atStart => exact ⟨0, 0, [], Nat.zero_le _, Nat.le_refl _, Nat.le_refl _, rfl, rfl, Lib.hid rfl, Lib.hid (World.ownsRow_nil _ _ _ _), Lib.hid (Below.refl _ _)⟩
  case round =>
    obtain ⟨k, f, T, hk, hf, hT, rfl, rfl, HT, HO, HB⟩ := hrel
    by_cases hlt : k < s.size
    · have htk := byte_take hlt
      have hsn := cut_snoc HT.out s[k]
      rw [← htk] at hsn
      have hi0 : (0 : Int) ≤ (k : Int) ∧ (k : Int) < (s.size : Int) := by omega
      have hBz := HB.out.size
      by_cases hx : s[k] = c
      · have HN : Hid (RN.cutAt c (s.data.toList.take (k + 1)) = wordsOf (T ++ [s.extract f k]) ++ [(s.data.toList.take (k + 1)).drop (k + 1)]) := Lib.hid (by
          rw [hsn, if_pos hx, wordsOf_snoc, List.append_assoc, bytes_sub s f k (by omega), List.drop_of_length_le (l := s.data.toList.take (k + 1)) (by rw [List.length_take]; omega)]
          rfl)
        have d0 : (((s[k]).toNat : Int) == cv) = true := by rw [hc, hx]; exact beq_self_eq_true _
        clear hsn htk hx
        go_wp2_with (at_builtin; refine wpList_push wr _ rfl (.tmp 19) (.tmp 24) 54 rfl w.heap.size 9 (.string ByteArray.empty) 1 16 Tryz.underlying54 Tryz.info_string rfl (by omega) _ _ _ rfl HO.out rfl rfl (by simp [Value.oneCell']) (by omega) (by omega) hBz ?_; intro v3 w3 hown3 hg3)
        have HB3 := Lib.hid (below_push HB.out HO.out hg3 (Nat.le_refl _) hBz)
        have HO3 : Hid (w3.ownsRow w.heap.size 9 1 v3 (T ++ [s.extract f k]).length ((T ++ [s.extract f k]).map Value.string)) := Lib.hid (by simpa using hown3)
        clear hown3 hg3
        go_roundw
        case rel => exact ⟨_, _, _, ⟨k + 1, by omega, k + 1, by omega, T ++ [s.extract f k], by simp; omega, rfl, rfl, HN, HO3, HB3⟩, rfl, by go_num, by go_num⟩
        case measure => (simp [intOf] <;> omega)
      · have HN : Hid (RN.cutAt c (s.data.toList.take (k + 1)) = wordsOf T ++ [(s.data.toList.take (k + 1)).drop f]) := Lib.hid (by
          rw [hsn, if_neg hx, htk, List.drop_append_of_le_length (by rw [List.length_take, bytes_len]; omega)])
        have d0 : (((s[k]).toNat : Int) == cv) = false := beq_eq_false_iff_ne.2 (fun e => hx (UInt8.toNat_inj.1 (by rw [hc] at e; omega)))
        clear hsn htk hx
        go_wp2
        go_roundw
        case rel => exact ⟨k + 1, f, T, by omega, by omega, by omega, by go_num, rfl, HN, HO, HB⟩
        case measure => (simp [intOf] <;> omega)
    · have hks : k = s.size := by omega
      have hall : s.data.toList.take k = s.data.toList := List.take_of_length_le (by rw [bytes_len]; omega)
      have HN : Hid (RN.cutAt c s.data.toList = wordsOf (T ++ [s.extract f s.size])) := Lib.hid (by
        have := HT.out
        rw [hall] at this
        rw [this, wordsOf_snoc, bytes_drop])
      have hBz := HB.out.size
      have d0 : decide (k < s.size) = false := decide_eq_false hlt
      have hfs : (f : Int) ≤ (s.size : Int) := by omega
      clear hall hks
      go_wp2_with (at_builtin; refine wpList_push wr _ rfl (.tmp 28) (.tmp 32) 54 rfl w.heap.size 9 (.string ByteArray.empty) 1 16 Tryz.underlying54 Tryz.info_string rfl (by omega) _ _ _ rfl HO.out rfl rfl (by simp [Value.oneCell']) (by omega) (by omega) hBz ?_; intro v3 w3 hown3 hg3)
      have HB3 := Lib.hid (below_push HB.out HO.out hg3 (Nat.le_refl _) hBz)
      have HO3 : Hid (w3.ownsRow w.heap.size 9 1 v3 (T ++ [s.extract f s.size]).length ((T ++ [s.extract f s.size]).map Value.string)) := Lib.hid (by simpa using hown3)
      clear hown3 hg3
      obtain ⟨A', c', rfl, _, hst⟩ := owns_strs HO3.out
      have HST := Lib.hid hst
      clear hst
      go_wp2
      go_ret
      exact ⟨T ++ [s.extract f s.size], A', c', by rw [List.length_append]; rfl, HN.out.symm, HST.out, HB3.out⟩
theorem digV_lt : ∀ {l : List UInt8}, l.all isDig = true → digV l < 10 ^ l.length := by
  have key : ∀ (l : List UInt8) (a m : Nat), l.all isDig = true → a < m → l.foldl (fun a c => a * 10 + (c.toNat - 48)) a < m * 10 ^ l.length := by
    intro l
    induction l with
    | nil => intro a m _ h; simpa using h
    | cons c l ih =>
      intro a m h ha
      rw [List.all_cons, Bool.and_eq_true] at h
      have hc := of_decide_eq_true h.1
      have := ih (a * 10 + (c.toNat - 48)) (m * 10) h.2 (by omega)
      rw [List.foldl_cons, List.length_cons, Nat.pow_succ, Nat.mul_comm (10 ^ l.length), ← Nat.mul_assoc]
      exact this
  intro l h
  have := key l 0 1 h (by omega)
  rwa [Nat.one_mul] at this
set_option maxHeartbeats 4000000 in
set_option maxRecDepth 100000 in
theorem numberS_any (s : ByteArray) (w : World) (hs : s.size ≤ 1000000) :
    Calls Tryz.prog 57 #[.string s] w fun e w' => ∃ v, e = .returned (.tuple #[.int .i64 v, .bool (RN.num s.data.toList).isSome]) ∧ (∀ n : Nat, RN.num s.data.toList = some n → v = n) ∧ Below w.heap.size w w' := by
  have hnum : RN.num s.data.toList = refNum s.data.toList := num_ref _
  rw [hnum]
  clear hnum
  obtain ⟨o, ho⟩ : ∃ o, o = refNum s.data.toList := ⟨_, rfl⟩
  rw [← ho]
  by_cases h0 : s = ⟨#[]⟩
  · subst h0
    have HO : Hid (o = none) := Lib.hid (by rw [ho]; decide)
    clear ho hs
    go_enter Tryz.func57, Tryz.ntmps57
    go_wp2
    go_ret2
    exact ⟨0, by rw [HO.out]; rfl, fun n h => (by rw [HO.out] at h; cases h), Below.refl _ _⟩
  · have hs0 : 0 < s.size := by
      apply Nat.pos_of_ne_zero
      intro e
      exact h0 (ByteArray.ext (Array.eq_empty_of_size_eq_zero e))
    have hne : s.data.toList ≠ [] := fun e => by have := congrArg List.length e; rw [bytes_len, List.length_nil] at this; omega
    have b0 : s.toList.isEmpty = false := by
      rw [ByteArray.toList_eq]
      cases h : s.data.toList with
      | nil => exact absurd h hne
      | cons x l => rfl
    have hhead : s.data.toList.head? = some s[0] := by rw [List.head?_eq_getElem?, byte_at hs0]
    have hi0 : (0 : Int) ≤ 0 ∧ (0 : Int) < (s.size : Int) := by omega
    clear h0
    by_cases h4 : 4 < s.size
    · have HO : Hid (o = none) := Lib.hid (by rw [ho]; unfold refNum; rw [if_pos (.inr (.inl (by rw [bytes_len]; exact h4)))])
      have d4 : (4 : Int) < (s.size : Int) := by omega
      clear hhead hne ho
      go_enter Tryz.func57, Tryz.ntmps57
      go_wp2
      go_ret2
      exact ⟨0, by rw [HO.out]; rfl, fun n h => (by rw [HO.out] at h; cases h), Below.refl _ _⟩
    · have d4 : decide ((4 : Int) < (s.size : Int)) = false := decide_eq_false (by omega)
      have d5 : decide (4 < s.size) = false := decide_eq_false h4
      by_cases h48 : s[0] = 48 ∧ 1 < s.size
      · have HO : Hid (o = none) := Lib.hid (by rw [ho]; unfold refNum; rw [if_pos (.inr (.inr ⟨by rw [hhead, h48.1], by rw [bytes_len]; exact h48.2⟩))])
        have d0 : (((s[0]).toNat : Int) == 48) = true := by rw [h48.1]; rfl
        have d1 := h48.2
        have d2 : (1 : Int) < (s.size : Int) := by omega
        clear hhead hne ho h48
        go_enter Tryz.func57, Tryz.ntmps57
        go_wp2
        go_ret2
        exact ⟨0, by rw [HO.out]; rfl, fun n h => (by rw [HO.out] at h; cases h), Below.refl _ _⟩
      · have HO : Hid (o = if s.data.toList.all isDig = true then some (digV s.data.toList) else none) := Lib.hid (by
          rw [ho]
          unfold refNum
          rw [if_neg]
          rintro (x | x | ⟨x, y⟩)
          · exact hne x
          · rw [bytes_len] at x; exact h4 x
          · rw [hhead] at x; rw [bytes_len] at y; exact h48 ⟨by injection x, y⟩)
        have d48 : (((s[0]).toNat : Int) == 48) = false ∨ ((((s[0]).toNat : Int) == 48) = true ∧ decide ((1 : Int) < (s.size : Int)) = false) := by
          by_cases x : s[0] = 48
          · exact .inr ⟨by rw [x]; rfl, decide_eq_false fun y => h48 ⟨x, by omega⟩⟩
          · exact .inl (beq_eq_false_iff_ne.2 fun y => x (UInt8.toNat_inj.1 (by have h48 : (48 : UInt8).toNat = 48 := rfl; omega)))
        clear hhead hne ho h48
        rcases d48 with d | ⟨d, d1⟩
        all_goals
          go_enter Tryz.func57, Tryz.ntmps57
          go_wp2
          go_loopw [4, 5] (fun v4 v5 wr => ∃ k : Nat, k ≤ s.size ∧ v5 = .int .i64 k ∧ v4 = .int .i64 (digV (s.data.toList.take k)) ∧ Hid ((s.data.toList.take k).all isDig = true) ∧ wr = w) (fun _ v5 _ => s.size - (intOf v5).toNat)
          case atStart => exact ⟨0, Nat.zero_le _, rfl, rfl, Lib.hid rfl, rfl⟩
          case round =>
            obtain ⟨k, hk, rfl, rfl, HA, hww⟩ := hrel
            obtain rfl := hww.symm
            have hu := digV_lt HA.out
            rw [List.length_take, bytes_len, Nat.min_eq_left hk] at hu
            have hp : 10 ^ k ≤ 10 ^ 4 := Nat.pow_le_pow_right (by decide) (by omega)
            by_cases hlt : k < s.size
            · have htk := byte_take hlt
              have hi : (0 : Int) ≤ (k : Int) ∧ (k : Int) < (s.size : Int) := by omega
              by_cases hd : isDig s[k] = true
              · have hb := of_decide_eq_true hd
                have hv : digV (s.data.toList.take (k + 1)) = digV (s.data.toList.take k) * 10 + (s[k].toNat - 48) := by rw [htk, digV_snoc]
                have HN : Hid ((s.data.toList.take (k + 1)).all isDig = true) := Lib.hid (by rw [htk, List.all_append, HA.out]; simp only [List.all_cons, List.all_nil, hd]; rfl)
                have c1 : ¬ (s[k].toNat : Int) < 48 := by omega
                have c2 : ¬ (57 : Int) < (s[k].toNat : Int) := by omega
                have c3 : ¬ s[k].toNat < 48 := by omega
                have c4 : ¬ 57 < s[k].toNat := by omega
                obtain ⟨hb1, hb2⟩ := hb
                obtain ⟨u2, hu2⟩ : ∃ u, u = digV (s.data.toList.take (k + 1)) := ⟨_, rfl⟩
                obtain ⟨u1, hu1⟩ : ∃ u, u = digV (s.data.toList.take k) := ⟨_, rfl⟩
                rw [← hu2, ← hu1] at hv
                rw [← hu1] at hu
                rw [← hu1]
                have hv2 : (u2 : Int) = (u1 : Int) * 10 + (s[k].toNat : Int) - 48 := by omega
                have HV := Lib.hid hv2; have HU2 := Lib.hid hu2
                clear htk hd hv hv2 hu1 hu2
                go_wp2
                go_roundw
                case rel => exact ⟨k + 1, by omega, by go_num, by rw [← HU2.out, HV.out], HN, by trivial⟩
                case measure => (simp [intOf] <;> omega)
              · have hall : s.data.toList.all isDig = false := by
                  rw [← Bool.not_eq_true]
                  intro x
                  exact hd (List.all_eq_true.1 x _ (List.mem_of_getElem? (byte_at hlt)))
                have hb : s[k].toNat < 48 ∨ 57 < s[k].toNat := by
                  apply Classical.byContradiction
                  intro x
                  exact hd (decide_eq_true (by omega))
                have HN : Hid (o = none) := Lib.hid (by rw [HO.out, hall]; rfl)
                clear htk hd hall
                rcases hb with hb | hb
                · have c1 : (s[k].toNat : Int) < 48 := by omega
                  go_wp2
                  go_ret2
                  exact ⟨0, by rw [HN.out]; rfl, fun n h => (by rw [HN.out] at h; cases h), Below.refl _ _⟩
                · have c1 : (57 : Int) < (s[k].toNat : Int) := by omega
                  have c2 : ¬ (s[k].toNat : Int) < 48 := by omega
                  have c3 : ¬ s[k].toNat < 48 := by omega
                  go_wp2
                  go_ret2
                  exact ⟨0, by rw [HN.out]; rfl, fun n h => (by rw [HN.out] at h; cases h), Below.refl _ _⟩
            · have hall : s.data.toList.take k = s.data.toList := List.take_of_length_le (by rw [bytes_len]; omega)
              rw [hall] at HA
              rw [hall]
              have HN : Hid (o = some (digV s.data.toList)) := Lib.hid (by rw [HO.out, HA.out]; rfl)
              have d0 : decide (k < s.size) = false := decide_eq_false hlt
              generalize digV s.data.toList = u at HN ⊢
              clear hall
              go_wp2
              go_ret2
              exact ⟨u, by rw [HN.out]; rfl, fun n h => (by rw [HN.out] at h; injection h with h; rw [h]), Below.refl _ _⟩
end Go.Proofs.YtaijpiebjhhkjaaGreatDoor
