/- Several texts in one: PlAimd, AimdFns, AimdStep, PlGive, SortIns, SortAll. -/
import Derived.Test.YtaijpiebjhhkjaaGreatDoorLibA
/- One up, and all down, in plain words. -/
namespace Go.Proofs.YtaijpiebjhhkjaaGreatDoor
namespace PA
def halve (l : List Int) : List Int := l.map (· / 2)
def raise (up : Int) (l : List Int) : List Int := l.map (· + up)
/-- one step of shares that are right: none where one would be too great -/
def step (l : List Int) (limit up : Int) : Option (List Int × Bool) :=
  if limit < tot l then some (halve l, true) else if (raise up l).all (· ≤ 10000) then some (raise up l, false) else none
/-- so many steps: and how many of them halved -/
def steps (limit up : Int) : Nat → List Int → Option (List Int × Nat)
  | 0, l => some (l, 0)
  | n + 1, l => match steps limit up n l with
    | none => none
    | some (m, c) => match step m limit up with
      | none => none
      | some (m', b) => some (m', if b then c + 1 else c)

theorem tot_raise (up : Int) (l : List Int) : tot (raise up l) = tot l + l.length * up := by
  induction l with
  | nil => simp [raise, tot]
  | cons a l ih =>
    simp only [raise, List.map_cons, tot, List.length_cons] at *
    rw [ih, Int.natCast_add, Int.add_mul]
    simp; omega
theorem tot_halve (l : List Int) (h : ∀ a ∈ l, 0 ≤ a) : 0 ≤ tot (halve l) ∧ tot (halve l) ≤ tot l := by
  induction l with
  | nil => simp [halve, tot]
  | cons a l ih =>
    have h1 := ih fun b hb => h b (List.mem_cons_of_mem _ hb)
    have h2 := h a List.mem_cons_self
    simp only [halve, List.map_cons, tot] at *
    omega
/-- g bounds how far apart any two are -/
def Gap (l : List Int) (g : Int) : Prop := ∀ a ∈ l, ∀ b ∈ l, a - b ≤ g
theorem gap_halve (l : List Int) (g : Int) (h : Gap l g) : Gap (halve l) ((g + 1) / 2) := by
  intro a ha b hb
  obtain ⟨x, hx, rfl⟩ := List.mem_map.1 ha
  obtain ⟨y, hy, rfl⟩ := List.mem_map.1 hb
  have := h x hx y hy
  show x / 2 - y / 2 ≤ (g + 1) / 2
  omega
theorem gap_raise (up : Int) (l : List Int) (g : Int) (h : Gap l g) : Gap (raise up l) g := by
  intro a ha b hb
  obtain ⟨x, hx, rfl⟩ := List.mem_map.1 ha
  obtain ⟨y, hy, rfl⟩ := List.mem_map.1 hb
  have := h x hx y hy
  show x + up - (y + up) ≤ g
  omega
/-- halved as often, rounded up -/
def halved : Nat → Int → Int
  | 0, g => g
  | n + 1, g => (halved n g + 1) / 2
theorem halved_small (n : Nat) (g : Int) (h0 : 0 ≤ g) (h : g ≤ 1) : halved n g = g := by
  induction n with
  | zero => rfl
  | succ n ih => simp only [halved, ih]; omega

structure Good (l x : List Int) (limit up : Int) (c : Nat) : Prop where
  len : x.length = l.length
  nn : ∀ a ∈ x, 0 ≤ a
  le : ∀ a ∈ x, a ≤ 10000
  gap : ∀ g, Gap l g → Gap x (halved c g)
  ord : ∀ i k (hi : i < l.length) (hk : k < l.length), l[k] < l[i] → x.getD k 0 ≤ x.getD i 0
  sum : tot l ≤ limit → tot x ≤ limit + l.length * up

theorem getD_map (f : Int → Int) (l : List Int) (i : Nat) (h : i < l.length) : (l.map f).getD i 0 = f (l.getD i 0) := by
  simp [h]

theorem good_steps (l : List Int) (limit up : Int) (h0 : ∀ a ∈ l, 0 ≤ a) (h1 : ∀ a ∈ l, a ≤ 10000) (hup : 0 ≤ up) : ∀ n x c, steps limit up n l = some (x, c) → Good l x limit up c ∧ c ≤ n
  | 0, x, c, h => by
    simp only [steps, Option.some.injEq, Prod.mk.injEq] at h
    obtain ⟨rfl, rfl⟩ := h
    refine ⟨⟨rfl, h0, h1, fun g hg => hg, fun i k hi hk hlt => ?_, fun ht => ?_⟩, Nat.le_refl _⟩
    · simp only [List.getD_eq_getElem?_getD, List.getElem?_eq_getElem hi, List.getElem?_eq_getElem hk, Option.getD_some]; omega
    · have : 0 ≤ (l.length : Int) * up := Int.mul_nonneg (by omega) hup
      omega
  | n + 1, x, c, h => by
    simp only [steps] at h
    cases hs : steps limit up n l with
    | none => rw [hs] at h; cases h
    | some r =>
      obtain ⟨m, c0⟩ := r
      rw [hs] at h
      simp only at h
      obtain ⟨G, hc⟩ := good_steps l limit up h0 h1 hup n m c0 hs
      unfold step at h
      by_cases hlt : limit < tot m
      · rw [if_pos hlt] at h
        simp only [Option.some.injEq, Prod.mk.injEq, if_true] at h
        obtain ⟨rfl, rfl⟩ := h
        refine ⟨⟨by simp [halve, G.len], fun a ha => ?_, fun a ha => ?_, fun g hg => gap_halve _ _ (G.gap g hg), fun i k hi hk hik => ?_, fun ht => ?_⟩, by omega⟩
        · obtain ⟨y, hy, rfl⟩ := List.mem_map.1 ha
          have := G.nn y hy; omega
        · obtain ⟨y, hy, rfl⟩ := List.mem_map.1 ha
          have := G.le y hy; have := G.nn y hy; omega
        · have := G.ord i k hi hk hik
          unfold halve
          rw [getD_map _ _ _ (by rw [G.len]; exact hk), getD_map _ _ _ (by rw [G.len]; exact hi)]
          omega
        · have := G.sum ht
          have := tot_halve m G.nn
          omega
      · rw [if_neg hlt] at h
        by_cases hall : (raise up m).all (· ≤ 10000) = true
        · rw [if_pos hall] at h
          simp only [Option.some.injEq, Prod.mk.injEq] at h
          obtain ⟨rfl, rfl⟩ := h
          refine ⟨⟨by simp [raise, G.len], fun a ha => ?_, fun a ha => ?_, fun g hg => ?_, fun i k hi hk hik => ?_, fun ht => ?_⟩, by simp; omega⟩
          · obtain ⟨y, hy, rfl⟩ := List.mem_map.1 ha
            have := G.nn y hy; omega
          · have := List.all_eq_true.1 hall a ha
            simpa using this
          · simp only [Bool.false_eq_true, if_false]; exact gap_raise up _ _ (G.gap g hg)
          · have := G.ord i k hi hk hik
            unfold raise
            rw [getD_map _ _ _ (by rw [G.len]; exact hk), getD_map _ _ _ (by rw [G.len]; exact hi)]
            omega
          · rw [tot_raise, G.len]; omega
        · rw [if_neg hall] at h; cases h
end PA
end Go.Proofs.YtaijpiebjhhkjaaGreatDoor
/- Package aimd: what its functions compute. -/
namespace Go.Proofs.YtaijpiebjhhkjaaGreatDoor
open Go.RowKit
attribute [local go_sem ↓] run_min_mn run_max_mx
def badShare (n : Int) : Bool := decide (n < 0) || decide (10000 < n)
theorem badShare_iff (n : Int) : badShare n = false ↔ 0 ≤ n ∧ n ≤ 10000 := by
  simp only [badShare, Bool.or_eq_false_iff, decide_eq_false_iff_not]; omega
def SharesOk (l : List Int) : Prop := 0 < l.length ∧ l.length ≤ 6 ∧ l.any badShare = false
theorem shares_in {l : List Int} (h : l.any badShare = false) : ∀ n ∈ l, 0 ≤ n ∧ n ≤ 10000 := fun n hn => by
  rw [← badShare_iff]
  cases e : badShare n
  · rfl
  · rw [List.any_eq_true.2 ⟨n, hn, e⟩] at h; cases h
/-- the fault of shares -/
def sharesErr (l : List Int) : Int := if l.length = 0 then 5 else if 6 < l.length then 4 else 1
set_option maxHeartbeats 400000 in
theorem asum_any (A : Option Addr) (c : Nat) (l : List Int) (B : Nat) (w : World) (h : Ints w B A c l) (hb : ∀ a ∈ l, 0 ≤ a ∧ a ≤ 10000) (hlen : l.length ≤ 60) :
    Calls Tryz.prog 171 #[.slice A l.length c] w fun e w' => e = .returned (.int .i64 (tot l)) ∧ w = w' := by
  have H := Lib.hid h; clear h
  have HB := Lib.hid hb; clear hb
  go_enter Tryz.func171, Tryz.ntmps171
  go_wp2
  go_loop [3, 8] (fun s i => ∃ k : Nat, k ≤ l.length ∧ i = .int .i64 k ∧ s = .int .i64 (tot (l.take k))) (fun _ i => l.length - (intOf i).toNat)
  case atStart => exact ⟨0, Nat.zero_le _, rfl, rfl⟩
  case round =>
    obtain ⟨k, hk, rfl, rfl⟩ := hrel
    by_cases hlt : k < l.length
    · obtain ⟨b, off, x, rfl, _, hc, hx, HT, HX⟩ := H.out.elem hlt
      have h1 := tot_bound_take l 10000 HB.out k
      have h2 := HB.out x hx
      have h3 : (l.take k).length ≤ k := List.length_take_le _ _
      go_wp2
      go_round
      case rel => exact ⟨k + 1, by omega, by go_num, by rw [HT.out, tot_snoc]⟩
      case measure => simp [intOf]; omega
    · go_wp2
      go_ret
      exact ⟨by rw [List.take_of_length_le (by omega)]; rfl, rfl⟩
def AimdOk (l : List Int) (limit up : Int) : Prop := SharesOk l ∧ 1 ≤ limit ∧ limit ≤ 1000 ∧ 1 ≤ up ∧ up ≤ 1000
/-- the fault -/
def aimdErr (l : List Int) (_limit _up : Int) : Int := if l.length = 0 then 5 else if 6 < l.length then 4 else 1
end Go.Proofs.YtaijpiebjhhkjaaGreatDoor
/- aimd.step: one step of shares that are right. -/
namespace Go.Proofs.YtaijpiebjhhkjaaGreatDoor
open Go.RowKit
attribute [local go_sem ↓] run_min_mn run_max_mx
theorem badShare_of {l : List Int} (h : ∀ a ∈ l, 0 ≤ a ∧ a ≤ 10000) : l.any badShare = false := by
  cases e : l.any badShare
  · rfl
  · obtain ⟨x, hx, hb⟩ := List.any_eq_true.1 e
    rw [(badShare_iff x).2 (h x hx)] at hb; cases hb
theorem own_base {w : World} {base base' e size n : Nat} {v : Value} {xs : List Value} (h : w.ownsRow base e size v n xs) (hb : base' ≤ base) : w.ownsRow base' e size v n xs := by
  refine ⟨h.1, ?_⟩
  rcases h.2 with h | ⟨g, cap, cur, rfl, h1, h2⟩
  · exact .inl h
  · exact .inr ⟨g, cap, cur, rfl, Nat.le_trans hb h1, h2⟩
end Go.Proofs.YtaijpiebjhhkjaaGreatDoor
/- Parts in plain words. -/
namespace Go.Proofs.YtaijpiebjhhkjaaGreatDoor
namespace PG
open PR
theorem tot_nonneg (l : List Int) (h : ∀ a ∈ l, 0 ≤ a) : 0 ≤ tot l := by
  induction l with
  | nil => simp [tot]
  | cons a l ih => have := h a List.mem_cons_self; have := ih fun b hb => h b (List.mem_cons_of_mem _ hb); simp only [tot]; omega
theorem tot_le (l : List Int) (b : Int) (h : ∀ a ∈ l, a ≤ b) : tot l ≤ l.length * b := by
  induction l with
  | nil => simp [tot]
  | cons a l ih =>
    have := h a List.mem_cons_self
    have := ih fun b hb => h b (List.mem_cons_of_mem _ hb)
    simp only [tot, List.length_cons, Int.natCast_add, Int.add_mul]
    simp; omega
/-- each one's, rounded down; and what is left of each -/
def base (many : Int) (w : List Int) (i : Nat) : Int := many * w.getD i 0 / tot w
def rest (many : Int) (w : List Int) (i : Nat) : Int := many * w.getD i 0 % tot w
/-- how many are left to be given -/
def left (many : Int) (w : List Int) : Int := many - tot ((List.range w.length).map (base many w))
/-- parts of many -/
def parts (many : Int) (w : List Int) : List Int := (List.range w.length).map fun i => base many w i + if rank (rest many w) w.length i < (left many w).toNat then 1 else 0

theorem tot_map_add (f g : Nat → Int) (l : List Nat) : tot (l.map fun i => f i + g i) = tot (l.map f) + tot (l.map g) := by
  induction l with
  | nil => simp [tot]
  | cons a l ih => simp only [List.map_cons, tot, ih]; omega
theorem tot_map_mul (c : Int) (f : Nat → Int) (l : List Nat) : tot (l.map fun i => c * f i) = c * tot (l.map f) := by
  induction l with
  | nil => simp [tot]
  | cons a l ih => simp only [List.map_cons, tot, ih, Int.mul_add]
theorem tot_ones (p : Nat → Bool) (l : List Nat) : tot (l.map fun i => if p i then 1 else 0) = (l.countP p : Int) := by
  induction l with
  | nil => simp [tot]
  | cons a l ih => simp only [List.map_cons, tot, ih, List.countP_cons]; split <;> simp <;> omega
theorem range_map_getD (w : List Int) : (List.range w.length).map (fun i => w.getD i 0) = w := by
  apply List.ext_getElem
  · simp
  · intro i h1 h2; simp at h1; simp [h1]
theorem sum_rest (many : Int) (w : List Int) : many * tot w = tot w * tot ((List.range w.length).map (base many w)) + tot ((List.range w.length).map (rest many w)) := by
  rw [← tot_map_mul, ← tot_map_add]
  have : (List.range w.length).map (fun i => tot w * base many w i + rest many w i) = (List.range w.length).map fun i => many * w.getD i 0 :=
    List.map_congr_left fun i _ => Int.mul_ediv_add_emod _ _
  rw [this, tot_map_mul, range_map_getD]
theorem left_rest (many : Int) (w : List Int) : tot w * left many w = tot ((List.range w.length).map (rest many w)) := by
  have := sum_rest many w
  unfold left
  rw [Int.mul_sub, Int.mul_comm (tot w) many]; omega
theorem left_bounds (many : Int) (w : List Int) (hw : 0 < tot w) : 0 ≤ left many w ∧ left many w < max 1 w.length := by
  have h := left_rest many w
  have hr : ∀ i, 0 ≤ rest many w i ∧ rest many w i ≤ tot w - 1 := fun i => by
    have := Int.emod_nonneg (many * w.getD i 0) (show tot w ≠ 0 by omega)
    have := Int.emod_lt_of_pos (many * w.getD i 0) hw
    unfold rest; omega
  have h0 : 0 ≤ tot ((List.range w.length).map (rest many w)) := tot_nonneg _ fun a ha => by
    obtain ⟨i, _, rfl⟩ := List.mem_map.1 ha; exact (hr i).1
  have h1 := tot_le ((List.range w.length).map (rest many w)) (tot w - 1) fun a ha => by
    obtain ⟨i, _, rfl⟩ := List.mem_map.1 ha; exact (hr i).2
  simp only [List.length_map, List.length_range] at h1
  refine ⟨?_, ?_⟩
  · apply Classical.byContradiction
    intro hc
    have : tot w * left many w < 0 := Int.mul_neg_of_pos_of_neg hw (by omega)
    omega
  · by_cases hn : w.length = 0
    · have : w = [] := List.eq_nil_of_length_eq_zero hn
      subst this; simp [tot] at hw
    · have hlt : (w.length : Int) * (tot w - 1) < w.length * tot w := Int.mul_lt_mul_of_pos_left (by omega) (by omega)
      have : tot w * left many w < tot w * w.length := by rw [Int.mul_comm (tot w) (w.length : Int)]; omega
      have := Int.lt_of_mul_lt_mul_left this (by omega)
      omega
theorem parts_len (many : Int) (w : List Int) : (parts many w).length = w.length := by simp [parts]
theorem parts_tot (many : Int) (w : List Int) (hw : 0 < tot w) : tot (parts many w) = many := by
  unfold parts
  rw [tot_map_add]
  have hb := left_bounds many w hw
  have hn : w.length ≠ 0 := fun hn => by
    have : w = [] := List.eq_nil_of_length_eq_zero hn
    subst this; simp [tot] at hw
  have := tot_ones (fun i => decide (rank (rest many w) w.length i < (left many w).toNat)) (List.range w.length)
  simp only [decide_eq_true_eq] at this
  rw [this, ones (rest many w) w.length (left many w).toNat (by omega)]
  unfold left at *; omega
/-- who has nothing left over gets no more -/
theorem none_more (many : Int) (w : List Int) (hw : 0 < tot w) (i : Nat) (hi : i < w.length) (h : rest many w i = 0) : ¬ rank (rest many w) w.length i < (left many w).toNat := by
  intro hlt
  have hb := left_bounds many w hw
  have hr : ∀ i, 0 ≤ rest many w i ∧ rest many w i ≤ tot w - 1 := fun i => by
    have := Int.emod_nonneg (many * w.getD i 0) (show tot w ≠ 0 by omega)
    have := Int.emod_lt_of_pos (many * w.getD i 0) hw
    unfold rest; omega
  -- those with something left are all ahead of i, so fewer than left of them
  have hcount : (List.range w.length).countP (fun j => decide (0 < rest many w j)) ≤ rank (rest many w) w.length i := by
    unfold rank
    refine List.countP_mono_left fun j _ hj => ?_
    have hj' : 0 < rest many w j := by simpa using hj
    simp [PR.ahead, h, hj']
  have hsum : tot ((List.range w.length).map (rest many w)) ≤ (List.range w.length).countP (fun j => decide (0 < rest many w j)) * (tot w - 1) := by
    generalize List.range w.length = l
    induction l with
    | nil => simp [tot]
    | cons a l ih =>
      simp only [List.map_cons, tot, List.countP_cons]
      by_cases ha : 0 < rest many w a
      · have := (hr a).2
        simp only [ha, decide_true, if_true, Int.natCast_add, Int.add_mul]
        simp; omega
      · have := (hr a).1
        simp only [ha, decide_false]
        simp; omega
  have hle : ((List.range w.length).countP (fun j => decide (0 < rest many w j)) : Int) * (tot w - 1) ≤ (left many w - 1) * (tot w - 1) :=
    Int.mul_le_mul_of_nonneg_right (by omega) (by omega)
  have h2 := left_rest many w
  have e : (left many w - 1) * (tot w - 1) = tot w * left many w - tot w - left many w + 1 := by
    rw [Int.sub_mul, Int.mul_sub, Int.mul_comm (left many w) (tot w)]; omega
  omega
theorem base_zero (many : Int) (w : List Int) (i : Nat) (h : w.getD i 0 = 0) : base many w i = 0 ∧ rest many w i = 0 := by
  unfold base rest; rw [h]; simp
end PG
end Go.Proofs.YtaijpiebjhhkjaaGreatDoor
/- slices.insertionSortCmpFunc over such a row. -/
namespace Go.Proofs.YtaijpiebjhhkjaaGreatDoor
open Go.RowKit
set_option maxHeartbeats 8000000 in
set_option maxRecDepth 100000 in
theorem insertion_any (key : Nat → Int) (n g cap base : Nat) (f : FuncId) (cb : Array Value) (w : World) (hn : 0 < n) (hn6 : n ≤ 20) (hrow : Row base n g cap (List.range n) w)
    (hcf : ∀ (a : Array Value) (W : World), (callFunc f a).run Tryz.prog W = .ok (.enter f a) W) (cf : Nat → Nat → Int) (hcmp : Compares key cf n base f cb w) (hbg : base ≤ g) (hbw : base ≤ w.heap.size) :
    Calls Tryz.prog 197 #[.slice (some ⟨g, 0, none⟩) n cap, .int .i64 0, .int .i64 n, .func (Fn.func f) #[] cb] w fun e w' =>
      e = .returned (.tuple #[]) ∧ ∃ o, PR.Ord key n o ∧ Row base n g cap o w' ∧ w.grownBy w' (some g) := by
  have HC := Lib.hid hcmp; clear hcmp
  have HR := Lib.hid hrow; clear hrow
  have HK := Lib.hid (show base ≤ g ∧ base ≤ w.heap.size from ⟨hbg, hbw⟩); clear hbg hbw
  have H0 := Lib.hid (PR.Upto.start key n hn)
  have HL0 : Hid ((List.range n).length = n) := Lib.hid (by simp)
  go_enter Tryz.func197, Tryz.ntmps197
  go_wp2
  go_loopw [8] (fun vi wr => ∃ (i : Nat) (o : List Nat), vi = .int .i64 i ∧ 1 ≤ i ∧ i ≤ n ∧ Hid (o.length = n) ∧ Hid (PR.Upto key i o) ∧ Hid (Row base n g cap o wr) ∧ Hid (w.grownBy wr (some g))) (fun vi _ => n - (intOf vi).toNat)
  case atStart => exact ⟨1, _, rfl, by omega, by omega, HL0, H0, HR, Lib.hid (grown_refl _ _)⟩
  case round =>
    obtain ⟨i, o, rfl, hi1, hin, HL, HU, HW, HG⟩ := hrel
    clear H0 HL0 HR
    by_cases hlt : i < n
    · have HI := Lib.hid (HU.out.ins (by rw [HL.out]; exact hlt)); clear HU
      go_wp2
      go_loopg [9] i (fun g2 vj wq => ∃ (j : Nat) (p : List Nat), vj = .int .i64 j ∧ j ≤ i ∧ j ≤ g2 ∧ Hid (p.length = n) ∧ Hid (PR.Ins key i j p) ∧ Hid (Row base n g cap p wq) ∧ Hid (w.grownBy wq (some g)))
      case atStart => exact ⟨i, o, rfl, Nat.le_refl _, Nat.le_refl _, HL, HI, HW, HG⟩
      case round =>
        obtain ⟨j, p, rfl, hji, hg2, HL, HI, HW, HG⟩ := hrel
        by_cases hj : 0 < j
        · obtain ⟨jp, rfl⟩ : ∃ jp, j = jp + 1 := ⟨j - 1, by omega⟩
          have hpl : jp < p.length := by rw [HL.out]; omega
          obtain ⟨a, ha⟩ : ∃ a, p[jp]? = some a := ⟨p[jp], List.getElem?_eq_getElem hpl⟩
          obtain ⟨cj, fj⟩ := HW.out.cell HI.out.here HL.out
          obtain ⟨cp, fp⟩ := HW.out.cell ha HL.out
          have han : a < n := by
            have hm : a ∈ p.take (i + 1) := List.mem_of_getElem? (i := jp) (by rw [List.getElem?_take_of_lt (by omega)]; exact ha)
            have := List.mem_range.1 (HI.out.perm.mem_iff.1 hm)
            omega
          have HB := Lib.hid (below_of_grown HG.out HK.out.1 HK.out.2)
          have hcc := HC.out.less i a
          have hc : ∀ d, Calls Tryz.prog f (#[.int .i64 (i : Int), .int .i64 (a : Int)] ++ cb) (wr.drewN d) fun e w' => e = .returned (.int .i64 (cf i a)) ∧ ∃ q, w' = (wr.drewN d).drewN q :=
            fun d => HC.out.calls (wr.drewN d) i a hlt han (below_drewN HB.out d)
          generalize cf i a = c at hcc hc
          have HCC := Lib.hid hcc; clear hcc
          have hjz : (0 : Int) < (jp : Int) + 1 := by omega
          have hj1 : (jp : Int) + 1 < (n : Int) := by omega
          have hwp : IntKind.i64.wrap (jp : Int) = (jp : Int) := by rw [IntKind.wrap_i64]; omega
          have jz1 : (jp : Int) < (n : Int) := by omega
          have p0 : (0 : Int) ≤ (jp : Int) + 1 := by omega
          have e0 : ((jp : Int) + 1).toNat = jp + 1 := by omega
          have HA := Lib.hid ha
          clear ha
          by_cases hlv : c < 0
          · have HS := Lib.hid (HI.out.swap (by omega) HA.out (HCC.out.1 hlv))
            go_wp2_with fail
            go_quiet (with_reducible exact Calls.quiet_of (hc _))
            go_wp2_with fail
            have cj2 : (wr.drewN nq).cell? ⟨g, jp + 1, none⟩ = some (.int .i64 (i : Int)) := cj
            have cp2 : (wr.drewN nq).cell? ⟨g, jp, none⟩ = some (.int .i64 (a : Int)) := cp
            have fj2 : (wr.drewN nq).frozen? ⟨g, jp + 1, none⟩ = false := fj
            have fp2 : (wr.drewN nq).frozen? ⟨g, jp, none⟩ = false := fp
            have HW2 := Lib.hid (HW.out.drewN nq)
            have HG2 := Lib.hid (grown_drewN HG.out nq)
            clear cj cp fj fp hc HW HG HB
            generalize wr.drewN nq = wq at cj2 cp2 fj2 fp2 HW2 HG2 ⊢
            obtain ⟨j1, hj1'⟩ : ∃ j1, j1 = jp + 1 := ⟨_, rfl⟩
            rw [← hj1'] at cj2 fj2 e0
            have J1 := Lib.hid hj1'
            clear hj1'
            go_big_region
            all_goals go_wp2
            go_roundg jp
            case measure => omega
            case rel =>
              refine ⟨jp, PR.swap p (jp + 1) i a, by first | rfl | go_num | (congr 1; omega), by omega, Nat.le_refl _, Lib.hid (by rw [PR.swap_len]; exact HL.out), HS, ?_, ?_⟩
              · refine Lib.hid ?_
                rw [J1.out]
                exact ((HW2.out.set (jp + 1) a).set jp i).drewN 1
              · refine Lib.hid ?_
                exact grown_drewN (grown_set (grown_set HG2.out)) 1
          · have HD := Lib.hid (HI.out.done (.inr ⟨a, HA.out, fun h => hlv (HCC.out.2 h)⟩))
            go_wp2_with fail
            go_quiet (with_reducible exact Calls.quiet_of (hc _))
            go_wp2
            go_roundw
            case rel => exact ⟨i + 1, p, by go_num, by omega, by omega, HL, HD, Lib.hid (HW.out.drewN _), Lib.hid (grown_drewN HG.out _)⟩
            case measure => simp [intOf]; omega
        · obtain rfl : j = 0 := by omega
          have HD := Lib.hid (HI.out.done (.inl rfl))
          rw [show ((0 : Nat) : Int) = 0 from rfl]
          go_wp2_with fail
          go_region
          all_goals go_wp2
          go_roundw
          case rel => exact ⟨i + 1, p, by go_num, by omega, by omega, HL, HD, Lib.hid (HW.out.drewN 1), Lib.hid (grown_drewN HG.out 1)⟩
          case measure => simp [intOf]; omega
    · obtain rfl : i = n := by omega
      have HO := Lib.hid (HU.out.ord_all HL.out)
      go_wp2
      go_end0
      exact ⟨rfl, o, HO.out, HW.out, HG.out⟩
end Go.Proofs.YtaijpiebjhhkjaaGreatDoor
/- slices.SortStableFunc over a row of indexes, at most six. -/
namespace Go.Proofs.YtaijpiebjhhkjaaGreatDoor
open Go.RowKit
set_option maxHeartbeats 2000000 in
set_option maxRecDepth 100000 in
theorem stable_any (key : Nat → Int) (cf : Nat → Nat → Int) (n g cap base : Nat) (f : FuncId) (cb : Array Value) (w : World) (hn : 0 < n) (hn6 : n ≤ 6) (hrow : Row base n g cap (List.range n) w)
    (hcf : ∀ (a : Array Value) (W : World), (callFunc f a).run Tryz.prog W = .ok (.enter f a) W) (hcmp : Compares key cf n base f cb w) (hbg : base ≤ g) (hbw : base ≤ w.heap.size) :
    Calls Tryz.prog 188 #[.slice (some ⟨g, 0, none⟩) n cap, .int .i64 n, .func (Fn.func f) #[] cb] w fun e w' =>
      e = .returned (.tuple #[]) ∧ ∃ o, PR.Ord key n o ∧ Row base n g cap o w' ∧ w.grownBy w' (some g) := by
  have HI := Lib.hid (insertion_any key n g cap base f cb w hn (by omega) hrow hcf cf hcmp hbg hbw)
  clear hrow hcmp
  have hlt : ¬ (20 : Int) ≤ (n : Int) := by omega
  have hlt2 : ¬ (20 : Int) < (n : Int) := by omega
  go_enter Tryz.func188, Tryz.ntmps188
  go_wp2
  refine wp_loop_rounds 1 ?_
  rw [rounds_succ]
  go_wp2_with fail
  refine HI.out.mono ?_; rintro e w' ⟨rfl, o, h1, h2, h3⟩
  have H1 := Lib.hid h1
  have H2 := Lib.hid h2
  have H3 := Lib.hid h3
  clear h1 h2 h3
  go_wp2
  refine wp_loop_rounds 1 ?_
  rw [rounds_succ]
  go_wp2
  go_end0
  exact ⟨rfl, o, H1.out, H2.out, H3.out⟩
set_option maxHeartbeats 2000000 in
theorem sortStable_any (key : Nat → Int) (cf : Nat → Nat → Int) (n g cap base : Nat) (f : FuncId) (cb : Array Value) (w : World) (hn : 0 < n) (hn6 : n ≤ 6) (hrow : Row base n g cap (List.range n) w)
    (hcf : ∀ (a : Array Value) (W : World), (callFunc f a).run Tryz.prog W = .ok (.enter f a) W) (hcmp : Compares key cf n base f cb w) (hbg : base ≤ g) (hbw : base ≤ w.heap.size) :
    Calls Tryz.prog 172 #[.slice (some ⟨g, 0, none⟩) n cap, .func (Fn.func f) #[] cb] w fun e w' =>
      e = .returned (.tuple #[]) ∧ ∃ o, PR.Ord key n o ∧ Row base n g cap o w' ∧ w.grownBy w' (some g) := by
  have HI := Lib.hid (stable_any key cf n g cap base f cb w hn hn6 hrow hcf hcmp hbg hbw)
  clear hrow hcmp
  go_enter Tryz.func172, Tryz.ntmps172
  go_wp2_with fail
  refine HI.out.mono ?_; rintro e w' ⟨rfl, o, h1, h2, h3⟩
  have H1 := Lib.hid h1
  have H2 := Lib.hid h2
  have H3 := Lib.hid h3
  clear h1 h2 h3
  go_wp2
  go_end0
  exact ⟨rfl, o, H1.out, H2.out, H3.out⟩
/-- the comparing function of shuffle.Step: its captured cell holds the shares -/
theorem less_cmp (x y : Int) : cmpI x y < 0 ↔ x < y := by
  unfold cmpI
  by_cases h : x < y
  · rw [if_pos h]; simp [h]
  · rw [if_neg h]
    by_cases h2 : y < x
    · rw [if_pos h2]; omega
    · rw [if_neg h2]; omega
set_option maxHeartbeats 1000000 in
theorem givecmp_any (A : Option Addr) (c : Nat) (l : List Int) (B g : Nat) (w : World) (h : Ints w B A c l) (hc : w.cell? ⟨g, 0, none⟩ = some (.slice A l.length c)) (x y : Nat) (hx : x < l.length) (hy : y < l.length) :
    Calls Tryz.prog 173 (#[.int .i64 x, .int .i64 y] ++ #[.pointer (some ⟨g, 0, none⟩)]) w fun e w' => e = .returned (.int .i64 (cmpI (l.getD y 0) (l.getD x 0))) ∧ ∃ q, w' = w.drewN q := by
  show Calls Tryz.prog 173 #[.int .i64 x, .int .i64 y, .pointer (some ⟨g, 0, none⟩)] w _
  have hm := Nat.le_trans h.le h.cap
  unfold maxLen at hm
  obtain ⟨b, off, rfl, _, hcell⟩ := h.at_ hx
  have cx := hcell x hx
  have cy := hcell y hy
  generalize l.getD x 0 = vx at *
  generalize l.getD y 0 = vy at *
  clear h hcell
  have hx0 : (0 : Int) ≤ (x : Int) := by omega
  have hx1 : (x : Int) < l.length := by omega
  have hy0 : (0 : Int) ≤ (y : Int) := by omega
  have hy1 : (y : Int) < l.length := by omega
  go_enter Tryz.func173, Tryz.ntmps173
  go_wp2
  go_quiet ((go_at_call 92; exact Calls.quiet_of_same ((cmp_any vy vx _).mono fun _ _ ⟨h1, h2⟩ => ⟨h1, h2.symm⟩)))
  go_wp2
  go_ret
  exact ⟨rfl, _, rfl⟩
theorem givecmp_cf (a : Array Value) (W : World) : (callFunc 173 a).run Tryz.prog W = .ok (.enter 173 a) W := by kernel_rfl
theorem incs_cell {w : World} {base g cap n t b : Nat} {f : Nat → Int} {key : Nat → Int} (h : w.ownsRow base 3 1 (.slice (some ⟨g, 0, none⟩) n cap) n ((PR.incs f key n t).map (Value.int .i64))) (hb : b < n) (hr : PR.rank key n b = t) :
    w.cell? ⟨g, b, none⟩ = some (.int .i64 (f b)) ∧ w.frozen? ⟨g, b, none⟩ = false ∧ (w.setCell ⟨g, b, none⟩ (.int .i64 (f b + 1))).ownsRow base 3 1 (.slice (some ⟨g, 0, none⟩) n cap) n ((PR.incs f key n (t + 1)).map (Value.int .i64)) := by
  have h1 := h.cellAt b (by omega)
  rw [List.getElem?_map, PR.incs_at hb hr] at h1
  have h2 := (h.stored b (.int .i64 (f b + 1))).1
  rw [← List.map_set, PR.incs_set hb hr] at h2
  exact ⟨h1, h.frozenAt b, h2⟩
end Go.Proofs.YtaijpiebjhhkjaaGreatDoor
