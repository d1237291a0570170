/- One up, and all down, in plain words. -/
import Derived.Test.YtblanfaghnflkaaLibA
namespace Go.Proofs.Ytblanfaghnflkaa
namespace PA
def halve (l : List Int) : List Int := l.map (· / 2)
def raise (up : Int) (l : List Int) : List Int := l.map (· + up)
/-- one step of shares that are right: none where one would be too great -/
def step (l : List Int) (limit up : Int) : Option (List Int × Bool) :=
  if limit < tot l then some (halve l, true) else if (raise up l).all (· ≤ 10000) then some (raise up l, false) else none
/-- so many steps: and how many of them halved -/
def steps (limit up : Int) : Nat → List Int → Option (List Int × Nat)
  | 0, l => some (l, 0)
  | n + 1, l => match steps limit up n l with
    | none => none
    | some (m, c) => match step m limit up with
      | none => none
      | some (m', b) => some (m', if b then c + 1 else c)

theorem tot_raise (up : Int) (l : List Int) : tot (raise up l) = tot l + l.length * up := by
  induction l with
  | nil => simp [raise, tot]
  | cons a l ih =>
    simp only [raise, List.map_cons, tot, List.length_cons] at *
    rw [ih, Int.natCast_add, Int.add_mul]
    simp; omega
theorem tot_halve (l : List Int) (h : ∀ a ∈ l, 0 ≤ a) : 0 ≤ tot (halve l) ∧ tot (halve l) ≤ tot l := by
  induction l with
  | nil => simp [halve, tot]
  | cons a l ih =>
    have h1 := ih fun b hb => h b (List.mem_cons_of_mem _ hb)
    have h2 := h a List.mem_cons_self
    simp only [halve, List.map_cons, tot] at *
    omega
/-- g bounds how far apart any two are -/
def Gap (l : List Int) (g : Int) : Prop := ∀ a ∈ l, ∀ b ∈ l, a - b ≤ g
theorem gap_halve (l : List Int) (g : Int) (h : Gap l g) : Gap (halve l) ((g + 1) / 2) := by
  intro a ha b hb
  obtain ⟨x, hx, rfl⟩ := List.mem_map.1 ha
  obtain ⟨y, hy, rfl⟩ := List.mem_map.1 hb
  have := h x hx y hy
  show x / 2 - y / 2 ≤ (g + 1) / 2
  omega
theorem gap_raise (up : Int) (l : List Int) (g : Int) (h : Gap l g) : Gap (raise up l) g := by
  intro a ha b hb
  obtain ⟨x, hx, rfl⟩ := List.mem_map.1 ha
  obtain ⟨y, hy, rfl⟩ := List.mem_map.1 hb
  have := h x hx y hy
  show x + up - (y + up) ≤ g
  omega
/-- halved as often, rounded up -/
def halved : Nat → Int → Int
  | 0, g => g
  | n + 1, g => (halved n g + 1) / 2
theorem halved_small (n : Nat) (g : Int) (h0 : 0 ≤ g) (h : g ≤ 1) : halved n g = g := by
  induction n with
  | zero => rfl
  | succ n ih => simp only [halved, ih]; omega

structure Good (l x : List Int) (limit up : Int) (c : Nat) : Prop where
  len : x.length = l.length
  nn : ∀ a ∈ x, 0 ≤ a
  le : ∀ a ∈ x, a ≤ 10000
  gap : ∀ g, Gap l g → Gap x (halved c g)
  ord : ∀ i k (hi : i < l.length) (hk : k < l.length), l[k] < l[i] → x.getD k 0 ≤ x.getD i 0
  sum : tot l ≤ limit → tot x ≤ limit + l.length * up

theorem getD_map (f : Int → Int) (l : List Int) (i : Nat) (h : i < l.length) : (l.map f).getD i 0 = f (l.getD i 0) := by
  simp [h]

theorem good_steps (l : List Int) (limit up : Int) (h0 : ∀ a ∈ l, 0 ≤ a) (h1 : ∀ a ∈ l, a ≤ 10000) (hup : 0 ≤ up) : ∀ n x c, steps limit up n l = some (x, c) → Good l x limit up c ∧ c ≤ n
  | 0, x, c, h => by
    simp only [steps, Option.some.injEq, Prod.mk.injEq] at h
    obtain ⟨rfl, rfl⟩ := h
    refine ⟨⟨rfl, h0, h1, fun g hg => hg, fun i k hi hk hlt => ?_, fun ht => ?_⟩, Nat.le_refl _⟩
    · simp only [List.getD_eq_getElem?_getD, List.getElem?_eq_getElem hi, List.getElem?_eq_getElem hk, Option.getD_some]; omega
    · have : 0 ≤ (l.length : Int) * up := Int.mul_nonneg (by omega) hup
      omega
  | n + 1, x, c, h => by
    simp only [steps] at h
    cases hs : steps limit up n l with
    | none => rw [hs] at h; cases h
    | some r =>
      obtain ⟨m, c0⟩ := r
      rw [hs] at h
      simp only at h
      obtain ⟨G, hc⟩ := good_steps l limit up h0 h1 hup n m c0 hs
      unfold step at h
      by_cases hlt : limit < tot m
      · rw [if_pos hlt] at h
        simp only [Option.some.injEq, Prod.mk.injEq, if_true] at h
        obtain ⟨rfl, rfl⟩ := h
        refine ⟨⟨by simp [halve, G.len], fun a ha => ?_, fun a ha => ?_, fun g hg => gap_halve _ _ (G.gap g hg), fun i k hi hk hik => ?_, fun ht => ?_⟩, by omega⟩
        · obtain ⟨y, hy, rfl⟩ := List.mem_map.1 ha
          have := G.nn y hy; omega
        · obtain ⟨y, hy, rfl⟩ := List.mem_map.1 ha
          have := G.le y hy; have := G.nn y hy; omega
        · have := G.ord i k hi hk hik
          unfold halve
          rw [getD_map _ _ _ (by rw [G.len]; exact hk), getD_map _ _ _ (by rw [G.len]; exact hi)]
          omega
        · have := G.sum ht
          have := tot_halve m G.nn
          omega
      · rw [if_neg hlt] at h
        by_cases hall : (raise up m).all (· ≤ 10000) = true
        · rw [if_pos hall] at h
          simp only [Option.some.injEq, Prod.mk.injEq] at h
          obtain ⟨rfl, rfl⟩ := h
          refine ⟨⟨by simp [raise, G.len], fun a ha => ?_, fun a ha => ?_, fun g hg => ?_, fun i k hi hk hik => ?_, fun ht => ?_⟩, by simp; omega⟩
          · obtain ⟨y, hy, rfl⟩ := List.mem_map.1 ha
            have := G.nn y hy; omega
          · have := List.all_eq_true.1 hall a ha
            simpa using this
          · simp only [Bool.false_eq_true, if_false]; exact gap_raise up _ _ (G.gap g hg)
          · have := G.ord i k hi hk hik
            unfold raise
            rw [getD_map _ _ _ (by rw [G.len]; exact hk), getD_map _ _ _ (by rw [G.len]; exact hi)]
            omega
          · rw [tot_raise, G.len]; omega
        · rw [if_neg hall] at h; cases h
end PA
end Go.Proofs.Ytblanfaghnflkaa
