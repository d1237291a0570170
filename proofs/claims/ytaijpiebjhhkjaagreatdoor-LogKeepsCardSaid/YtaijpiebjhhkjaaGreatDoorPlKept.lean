/- Plain: the records of a log that came about rightly. -/
import Derived.Test.YtaijpiebjhhkjaaGreatDoorPlLog
import Derived.Test.YtaijpiebjhhkjaaGreatDoorPlWant
namespace Go.Proofs.YtaijpiebjhhkjaaGreatDoor.LG
def ints (q : List Nat) : List Int := q.map fun (x : Nat) => (x : Int)
/-- n: how many links -/
structure Ok (n : Nat) (O : List Op) : Prop where
  sm : ∀ o ∈ O, Small o ∧ 0 < o.p.length ∧ o.p.length ≤ 6
  dr : ∀ k o, O[k]? = some o → o.add = false → ∃ f, o.p = [f] ∧ f < (runs (O.take k)).length
  ad : ∀ o ∈ O, o.add = true → pathErr n (ints o.p) = 0
  len : ∀ k, (runs (O.take k)).length ≤ 6
theorem Ok.nil (n : Nat) : Ok n [] := ⟨by simp, by simp, by simp, by simp [runs]⟩
theorem Ok.take {n : Nat} {O : List Op} (h : Ok n O) (m : Nat) : Ok n (O.take m) where
  sm := fun o ho => h.sm o (List.mem_of_mem_take ho)
  dr := fun k o hk ha => by
    rw [List.getElem?_take] at hk
    split at hk
    · rename_i hkm
      obtain ⟨f, hp, hf⟩ := h.dr k o hk ha
      exact ⟨f, hp, by rw [List.take_take, Nat.min_eq_left (by omega)]; exact hf⟩
    · cases hk
  ad := fun o ho => h.ad o (List.mem_of_mem_take ho)
  len := fun k => by rw [List.take_take]; exact h.len _
theorem Ok.all {n : Nat} {O : List Op} (h : Ok n O) : (runs O).length ≤ 6 := by have := h.len O.length; rwa [List.take_length] at this
theorem Ok.snoc {n : Nat} {O : List Op} (h : Ok n O) (o : Op) (h1 : Small o ∧ 0 < o.p.length ∧ o.p.length ≤ 6) (h2 : o.add = false → ∃ f, o.p = [f] ∧ f < (runs O).length) (h3 : o.add = true → pathErr n (ints o.p) = 0) (h4 : (runs (O ++ [o])).length ≤ 6) : Ok n (O ++ [o]) where
  sm := fun x hx => by
    rcases List.mem_append.1 hx with hx | hx
    · exact h.sm x hx
    · rw [List.mem_singleton] at hx; subst hx; exact h1
  dr := fun k x hk ha => by
    by_cases hlt : k < O.length
    · rw [List.getElem?_append_left hlt] at hk
      rw [List.take_append_of_le_length (by omega)]
      exact h.dr k x hk ha
    · rw [List.getElem?_append_right (by omega)] at hk
      have hk0 : k = O.length := by
        have := (List.getElem?_eq_some_iff.1 hk).1
        simp at this; omega
      subst hk0
      simp at hk
      subst hk
      simpa using h2 ha
  ad := fun x hx => by
    rcases List.mem_append.1 hx with hx | hx
    · exact h.ad x hx
    · rw [List.mem_singleton] at hx; subst hx; exact h3
  len := fun k => by
    by_cases hlt : k ≤ O.length
    · rw [List.take_append_of_le_length hlt]; exact h.len k
    · rw [List.take_of_length_le (by simp; omega)]; exact h4
/-- a path that is right, in naturals -/
theorem path_nat {n : Nat} {p : List Int} (_ : n ≤ 6) (h : pathErr n p = 0) : ∃ q : List Nat, p = ints q ∧ (∀ x ∈ q, x < 10) ∧ 0 < q.length ∧ q.length ≤ 6 := by
  obtain ⟨h0, h1⟩ := pathErr_ok h
  have h2 := path_short h
  refine ⟨p.map Int.toNat, ?_, ?_, by simpa using h0, by simp; omega⟩
  · unfold ints
    rw [List.map_map]
    refine (List.map_id p).symm.trans (List.map_congr_left fun x hx => ?_)
    have := h1 x hx
    show x = ((x.toNat : Nat) : Int)
    omega
  · intro x hx
    obtain ⟨y, hy, rfl⟩ := List.mem_map.1 hx
    have := h1 y hy
    omega
theorem Ok.add {n : Nat} {O : List Op} (h : Ok n O) (q : List Nat) (hq : ∀ x ∈ q, x < 10) (h0 : 0 < q.length) (h6 : q.length ≤ 6) (hp : pathErr n (ints q) = 0) (hl : (runs O).length < 6) : Ok n (O ++ [⟨true, q⟩]) ∧ runs (O ++ [⟨true, q⟩]) = runs O ++ [ints q] :=
  have e : runs (O ++ [⟨true, q⟩]) = runs O ++ [ints q] := by rw [runs_snoc]; rfl
  ⟨h.snoc _ ⟨hq, h0, h6⟩ (fun x => by cases x) (fun _ => hp) (by rw [e]; simp; omega), e⟩
theorem Ok.drop {n : Nat} {O : List Op} (h : Ok n O) (f : Nat) (hf : f < (runs O).length) : Ok n (O ++ [⟨false, [f]⟩]) ∧ runs (O ++ [⟨false, [f]⟩]) = (runs O).eraseIdx f :=
  have e : runs (O ++ [⟨false, [f]⟩]) = (runs O).eraseIdx f := by rw [runs_snoc]; rfl
  have h6 := h.all
  ⟨h.snoc _ ⟨fun x hx => by simp at hx; omega, by simp, by simp⟩ (fun _ => ⟨f, rfl, hf⟩) (fun x => by cases x) (by rw [e, List.length_eraseIdx_of_lt hf]; omega), e⟩
theorem runs_paths {n : Nat} : ∀ (O : List Op), (∀ o ∈ O, o.add = true → pathErr n (ints o.p) = 0) → ∀ (L : List (List Int)), (∀ l ∈ L, pathErr n l = 0) → ∀ l ∈ O.foldl step1 L, pathErr n l = 0
  | [], _, L, hL => hL
  | o :: O, h, L, hL => by
    rw [List.foldl_cons]
    refine runs_paths O (fun x hx => h x (List.mem_cons_of_mem _ hx)) _ fun l hl => ?_
    unfold step1 at hl
    split at hl
    · rename_i ha
      rcases List.mem_append.1 hl with hl | hl
      · exact hL l hl
      · rw [List.mem_singleton] at hl; rw [hl]; exact h o List.mem_cons_self ha
    · exact hL l (List.mem_of_mem_eraseIdx hl)
theorem Ok.paths {n : Nat} {O : List Op} (h : Ok n O) : ∀ l ∈ runs O, pathErr n l = 0 := runs_paths O h.ad [] (by simp)
/-- the net that is left -/
theorem Ok.net {O : List Op} {caps : List Int} (h : Ok caps.length O) (hc : linksErr caps = 0) : netErr caps (runs O) = if runs O = [] then 5 else 0 := by
  have hl : 0 < caps.length ∧ caps.length ≤ 6 ∧ ∀ c ∈ caps, 1 ≤ c ∧ c ≤ 1000 := by
    unfold linksErr at hc
    split at hc
    · omega
    · split at hc
      · omega
      · split at hc
        · omega
        · rename_i h1 h2 h3
          refine ⟨by omega, by omega, fun c hcm => ?_⟩
          have : ¬ badCap c = true := fun hb => h3 (List.any_eq_true.2 ⟨c, hcm, hb⟩)
          unfold badCap at this
          simp at this
          omega
  split
  · rename_i h0
    unfold netErr
    rw [if_pos (.inr (by rw [h0]; rfl))]
  · rename_i h0
    exact netErr_of hl.1 hl.2.1 (by cases hh : runs O with | nil => exact absurd hh h0 | cons _ _ => simp) h.all hl.2.2 h.paths
end Go.Proofs.YtaijpiebjhhkjaaGreatDoor.LG
