/- What grow answers, whatever it is asked. -/
import Derived.Test.YtblanfaghnflkaaDoorGrow2
namespace Go.Proofs.YtblanfaghnflkaaDoor
open Go.RowKit
/-- the rates of a net; none at a fault -/
structure RatesIs (e : Int) (caps : List Int) (paths : List (List Int)) (S : List Fr) : Prop where
  no : e ≠ 0 → S = []
  yes : e = 0 → NetOk caps paths ∧ ∃ K R, FillEnds caps paths K R ∧ S = R.map frQ
theorem ratesIs_ex (e : Int) (caps : List Int) (paths : List (List Int)) (h : e = 0 → NetOk caps paths) : ∃ S, RatesIs e caps paths S := by
  by_cases h0 : e = 0
  · obtain ⟨K, R, hK⟩ := fill_ends (h h0)
    exact ⟨R.map frQ, fun h1 => absurd h0 h1, fun _ => ⟨h h0, K, R, hK, rfl⟩⟩
  · exact ⟨[], fun _ => rfl, fun h1 => absurd h1 h0⟩
theorem RatesIs.len {e : Int} {caps : List Int} {paths : List (List Int)} {S : List Fr} (h : RatesIs e caps paths S) : S.length ≤ paths.length := by
  by_cases h0 : e = 0
  · obtain ⟨ok, K, R, hK, rfl⟩ := h.yes h0
    rw [List.length_map, hK.len ok]; exact Nat.le_refl _
  · rw [h.no h0]; exact Nat.zero_le _
theorem RatesIs.six {e : Int} {caps : List Int} {paths : List (List Int)} {S : List Fr} (h : RatesIs e caps paths S) : S.length ≤ 6 := by
  by_cases h0 : e = 0
  · obtain ⟨ok, K, R, hK, rfl⟩ := h.yes h0
    rw [List.length_map, hK.len ok]; exact ok.F1
  · rw [h.no h0]; exact Nat.zero_le _
theorem frs_none (w : World) (B : Nat) : Frs w B none 0 [] := ⟨⟨by simp [frCells], fun h => absurd h (by simp)⟩, Nat.le_refl _, by simp [maxLen]⟩
theorem more_tot (C : Option Addr) (cc : Nat) (caps : List Int) (P : Option Addr) (cp : Nat) (paths : List (List Int)) (A : Option Addr) (c : Nat) (path : List Int) (B : Nat) (w : World) (hB : B ≤ w.heap.size) (hc : Ints w B C cc caps) (hp : Rows2 w B P cp paths) (hi : Ints w B A c path) (e : Int) (S : List Fr) (he : addErr caps paths path = e) (hS : RatesIs e caps (paths ++ [path]) S) :
    Calls Tryd.prog 71 #[.agg #[.slice C caps.length cc, .slice P paths.length cp], .slice A path.length c] w fun r w' => ∃ A1 c1, r = .returned (.tuple #[.slice A1 S.length c1, errVal e]) ∧ Frs w' w'.heap.size A1 c1 S ∧ Below w.heap.size w w' := by
  by_cases h0 : e = 0
  · obtain ⟨_, K, R, hK, rfl⟩ := hS.yes h0
    subst h0
    refine (more_yes C cc caps P cp _ paths A c path B w K R hB hc hp hi rfl he hK).mono ?_
    rintro r w' ⟨A1, c1, rfl, hf, hb⟩
    exact ⟨A1, c1, by rw [List.length_map]; rfl, hf, hb⟩
  · obtain rfl := hS.no h0
    refine (more_er C cc caps P cp _ paths A c path B w e hB hc hp hi rfl he h0).mono ?_
    rintro r w' ⟨rfl, hb⟩
    exact ⟨none, 0, by rw [errVal_pos h0]; rfl, frs_none _ _, hb⟩
theorem fewer_tot (C : Option Addr) (cc : Nat) (caps : List Int) (P : Option Addr) (cp : Nat) (paths : List (List Int)) (flow : Int) (B : Nat) (w : World) (hB : B ≤ w.heap.size) (hc : Ints w B C cc caps) (hp : Rows2 w B P cp paths) (e : Int) (S : List Fr) (he : dropErr caps paths flow = e) (hS : RatesIs e caps (paths.eraseIdx flow.toNat) S) :
    Calls Tryd.prog 72 #[.agg #[.slice C caps.length cc, .slice P paths.length cp], .int .i64 flow] w fun r w' => ∃ A1 c1, r = .returned (.tuple #[.slice A1 S.length c1, errVal e]) ∧ Frs w' w'.heap.size A1 c1 S ∧ Below w.heap.size w w' := by
  by_cases h0 : e = 0
  · obtain ⟨_, K, R, hK, rfl⟩ := hS.yes h0
    subst h0
    have hd := he
    unfold dropErr at hd
    split at hd
    · rename_i hn
      split at hd
      · omega
      · split at hd
        · omega
        · rename_i h1 h2
          obtain ⟨f, rfl⟩ := Int.eq_ofNat_of_zero_le (show 0 ≤ flow by omega)
          refine (fewer_yes C cc caps P cp _ paths _ f B w K R hB hc hp rfl hn (by omega) h2 rfl hK).mono ?_
          rintro r w' ⟨A1, c1, rfl, hf, hb⟩
          exact ⟨A1, c1, by rw [List.length_map]; rfl, hf, hb⟩
    · rename_i hn; exact absurd hd hn
  · obtain rfl := hS.no h0
    refine (fewer_er C cc caps P cp _ paths flow B w e hB hc hp rfl he h0).mono ?_
    rintro r w' ⟨rfl, hb⟩
    exact ⟨none, 0, by rw [errVal_pos h0]; rfl, frs_none _ _, hb⟩
theorem wider_tot (C : Option Addr) (cc : Nat) (caps : List Int) (P : Option Addr) (cp : Nat) (paths : List (List Int)) (link by_ : Int) (B : Nat) (w : World) (hB : B ≤ w.heap.size) (hc : Ints w B C cc caps) (hp : Rows2 w B P cp paths) (e : Int) (S : List Fr) (he : widerErr caps paths link by_ = e) (hS : RatesIs e (caps.set link.toNat (caps.getD link.toNat 0 + by_)) paths S) :
    Calls Tryd.prog 73 #[.agg #[.slice C caps.length cc, .slice P paths.length cp], .int .i64 link, .int .i64 by_] w fun r w' => ∃ A1 c1, r = .returned (.tuple #[.slice A1 S.length c1, errVal e]) ∧ Frs w' w'.heap.size A1 c1 S ∧ Below w.heap.size w w' := by
  have hd := he
  unfold widerErr at hd
  by_cases hn : netErr caps paths = 0
  · rw [if_pos hn] at hd
    by_cases ho : link < 0 ∨ (caps.length : Int) ≤ link ∨ by_ < 0 ∨ 1000 < by_
    · rw [if_pos ho] at hd
      subst hd
      obtain rfl := hS.no (by decide)
      refine (wider_out C cc caps P cp _ paths link by_ B w hB hc hp rfl hn ho).mono ?_
      rintro r w' ⟨rfl, hb⟩
      exact ⟨none, 0, rfl, frs_none _ _, hb⟩
    · rw [if_neg ho] at hd
      obtain ⟨k, rfl⟩ := Int.eq_ofNat_of_zero_le (show 0 ≤ link by omega)
      rw [Int.toNat_natCast] at hd hS
      by_cases hf : 1000 < caps.getD k 0 + by_
      · rw [if_pos hf] at hd
        subst hd
        obtain rfl := hS.no (by decide)
        refine (wider_full C cc caps P cp _ paths k by_ B w hB hc hp rfl hn (by omega) (by omega) (by omega) hf).mono ?_
        rintro r w' ⟨rfl, hb⟩
        exact ⟨none, 0, rfl, frs_none _ _, hb⟩
      · rw [if_neg hf] at hd
        subst hd
        obtain ⟨_, K, R, hK, rfl⟩ := hS.yes rfl
        refine (wider_yes C cc caps P cp _ paths k by_ _ B w K R hB hc hp rfl hn (by omega) (by omega) (by omega) rfl (by omega) hK).mono ?_
        rintro r w' ⟨A1, c1, rfl, hf, hb⟩
        exact ⟨A1, c1, by rw [List.length_map]; rfl, hf, hb⟩
  · rw [if_neg hn] at hd
    have h0 : e ≠ 0 := by rw [← hd]; exact hn
    obtain rfl := hS.no h0
    refine (wider_net C cc caps P cp _ paths link by_ B w e hB hc hp rfl hd h0).mono ?_
    rintro r w' ⟨rfl, hb⟩
    exact ⟨none, 0, by rw [errVal_pos h0]; rfl, frs_none _ _, hb⟩
theorem dropErr_ok {caps : List Int} {paths : List (List Int)} {flow : Int} (h : dropErr caps paths flow = 0) : netErr caps (paths.eraseIdx flow.toNat) = 0 := by
  unfold dropErr at h
  split at h
  · rename_i hn
    split at h
    · omega
    · split at h
      · omega
      · exact erase_ok hn (by omega) (by assumption)
  · rename_i hn; exact absurd h hn
theorem widerErr_ok {caps : List Int} {paths : List (List Int)} {link by_ : Int} (h : widerErr caps paths link by_ = 0) : netErr (caps.set link.toNat (caps.getD link.toNat 0 + by_)) paths = 0 := by
  unfold widerErr at h
  split at h
  · rename_i hn
    split at h
    · omega
    · split at h
      · omega
      · have := caps_in hn (k := link.toNat) (by omega)
        exact wide_ok hn (by omega) (by omega) (by omega)
  · rename_i hn; exact absurd h hn
end Go.Proofs.YtblanfaghnflkaaDoor
