/- The walk of GrowTells: it returns true for every input. -/
import Derived.Test.YtblanfaghnflkaaDoorWGrowA
import Derived.Test.YtblanfaghnflkaaDoorWGrowB
import Derived.Test.YtblanfaghnflkaaDoorWGrowC
import Derived.Test.YtblanfaghnflkaaDoorWGrowD
import Derived.Test.YtblanfaghnflkaaDoorWGrowE
import Derived.Test.YtblanfaghnflkaaDoorWGrowF
import Derived.Test.YtblanfaghnflkaaDoorWGrowG
namespace Go.Proofs.YtblanfaghnflkaaDoor
open Go.RowKit
theorem growTells_walk (w : World) (C : Option Addr) (cc : Nat) (caps : List Int) (hc : Ints w w.heap.size C cc caps) (_ : ∀ n ∈ caps, (Lit.int .i64 n).wf = true) (P : Option Addr) (cp : Nat) (paths : List (List Int)) (hp : Rows2 w w.heap.size P cp paths) (_ : ∀ l ∈ paths, ∀ n ∈ l, (Lit.int .i64 n).wf = true) (A : Option Addr) (c : Nat) (path : List Int) (hi : Ints w w.heap.size A c path) (_ : ∀ n ∈ path, (Lit.int .i64 n).wf = true) (flow : Int) (_ : (Lit.int .i64 flow).wf = true) (link : Int) (_ : (Lit.int .i64 link).wf = true) (by_ : Int) (_ : (Lit.int .i64 by_).wf = true) (hg : Laid w) :
    Calls Tryd.prog 11 #[.agg #[.slice C caps.length cc, .slice P paths.length cp], .slice A path.length c, .int .i64 flow, .int .i64 link, .int .i64 by_] w fun e w' => e = .returned (.bool true) ∧ Below w.heap.size w w' := by
  by_cases he1 : netErr caps paths = 0
  · obtain ⟨S2, hs2⟩ := ratesIs_ex (addErr caps paths path) caps (paths ++ [path]) fun h => netOk_of (addErr_ok h).2.2.2
    obtain ⟨S3, hs3⟩ := ratesIs_ex (dropErr caps paths flow) caps (paths.eraseIdx flow.toNat) fun h => netOk_of (dropErr_ok h)
    obtain ⟨S4, hs4⟩ := ratesIs_ex (widerErr caps paths link by_) (caps.set link.toNat (caps.getD link.toNat 0 + by_)) paths fun h => netOk_of (widerErr_ok h)
    by_cases h6 : paths.length = 6
    · by_cases ho : flow < 0 ∨ (paths.length : Int) ≤ flow
      · by_cases hx : link < 0 ∨ (caps.length : Int) ≤ link ∨ by_ < 0 ∨ 1000 < by_
        · exact growTells_FOO C cc caps P cp paths A c path by_ w hg hc hp hi he1 h6 flow ho link hx
        · obtain ⟨k, rfl⟩ := Int.eq_ofNat_of_zero_le (show 0 ≤ link by omega)
          by_cases hw4 : 1000 < caps.getD k 0 + by_
          · exact growTells_FOL C cc caps P cp paths A c path by_ w hg hc hp hi he1 h6 flow ho k (by omega) (by omega) (by omega) hw4
          · have e4 : widerErr caps paths (k : Int) by_ = 0 := by unfold widerErr; rw [if_pos he1, if_neg hx, Int.toNat_natCast, if_neg hw4]
            rw [e4, Int.toNat_natCast] at hs4
            exact growTells_FOK C cc caps P cp paths A c path by_ w hg hc hp hi he1 h6 flow ho k (by omega) (by omega) (by omega) hw4 S4 hs4
      · obtain ⟨f, rfl⟩ := Int.eq_ofNat_of_zero_le (show 0 ≤ flow by omega)
        by_cases h1p : paths.length = 1
        · by_cases hx : link < 0 ∨ (caps.length : Int) ≤ link ∨ by_ < 0 ∨ 1000 < by_
          · exact growTells_FSO C cc caps P cp paths A c path by_ w hg hc hp hi he1 h6 f (by omega) h1p link hx
          · obtain ⟨k, rfl⟩ := Int.eq_ofNat_of_zero_le (show 0 ≤ link by omega)
            by_cases hw4 : 1000 < caps.getD k 0 + by_
            · exact growTells_FSL C cc caps P cp paths A c path by_ w hg hc hp hi he1 h6 f (by omega) h1p k (by omega) (by omega) (by omega) hw4
            · have e4 : widerErr caps paths (k : Int) by_ = 0 := by unfold widerErr; rw [if_pos he1, if_neg hx, Int.toNat_natCast, if_neg hw4]
              rw [e4, Int.toNat_natCast] at hs4
              exact growTells_FSK C cc caps P cp paths A c path by_ w hg hc hp hi he1 h6 f (by omega) h1p k (by omega) (by omega) (by omega) hw4 S4 hs4
        · have e3 : dropErr caps paths (f : Int) = 0 := by unfold dropErr; rw [if_pos he1, if_neg ho, if_neg h1p]
          rw [e3, Int.toNat_natCast] at hs3
          by_cases hx : link < 0 ∨ (caps.length : Int) ≤ link ∨ by_ < 0 ∨ 1000 < by_
          · exact growTells_FKO C cc caps P cp paths A c path by_ w hg hc hp hi he1 h6 f (by omega) h1p S3 hs3 link hx
          · obtain ⟨k, rfl⟩ := Int.eq_ofNat_of_zero_le (show 0 ≤ link by omega)
            by_cases hw4 : 1000 < caps.getD k 0 + by_
            · exact growTells_FKL C cc caps P cp paths A c path by_ w hg hc hp hi he1 h6 f (by omega) h1p S3 hs3 k (by omega) (by omega) (by omega) hw4
            · have e4 : widerErr caps paths (k : Int) by_ = 0 := by unfold widerErr; rw [if_pos he1, if_neg hx, Int.toNat_natCast, if_neg hw4]
              rw [e4, Int.toNat_natCast] at hs4
              exact growTells_FKK C cc caps P cp paths A c path by_ w hg hc hp hi he1 h6 f (by omega) h1p S3 hs3 k (by omega) (by omega) (by omega) hw4 S4 hs4
    · by_cases h2 : pathErr caps.length path = 0
      · have e2 : addErr caps paths path = 0 := by unfold addErr; rw [if_pos he1, if_neg h6, h2]
        rw [e2] at hs2
        by_cases ho : flow < 0 ∨ (paths.length : Int) ≤ flow
        · by_cases hx : link < 0 ∨ (caps.length : Int) ≤ link ∨ by_ < 0 ∨ 1000 < by_
          · exact growTells_KOO C cc caps P cp paths A c path by_ w hg hc hp hi he1 e2 S2 hs2 flow ho link hx
          · obtain ⟨k, rfl⟩ := Int.eq_ofNat_of_zero_le (show 0 ≤ link by omega)
            by_cases hw4 : 1000 < caps.getD k 0 + by_
            · exact growTells_KOL C cc caps P cp paths A c path by_ w hg hc hp hi he1 e2 S2 hs2 flow ho k (by omega) (by omega) (by omega) hw4
            · have e4 : widerErr caps paths (k : Int) by_ = 0 := by unfold widerErr; rw [if_pos he1, if_neg hx, Int.toNat_natCast, if_neg hw4]
              rw [e4, Int.toNat_natCast] at hs4
              exact growTells_KOK C cc caps P cp paths A c path by_ w hg hc hp hi he1 e2 S2 hs2 flow ho k (by omega) (by omega) (by omega) hw4 S4 hs4
        · obtain ⟨f, rfl⟩ := Int.eq_ofNat_of_zero_le (show 0 ≤ flow by omega)
          by_cases h1p : paths.length = 1
          · by_cases hx : link < 0 ∨ (caps.length : Int) ≤ link ∨ by_ < 0 ∨ 1000 < by_
            · exact growTells_KSO C cc caps P cp paths A c path by_ w hg hc hp hi he1 e2 S2 hs2 f (by omega) h1p link hx
            · obtain ⟨k, rfl⟩ := Int.eq_ofNat_of_zero_le (show 0 ≤ link by omega)
              by_cases hw4 : 1000 < caps.getD k 0 + by_
              · exact growTells_KSL C cc caps P cp paths A c path by_ w hg hc hp hi he1 e2 S2 hs2 f (by omega) h1p k (by omega) (by omega) (by omega) hw4
              · have e4 : widerErr caps paths (k : Int) by_ = 0 := by unfold widerErr; rw [if_pos he1, if_neg hx, Int.toNat_natCast, if_neg hw4]
                rw [e4, Int.toNat_natCast] at hs4
                exact growTells_KSK C cc caps P cp paths A c path by_ w hg hc hp hi he1 e2 S2 hs2 f (by omega) h1p k (by omega) (by omega) (by omega) hw4 S4 hs4
          · have e3 : dropErr caps paths (f : Int) = 0 := by unfold dropErr; rw [if_pos he1, if_neg ho, if_neg h1p]
            rw [e3, Int.toNat_natCast] at hs3
            by_cases hx : link < 0 ∨ (caps.length : Int) ≤ link ∨ by_ < 0 ∨ 1000 < by_
            · exact growTells_KKO C cc caps P cp paths A c path by_ w hg hc hp hi he1 e2 S2 hs2 f (by omega) h1p S3 hs3 link hx
            · obtain ⟨k, rfl⟩ := Int.eq_ofNat_of_zero_le (show 0 ≤ link by omega)
              by_cases hw4 : 1000 < caps.getD k 0 + by_
              · exact growTells_KKL C cc caps P cp paths A c path by_ w hg hc hp hi he1 e2 S2 hs2 f (by omega) h1p S3 hs3 k (by omega) (by omega) (by omega) hw4
              · have e4 : widerErr caps paths (k : Int) by_ = 0 := by unfold widerErr; rw [if_pos he1, if_neg hx, Int.toNat_natCast, if_neg hw4]
                rw [e4, Int.toNat_natCast] at hs4
                exact growTells_KKK C cc caps P cp paths A c path by_ w hg hc hp hi he1 e2 S2 hs2 f (by omega) h1p S3 hs3 k (by omega) (by omega) (by omega) hw4 S4 hs4
      · by_cases ho : flow < 0 ∨ (paths.length : Int) ≤ flow
        · by_cases hx : link < 0 ∨ (caps.length : Int) ≤ link ∨ by_ < 0 ∨ 1000 < by_
          · exact growTells_POO C cc caps P cp paths A c path by_ w hg hc hp hi he1 h6 _ rfl h2 flow ho link hx
          · obtain ⟨k, rfl⟩ := Int.eq_ofNat_of_zero_le (show 0 ≤ link by omega)
            by_cases hw4 : 1000 < caps.getD k 0 + by_
            · exact growTells_POL C cc caps P cp paths A c path by_ w hg hc hp hi he1 h6 _ rfl h2 flow ho k (by omega) (by omega) (by omega) hw4
            · have e4 : widerErr caps paths (k : Int) by_ = 0 := by unfold widerErr; rw [if_pos he1, if_neg hx, Int.toNat_natCast, if_neg hw4]
              rw [e4, Int.toNat_natCast] at hs4
              exact growTells_POK C cc caps P cp paths A c path by_ w hg hc hp hi he1 h6 _ rfl h2 flow ho k (by omega) (by omega) (by omega) hw4 S4 hs4
        · obtain ⟨f, rfl⟩ := Int.eq_ofNat_of_zero_le (show 0 ≤ flow by omega)
          by_cases h1p : paths.length = 1
          · by_cases hx : link < 0 ∨ (caps.length : Int) ≤ link ∨ by_ < 0 ∨ 1000 < by_
            · exact growTells_PSO C cc caps P cp paths A c path by_ w hg hc hp hi he1 h6 _ rfl h2 f (by omega) h1p link hx
            · obtain ⟨k, rfl⟩ := Int.eq_ofNat_of_zero_le (show 0 ≤ link by omega)
              by_cases hw4 : 1000 < caps.getD k 0 + by_
              · exact growTells_PSL C cc caps P cp paths A c path by_ w hg hc hp hi he1 h6 _ rfl h2 f (by omega) h1p k (by omega) (by omega) (by omega) hw4
              · have e4 : widerErr caps paths (k : Int) by_ = 0 := by unfold widerErr; rw [if_pos he1, if_neg hx, Int.toNat_natCast, if_neg hw4]
                rw [e4, Int.toNat_natCast] at hs4
                exact growTells_PSK C cc caps P cp paths A c path by_ w hg hc hp hi he1 h6 _ rfl h2 f (by omega) h1p k (by omega) (by omega) (by omega) hw4 S4 hs4
          · have e3 : dropErr caps paths (f : Int) = 0 := by unfold dropErr; rw [if_pos he1, if_neg ho, if_neg h1p]
            rw [e3, Int.toNat_natCast] at hs3
            by_cases hx : link < 0 ∨ (caps.length : Int) ≤ link ∨ by_ < 0 ∨ 1000 < by_
            · exact growTells_PKO C cc caps P cp paths A c path by_ w hg hc hp hi he1 h6 _ rfl h2 f (by omega) h1p S3 hs3 link hx
            · obtain ⟨k, rfl⟩ := Int.eq_ofNat_of_zero_le (show 0 ≤ link by omega)
              by_cases hw4 : 1000 < caps.getD k 0 + by_
              · exact growTells_PKL C cc caps P cp paths A c path by_ w hg hc hp hi he1 h6 _ rfl h2 f (by omega) h1p S3 hs3 k (by omega) (by omega) (by omega) hw4
              · have e4 : widerErr caps paths (k : Int) by_ = 0 := by unfold widerErr; rw [if_pos he1, if_neg hx, Int.toNat_natCast, if_neg hw4]
                rw [e4, Int.toNat_natCast] at hs4
                exact growTells_PKK C cc caps P cp paths A c path by_ w hg hc hp hi he1 h6 _ rfl h2 f (by omega) h1p S3 hs3 k (by omega) (by omega) (by omega) hw4 S4 hs4
  · exact growTells_EOO C cc caps P cp paths A c path by_ w hg hc hp hi flow link _ rfl he1
end Go.Proofs.YtblanfaghnflkaaDoor
