/- The walk of FracTells: it returns true for every input. -/
import Derived.Test.YtblanfaghnflkaaDoorWFracA
import Derived.Test.YtblanfaghnflkaaDoorWFracB
import Derived.Test.YtblanfaghnflkaaDoorWFracC
import Derived.Test.YtblanfaghnflkaaDoorWFracD
import Derived.Test.YtblanfaghnflkaaDoorWFracE
import Derived.Test.YtblanfaghnflkaaDoorWFracF
import Derived.Test.YtblanfaghnflkaaDoorWFracG
import Derived.Test.YtblanfaghnflkaaDoorWFracH
namespace Go.Proofs.YtblanfaghnflkaaDoor
open Go.RowKit
theorem fracTells_walk (t : Int) (_ : (Lit.int .i64 t).wf = true) (b : Int) (_ : (Lit.int .i64 b).wf = true) (a1 a2 : Int) (_ : (Lit.int .i64 a1).wf = true) (_ : (Lit.int .i64 a2).wf = true) (b1 b2 : Int) (_ : (Lit.int .i64 b1).wf = true) (_ : (Lit.int .i64 b2).wf = true) (n : Int) (_ : (Lit.int .i64 n).wf = true) (w : World) (hg : Laid w) :
    Calls Tryd.prog 3 #[.int .i64 t, .int .i64 b, .agg #[.int .i64 a1, .int .i64 a2], .agg #[.int .i64 b1, .int .i64 b2], .int .i64 n] w fun e w' => e = .returned (.bool true) ∧ Below w.heap.size w w' := by
  by_cases hf : fracErr a1 a2 = 0
  · by_cases n0 : n < -1000
    · by_cases hfb : fracErr b1 b2 = 0
      · by_cases hs : FracIn (sumT a1 a2 b1 b2) (sumB a1 a2 b1 b2)
        · exact fracTells_ok_lo_lo_ok t b a1 a2 b1 b2 n w hg hf n0 hfb hs
        · exact fracTells_ok_lo_lo_big t b a1 a2 b1 b2 n w hg hf n0 hfb hs
      · exact fracTells_ok_lo_lo_er t b a1 a2 b1 b2 n w hg hf n0 _ rfl hfb
    · by_cases n1 : 1000 < n
      · by_cases hfb : fracErr b1 b2 = 0
        · by_cases hs : FracIn (sumT a1 a2 b1 b2) (sumB a1 a2 b1 b2)
          · exact fracTells_ok_hi_hi_ok t b a1 a2 b1 b2 n w hg hf n1 hfb hs
          · exact fracTells_ok_hi_hi_big t b a1 a2 b1 b2 n w hg hf n1 hfb hs
        · exact fracTells_ok_hi_hi_er t b a1 a2 b1 b2 n w hg hf n1 _ rfl hfb
      · by_cases ht : FracIn (lowT (a1 * n) a2) (lowB (a1 * n) a2)
        · by_cases n2 : n < 1
          · by_cases hfb : fracErr b1 b2 = 0
            · by_cases hs : FracIn (sumT a1 a2 b1 b2) (sumB a1 a2 b1 b2)
              · exact fracTells_ok_ok_lo_ok t b a1 a2 b1 b2 n w hg hf (by omega) n2 ht hfb hs
              · exact fracTells_ok_ok_lo_big t b a1 a2 b1 b2 n w hg hf (by omega) n2 ht hfb hs
            · exact fracTells_ok_ok_lo_er t b a1 a2 b1 b2 n w hg hf (by omega) n2 ht _ rfl hfb
          · by_cases hy : FracIn (lowT a1 (a2 * n)) (lowB a1 (a2 * n))
            · by_cases hfb : fracErr b1 b2 = 0
              · by_cases hs : FracIn (sumT a1 a2 b1 b2) (sumB a1 a2 b1 b2)
                · exact fracTells_ok_ok_ok_ok t b a1 a2 b1 b2 n w hg hf (by omega) (by omega) ht hy hfb hs
                · exact fracTells_ok_ok_ok_big t b a1 a2 b1 b2 n w hg hf (by omega) (by omega) ht hy hfb hs
              · exact fracTells_ok_ok_ok_er t b a1 a2 b1 b2 n w hg hf (by omega) (by omega) ht hy _ rfl hfb
            · by_cases hfb : fracErr b1 b2 = 0
              · by_cases hs : FracIn (sumT a1 a2 b1 b2) (sumB a1 a2 b1 b2)
                · exact fracTells_ok_ok_big_ok t b a1 a2 b1 b2 n w hg hf (by omega) (by omega) ht hy hfb hs
                · exact fracTells_ok_ok_big_big t b a1 a2 b1 b2 n w hg hf (by omega) (by omega) ht hy hfb hs
              · exact fracTells_ok_ok_big_er t b a1 a2 b1 b2 n w hg hf (by omega) (by omega) ht hy _ rfl hfb
        · by_cases n2 : n < 1
          · by_cases hfb : fracErr b1 b2 = 0
            · by_cases hs : FracIn (sumT a1 a2 b1 b2) (sumB a1 a2 b1 b2)
              · exact fracTells_ok_big_lo_ok t b a1 a2 b1 b2 n w hg hf (by omega) n2 ht hfb hs
              · exact fracTells_ok_big_lo_big t b a1 a2 b1 b2 n w hg hf (by omega) n2 ht hfb hs
            · exact fracTells_ok_big_lo_er t b a1 a2 b1 b2 n w hg hf (by omega) n2 ht _ rfl hfb
          · by_cases hy : FracIn (lowT a1 (a2 * n)) (lowB a1 (a2 * n))
            · by_cases hfb : fracErr b1 b2 = 0
              · by_cases hs : FracIn (sumT a1 a2 b1 b2) (sumB a1 a2 b1 b2)
                · exact fracTells_ok_big_ok_ok t b a1 a2 b1 b2 n w hg hf (by omega) (by omega) ht hy hfb hs
                · exact fracTells_ok_big_ok_big t b a1 a2 b1 b2 n w hg hf (by omega) (by omega) ht hy hfb hs
              · exact fracTells_ok_big_ok_er t b a1 a2 b1 b2 n w hg hf (by omega) (by omega) ht hy _ rfl hfb
            · by_cases hfb : fracErr b1 b2 = 0
              · by_cases hs : FracIn (sumT a1 a2 b1 b2) (sumB a1 a2 b1 b2)
                · exact fracTells_ok_big_big_ok t b a1 a2 b1 b2 n w hg hf (by omega) (by omega) ht hy hfb hs
                · exact fracTells_ok_big_big_big t b a1 a2 b1 b2 n w hg hf (by omega) (by omega) ht hy hfb hs
              · exact fracTells_ok_big_big_er t b a1 a2 b1 b2 n w hg hf (by omega) (by omega) ht hy _ rfl hfb
  · exact fracTells_bad_x_x_x t b a1 a2 b1 b2 n w hg _ rfl hf
end Go.Proofs.YtblanfaghnflkaaDoor
