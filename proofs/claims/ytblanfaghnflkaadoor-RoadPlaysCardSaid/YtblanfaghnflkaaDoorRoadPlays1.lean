/- RoadPlays where the road is wrong. -/
import Derived.Test.YtblanfaghnflkaaDoorRfBoth
import Derived.Test.YtblanfaghnflkaaDoorRfNew
import Derived.Test.YtblanfaghnflkaaDoorTold
import Derived.Test.YtblanfaghnflkaaDoorMeterRunNo
namespace Go.Proofs.YtblanfaghnflkaaDoor
open Go.RowKit
attribute [local go_sem ↓] run_min_mn run_max_mx
set_option maxHeartbeats 8000000 in
set_option maxRecDepth 100000 in
theorem roadPlays_no (A : Option Addr) (c : Nat) (S : List Src) (w : World) (hg : Laid w) (hs : Srcs w w.heap.size A c S) (r p k m er : Int) (he : newErr S r p k = er) (hp : er ≠ 0) :
    Calls Tryd.prog 5 #[.slice A S.length c, .agg #[.int .i64 r, .int .i64 p, .int .i64 k], .int .i64 m] w fun e w' => e = .returned (.bool true) ∧ Below w.heap.size w w' := by
  have HS := Lib.hid hs
  have HM := Lib.hid fun (W' : World) (h : Srcs W' W'.heap.size A c S) => refNewRoad A c S r p k W' h er he
  have HN := Lib.hid fun (W' : World) (h : Srcs W' W'.heap.size A c S) => rnew_no A c S r p k er W' h he hp
  have HG := Lib.hid hg
  have hpb : (er != 0) = true := by rw [bne_iff_ne]; exact hp
  clear hs he hg
  have HP0 := Lib.hid (Blk.new w 60 #[.int .i64 r, .int .i64 p, .int .i64 k])
  have HB0 := Lib.hid ((Below.refl w.heap.size w).alloc (Nat.le_refl _) (.cells #[.int .i64 r, .int .i64 p, .int .i64 k] 60))
  go_enter Tryd.func5, Tryd.ntmps5
  go_wp2_with fail
  refine (HM.out _ (HS.out.at' HB0.out)).mono ?_; rintro e w1 ⟨rfl, hb1⟩
  have HP1 := Lib.hid (HP0.out.go hb1)
  have HB1 := Lib.hid (HB0.out.trans (hb1.mono HB0.out.size))
  clear hb1
  obtain ⟨x0, x1, x2, xf0, xf1, xf2, xz⟩ := HP1.out.three
  go_wp2_with fail
  refine (HN.out _ (HS.out.at' HB1.out)).mono ?_; rintro e w2 ⟨rfl, hb2⟩
  have HB2 := Lib.hid (HB1.out.trans (hb2.mono HB1.out.size))
  clear hb2 x0 x1 x2 xf0 xf1 xf2 xz
  go_wp2_with fail
  refine (same_hit er _ (HG.out.below HB2.out)).mono ?_; rintro e w3 ⟨rfl, hb3⟩
  have HB3 := Lib.hid (HB2.out.trans (hb3.mono HB2.out.size))
  clear hb3
  go_wp2
  go_ret
  exact ⟨rfl, HB3.out⟩
end Go.Proofs.YtblanfaghnflkaaDoor
