/- do of a flow fewer. -/
import Derived.Test.YtaijpiebjhhkjaaGreatDoorLogOps
namespace Go.Proofs.YtaijpiebjhhkjaaGreatDoor
open Go.RowKit
attribute [local go_sem ↓] run_min_mn run_max_mx
set_option maxHeartbeats 8000000 in
set_option maxRecDepth 100000 in
theorem do_del (w : World) (base g n cap gp f bu ou cu : Nat) (t : TypeId) (cs : Array Value) (vs : List Value) (hg : Blk w g t cs) (hc : cs[1]? = some (.slice (some ⟨gp, 0, none⟩) n cap)) (ht : 22 ≠ t) (hown : w.ownsRow base 22 1 (.slice (some ⟨gp, 0, none⟩) n cap) n vs) (hn : n ≤ 1000) (h1 : ∀ u ∈ vs, u.oneCell' = true)
    (hp : w.cell? ⟨bu, ou, none⟩ = some (.int .i64 f)) (_ : bu < w.heap.size) (hf : f < n) :
    Calls Tryz.prog 74 #[.pointer (some ⟨g, 0, none⟩), .string ⟨#[45]⟩, .slice (some ⟨bu, ou, none⟩) 1 cu] w fun e w' => e = .returned (.tuple #[]) ∧ ∃ w1, w1.ownsRow base 22 1 (.slice (some ⟨gp, 0, none⟩) (n - 1) cap) (n - 1) (vs.eraseIdx f) ∧ w.grownBy w1 (some gp) ∧ Blk w1 g t cs ∧ w' = w1.setCell ⟨g, 1, none⟩ (.slice (some ⟨gp, 0, none⟩) (n - 1) cap) := by
  have c1 : w.cell? ⟨g, 1, none⟩ = some (.slice (some ⟨gp, 0, none⟩) n cap) := (hg.cell 1).trans hc
  have z := hg.lt
  have HG := Lib.hid hg; have HO := Lib.hid hown; have HC := Lib.hid hc
  have HD := Lib.hid fun (W : World) (hW : W.ownsRow base 22 1 (.slice (some ⟨gp, 0, none⟩) n cap) n vs) => (show Calls Tryz.prog 99 #[.slice (some ⟨gp, 0, none⟩) n cap, .int .i64 f, .int .i64 ((f : Int) + 1)] W fun e w' => e = .returned (.slice (some ⟨gp, 0, none⟩) (n - 1) cap) ∧ w'.ownsRow base 22 1 (.slice (some ⟨gp, 0, none⟩) (n - 1) cap) (n - 1) (vs.eraseIdx f) ∧ W.grownBy w' (some gp) from by
    have := delete_any base gp cap n f vs W hW hf hn h1
    rwa [show ((f + 1 : Nat) : Int) = (f : Int) + 1 by omega] at this)
  have hgp : some g ≠ some gp := fun e => own_blk_ne hown hg ht (by simpa [Value.ownBlock] using e.symm)
  have q1 : IntKind.i64.wrap ((f : Int) + 1) = (f : Int) + 1 := IntWalk.i64_in _ (by omega)
  have HGP := Lib.hid hgp
  clear hg hown hc h1 hgp
  go_enter Tryz.func74, Tryz.ntmps74
  go_upto_region 2 with (fail)
  go_region_law (go_simp; go_at_call 99; refine (HD.out _ (own_below HO.out (Below.refl _ _).drew)).mono ?_; rintro e w1 ⟨rfl, ho, hgr⟩; have HO1 := Lib.hid ho; have HGR : Hid (w.grownBy w1 (some gp)) := Lib.hid ⟨hgr.os, hgr.tape, hgr.output, hgr.size, hgr.block⟩; have HG1 := Lib.hid ((HG.out.drew).grown hgr HGP.out); clear ho hgr; have k1 := (HG1.out.cell 1).trans HC.out; have z1 := HG1.out.lt; have f1 := HG1.out.frozen 1)
  all_goals
    go_wp2
    go_end0
    exact ⟨rfl, w1, HO1.out, HGR.out, HG1.out, rfl⟩
end Go.Proofs.YtaijpiebjhhkjaaGreatDoor
