/- Package rank: Sorted. -/
import Derived.Test.YtaijpiebjhhkjaaGreatDoorRankSeq
import Derived.Test.YtaijpiebjhhkjaaGreatDoorRankSort
namespace Go.Proofs.YtaijpiebjhhkjaaGreatDoor
open Go.RowKit
/-- what is wrong with rates -/
def frsErr (S : List Fr) : Int := if 6 < S.length then 4 else firstFrom (fun i => match S[i]? with | some s => frErr s | none => 0) S.length 0
set_option maxHeartbeats 2000000 in
theorem sorted_fn (A : Option Addr) (c : Nat) (Q : List Rat) (B : Nat) (w : World) (hB : B ≤ w.heap.size) (hf : Frs w B A c (Q.map frQ)) (h6 : Q.length ≤ 6) (hq : ∀ q ∈ Q, QIn q) :
    Calls Tryz.prog 94 #[.func (.func 134) #[] #[.pointer (some ⟨w.heap.size, 0, none⟩)], .func (Fn.func 66) #[] #[]] (w.alloc (.cells #[.slice A Q.length c] 33)) fun e w' => ∃ v, e = .returned v ∧ w'.ownsRow w.heap.size 37 2 v Q.length (qcells (MM.srt Q)) ∧ Below w.heap.size w w' := by
  have hb0 := (Below.refl w.heap.size w).alloc (Nat.le_refl _) (.cells #[.slice A Q.length c] 33)
  have HB0 := Lib.hid hb0
  have hn0 : w.heap.size < (w.alloc (.cells #[.slice A Q.length c] 33)).heap.size := by simp
  have hcl : (w.alloc (.cells #[.slice A Q.length c] 33)).cell? ⟨w.heap.size, 0, none⟩ = some (.slice A Q.length c) := (Blk.new w _ _).cell 0
  have hff : Frs (w.alloc (.cells #[.slice A Q.length c] 33)) (w.alloc (.cells #[.slice A Q.length c] 33)).heap.size A c (Q.map frQ) := (hf.below hb0 hB).more (by omega)
  have HS := Lib.hid (Go.callsIn_wide.1 (appendSeq_in Fence.wide 5 trivial trivial rfl (by omega) w.heap.size A c Q (by omega) _ hn0 hcl hff))
  have HQ := Lib.hid hq
  clear hb0 hcl hff hf hq
  obtain ⟨w1, hw1⟩ : ∃ x, x = w.alloc (.cells #[.slice A Q.length c] 33) := ⟨_, rfl⟩
  rw [← hw1] at HB0 HS hn0 ⊢
  clear hw1
  have HC : Hid (Calls Tryz.prog 132 #[.func (.func 134) #[] #[.pointer (some ⟨w.heap.size, 0, none⟩)]] w1 fun e w' => ∃ v, e = .returned v ∧ w'.ownsRow w1.heap.size 37 2 v Q.length (qcells Q) ∧ Below w1.heap.size w1 w') := Lib.hid (by
    go_enter Tryz.func132, Tryz.ntmps132
    go_wp2_with fail
    refine HS.out.mono ?_; rintro e w2 ⟨v, rfl, ho, hb⟩
    have HO := Lib.hid ho; have HB := Lib.hid hb
    clear ho hb
    obtain ⟨A', c', rfl, _, _, _⟩ := owns_reads HO.out
    go_wp2
    go_ret
    exact ⟨_, rfl, HO.out, HB.out⟩)
  clear HS
  go_enter Tryz.func94, Tryz.ntmps94
  go_wp2_with fail
  refine HC.out.mono ?_; rintro e w2 ⟨v, rfl, ho, hb⟩
  have HO := Lib.hid ho; have HB := Lib.hid hb
  have hs := hb.size
  clear ho hb HC
  obtain ⟨A', c', rfl, _, _, _⟩ := owns_reads HO.out
  go_wp2_with fail
  refine (sortFr_any Q Q.length w1.heap.size _ w2 h6 rfl HQ.out HO.out hs).mono ?_; rintro e w3 ⟨rfl, ho, hb⟩
  have HO3 := Lib.hid (own_baseB ho (Nat.le_of_lt hn0)); have HB3 := Lib.hid ((HB0.out.trans (HB.out.mono (Nat.le_of_lt hn0))).trans (hb.mono (Nat.le_of_lt hn0)))
  clear ho hb
  go_wp2
  go_ret
  exact ⟨_, rfl, HO3.out, HB3.out⟩
end Go.Proofs.YtaijpiebjhhkjaaGreatDoor
