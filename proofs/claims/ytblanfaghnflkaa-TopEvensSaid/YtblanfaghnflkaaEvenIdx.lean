/- even.Index, Gap, Give: what they answer, as the laws ask it. -/
import Derived.Test.YtblanfaghnflkaaEvenLow
import Derived.Test.YtblanfaghnflkaaEvenGive
namespace Go.Proofs.Ytblanfaghnflkaa
open Go.RowKit
theorem index_bad (A : Option Addr) (c : Nat) (l : List Int) (w : World) (h : Ints w w.heap.size A c l) (er : Int) (he : idxErr l = er) (hp : er ≠ 0) :
    Calls Try.prog 69 #[.slice A l.length c] w fun e w' => e = .returned (.tuple #[.agg #[.int .i64 0, .int .i64 0], .iface 71 (.int .i64 er)]) ∧ Below w.heap.size w w' := by
  unfold idxErr at he
  split at he
  · exact index_err A c l w h er he hp
  · rename_i h0
    split at he
    · subst he
      refine (index_in A c l w h (by simpa using h0)).mono ?_
      rintro e w' ⟨hb, ⟨_, rfl⟩ | ⟨h1, _⟩⟩
      · exact ⟨rfl, hb⟩
      · exact absurd (by assumption) h1
    · exact absurd he.symm hp
theorem index_ok (A : Option Addr) (c : Nat) (l : List Int) (w : World) (h : Ints w w.heap.size A c l) (he : idxErr l = 0) (vt vb : Int) (ht : idxT l = vt) (hb : idxB l = vb) :
    Calls Try.prog 69 #[.slice A l.length c] w fun e w' => e = .returned (.tuple #[.agg #[.int .i64 vt, .int .i64 vb], .nilIface]) ∧ Below w.heap.size w w' := by
  subst ht hb
  unfold idxErr at he
  split at he
  · rename_i h0; exact absurd he h0
  · rename_i h0
    split at he
    · omega
    · refine (index_in A c l w h (by simpa using h0)).mono ?_
      rintro e w' ⟨hb, ⟨h1, _⟩ | ⟨_, rfl⟩⟩
      · exact absurd h1 (by assumption)
      · exact ⟨rfl, hb⟩
theorem idx_parts {l : List Int} (h : idxErr l = 0) : fewErr l 1000 = 0 ∧ tot l ≠ 0 := by
  unfold idxErr at h
  split at h
  · rename_i h0; exact absurd h h0
  · rename_i h0
    split at h
    · omega
    · exact ⟨by simpa using h0, by assumption⟩
theorem egap_is (A : Option Addr) (c n : Nat) (l : List Int) (B : Nat) (w : World) (h : Ints w B A c l) (he : fewErr l 1000 = 0) (y : Int) (hy : gapL l = y) (hn : n = l.length) :
    Calls Try.prog 32 #[.slice A n c] w fun e w' => e = .returned (.tuple #[.int .i64 y, .nilIface]) ∧ w = w' := by
  subst hy hn; exact egap_in A c l B w h he
theorem index_ok' (A : Option Addr) (c n : Nat) (l : List Int) (w : World) (h : Ints w w.heap.size A c l) (he : idxErr l = 0) (vt vb : Int) (ht : idxT l = vt) (hb : idxB l = vb) (hn : n = l.length) :
    Calls Try.prog 69 #[.slice A n c] w fun e w' => e = .returned (.tuple #[.agg #[.int .i64 vt, .int .i64 vb], .nilIface]) ∧ Below w.heap.size w w' := by
  subst hn; exact index_ok A c l w h he vt vb ht hb
end Go.Proofs.Ytblanfaghnflkaa
