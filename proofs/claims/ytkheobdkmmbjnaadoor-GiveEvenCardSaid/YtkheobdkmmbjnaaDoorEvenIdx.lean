/- even.Index, Gap, Give: what they answer, as the laws ask it. -/
import Derived.Test.YtkheobdkmmbjnaaDoorEvenLow
import Derived.Test.YtkheobdkmmbjnaaDoorEvenGive
namespace Go.Proofs.YtkheobdkmmbjnaaDoor
open Go.RowKit
theorem index_bad (A : Option Addr) (c : Nat) (l : List Int) (w : World) (h : Ints w w.heap.size A c l) (er : Int) (he : idxErr l = er) (hp : er ≠ 0) :
    Calls Tryd.prog 50 #[.slice A l.length c] w fun e w' => e = .returned (.tuple #[.agg #[.int .i64 0, .int .i64 0], .iface 124 (.int .i64 er)]) ∧ Below w.heap.size w w' := by
  unfold idxErr at he
  split at he
  · exact index_err A c l w h er he hp
  · rename_i h0
    split at he
    · subst he
      refine (index_in A c l w h (by simpa using h0)).mono ?_
      rintro e w' ⟨hb, ⟨_, rfl⟩ | ⟨h1, _⟩⟩
      · exact ⟨rfl, hb⟩
      · exact absurd (by assumption) h1
    · exact absurd he.symm hp
theorem index_ok (A : Option Addr) (c : Nat) (l : List Int) (w : World) (h : Ints w w.heap.size A c l) (he : idxErr l = 0) (vt vb : Int) (ht : idxT l = vt) (hb : idxB l = vb) :
    Calls Tryd.prog 50 #[.slice A l.length c] w fun e w' => e = .returned (.tuple #[.agg #[.int .i64 vt, .int .i64 vb], .nilIface]) ∧ Below w.heap.size w w' := by
  subst ht hb
  unfold idxErr at he
  split at he
  · rename_i h0; exact absurd he h0
  · rename_i h0
    split at he
    · omega
    · refine (index_in A c l w h (by simpa using h0)).mono ?_
      rintro e w' ⟨hb, ⟨h1, _⟩ | ⟨_, rfl⟩⟩
      · exact absurd h1 (by assumption)
      · exact ⟨rfl, hb⟩
theorem idx_parts {l : List Int} (h : idxErr l = 0) : fewErr l 1000 = 0 ∧ tot l ≠ 0 := by
  unfold idxErr at h
  split at h
  · rename_i h0; exact absurd h h0
  · rename_i h0
    split at h
    · omega
    · exact ⟨by simpa using h0, by assumption⟩
theorem egap_is (A : Option Addr) (c n : Nat) (l : List Int) (B : Nat) (w : World) (h : Ints w B A c l) (he : fewErr l 1000 = 0) (y : Int) (hy : gapL l = y) (hn : n = l.length) :
    Calls Tryd.prog 51 #[.slice A n c] w fun e w' => e = .returned (.tuple #[.int .i64 y, .nilIface]) ∧ w = w' := by
  subst hy hn; exact egap_in A c l B w h he
theorem index_ok' (A : Option Addr) (c n : Nat) (l : List Int) (w : World) (h : Ints w w.heap.size A c l) (he : idxErr l = 0) (vt vb : Int) (ht : idxT l = vt) (hb : idxB l = vb) (hn : n = l.length) :
    Calls Tryd.prog 50 #[.slice A n c] w fun e w' => e = .returned (.tuple #[.agg #[.int .i64 vt, .int .i64 vb], .nilIface]) ∧ Below w.heap.size w w' := by
  subst hn; exact index_ok A c l w h he vt vb ht hb
theorem egive_bad (A : Option Addr) (c : Nat) (l : List Int) (f t m : Int) (w : World) (h : Ints w w.heap.size A c l) (he : fewErr l 1000 = 0) (no : ¬ (GiveRange l.length f t m ∧ m ≤ l.getD f.toNat 0 ∧ (giveTo l f.toNat t.toNat m).getD t.toNat 0 ≤ 1000)) :
    Calls Tryd.prog 61 #[.slice A l.length c, .int .i64 f, .int .i64 t, .int .i64 m] w fun e w' => ∃ er : Int, e = .returned (.tuple #[.slice none 0 0, .iface 124 (.int .i64 er)]) ∧ Below w.heap.size w w' := by
  by_cases hr : GiveRange l.length f t m
  · have hr0 := hr
    obtain ⟨f0, f1, t0, t1, m0, m1⟩ := hr
    obtain ⟨f', rfl⟩ := Int.eq_ofNat_of_zero_le f0
    obtain ⟨t', rfl⟩ := Int.eq_ofNat_of_zero_le t0
    rw [Int.toNat_natCast, Int.toNat_natCast] at no
    refine (egive_in A c l f' t' m w h he (by omega) (by omega) m0 m1).mono ?_
    rintro e w' ⟨hb, ⟨_, rfl⟩ | ⟨_, _, rfl⟩ | ⟨h1, h2, _⟩⟩
    · exact ⟨_, rfl, hb⟩
    · exact ⟨_, rfl, hb⟩
    · exact absurd ⟨hr0, h1, h2⟩ no
  · exact (egive_range A c l f t m w h he hr).mono fun _ _ ⟨h1, h2⟩ => ⟨_, h1, h2⟩
theorem egive_fine (A : Option Addr) (c : Nat) (l : List Int) (f t : Nat) (m : Int) (w : World) (h : Ints w w.heap.size A c l) (he : fewErr l 1000 = 0) (hf : f < l.length) (ht : t < l.length) (m0 : 0 ≤ m) (m1 : m ≤ 1000) (hlow : m ≤ l.getD f 0) (hfull : (giveTo l f t m).getD t 0 ≤ 1000) :
    Calls Tryd.prog 61 #[.slice A l.length c, .int .i64 f, .int .i64 t, .int .i64 m] w fun e w' => ∃ v, e = .returned (.tuple #[v, .nilIface]) ∧ w'.ownsRow (w.heap.size + 1) 3 1 v l.length ((giveTo l f t m).map (Value.int .i64)) ∧ Below w.heap.size w w' := by
  refine (egive_in A c l f t m w h he hf ht m0 m1).mono ?_
  rintro e w' ⟨hb, ⟨h1, _⟩ | ⟨_, h1, _⟩ | ⟨_, _, v, rfl, ho⟩⟩
  · omega
  · omega
  · exact ⟨v, rfl, ho, hb⟩
end Go.Proofs.YtkheobdkmmbjnaaDoor
