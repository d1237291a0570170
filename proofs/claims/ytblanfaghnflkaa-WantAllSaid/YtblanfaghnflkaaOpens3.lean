/- How long the paths of a net that came in may be, by the form's own reach; append onto long rows. -/
import Derived.Test.YtblanfaghnflkaaLibA
import Derived.ProofKit
import Derived.OpenShut
import Derived.SizedLaws
import Derived.Lib.SmallJoins
import Derived.Deep.Slices
namespace Go.Proofs.Ytblanfaghnflkaa
open Go.ChangeShapes Go.WideShapes Go.ChangeAt Go.RowKit Go.Deep
section
variable {H : Type} {P : Program} {enc : TypeId × Value → H} {w : World}
theorem paths_size {ts : List TypeId} {ds : List (DataW H)} {tn e : TypeId} {f0 f1 : Field} {y0 y1 : DataW H × List MemPlace} {base : Nat} {spare : Nat → Bool} {held : Bool} {fuel : Nat} {A : Option Addr} {n c : Nat}
    (hsz : (DataW.weightsEach P ts ds).all (· ≤ reachBytes) = true) (ht : ts[0]? = some tn) (hd : ds[0]? = some (.agg [y0.1, y1.1])) (hs : P.underlying tn = some (.struct #[f0, f1])) (hu : P.underlying f1.type = some (.slice e)) (hc : P.cellsOf e = 1)
    (h : DataW.trod enc P w base spare held fuel f1.type [.slice A n c] = some y1) : n * P.bytesOf e ≤ reachBytes := by
  rcases open_slice1 hu hc h with ⟨hcs, _⟩ | ⟨a, len, cap, m, n', V, D, Pl, hcs, _, hl, hm, hmm, hx, _⟩
  · have : n = 0 := by simp at hcs; exact hcs.2.1
    subst this; simp
  · have hn : n = len := by simp at hcs; exact hcs.2.1
    subst hn
    rw [hx] at hd
    have := List.all_eq_true.1 hsz _ (DataW.weights_mem_each ht hd ((n + (m - n)) * P.bytesOf e) (by
      simp [DataW.weights, DataW.weightsEach, hs, hu]))
    have h2 : (n + (m - n)) * P.bytesOf e ≤ reachBytes := by simpa using this
    exact Nat.le_trans (Nat.mul_le_mul_right _ (by omega)) h2
end
/-- append of one element, in a block of its own, onto a row of the call's own, however long -/
theorem wpList_pushZ {P : Program} {ops : Array Oper} {rest : List Oper} {o : Oper} {a : Act} {Q : Exit → Act → World → Prop} (wr : World) (cs : Array Value) (hgd : o.guard = none) (s x : Operand) (t : TypeId)
    (ho : o.op = .call { callee := .builtin .append, args := #[s, x], argTypes := #[t, t] })
    (base : Nat) (e : TypeId) (z : Value) (size bytes : Nat) (ht : P.underlying t = some (.slice e)) (hinfo : (P.info? e).map (fun i => (i.zero, i.size, i.bytes)) = some (some z, size, bytes))
    (hzs : z.cells.size = size) (hsz : 0 < size) (v : Value) (n : Nat) (xs : List Value) (hs : a.eval s = v) (hown : wr.ownsRow base e size v n xs)
    (hx : a.eval x = .slice (some ⟨wr.heap.size, 0, none⟩) 1 1) (hl : cs.size = size) (h1 : ∀ u ∈ cs.toList, u.oneCell' = true) (hn : n + 1 ≤ maxLen) (hb : (n + 1) * bytes ≤ 140737488355328) (hbase : base ≤ wr.heap.size)
    (h : ∀ v' w', w'.ownsRow base e size v' (n + 1) (xs ++ cs.toList) → wr.grownBy w' v.ownBlock → wpList P ops Q rest (a.put o.dst v') w') : wpList P ops Q (o :: rest) a (wr.alloc (.cells cs e)) := by
  obtain ⟨i, hi, hz, h2, h3⟩ := info_parts hinfo
  refine wpList_append_own _ hgd s x t ho base e i z size bytes ht hi hz h2 h3 hzs hsz v n xs hs (hown.alloc _) ⟨wr.heap.size, 0, none⟩ 1 1 cs.toList hx (by simpa using hl) ?_ h1 hn hb (by simp; omega) ?_
  · intro j u hu
    have hadd : (⟨wr.heap.size, 0, none⟩ : Addr).add j = ⟨wr.heap.size, j, none⟩ := by unfold Addr.add; split <;> simp_all
    rw [hadd, cell_of_row _ wr.heap.size j cs e (0, 0) (heap_alloc_new wr _)]
    simpa using hu
  · intro v' w' h5 h6 _
    refine h v' w' h5 ⟨h6.os, h6.tape, h6.output, Nat.le_trans (by simp) h6.size, fun k hk hne => ?_⟩
    rw [h6.block k (by simp; omega) hne]
    exact Below.heap_alloc wr _ k hk
end Go.Proofs.Ytblanfaghnflkaa
