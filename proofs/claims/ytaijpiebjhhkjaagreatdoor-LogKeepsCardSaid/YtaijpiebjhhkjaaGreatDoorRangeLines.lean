/- 'for s := range strings.Lines(b)': the iterator keeps the rest of the text in a cell; the lines are counted by their number. -/
import Derived.Test.YtaijpiebjhhkjaaGreatDoorLogOps
import Derived.Test.YtaijpiebjhhkjaaGreatDoorShByteG
import Derived.RangeFuncNested
import Derived.RangeFuncBound
import Derived.RangeFuncCalls
import Derived.RangeFuncLeaves
import Derived.RangeFuncBox
import Derived.Shelf.Abstract
import Derived.OwnWalkIn
import Derived.TacticsInMore
import Derived.LoopNIn
import Derived.LoopIn
namespace Go.Proofs.YtaijpiebjhhkjaaGreatDoor
open Go.RowKit Go.Shelf
attribute [local go_sem] Oper.semAt_some
/-- where the first newline stands -/
theorem indexByte_at {a b : List UInt8} (h : (10 : UInt8) ∉ a) : Lib.indexByte (a ++ 10 :: b) 10 = a.length := by
  induction a with
  | nil => simp [Lib.indexByte]
  | cons x a ih =>
    have hx : (x == 10) = false := beq_eq_false_iff_ne.2 fun e => h (by rw [e]; exact List.mem_cons_self)
    have hi := ih fun e => h (List.mem_cons_of_mem _ e)
    have hn : ((a.length : Int) == -1) = false := beq_eq_false_iff_ne.2 (by omega)
    simp [Lib.indexByte, hx, hi, hn]
theorem bytes_drop (s : ByteArray) (k : Nat) : (s.extract k s.size).data.toList = s.data.toList.drop k := by
  simp [ByteArray.data_extract, Array.toList_extract, List.extract, List.take_of_length_le]
theorem lines_in (s : ByteArray) (n : Nat) (w : World) :
    CallsIn Fence.wide n Tryz.prog 52 #[.string s] w fun e w' => e = .returned (.func (.func 80) #[] #[.pointer (some ⟨w.heap.size, 0, none⟩)]) ∧ w' = w.alloc (.cells #[.string s] 9) := by
  refine callsIn_of_wp Tryz.func52 rfl trivial ?_ rfl
  simp only [Tryz.ntmps52, List.size_toArray, List.length_cons, List.length_nil, Nat.reduceAdd, Nat.reduceSub, Array.replicate_succ, Array.replicate_zero, List.push_toArray, List.append_toArray, List.nil_append, List.cons_append]
  gi_wp2
  go_ret
  exact ⟨rfl, rfl⟩
/-- how much of the text is left -/
def restLeft (Bs : Nat) (wr : World) : Nat := match wr.cell? ⟨Bs, 0, none⟩ with | some (.string r) => r.size | _ => 0
theorem restLeft_eq {Bs : Nat} {wr : World} {t : TypeId} {r : ByteArray} (h : Blk wr Bs t #[.string r]) : restLeft Bs wr = r.size := by
  unfold restLeft; rw [h.one.1]
/-- a text of whole lines -/
def Whole (ls : List (List UInt8)) : Prop := ∀ x ∈ ls, ∃ a, x = a ++ [10] ∧ (10 : UInt8) ∉ a
set_option maxRecDepth 100000 in
set_option maxHeartbeats 8000000 in
theorem lines1_in (n : Nat) (hn : 2 ≤ n) (l Bs : Nat) (ls : List (List UInt8)) (hls : Whole ls) (hsm : ls.flatten.length ≤ 1000000000) (J : Nat → World → Prop) (hbx : ∀ k W u, J k W → J k (W.setCell ⟨Bs, 0, none⟩ u)) (hdr : ∀ k W, J k W → J k W.drew)
    (hY : ∀ (k : Nat) (W : World) (x : ByteArray), J k W → ls[k]? = some x.data.toList → YieldAt Fence.wide (n - 1) Tryz.prog l #[.string x] W fun e W' => e = .returned (.bool true) ∧ J (k + 1) W' ∧ W'.heap[Bs]? = W.heap[Bs]?)
    (W : World) (s : ByteArray) (hBs : Blk W Bs 9 #[.string s]) (hs : s.data.toList = ls.flatten) (h0 : J 0 W) :
    CallsIn Fence.wide n Tryz.prog 80 #[.func (.yield l) #[] #[], .pointer (some ⟨Bs, 0, none⟩)] W fun e W' => (∃ v, e = .returned v) ∧ J ls.length W' := by
  have HLS := Lib.hid hls
  have HS := Lib.hid hs
  have HB := Lib.hid hBs
  clear hls hs hBs
  refine callsIn_of_wp Tryz.func80 rfl trivial ?_ rfl
  simp only [Tryz.ntmps80, List.size_toArray, List.length_cons, List.length_nil, Nat.reduceAdd, Nat.reduceSub, Array.replicate_succ, Array.replicate_zero, List.push_toArray, List.append_toArray, List.nil_append, List.cons_append]
  gi_wp2
  gi_loopw [3] (fun _ wr => ∃ (k : Nat) (r : ByteArray), k ≤ ls.length ∧ Hid (r.data.toList = (ls.drop k).flatten) ∧ Hid (Blk wr Bs 9 #[.string r]) ∧ J k wr)
    (fun _ wr => restLeft Bs wr)
  case atStart => exact ⟨0, s, Nat.zero_le _, HS, HB, h0⟩
  case round =>
    clear HB
    obtain ⟨k, r, hk, HR, HB, hJ⟩ := hrel
    obtain ⟨c0, f0, z⟩ := HB.out.one
    by_cases hlt : k < ls.length
    · obtain ⟨a, ha, hna⟩ := HLS.out _ (List.getElem_mem hlt)
      have hdr2 : ls.drop k = ls[k] :: ls.drop (k + 1) := List.drop_eq_getElem_cons hlt
      have hrd : r.data.toList = a ++ 10 :: (ls.drop (k + 1)).flatten := by rw [HR.out, hdr2, List.flatten_cons, ha]; simp
      have hrs : r.size = a.length + 1 + (ls.drop (k + 1)).flatten.length := by rw [← bytes_len, hrd]; simp; omega
      have hrm : r.size ≤ 1000000000 := by
        have : (ls.drop k).flatten.length ≤ ls.flatten.length := by
          conv => rhs; rw [← List.take_append_drop k ls, List.flatten_append, List.length_append]
          omega
        rw [← bytes_len, HR.out]; omega
      have hib : Lib.indexByte r.data.toList ((10 : Int).toNat.toUInt8) = (a.length : Int) := by rw [hrd]; exact indexByte_at hna
      have hx : ls[k]? = some (r.extract 0 (a.length + 1)).data.toList := by
        rw [bytes_take, hrd, List.getElem?_eq_getElem hlt, ha]
        congr 1
        rw [show a ++ 10 :: (ls.drop (k + 1)).flatten = (a ++ [10]) ++ (ls.drop (k + 1)).flatten by simp, List.take_left' (by simp)]
      have hrest : (r.extract (a.length + 1) r.size).data.toList = (ls.drop (k + 1)).flatten := by
        rw [bytes_drop, hrd, show a ++ 10 :: (ls.drop (k + 1)).flatten = (a ++ [10]) ++ (ls.drop (k + 1)).flatten by simp, List.drop_left' (by simp)]
      have hrest2 : (r.extract (a.length + 1) r.size).size < r.size := by rw [← bytes_len, hrest]; omega
      have HX := Lib.hid hx; have HRE := Lib.hid hrest; have HRZ := Lib.hid hrest2
      have r1 : (0 : Int) < (r.size : Int) := by omega
      have r2 : 0 < r.size := by omega
      have r3 : a.length + 1 ≤ r.size := by omega
      obtain ⟨al, hal⟩ : ∃ al, al = a.length := ⟨_, rfl⟩
      rw [← hal] at hib HX HRE HRZ r3
      clear ha hna hdr2 hrd hrs hx hrest hrest2 hal
      have HJ := Lib.hid hJ
      clear hJ
      gi_wp2_with (refine ⟨trivial, fun _ => (by omega), ?_⟩; gi_at_call 81; refine (callsIn_wide.2 (Tryz.strings_IndexByte r 10 _)).mono ?_; rintro e w' ⟨rfl, hw⟩; rw [hw, hib]; clear hw w' hib)
      have q1 : IntKind.i64.wrap ((al : Int) + 1) = (al : Int) + 1 := IntWalk.i64_in _ (by omega)
      have q2 : (0 : Int) ≤ (al : Int) + 1 := by omega
      have q3 : ((al : Int) + 1).toNat = al + 1 := by omega
      have q4 : (al : Int) + 1 ≤ (r.size : Int) := by omega
      gi_region
      clear q1 q2 q3 q4
      have HBn := Lib.hid (show Blk (wr.setCell ⟨Bs, 0, none⟩ (.string (r.extract (al + 1) r.size))).drew Bs 9 #[.string (r.extract (al + 1) r.size)] from HB.out.s1_0 _)
      have hJn : J k (wr.setCell ⟨Bs, 0, none⟩ (.string (r.extract (al + 1) r.size))).drew := hdr _ _ (hbx _ _ _ HJ.out)
      obtain ⟨wn, hwn⟩ : ∃ x, x = (wr.setCell ⟨Bs, 0, none⟩ (.string (r.extract (al + 1) r.size))).drew := ⟨_, rfl⟩
      rw [← hwn] at HBn hJn ⊢
      clear hwn c0 f0 z
      obtain ⟨fn, tmps, assign, body, hy, hRd⟩ := hY k wn _ hJn HX.out
      clear hJn
      gi_wp2
      refine ⟨fun _ => (by omega), hRd.mono ?_⟩
      rintro e W3 ⟨rfl, hJ3, hk3⟩
      have HB3 := Lib.hid (show Blk W3 Bs 9 #[.string (r.extract (al + 1) r.size)] from hk3.trans HBn.out)
      gi_wp2
      go_roundw
      case rel => exact ⟨k + 1, _, by omega, HRE, HB3, hJ3⟩
      case measure => rw [restLeft_eq HB3.out, restLeft_eq HB.out]; exact HRZ.out
    · obtain rfl : k = ls.length := by omega
      have hr0 : r.size = 0 := by rw [← bytes_len, HR.out, List.drop_length]; rfl
      gi_wp2
      go_end0
      exact ⟨⟨_, rfl⟩, hJ⟩
/-- **the loop 'for s := range strings.Lines(b)' whose body always goes on**: I: what holds when so many lines are done -/
theorem range_lines {g : Operand} {ps : Array Tmp} {assign body : Code} {Q : Exit → Act → World → Prop} {a : Act} {w : World} (n : Nat) (hn : 4 ≤ n) (Bs : Nat) (hg : a.eval g = .func (.func 80) #[] #[.pointer (some ⟨Bs, 0, none⟩)]) (hps : ps.size = 1)
    (ls : List (List UInt8)) (hls : Whole ls) (hsm : ls.flatten.length ≤ 1000000000) (s : ByteArray) (hBs : Blk w Bs 9 #[.string s]) (hs : s.data.toList = ls.flatten)
    (I : Nat → World → Prop) (hI : OwnFrom w.heap.size I) (hIb : ∀ k W u, I k W → I k (W.setCell ⟨Bs, 0, none⟩ u)) (hId : ∀ k W, I k W → I k W.drew) (h0 : I 0 w) (a₁ : ByteArray → Act)
    (hassign : ∀ (l : Nat) (x : ByteArray) (W : World) (K : Act → World → Prop), K (a₁ x) W → assign.wpIn (Fence.wide.inRound l) (n - 1 - 1) Tryz.prog (Exit.then K (fun _ _ _ => False)) { tmps := (ps.zip #[Value.string x]).foldl (fun t (p, v) => t.setIfInBounds p v) a.tmps, defers := [] } W)
    (hbody : ∀ (l k : Nat) (x : ByteArray) (W : World), w.heap.size ≤ l → (∃ r, W.heap[l]? = some (.loop r)) → I k W → ls[k]? = some x.data.toList →
      body.wpIn (Fence.wide.inRound l) (n - 1 - 1) Tryz.prog (Exit.then (fun _ W' => KeepsFrom w.heap.size W W' ∧ W'.heap[Bs]? = W.heap[Bs]? ∧ I (k + 1) W') (fun _ _ _ => False)) (a₁ x) W)
    (hdone : ∀ (D : Nat) (W : World), w.heap.size ≤ D → I ls.length W → W.heap[D]? = some (.deferred (some [])) → Q .normal { a with defers := { target := .collected D, args := #[] } :: a.defers } W) :
    (Code.rangeFunc g ps assign body).wpIn Fence.wide n Tryz.prog Q a w := by
  have hbz := hBs.lt
  refine wpIn_rangeFunc ?_
  intro fn hfn
  obtain ⟨rc, hrc⟩ : ∃ rc : LoopState → Option Code → Loop, rc = fun st pe => { state := st, pending := pe, fn, tmps := a.tmps, params := ps, assign, body, defers := w.heap.size } := ⟨_, rfl⟩
  obtain ⟨W1, hW1⟩ : ∃ W1, (w.alloc (.deferred (some []))).alloc (.loop (rc .ready none)) = W1 := ⟨_, rfl⟩
  have hL1 : W1.heap[w.heap.size + 1]? = some (.loop (rc .ready none)) := by
    rw [← hW1]; have := World.alloc_heap_new (w.alloc (.deferred (some []))) (.loop (rc .ready none)); rwa [World.size_alloc] at this
  have hK1 : W1.heap[w.heap.size]? = some (.deferred (some [])) := by
    rw [← hW1]; exact (Below.heap_alloc _ _ _ (by simp)).trans (World.alloc_heap_new w _)
  have hI1 : I 0 W1 := by rw [← hW1]; exact hI.alloc _ (hI.alloc _ h0)
  have hB1 : Blk W1 Bs 9 #[.string s] := by rw [← hW1]; exact (hBs.alloc _).alloc _
  refine ⟨w.heap.size + 1, [{ target := .collected w.heap.size, args := #[] }], W1, { target := .fn (.func 80) #[.pointer (some ⟨Bs, 0, none⟩)], args := #[.func (.yield (w.heap.size + 1)) #[] #[]] }, W1, 80,
    #[.func (.yield (w.heap.size + 1)) #[] #[]] ++ #[.pointer (some ⟨Bs, 0, none⟩)], W1, ?_, ?_, fun _ _ => trivial, ?_, fun _ => by omega, ?_⟩
  · rw [← hW1, hrc]; exact run_enterLoop_outer _ _ _ _ _
  · simp only [resolve, hg]
    simp [go_sem]
  · simp [invoke, go_sem]
  · refine (lines1_in (n - 1) (by omega) (w.heap.size + 1) Bs ls hls hsm
      (fun k W => I k W ∧ W.heap[w.heap.size + 1]? = some (.loop (rc .ready none)) ∧ W.heap[w.heap.size]? = some (.deferred (some [])))
      (fun k W u hs => ⟨hIb _ _ _ hs.1, (Below.heap_setCell W _ u _ (by simp; omega)).trans hs.2.1, (Below.heap_setCell W _ u _ (by simp; omega)).trans hs.2.2⟩)
      (fun k W hs => ⟨hId _ _ hs.1, hs.2⟩) ?_ W1 s hB1 hs ⟨hI1, hL1, hK1⟩).mono ?_
    · rintro k W x ⟨hi, hl, hk⟩ hx
      have hlt : w.heap.size + 1 < W.heap.size := (Array.getElem?_eq_some_iff.1 hl).1
      have hy := run_yield (P := Tryz.prog) (args := #[Value.string x]) hl (by rw [hrc]; simp [hps])
      rw [hrc] at hy
      refine ⟨fn, _, assign, body, hy, roundIn_of_wpIn hfn (hassign _ x W _ ?_)⟩
      clear hy
      refine ⟨_, run_beginRound hl (by rw [hrc]), ?_⟩
      have hl2 : (W.putObj (w.heap.size + 1) (.loop { rc .ready none with state := .busy })).heap[w.heap.size + 1]? = some (.loop { rc .ready none with state := .busy }) := World.putObj_heap_same hlt
      have hk2 : (W.putObj (w.heap.size + 1) (.loop { rc .ready none with state := .busy })).heap[w.heap.size]? = some (.deferred (some [])) := (World.putObj_heap_other (by omega)).trans hk
      have hb2 : (W.putObj (w.heap.size + 1) (.loop { rc .ready none with state := .busy })).heap[Bs]? = W.heap[Bs]? := World.putObj_heap_other (by omega)
      refine wpIn_mono (hbody _ k x _ (by omega) ⟨_, hl2⟩ (hI.putObj _ hi (by omega) hl rfl) hx) ?_
      rintro e a3 W3 hp
      cases e with
      | normal =>
        obtain ⟨hk3, hb3, hi3⟩ := hp
        have hl3 := hk3.same _ _ (by omega) hl2 rfl
        have hd3 := hk3.same _ _ (Nat.le_refl _) hk2 rfl
        have he := run_endRound (P := Tryz.prog) none hl3
        have hlt3 := (Array.getElem?_eq_some_iff.1 hl3).1
        have eq1 : ({ ({ rc .ready none with state := .busy } : Loop) with state := if (none : Option Code).isNone then .ready else .done, pending := none } : Loop) = rc .ready none := by rw [hrc]; rfl
        rw [eq1] at he
        refine ⟨_, _, he, rfl, ⟨hI.putObj _ hi3 (by omega) hl3 rfl, World.putObj_heap_same hlt3, (World.putObj_heap_other (by omega)).trans hd3⟩, (World.putObj_heap_other (by omega)).trans (hb3.trans hb2)⟩
      | ret => exact hp.elim
      | exit id => exact hp.elim
      | goto t => exact hp.elim
      | panic ch => exact hp.elim
      | outgrown => exact hp.elim
    · rintro e W2 ⟨⟨v, rfl⟩, hi, hl, hk⟩
      have he := run_endLoop (P := Tryz.prog) hl (by rw [hrc]; simp)
      exact ⟨none, _, by rw [hrc] at he; exact he, hdone _ _ (Nat.le_refl _) (hI.putObj _ hi (by omega) hl rfl) ((World.putObj_heap_other (by omega)).trans hk)⟩
end Go.Proofs.YtaijpiebjhhkjaaGreatDoor
