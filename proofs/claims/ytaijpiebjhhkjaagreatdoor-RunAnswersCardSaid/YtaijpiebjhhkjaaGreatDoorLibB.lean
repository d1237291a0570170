/- Several texts in one: Bld, RangeLines, Other, Bld2, Bld3, RangeLines2. -/
import Derived.Test.YtaijpiebjhhkjaaGreatDoorLibO
import Derived.Lib.Builder
import Derived.Lib.AppendStr
import Derived.Lib.UnsafeStr
import Derived.Laws.Externs
import Derived.WalkKit
import Derived.Test.YtaijpiebjhhkjaaGreatDoorLibR
import Derived.RangeFuncNested
import Derived.RangeFuncBound
import Derived.RangeFuncCalls
import Derived.RangeFuncLeaves
import Derived.RangeFuncBox
import Derived.Shelf.Abstract
import Derived.OwnWalkIn
import Derived.TacticsInMore
import Derived.LoopNIn
import Derived.LoopIn
import Derived.WalkSmall
/- (*strings.Builder).WriteString, strings.TrimSuffix. -/
namespace Go.Proofs.YtaijpiebjhhkjaaGreatDoor
open Go.RowKit
theorem Tryz.bldSize : (Tryz.prog.info? 96).map (·.size) = some 2 := by kernel_rfl
theorem Tryz.bldLies : liesAt Tryz.prog Tryz.prog.depth 96 (2 / Tryz.prog.cellsOf 96) 0 96 1 = true := by kernel_rfl
theorem Tryz.info_u8 : (Tryz.prog.info? 5).map (fun i => (i.zero, i.size, i.bytes)) = some (some (.int .u8 0), 1, 1) := by kernel_rfl
abbrev BldIs (B b : Nat) (l : List UInt8) (w : World) : Prop := Lib.IsBuilder 96 5 B b (Lib.byteCells l) w
theorem bld_new (w : World) (B : Nat) (hB : B ≤ w.heap.size) : BldIs B w.heap.size [] (w.alloc (.cells #[.pointer none, .slice none 0 0] 96)) :=
  .inl ⟨hB, .slice none 0 0, heap_alloc_new w _, World.ownsRow_nil _ _ _ _, by simp [Value.ownBlock]⟩
theorem BldIs.below {B b : Nat} {l : List UInt8} {w w' : World} (h : BldIs B b l w) (hb : Below w.heap.size w w') : BldIs B b l w' := by
  have key : ∀ p, Lib.BuilderAt 96 5 B b p (Lib.byteCells l) w → Lib.BuilderAt 96 5 B b p (Lib.byteCells l) w' := fun p ⟨h1, v, h2, h3, h4⟩ => by
    have hlt := Blk.lt (t := 96) h2
    exact ⟨h1, v, (hb.block b hlt).trans h2, h3.kept (row := none) ⟨hb.os, hb.tape, hb.output, hb.size, fun i hi _ => hb.block i hi⟩ (by cases v.ownBlock <;> simp), h4⟩
  exact h.elim (fun x => .inl (key _ x)) (fun x => .inr (key _ x))
set_option maxRecDepth 100000 in
theorem bld_check (B b : Nat) (l : List UInt8) (w : World) (h : BldIs B b l w) :
    Calls Tryz.prog 82 #[.pointer (some ⟨b, 0, none⟩)] w fun e w' => e = .returned (.tuple #[]) ∧ Lib.BuilderAt 96 5 B b (.pointer (some ⟨b, 0, none⟩)) (Lib.byteCells l) w' ∧ Below B w w' := by
  obtain ⟨j, hj, hjs⟩ := Option.map_eq_some_iff.1 Tryz.bldSize
  rcases h with h | h
  · have c0 := h.cell0; have f0 := h.frozen0; have hsh := h.shape
    have H := Lib.hid h
    clear h
    go_enter Tryz.func82, Tryz.ntmps82
    go_wp2
    rw [Lib.run_to_unsafe w ⟨b, 0, none⟩ Tryz.underlying93 Tryz.underlying147 hj (by rw [hjs]; decide) hsh (Nat.zero_lt_succ 1)]
    simp only [Result.andThen]
    rw [Oper.upon_value]
    go_wp2
    rw [run_callFunc_extern Tryz.func110 (by kernel_rfl) (by kernel_rfl) (by kernel_rfl) (e := Extern.AbiNoEscape.same) (by kernel_rfl), Lib.run_noEscape]
    simp only [Result.andThen]
    rw [Oper.upon_value]
    go_wp2
    rw [Lib.run_from_unsafe w ⟨b, 0, none⟩ Tryz.underlying147 Tryz.underlying93 hj hsh Tryz.bldLies]
    simp only [Result.andThen]
    rw [Oper.upon_value]
    go_wp2
    go_end0
    exact ⟨rfl, H.out.used _, (Below.refl B w).setCell (p := ⟨b, 0, none⟩) H.out.1 _⟩
  · have c0 := h.cell0
    have H := Lib.hid h
    clear h
    go_enter Tryz.func82, Tryz.ntmps82
    go_wp2
    rw [Lib.run_neq_ptr_same w _ Tryz.underlying93 hj]
    go_wp2
    go_end0
    exact ⟨rfl, H.out, Below.refl B w⟩
set_option maxRecDepth 100000 in
theorem bld_write (B b : Nat) (l : List UInt8) (s : ByteArray) (w : World) (h : BldIs B b l w) (hl : l.length + s.size ≤ 100000000) (hB : B ≤ w.heap.size) :
    Calls Tryz.prog 53 #[.pointer (some ⟨b, 0, none⟩), .string s] w fun e w' => e = .returned (.tuple #[.int .i64 s.size, .nilIface]) ∧ BldIs B b (l ++ s.data.toList) w' ∧ Below B w w' := by
  obtain ⟨i0, hi0, hz0, hz1, hz2⟩ := info_parts Tryz.info_u8
  have H := Lib.hid h
  have hcl : (Lib.byteCells l).length = l.length := Lib.byteCells_length l
  clear h
  go_enter Tryz.func53, Tryz.ntmps53
  go_wp2_with fail
  refine (bld_check B b l w H.out).mono ?_; rintro e w1 ⟨rfl, ⟨hB1, v, hbk, hown, hne⟩, hb1⟩
  have hBk : Hid (Blk w1 b 96 #[.pointer (some ⟨b, 0, none⟩), v]) := Lib.hid hbk
  have HO := Lib.hid hown; have HNE := Lib.hid hne; have HB1 := Lib.hid hb1
  clear hbk hown hne hb1 H
  obtain ⟨c0, c1, f0, f1, z⟩ := hBk.out.two
  go_wp2_with (at_builtin; refine Lib.wpList_append_own_string _ rfl (.tmp 12) (.tmp 13) 94 9 rfl B 5 i0 Tryz.underlying94 Tryz.underlying9 hi0 hz0 hz1 hz2 _ _ _ rfl HO.out s rfl (by simp only [maxLen]; omega) (by omega) (by have := HB1.out.size; omega) ?_; intro v' w2 hown2 hg2 _; obtain ⟨A2, c2, rfl, _, _, _⟩ := owns_reads hown2; have HO2 := Lib.hid hown2; have HB2 : Hid (Below B w w2) := Lib.hid (HB1.out.grown hg2 (Nat.le_trans hB HB1.out.size) (fun k hk => (HO.out.lt k hk).1)); have HK2 : Hid (Blk w2 b 96 #[.pointer (some ⟨b, 0, none⟩), v]) := Lib.hid (hBk.out.grown hg2 (fun e => HNE.out e.symm)); clear hown2 hg2 c0 c1 f0 f1 z; obtain ⟨c0, c1, f0, f1, z⟩ := HK2.out.two)
  go_ret2
  refine ⟨rfl, .inr ?_, HB2.out.setCell (p := ⟨b, 1, none⟩) hB1 _⟩
  rw [Lib.byteCells_append]
  exact Lib.BuilderAt.put hB1 HK2.out (by rw [List.length_append, hcl, ← Lib.strCells_eq, Lib.strCells_length]; have := HO2.out; rw [hcl] at this; exact this) (by decide)
/-- a line without its newline -/
def trimNl (l : List UInt8) : List UInt8 := if l.getLast? = some 10 then l.dropLast else l
theorem ne_of_size {s : ByteArray} (h : 0 < s.size) : s.data.toList ≠ [] := by
  intro e
  rw [← bytes_len s, e] at h
  simp at h
theorem drop_last {l : List UInt8} (h : l ≠ []) : l.drop (l.length - 1) = [l.getLast h] := by
  have e := List.dropLast_concat_getLast h
  have hl : l.length - 1 = l.dropLast.length := by simp
  rw [hl]
  conv => lhs; arg 2; rw [← e]
  exact List.drop_left
theorem ext_last (s : ByteArray) (h : 0 < s.size) : (s.extract (s.size - 1) s.size).data.toList = [s.data.toList.getLast (ne_of_size h)] := by
  have e1 : (s.extract (s.size - 1) s.size).data.toList = s.data.toList.drop (s.size - 1) := by
    simp [ByteArray.data_extract, Array.toList_extract, List.extract, List.take_of_length_le]
  rw [e1, ← bytes_len s, drop_last (ne_of_size h)]
set_option maxRecDepth 100000 in
theorem trim_nl (s : ByteArray) (w : World) (hs : s.size ≤ 1000000000) :
    Calls Tryz.prog 55 #[.string s, .string ⟨#[10]⟩] w fun e w' => ∃ r, e = .returned (.string r) ∧ r.data.toList = trimNl s.data.toList ∧ w' = w := by
  have h0 : (⟨#[10]⟩ : ByteArray).size = 1 := rfl
  have hsuf : ∀ bb : Bool, (decide (1 ≤ s.size) && ((s.extract (s.size - 1) s.size).toList == [10])) = bb → Calls Tryz.prog 121 #[.string s, .string ⟨#[10]⟩] w fun e w' => e = .returned (.bool bb) ∧ w' = w := by
    intro bb hb
    go_enter Tryz.func121, Tryz.ntmps121
    by_cases h : 1 ≤ s.size
    · have d0 : decide (1 ≤ s.size) = true := decide_eq_true h
      rw [d0, Bool.true_and] at hb
      go_wp2
      go_ret
      exact ⟨rfl, rfl⟩
    · have d0 : decide (1 ≤ s.size) = false := decide_eq_false h
      rw [d0, Bool.false_and] at hb
      subst hb
      go_wp2
      go_ret
      exact ⟨rfl, rfl⟩
  have hlite : Calls Tryz.prog 85 #[.string s, .string ⟨#[10]⟩] w fun e w' => ∃ r, e = .returned (.string r) ∧ r.data.toList = trimNl s.data.toList ∧ w' = w := by
    by_cases h : 1 ≤ s.size
    · have e1 := ext_last s (by omega)
      have hl : s.data.toList ≠ [] := ne_of_size (by omega)
      have e2 : ((s.extract (s.size - 1) s.size).toList == [10]) = (s.data.toList.getLast hl == 10) := by
        rw [ByteArray.toList_eq, e1]
        simp
      by_cases h10 : s.data.toList.getLast hl = 10
      · have HS := Lib.hid (hsuf true (by rw [decide_eq_true h, Bool.true_and, e2, h10]; rfl))
        have hres : trimNl s.data.toList = s.data.toList.dropLast := if_pos (by rw [List.getLast?_eq_some_getLast hl, h10])
        have hcut : (s.extract 0 (s.size - 1)).data.toList = s.data.toList.dropLast := by
          rw [bytes_take, List.dropLast_eq_take, bytes_len]
        clear hsuf e1 e2
        go_enter Tryz.func85, Tryz.ntmps85
        go_wp2_with fail
        refine HS.out.mono ?_; rintro e w' ⟨rfl, rfl⟩
        go_wp2
        go_ret
        exact ⟨_, rfl, by rw [hres]; exact hcut, rfl⟩
      · have HS := Lib.hid (hsuf false (by rw [decide_eq_true h, Bool.true_and, e2]; exact beq_eq_false_iff_ne.2 h10))
        have hres : trimNl s.data.toList = s.data.toList := if_neg (by rw [List.getLast?_eq_some_getLast hl]; intro e; exact h10 (by injection e))
        clear hsuf e1 e2
        go_enter Tryz.func85, Tryz.ntmps85
        go_wp2_with fail
        refine HS.out.mono ?_; rintro e w' ⟨rfl, rfl⟩
        go_wp2
        go_ret
        exact ⟨_, rfl, hres.symm, rfl⟩
    · have HS := Lib.hid (hsuf false (by rw [decide_eq_false h, Bool.false_and]))
      have hn : s.data.toList = [] := List.length_eq_zero_iff.1 (by rw [bytes_len]; omega)
      have hres : trimNl s.data.toList = s.data.toList := by rw [hn]; rfl
      clear hsuf
      go_enter Tryz.func85, Tryz.ntmps85
      go_wp2_with fail
      refine HS.out.mono ?_; rintro e w' ⟨rfl, rfl⟩
      go_wp2
      go_ret
      exact ⟨_, rfl, hres.symm, rfl⟩
  have HL := Lib.hid hlite
  clear hsuf hlite
  go_enter Tryz.func55, Tryz.ntmps55
  go_wp2_with fail
  refine HL.out.mono ?_; rintro e w' ⟨r, rfl, hr, rfl⟩
  go_wp2
  go_ret
  exact ⟨r, rfl, hr, rfl⟩
end Go.Proofs.YtaijpiebjhhkjaaGreatDoor
/- 'for s := range strings.Lines(b)': the iterator keeps the rest of the text in a cell; the lines are counted by their number. -/
namespace Go.Proofs.YtaijpiebjhhkjaaGreatDoor
open Go.RowKit Go.Shelf
attribute [local go_sem] Oper.semAt_some
/-- where the first newline stands -/
theorem indexByte_at {a b : List UInt8} (h : (10 : UInt8) ∉ a) : Lib.indexByte (a ++ 10 :: b) 10 = a.length := by
  induction a with
  | nil => simp [Lib.indexByte]
  | cons x a ih =>
    have hx : (x == 10) = false := beq_eq_false_iff_ne.2 fun e => h (by rw [e]; exact List.mem_cons_self)
    have hi := ih fun e => h (List.mem_cons_of_mem _ e)
    have hn : ((a.length : Int) == -1) = false := beq_eq_false_iff_ne.2 (by omega)
    simp [Lib.indexByte, hx, hi, hn]
theorem bytes_drop (s : ByteArray) (k : Nat) : (s.extract k s.size).data.toList = s.data.toList.drop k := by
  simp [ByteArray.data_extract, Array.toList_extract, List.extract, List.take_of_length_le]
theorem lines_in (s : ByteArray) (n : Nat) (w : World) :
    CallsIn Fence.wide n Tryz.prog 52 #[.string s] w fun e w' => e = .returned (.func (.func 80) #[] #[.pointer (some ⟨w.heap.size, 0, none⟩)]) ∧ w' = w.alloc (.cells #[.string s] 9) := by
  refine callsIn_of_wp Tryz.func52 rfl trivial ?_ rfl
  simp only [Tryz.ntmps52, List.size_toArray, List.length_cons, List.length_nil, Nat.reduceAdd, Nat.reduceSub, Array.replicate_succ, Array.replicate_zero, List.push_toArray, List.append_toArray, List.nil_append, List.cons_append]
  gi_wp2
  go_ret
  exact ⟨rfl, rfl⟩
/-- how much of the text is left -/
def restLeft (Bs : Nat) (wr : World) : Nat := match wr.cell? ⟨Bs, 0, none⟩ with | some (.string r) => r.size | _ => 0
theorem restLeft_eq {Bs : Nat} {wr : World} {t : TypeId} {r : ByteArray} (h : Blk wr Bs t #[.string r]) : restLeft Bs wr = r.size := by
  unfold restLeft; rw [h.one.1]
/-- a text of whole lines -/
def Whole (ls : List (List UInt8)) : Prop := ∀ x ∈ ls, ∃ a, x = a ++ [10] ∧ (10 : UInt8) ∉ a
set_option maxRecDepth 100000 in
set_option maxHeartbeats 8000000 in
theorem lines1_in (n : Nat) (hn : 2 ≤ n) (l Bs : Nat) (ls : List (List UInt8)) (hls : Whole ls) (hsm : ls.flatten.length ≤ 1000000000) (J : Nat → World → Prop) (hbx : ∀ k W u, J k W → J k (W.setCell ⟨Bs, 0, none⟩ u)) (hdr : ∀ k W, J k W → J k W.drew)
    (hY : ∀ (k : Nat) (W : World) (x : ByteArray), J k W → ls[k]? = some x.data.toList → YieldAt Fence.wide (n - 1) Tryz.prog l #[.string x] W fun e W' => e = .returned (.bool true) ∧ J (k + 1) W' ∧ W'.heap[Bs]? = W.heap[Bs]?)
    (W : World) (s : ByteArray) (hBs : Blk W Bs 9 #[.string s]) (hs : s.data.toList = ls.flatten) (h0 : J 0 W) :
    CallsIn Fence.wide n Tryz.prog 80 #[.func (.yield l) #[] #[], .pointer (some ⟨Bs, 0, none⟩)] W fun e W' => (∃ v, e = .returned v) ∧ J ls.length W' := by
  have HLS := Lib.hid hls
  have HS := Lib.hid hs
  have HB := Lib.hid hBs
  clear hls hs hBs
  refine callsIn_of_wp Tryz.func80 rfl trivial ?_ rfl
  simp only [Tryz.ntmps80, List.size_toArray, List.length_cons, List.length_nil, Nat.reduceAdd, Nat.reduceSub, Array.replicate_succ, Array.replicate_zero, List.push_toArray, List.append_toArray, List.nil_append, List.cons_append]
  gi_wp2
  gi_loopw [3] (fun _ wr => ∃ (k : Nat) (r : ByteArray), k ≤ ls.length ∧ Hid (r.data.toList = (ls.drop k).flatten) ∧ Hid (Blk wr Bs 9 #[.string r]) ∧ J k wr)
    (fun _ wr => restLeft Bs wr)
  case atStart => exact ⟨0, s, Nat.zero_le _, HS, HB, h0⟩
  case round =>
    clear HB
    obtain ⟨k, r, hk, HR, HB, hJ⟩ := hrel
    obtain ⟨c0, f0, z⟩ := HB.out.one
    by_cases hlt : k < ls.length
    · obtain ⟨a, ha, hna⟩ := HLS.out _ (List.getElem_mem hlt)
      have hdr2 : ls.drop k = ls[k] :: ls.drop (k + 1) := List.drop_eq_getElem_cons hlt
      have hrd : r.data.toList = a ++ 10 :: (ls.drop (k + 1)).flatten := by rw [HR.out, hdr2, List.flatten_cons, ha]; simp
      have hrs : r.size = a.length + 1 + (ls.drop (k + 1)).flatten.length := by rw [← bytes_len, hrd]; simp; omega
      have hrm : r.size ≤ 1000000000 := by
        have : (ls.drop k).flatten.length ≤ ls.flatten.length := by
          conv => rhs; rw [← List.take_append_drop k ls, List.flatten_append, List.length_append]
          omega
        rw [← bytes_len, HR.out]; omega
      have hib : Lib.indexByte r.data.toList ((10 : Int).toNat.toUInt8) = (a.length : Int) := by rw [hrd]; exact indexByte_at hna
      have hx : ls[k]? = some (r.extract 0 (a.length + 1)).data.toList := by
        rw [bytes_take, hrd, List.getElem?_eq_getElem hlt, ha]
        congr 1
        rw [show a ++ 10 :: (ls.drop (k + 1)).flatten = (a ++ [10]) ++ (ls.drop (k + 1)).flatten by simp, List.take_left' (by simp)]
      have hrest : (r.extract (a.length + 1) r.size).data.toList = (ls.drop (k + 1)).flatten := by
        rw [bytes_drop, hrd, show a ++ 10 :: (ls.drop (k + 1)).flatten = (a ++ [10]) ++ (ls.drop (k + 1)).flatten by simp, List.drop_left' (by simp)]
      have hrest2 : (r.extract (a.length + 1) r.size).size < r.size := by rw [← bytes_len, hrest]; omega
      have HX := Lib.hid hx; have HRE := Lib.hid hrest; have HRZ := Lib.hid hrest2
      have r1 : (0 : Int) < (r.size : Int) := by omega
      have r2 : 0 < r.size := by omega
      have r3 : a.length + 1 ≤ r.size := by omega
      obtain ⟨al, hal⟩ : ∃ al, al = a.length := ⟨_, rfl⟩
      rw [← hal] at hib HX HRE HRZ r3
      clear ha hna hdr2 hrd hrs hx hrest hrest2 hal
      have HJ := Lib.hid hJ
      clear hJ
      gi_wp2_with (refine ⟨trivial, fun _ => (by omega), ?_⟩; gi_at_call 81; refine (callsIn_wide.2 (Tryz.strings_IndexByte r 10 _)).mono ?_; rintro e w' ⟨rfl, hw⟩; rw [hw, hib]; clear hw w' hib)
      have q1 : IntKind.i64.wrap ((al : Int) + 1) = (al : Int) + 1 := IntWalk.i64_in _ (by omega)
      have q2 : (0 : Int) ≤ (al : Int) + 1 := by omega
      have q3 : ((al : Int) + 1).toNat = al + 1 := by omega
      have q4 : (al : Int) + 1 ≤ (r.size : Int) := by omega
      gi_region
      clear q1 q2 q3 q4
      have HBn := Lib.hid (show Blk (wr.setCell ⟨Bs, 0, none⟩ (.string (r.extract (al + 1) r.size))).drew Bs 9 #[.string (r.extract (al + 1) r.size)] from HB.out.s1_0 _)
      have hJn : J k (wr.setCell ⟨Bs, 0, none⟩ (.string (r.extract (al + 1) r.size))).drew := hdr _ _ (hbx _ _ _ HJ.out)
      obtain ⟨wn, hwn⟩ : ∃ x, x = (wr.setCell ⟨Bs, 0, none⟩ (.string (r.extract (al + 1) r.size))).drew := ⟨_, rfl⟩
      rw [← hwn] at HBn hJn ⊢
      clear hwn c0 f0 z
      obtain ⟨fn, tmps, assign, body, hy, hRd⟩ := hY k wn _ hJn HX.out
      clear hJn
      gi_wp2
      refine ⟨fun _ => (by omega), hRd.mono ?_⟩
      rintro e W3 ⟨rfl, hJ3, hk3⟩
      have HB3 := Lib.hid (show Blk W3 Bs 9 #[.string (r.extract (al + 1) r.size)] from hk3.trans HBn.out)
      gi_wp2
      go_roundw
      case rel => exact ⟨k + 1, _, by omega, HRE, HB3, hJ3⟩
      case measure => rw [restLeft_eq HB3.out, restLeft_eq HB.out]; exact HRZ.out
    · obtain rfl : k = ls.length := by omega
      have hr0 : r.size = 0 := by rw [← bytes_len, HR.out, List.drop_length]; rfl
      gi_wp2
      go_end0
      exact ⟨⟨_, rfl⟩, hJ⟩
/-- **the loop 'for s := range strings.Lines(b)' whose body always goes on**: I: what holds when so many lines are done -/
theorem range_lines {g : Operand} {ps : Array Tmp} {assign body : Code} {Q : Exit → Act → World → Prop} {a : Act} {w : World} (n : Nat) (hn : 4 ≤ n) (Bs : Nat) (hg : a.eval g = .func (.func 80) #[] #[.pointer (some ⟨Bs, 0, none⟩)]) (hps : ps.size = 1)
    (ls : List (List UInt8)) (hls : Whole ls) (hsm : ls.flatten.length ≤ 1000000000) (s : ByteArray) (hBs : Blk w Bs 9 #[.string s]) (hs : s.data.toList = ls.flatten)
    (I : Nat → World → Prop) (hI : OwnFrom w.heap.size I) (hIb : ∀ k W u, I k W → I k (W.setCell ⟨Bs, 0, none⟩ u)) (hId : ∀ k W, I k W → I k W.drew) (h0 : I 0 w) (a₁ : ByteArray → Act)
    (hassign : ∀ (l : Nat) (x : ByteArray) (W : World) (K : Act → World → Prop), K (a₁ x) W → assign.wpIn (Fence.wide.inRound l) (n - 1 - 1) Tryz.prog (Exit.then K (fun _ _ _ => False)) { tmps := (ps.zip #[Value.string x]).foldl (fun t (p, v) => t.setIfInBounds p v) a.tmps, defers := [] } W)
    (hbody : ∀ (l k : Nat) (x : ByteArray) (W : World), w.heap.size ≤ l → (∃ r, W.heap[l]? = some (.loop r)) → I k W → ls[k]? = some x.data.toList →
      body.wpIn (Fence.wide.inRound l) (n - 1 - 1) Tryz.prog (Exit.then (fun _ W' => KeepsFrom w.heap.size W W' ∧ W'.heap[Bs]? = W.heap[Bs]? ∧ I (k + 1) W') (fun _ _ _ => False)) (a₁ x) W)
    (hdone : ∀ (D : Nat) (W : World), w.heap.size ≤ D → I ls.length W → W.heap[D]? = some (.deferred (some [])) → Q .normal { a with defers := { target := .collected D, args := #[] } :: a.defers } W) :
    (Code.rangeFunc g ps assign body).wpIn Fence.wide n Tryz.prog Q a w := by
  have hbz := hBs.lt
  refine wpIn_rangeFunc ?_
  intro fn hfn
  obtain ⟨rc, hrc⟩ : ∃ rc : LoopState → Option Code → Loop, rc = fun st pe => { state := st, pending := pe, fn, tmps := a.tmps, params := ps, assign, body, defers := w.heap.size } := ⟨_, rfl⟩
  obtain ⟨W1, hW1⟩ : ∃ W1, (w.alloc (.deferred (some []))).alloc (.loop (rc .ready none)) = W1 := ⟨_, rfl⟩
  have hL1 : W1.heap[w.heap.size + 1]? = some (.loop (rc .ready none)) := by
    rw [← hW1]; have := World.alloc_heap_new (w.alloc (.deferred (some []))) (.loop (rc .ready none)); rwa [World.size_alloc] at this
  have hK1 : W1.heap[w.heap.size]? = some (.deferred (some [])) := by
    rw [← hW1]; exact (Below.heap_alloc _ _ _ (by simp)).trans (World.alloc_heap_new w _)
  have hI1 : I 0 W1 := by rw [← hW1]; exact hI.alloc _ (hI.alloc _ h0)
  have hB1 : Blk W1 Bs 9 #[.string s] := by rw [← hW1]; exact (hBs.alloc _).alloc _
  refine ⟨w.heap.size + 1, [{ target := .collected w.heap.size, args := #[] }], W1, { target := .fn (.func 80) #[.pointer (some ⟨Bs, 0, none⟩)], args := #[.func (.yield (w.heap.size + 1)) #[] #[]] }, W1, 80,
    #[.func (.yield (w.heap.size + 1)) #[] #[]] ++ #[.pointer (some ⟨Bs, 0, none⟩)], W1, ?_, ?_, fun _ _ => trivial, ?_, fun _ => by omega, ?_⟩
  · rw [← hW1, hrc]; exact run_enterLoop_outer _ _ _ _ _
  · simp only [resolve, hg]
    simp [go_sem]
  · simp [invoke, go_sem]
  · refine (lines1_in (n - 1) (by omega) (w.heap.size + 1) Bs ls hls hsm
      (fun k W => I k W ∧ W.heap[w.heap.size + 1]? = some (.loop (rc .ready none)) ∧ W.heap[w.heap.size]? = some (.deferred (some [])))
      (fun k W u hs => ⟨hIb _ _ _ hs.1, (Below.heap_setCell W _ u _ (by simp; omega)).trans hs.2.1, (Below.heap_setCell W _ u _ (by simp; omega)).trans hs.2.2⟩)
      (fun k W hs => ⟨hId _ _ hs.1, hs.2⟩) ?_ W1 s hB1 hs ⟨hI1, hL1, hK1⟩).mono ?_
    · rintro k W x ⟨hi, hl, hk⟩ hx
      have hlt : w.heap.size + 1 < W.heap.size := (Array.getElem?_eq_some_iff.1 hl).1
      have hy := run_yield (P := Tryz.prog) (args := #[Value.string x]) hl (by rw [hrc]; simp [hps])
      rw [hrc] at hy
      refine ⟨fn, _, assign, body, hy, roundIn_of_wpIn hfn (hassign _ x W _ ?_)⟩
      clear hy
      refine ⟨_, run_beginRound hl (by rw [hrc]), ?_⟩
      have hl2 : (W.putObj (w.heap.size + 1) (.loop { rc .ready none with state := .busy })).heap[w.heap.size + 1]? = some (.loop { rc .ready none with state := .busy }) := World.putObj_heap_same hlt
      have hk2 : (W.putObj (w.heap.size + 1) (.loop { rc .ready none with state := .busy })).heap[w.heap.size]? = some (.deferred (some [])) := (World.putObj_heap_other (by omega)).trans hk
      have hb2 : (W.putObj (w.heap.size + 1) (.loop { rc .ready none with state := .busy })).heap[Bs]? = W.heap[Bs]? := World.putObj_heap_other (by omega)
      refine wpIn_mono (hbody _ k x _ (by omega) ⟨_, hl2⟩ (hI.putObj _ hi (by omega) hl rfl) hx) ?_
      rintro e a3 W3 hp
      cases e with
      | normal =>
        obtain ⟨hk3, hb3, hi3⟩ := hp
        have hl3 := hk3.same _ _ (by omega) hl2 rfl
        have hd3 := hk3.same _ _ (Nat.le_refl _) hk2 rfl
        have he := run_endRound (P := Tryz.prog) none hl3
        have hlt3 := (Array.getElem?_eq_some_iff.1 hl3).1
        have eq1 : ({ ({ rc .ready none with state := .busy } : Loop) with state := if (none : Option Code).isNone then .ready else .done, pending := none } : Loop) = rc .ready none := by rw [hrc]; rfl
        rw [eq1] at he
        refine ⟨_, _, he, rfl, ⟨hI.putObj _ hi3 (by omega) hl3 rfl, World.putObj_heap_same hlt3, (World.putObj_heap_other (by omega)).trans hd3⟩, (World.putObj_heap_other (by omega)).trans (hb3.trans hb2)⟩
      | ret => exact hp.elim
      | exit id => exact hp.elim
      | goto t => exact hp.elim
      | panic ch => exact hp.elim
      | outgrown => exact hp.elim
    · rintro e W2 ⟨⟨v, rfl⟩, hi, hl, hk⟩
      have he := run_endLoop (P := Tryz.prog) hl (by rw [hrc]; simp)
      exact ⟨none, _, by rw [hrc] at he; exact he, hdone _ _ (Nat.le_refl _) (hI.putObj _ hi (by omega) hl rfl) ((World.putObj_heap_other (by omega)).trans hk)⟩
end Go.Proofs.YtaijpiebjhhkjaaGreatDoor
/- What is no block of cells changes: what lies in blocks of cells stays (LogRedo's, under names of their own: LogRedo and RunNums clash). -/
namespace Go.Proofs.YtaijpiebjhhkjaaGreatDoor
open Go.RowKit
theorem own_lowR2 {w : World} {base e size n : Nat} {v : Value} {xs : List Value} (h : w.ownsRow base e size v n xs) {b : Nat} (hb : v.ownBlock = some b) : base ≤ b := by
  obtain ⟨_, ⟨rfl, _⟩ | ⟨g, cap, cur, rfl, hg, _⟩⟩ := h
  · cases hb
  · cases hb; exact hg
theorem keepsFrom_below2 {B : Nat} {W W' : World} (h : Below W.heap.size W W') : KeepsFrom B W W' := ⟨h.size, fun k _ _ hk _ => (h.block k (Array.getElem?_eq_some_iff.1 hk).1).trans hk⟩
theorem own_other2 {w w' : World} {base e size n : Nat} {v : Value} {xs : List Value} (h : w.ownsRow base e size v n xs) {row : Option Nat} (hg : w.grownBy w' row) (hr : ∀ r, row = some r → ∃ o : Obj, w.heap[r]? = some o ∧ o.isCells = false) : w'.ownsRow base e size v n xs :=
  own_grown h hg (by
    cases hv : v.ownBlock with
    | none => exact .inl rfl
    | some b =>
      refine .inr fun e => ?_
      obtain ⟨cs, hk⟩ := own_kindB h hv
      obtain ⟨o, ho, hc⟩ := hr b e.symm
      unfold Blk at hk
      rw [hk] at ho; cases ho; cases hc)
theorem Blk.other2 {w w' : World} {i : Nat} {t : TypeId} {cs : Array Value} (h : Blk w i t cs) {row : Option Nat} (hg : w.grownBy w' row) (hr : ∀ r, row = some r → ∃ o : Obj, w.heap[r]? = some o ∧ o.isCells = false) : Blk w' i t cs :=
  h.grown hg fun e => by
    obtain ⟨o, ho, hc⟩ := hr i e.symm
    unfold Blk at h
    rw [h] at ho; cases ho; cases hc
theorem NetOwn.other2 {w w' : World} {base : Nat} {cv pv : Value} {vs : List Value} {caps : List Int} {L : List (List Int)} (h : NetOwn w base cv pv vs caps L) {row : Option Nat} (hg : w.grownBy w' row) (hr : ∀ r, row = some r → ∃ o : Obj, w.heap[r]? = some o ∧ o.isCells = false) : NetOwn w' base cv pv vs caps L :=
  ⟨own_other2 h.capO hg hr, own_other2 h.own hg hr, fun i u l a b => own_other2 (h.row i u l a b) hg hr, h.apC, h.apR⟩
end Go.Proofs.YtaijpiebjhhkjaaGreatDoor
/- (*strings.Builder).WriteString: what it changes, block by block. -/
namespace Go.Proofs.YtaijpiebjhhkjaaGreatDoor
open Go.RowKit
structure BldV (w : World) (B b : Nat) (v : Value) (l : List UInt8) : Prop where
  lo : B ≤ b
  blk : ∃ p, (p = .pointer none ∨ p = .pointer (some ⟨b, 0, none⟩)) ∧ Blk w b 96 #[p, v]
  own : w.ownsRow B 5 1 v l.length (Lib.byteCells l)
section
variable {w w' : World} {B b : Nat} {v : Value} {l : List UInt8}
theorem BldV.is (h : BldV w B b v l) : BldIs B b l w := by
  obtain ⟨p, hp, hk⟩ := h.blk
  have hcl : (Lib.byteCells l).length = l.length := Lib.byteCells_length l
  have ha : Lib.BuilderAt 96 5 B b p (Lib.byteCells l) w := ⟨h.lo, v, hk, by rw [hcl]; exact h.own, fun e => own_blk_ne h.own hk (by decide) e⟩
  rcases hp with rfl | rfl
  · exact .inl ha
  · exact .inr ha
theorem BldV.below (h : BldV w B b v l) (hb : Below w.heap.size w w') : BldV w' B b v l := by
  obtain ⟨p, hp, hk⟩ := h.blk
  exact ⟨h.lo, ⟨p, hp, hk.go hb⟩, own_below h.own hb⟩
theorem BldV.other (h : BldV w B b v l) {row : Option Nat} (hg : w.grownBy w' row) (hr : ∀ r, row = some r → ∃ o : Obj, w.heap[r]? = some o ∧ o.isCells = false) : BldV w' B b v l := by
  obtain ⟨p, hp, hk⟩ := h.blk
  exact ⟨h.lo, ⟨p, hp, hk.other2 hg hr⟩, own_other2 h.own hg hr⟩
theorem BldV.far (h : BldV w B b v l) {i : Nat} {t : TypeId} {cs : Array Value} (hi : Blk w i t cs) (h1 : t ≠ 96) (h2 : t ≠ 5) (k : Nat) (u : Value) : BldV (w.setCell ⟨i, k, none⟩ u) B b v l := by
  obtain ⟨p, hp, hk⟩ := h.blk
  have hne : b ≠ i := fun e => by subst e; unfold Blk at hk hi; rw [hk] at hi; injection hi with hi; injection hi with _ hi; exact h1 hi.symm
  exact ⟨h.lo, ⟨p, hp, hk.far (p := ⟨i, k, none⟩) hne u⟩, own_farB h.own (own_blk_ne h.own hi fun e => h2 e.symm) u⟩
end
theorem Stay.weak {g : Nat} {p : Option Nat} {w w' : World} (h : Stay g none w w') : Stay g p w w' := ⟨h.size, fun i hi h1 _ => h.block i hi h1 (fun e => by cases e)⟩
theorem bldV_new (w : World) (B : Nat) (hB : B ≤ w.heap.size) : BldV (w.alloc (.cells #[.pointer none, .slice none 0 0] 96)) B w.heap.size (.slice none 0 0) [] :=
  ⟨hB, ⟨_, .inl rfl, Blk.new _ _ _⟩, World.ownsRow_nil _ _ _ _⟩
set_option maxRecDepth 100000 in
theorem bldV_check (B b : Nat) (v : Value) (l : List UInt8) (w : World) (h : BldV w B b v l) :
    Calls Tryz.prog 82 #[.pointer (some ⟨b, 0, none⟩)] w fun e w' => e = .returned (.tuple #[]) ∧ Blk w' b 96 #[.pointer (some ⟨b, 0, none⟩), v] ∧ w'.ownsRow B 5 1 v l.length (Lib.byteCells l) ∧ Stay b none w w' ∧ Below B w w' := by
  obtain ⟨j, hj, hjs⟩ := Option.map_eq_some_iff.1 Tryz.bldSize
  have HO := Lib.hid h.own
  have HLO := Lib.hid h.lo
  obtain ⟨p, hp, hk⟩ := h.blk
  have HK := Lib.hid hk
  have hsh : w.shape? b = some (96, 2) := by unfold Blk at hk; simp [World.shape?, hk]
  obtain ⟨c0, c1, f0, f1, z⟩ := hk.two
  clear h hk c1 f1 z
  rcases hp with rfl | rfl
  · go_enter Tryz.func82, Tryz.ntmps82
    go_wp2
    rw [Lib.run_to_unsafe w ⟨b, 0, none⟩ Tryz.underlying93 Tryz.underlying147 hj (by rw [hjs]; decide) hsh (Nat.zero_lt_succ 1)]
    simp only [Result.andThen]
    rw [Oper.upon_value]
    go_wp2
    rw [run_callFunc_extern Tryz.func110 (by kernel_rfl) (by kernel_rfl) (by kernel_rfl) (e := Extern.AbiNoEscape.same) (by kernel_rfl), Lib.run_noEscape]
    simp only [Result.andThen]
    rw [Oper.upon_value]
    go_wp2
    rw [Lib.run_from_unsafe w ⟨b, 0, none⟩ Tryz.underlying147 Tryz.underlying93 hj hsh Tryz.bldLies]
    simp only [Result.andThen]
    rw [Oper.upon_value]
    go_wp2
    go_end0
    exact ⟨rfl, HK.out.s2_0 _, own_farB HO.out (own_blk_ne HO.out HK.out (by decide)) _, (Stay.refl b none w).set 0 _, (Below.refl B w).setCell (p := ⟨b, 0, none⟩) HLO.out _⟩
  · go_enter Tryz.func82, Tryz.ntmps82
    go_wp2
    rw [Lib.run_neq_ptr_same w _ Tryz.underlying93 hj]
    go_wp2
    go_end0
    exact ⟨rfl, HK.out, HO.out, Stay.refl _ _ _, Below.refl B w⟩
set_option maxRecDepth 100000 in
theorem bldV_write (B b : Nat) (v : Value) (l : List UInt8) (s : ByteArray) (w : World) (h : BldV w B b v l) (hl : l.length + s.size ≤ 100000000) (hB : B ≤ w.heap.size) :
    Calls Tryz.prog 53 #[.pointer (some ⟨b, 0, none⟩), .string s] w fun e w' => e = .returned (.tuple #[.int .i64 s.size, .nilIface]) ∧ ∃ v', BldV w' B b v' (l ++ s.data.toList) ∧ Stay b v.ownBlock w w' ∧ Below B w w' := by
  obtain ⟨i0, hi0, hz0, hz1, hz2⟩ := info_parts Tryz.info_u8
  have HLO := Lib.hid h.lo
  have H := Lib.hid h
  have hcl : (Lib.byteCells l).length = l.length := Lib.byteCells_length l
  clear h
  go_enter Tryz.func53, Tryz.ntmps53
  go_wp2_with fail
  refine (bldV_check B b v l w H.out).mono ?_; rintro e w1 ⟨rfl, hbk, hown, hst, hb1⟩
  have hBk : Hid (Blk w1 b 96 #[.pointer (some ⟨b, 0, none⟩), v]) := Lib.hid hbk
  have HO := Lib.hid hown; have HNE : Hid (v.ownBlock ≠ some b) := Lib.hid (own_blk_ne hown hbk (by decide)); have HB1 := Lib.hid hb1; have HST := Lib.hid hst
  clear hbk hown hst hb1 H
  obtain ⟨c0, c1, f0, f1, z⟩ := hBk.out.two
  go_wp2_with (at_builtin; refine Lib.wpList_append_own_string _ rfl (.tmp 12) (.tmp 13) 94 9 rfl B 5 i0 Tryz.underlying94 Tryz.underlying9 hi0 hz0 hz1 hz2 _ _ _ rfl HO.out s rfl (by simp only [maxLen]; omega) (by omega) (by have := HB1.out.size; omega) ?_; intro v' w2 hown2 hg2 _; obtain ⟨A2, c2, rfl, _, _, _⟩ := owns_reads hown2; have HO2 := Lib.hid hown2; have HB2 : Hid (Below B w w2) := Lib.hid (HB1.out.grown hg2 (Nat.le_trans hB HB1.out.size) (fun k hk => own_lowR2 HO.out hk)); have HK2 : Hid (Blk w2 b 96 #[.pointer (some ⟨b, 0, none⟩), v]) := Lib.hid (hBk.out.grown hg2 (fun e => HNE.out e.symm)); have HY : Hid (Stay b v.ownBlock w w2) := Lib.hid ((HST.out.weak.trans' (Stay.grown (Stay.refl b v.ownBlock w1) hg2))); clear hown2 hg2 c0 c1 f0 f1 z; obtain ⟨c0, c1, f0, f1, z⟩ := HK2.out.two)
  go_ret2
  refine ⟨rfl, _, ⟨HLO.out, ⟨_, .inr rfl, HK2.out.s2_1 _⟩, ?_⟩, HY.out.set 1 _, HB2.out.setCell (p := ⟨b, 1, none⟩) HLO.out _⟩
  rw [Lib.byteCells_append, List.length_append, ← Lib.strCells_eq, bytes_len]
  exact own_farB HO2.out (own_blk_ne HO2.out HK2.out (by decide)) _
end Go.Proofs.YtaijpiebjhhkjaaGreatDoor
/- (*strings.Builder).String: what it changes, block by block. -/
namespace Go.Proofs.YtaijpiebjhhkjaaGreatDoor
open Go.RowKit Go.Shelf
theorem stay_freeze {w : World} (b : Nat) {g : Nat} (n : Nat) : Stay b (some g) w (w.freeze ⟨g, 0, none⟩ n) := by
  unfold World.freeze
  split
  · exact Stay.refl _ _ _
  · exact ⟨by simp, fun i _ _ h => by
      simp only [Array.getElem?_modify]
      rw [if_neg (fun e => h (by rw [e]))]⟩
theorem Tryz.cells_u8 : Tryz.prog.cellsOf 5 = 1 := by kernel_rfl
set_option maxHeartbeats 1000000 in
set_option maxRecDepth 100000 in
theorem bldV_string (B b : Nat) (v : Value) (l : List UInt8) (w : World) (h : BldV w B b v l) (hBw : B ≤ w.heap.size) :
    Calls Tryz.prog 56 #[.pointer (some ⟨b, 0, none⟩)] w fun e w' => e = .returned (.string ⟨l.toArray⟩) ∧ Stay b v.ownBlock w w' ∧ Below B w w' := by
  have hlo := h.lo
  have hown := h.own
  obtain ⟨p, _, hbk⟩ := h.blk
  by_cases h0 : l = []
  · subst h0
    have key : (∀ B', B' ≤ w.heap.size → Calls Tryz.prog 56 #[.pointer (some ⟨b, 0, none⟩)] w fun e w' => e = .returned (.string ⟨#[]⟩) ∧ Below B' w w') → Calls Tryz.prog 56 #[.pointer (some ⟨b, 0, none⟩)] w fun e w' => e = .returned (.string ⟨([] : List UInt8).toArray⟩) ∧ Stay b v.ownBlock w w' ∧ Below B w w' := fun hk => by
      refine (hk w.heap.size (Nat.le_refl _)).mono ?_
      rintro e w' ⟨rfl, hb⟩
      exact ⟨rfl, Stay.of_below _ _ hb, hb.mono hBw⟩
    rcases hown.2 with ⟨rfl, _⟩ | ⟨g, cap, cur, rfl, hbg, hg, hnc, hcm, hcs, htake⟩
    · exact key fun B' hB' => Any.Builder_String_nil Tryz.lays169 Tryz.Builder_Extra_169 B' b p w hbk
    · by_cases hc : cap = 0
      · subst hc
        exact key fun B' hB' => Any.Builder_String_noroom Tryz.lays169 Tryz.Builder_Extra_169 B' b g p cur w hB' hbk hg
      · exact key fun B' hB' => Any.Builder_String_room Tryz.lays169 Tryz.Builder_Extra_169 B' b g cap p w hc hbk
  · have hl0 : l.length ≠ 0 := by simpa using h0
    obtain ⟨g, cap, cur, rfl, hbg, hg, hnc, hcm, hcs, htake⟩ : ∃ g cap cur, v = .slice (some ⟨g, 0, none⟩) l.length cap ∧ B ≤ g ∧ w.heap[g]? = some (.cells cur 5 (0, 0)) ∧ l.length ≤ cap ∧ cap ≤ maxLen ∧ cur.size = cap * 1 ∧ cur.toList.take (l.length * 1) = Lib.byteCells l := by
      rcases hown.2 with ⟨_, hz⟩ | ⟨g, cap, cur, hv, r⟩
      · exact absurd hz hl0
      · exact ⟨g, cap, cur, hv, r⟩
    have c1 : w.drew.cell? ⟨b, 1, none⟩ = some (.slice (some ⟨g, 0, none⟩) l.length cap) := by
      have : w.drew.heap[b]? = some (.cells #[p, .slice (some ⟨g, 0, none⟩) l.length cap] 96 (0, 0)) := hbk
      rw [Lib.cell_of_heap this]; rfl
    have hSD : (Builtin.unsafeSliceData_ #[94] 123 #[.slice (some ⟨g, 0, none⟩) l.length cap]).run Tryz.prog w.drew = .ok (.pointer (some ⟨g, 0, none⟩)) w.drew :=
      Lib.run_unsafeSliceData_row _ _ _ _ _ _ (by omega)
    have hUS : (Builtin.unsafeString_ #[123, 3] 9 #[.pointer (some ⟨g, 0, none⟩), .int .i64 l.length]).run Tryz.prog w.drew = .ok (.string ⟨l.toArray⟩) (w.drew.freeze ⟨g, 0, none⟩ l.length) := by
      refine Lib.run_unsafeString_row w.drew 123 3 9 5 Tryz.underlying123 Tryz.cells_u8 g cur.size (by have hg' : w.drew.heap[g]? = some (.cells cur 5 (0, 0)) := hg; simp [World.shape?, hg']) l h0 (by omega) (by unfold maxLen at hcm; omega) ?_
      intro j x hx
      exact hown.cells (g := g) rfl j (.int .u8 x.toNat) (by simp [Lib.byteCells, hx])
    have HY : Hid (Stay b (some g) w (w.drew.freeze ⟨g, 0, none⟩ l.length)) := Lib.hid ((Stay.refl b (some g) w).trans' (⟨Nat.le_refl _, fun _ _ _ _ => rfl⟩ : Stay b (some g) w w.drew) |>.trans' (stay_freeze b l.length))
    have HB : Hid (Below B w (w.drew.freeze ⟨g, 0, none⟩ l.length)) := Lib.hid (Lib.below_freeze (Below.drew (Below.refl B w)) (p := ⟨g, 0, none⟩) hbg _)
    clear hown hbk hg htake hcs hcm
    have mixed : Tryz.prog.follows .mixedOrders = true := by kernel_rfl
    go_enter Tryz.func56, Tryz.ntmps56
    go_wp2
    go_region_o
    all_goals (go_wp2; go_ret; exact ⟨rfl, HY.out, HB.out⟩)
end Go.Proofs.YtaijpiebjhhkjaaGreatDoor
/- 'for s := range strings.Lines(b)' where the last line may lack its newline (printed by gen_rangelines2.py out of RangeLines). -/
namespace Go.Proofs.YtaijpiebjhhkjaaGreatDoor
open Go.RowKit Go.Shelf
attribute [local go_sem] Oper.semAt_some
theorem indexByte_none {a : List UInt8} (h : (10 : UInt8) ∉ a) : Lib.indexByte a 10 = -1 := by
  induction a with
  | nil => rfl
  | cons x a ih =>
    have hx : (x == 10) = false := beq_eq_false_iff_ne.2 fun e => h (by rw [e]; exact List.mem_cons_self)
    have hi := ih fun e => h (List.mem_cons_of_mem _ e)
    simp [Lib.indexByte, hx, hi]
/-- a text of lines: the last may lack its newline -/
def Whole2 (ls : List (List UInt8)) : Prop := ∀ k x, ls[k]? = some x → (∃ a, x = a ++ [10] ∧ (10 : UInt8) ∉ a) ∨ (k + 1 = ls.length ∧ x ≠ [] ∧ (10 : UInt8) ∉ x)
set_option maxRecDepth 100000 in
set_option maxHeartbeats 8000000 in
theorem lines2_in (n : Nat) (hn : 2 ≤ n) (l Bs : Nat) (ls : List (List UInt8)) (hls : Whole2 ls) (hsm : ls.flatten.length ≤ 1000000000) (J : Nat → World → Prop) (hbx : ∀ k W u, J k W → J k (W.setCell ⟨Bs, 0, none⟩ u)) (hdr : ∀ k W, J k W → J k W.drew)
    (hY : ∀ (k : Nat) (W : World) (x : ByteArray), J k W → ls[k]? = some x.data.toList → YieldAt Fence.wide (n - 1) Tryz.prog l #[.string x] W fun e W' => e = .returned (.bool true) ∧ J (k + 1) W' ∧ W'.heap[Bs]? = W.heap[Bs]?)
    (W : World) (s : ByteArray) (hBs : Blk W Bs 9 #[.string s]) (hs : s.data.toList = ls.flatten) (h0 : J 0 W) :
    CallsIn Fence.wide n Tryz.prog 80 #[.func (.yield l) #[] #[], .pointer (some ⟨Bs, 0, none⟩)] W fun e W' => (∃ v, e = .returned v) ∧ J ls.length W' := by
  have HLS := Lib.hid hls
  have HS := Lib.hid hs
  have HB := Lib.hid hBs
  clear hls hs hBs
  refine callsIn_of_wp Tryz.func80 rfl trivial ?_ rfl
  simp only [Tryz.ntmps80, List.size_toArray, List.length_cons, List.length_nil, Nat.reduceAdd, Nat.reduceSub, Array.replicate_succ, Array.replicate_zero, List.push_toArray, List.append_toArray, List.nil_append, List.cons_append]
  gi_wp2
  gi_loopw [3] (fun _ wr => ∃ (k : Nat) (r : ByteArray), k ≤ ls.length ∧ Hid (r.data.toList = (ls.drop k).flatten) ∧ Hid (Blk wr Bs 9 #[.string r]) ∧ J k wr)
    (fun _ wr => restLeft Bs wr)
  case atStart => exact ⟨0, s, Nat.zero_le _, HS, HB, h0⟩
  case round =>
    clear HB
    obtain ⟨k, r, hk, HR, HB, hJ⟩ := hrel
    obtain ⟨c0, f0, z⟩ := HB.out.one
    by_cases hlt : k < ls.length
    · rcases HLS.out k _ (List.getElem?_eq_getElem hlt) with ⟨a, ha, hna⟩ | ⟨hlast, hx0, hna⟩
      · have hdr2 : ls.drop k = ls[k] :: ls.drop (k + 1) := List.drop_eq_getElem_cons hlt
        have hrd : r.data.toList = a ++ 10 :: (ls.drop (k + 1)).flatten := by rw [HR.out, hdr2, List.flatten_cons, ha]; simp
        have hrs : r.size = a.length + 1 + (ls.drop (k + 1)).flatten.length := by rw [← bytes_len, hrd]; simp; omega
        have hrm : r.size ≤ 1000000000 := by
          have : (ls.drop k).flatten.length ≤ ls.flatten.length := by
            conv => rhs; rw [← List.take_append_drop k ls, List.flatten_append, List.length_append]
            omega
          rw [← bytes_len, HR.out]; omega
        have hib : Lib.indexByte r.data.toList ((10 : Int).toNat.toUInt8) = (a.length : Int) := by rw [hrd]; exact indexByte_at hna
        have hx : ls[k]? = some (r.extract 0 (a.length + 1)).data.toList := by
          rw [bytes_take, hrd, List.getElem?_eq_getElem hlt, ha]
          congr 1
          rw [show a ++ 10 :: (ls.drop (k + 1)).flatten = (a ++ [10]) ++ (ls.drop (k + 1)).flatten by simp, List.take_left' (by simp)]
        have hrest : (r.extract (a.length + 1) r.size).data.toList = (ls.drop (k + 1)).flatten := by
          rw [bytes_drop, hrd, show a ++ 10 :: (ls.drop (k + 1)).flatten = (a ++ [10]) ++ (ls.drop (k + 1)).flatten by simp, List.drop_left' (by simp)]
        have hrest2 : (r.extract (a.length + 1) r.size).size < r.size := by rw [← bytes_len, hrest]; omega
        have HX := Lib.hid hx; have HRE := Lib.hid hrest; have HRZ := Lib.hid hrest2
        have r1 : (0 : Int) < (r.size : Int) := by omega
        have r2 : 0 < r.size := by omega
        have r3 : a.length + 1 ≤ r.size := by omega
        obtain ⟨al, hal⟩ : ∃ al, al = a.length := ⟨_, rfl⟩
        rw [← hal] at hib HX HRE HRZ r3
        clear ha hna hdr2 hrd hrs hx hrest hrest2 hal
        have HJ := Lib.hid hJ
        clear hJ
        gi_wp2_with (refine ⟨trivial, fun _ => (by omega), ?_⟩; gi_at_call 81; refine (callsIn_wide.2 (Tryz.strings_IndexByte r 10 _)).mono ?_; rintro e w' ⟨rfl, hw⟩; rw [hw, hib]; clear hw w' hib)
        have q1 : IntKind.i64.wrap ((al : Int) + 1) = (al : Int) + 1 := IntWalk.i64_in _ (by omega)
        have q2 : (0 : Int) ≤ (al : Int) + 1 := by omega
        have q3 : ((al : Int) + 1).toNat = al + 1 := by omega
        have q4 : (al : Int) + 1 ≤ (r.size : Int) := by omega
        gi_region
        clear q1 q2 q3 q4
        have HBn := Lib.hid (show Blk (wr.setCell ⟨Bs, 0, none⟩ (.string (r.extract (al + 1) r.size))).drew Bs 9 #[.string (r.extract (al + 1) r.size)] from HB.out.s1_0 _)
        have hJn : J k (wr.setCell ⟨Bs, 0, none⟩ (.string (r.extract (al + 1) r.size))).drew := hdr _ _ (hbx _ _ _ HJ.out)
        obtain ⟨wn, hwn⟩ : ∃ x, x = (wr.setCell ⟨Bs, 0, none⟩ (.string (r.extract (al + 1) r.size))).drew := ⟨_, rfl⟩
        rw [← hwn] at HBn hJn ⊢
        clear hwn c0 f0 z
        obtain ⟨fn, tmps, assign, body, hy, hRd⟩ := hY k wn _ hJn HX.out
        clear hJn
        gi_wp2
        refine ⟨fun _ => (by omega), hRd.mono ?_⟩
        rintro e W3 ⟨rfl, hJ3, hk3⟩
        have HB3 := Lib.hid (show Blk W3 Bs 9 #[.string (r.extract (al + 1) r.size)] from hk3.trans HBn.out)
        gi_wp2
        go_roundw
        case rel => exact ⟨k + 1, _, by omega, HRE, HB3, hJ3⟩
        case measure => rw [restLeft_eq HB3.out, restLeft_eq HB.out]; exact HRZ.out
      · have hrd : r.data.toList = ls[k] := by rw [HR.out, List.drop_eq_getElem_cons hlt, List.drop_of_length_le (by omega)]; simp
        have hrs : r.size ≠ 0 := fun e => hx0 (by rw [← hrd]; exact List.length_eq_zero_iff.1 (by rw [bytes_len]; exact e))
        have hrm : r.size ≤ 1000000000 := by
          have : (ls.drop k).flatten.length ≤ ls.flatten.length := by
            conv => rhs; rw [← List.take_append_drop k ls, List.flatten_append, List.length_append]
            omega
          rw [← bytes_len, HR.out]; omega
        have hib : Lib.indexByte r.data.toList ((10 : Int).toNat.toUInt8) = -1 := by rw [hrd]; exact indexByte_none hna
        have HX : Hid (ls[k]? = some r.data.toList) := Lib.hid (by rw [hrd]; exact List.getElem?_eq_getElem hlt)
        have HRE : Hid ((⟨#[]⟩ : ByteArray).data.toList = (ls.drop (k + 1)).flatten) := Lib.hid (by rw [List.drop_of_length_le (by omega)]; rfl)
        have r1 : (0 : Int) < (r.size : Int) := by omega
        have r2 : 0 < r.size := by omega
        clear hrd hx0 hna
        have HJ := Lib.hid hJ
        clear hJ
        gi_wp2_with (refine ⟨trivial, fun _ => (by omega), ?_⟩; gi_at_call 81; refine (callsIn_wide.2 (Tryz.strings_IndexByte r 10 _)).mono ?_; rintro e w' ⟨rfl, hw⟩; rw [hw, hib]; clear hw w' hib)
        have HBn := Lib.hid (show Blk (wr.setCell ⟨Bs, 0, none⟩ (.string ⟨#[]⟩)) Bs 9 #[.string ⟨#[]⟩] from HB.out.s1_0 _)
        have hJn : J k (wr.setCell ⟨Bs, 0, none⟩ (.string ⟨#[]⟩)) := hbx _ _ _ HJ.out
        obtain ⟨wn, hwn⟩ : ∃ x, x = (wr.setCell ⟨Bs, 0, none⟩ (.string ⟨#[]⟩)) := ⟨_, rfl⟩
        rw [← hwn] at HBn hJn ⊢
        clear hwn c0 f0 z
        obtain ⟨fn, tmps, assign, body, hy, hRd⟩ := hY k wn _ hJn HX.out
        clear hJn
        rw [hy]
        refine ⟨fun _ => (by omega), hRd.mono ?_⟩
        rintro e W3 ⟨rfl, hJ3, hk3⟩
        have HB3 := Lib.hid (show Blk W3 Bs 9 #[.string ⟨#[]⟩] from hk3.trans HBn.out)
        gi_wp2
        go_roundw
        case rel => exact ⟨k + 1, _, by omega, HRE, HB3, hJ3⟩
        case measure => rw [restLeft_eq HB3.out, restLeft_eq HB.out]; exact r2
    · obtain rfl : k = ls.length := by omega
      have hr0 : r.size = 0 := by rw [← bytes_len, HR.out, List.drop_length]; rfl
      gi_wp2
      go_end0
      exact ⟨⟨_, rfl⟩, hJ⟩
/-- **the loop 'for s := range strings.Lines(b)' whose body always goes on**: I: what holds when so many lines are done -/
theorem range_lines2 {g : Operand} {ps : Array Tmp} {assign body : Code} {Q : Exit → Act → World → Prop} {a : Act} {w : World} (n : Nat) (hn : 4 ≤ n) (Bs : Nat) (hg : a.eval g = .func (.func 80) #[] #[.pointer (some ⟨Bs, 0, none⟩)]) (hps : ps.size = 1)
    (ls : List (List UInt8)) (hls : Whole2 ls) (hsm : ls.flatten.length ≤ 1000000000) (s : ByteArray) (hBs : Blk w Bs 9 #[.string s]) (hs : s.data.toList = ls.flatten)
    (I : Nat → World → Prop) (hI : OwnFrom w.heap.size I) (hIb : ∀ k W u, I k W → I k (W.setCell ⟨Bs, 0, none⟩ u)) (hId : ∀ k W, I k W → I k W.drew) (h0 : I 0 w) (a₁ : ByteArray → Act)
    (hassign : ∀ (l : Nat) (x : ByteArray) (W : World) (K : Act → World → Prop), K (a₁ x) W → assign.wpIn (Fence.wide.inRound l) (n - 1 - 1) Tryz.prog (Exit.then K (fun _ _ _ => False)) { tmps := (ps.zip #[Value.string x]).foldl (fun t (p, v) => t.setIfInBounds p v) a.tmps, defers := [] } W)
    (hbody : ∀ (l k : Nat) (x : ByteArray) (W : World), w.heap.size ≤ l → (∃ r, W.heap[l]? = some (.loop r)) → I k W → ls[k]? = some x.data.toList →
      body.wpIn (Fence.wide.inRound l) (n - 1 - 1) Tryz.prog (Exit.then (fun _ W' => KeepsFrom w.heap.size W W' ∧ W'.heap[Bs]? = W.heap[Bs]? ∧ I (k + 1) W') (fun _ _ _ => False)) (a₁ x) W)
    (hdone : ∀ (D : Nat) (W : World), w.heap.size ≤ D → I ls.length W → W.heap[D]? = some (.deferred (some [])) → Q .normal { a with defers := { target := .collected D, args := #[] } :: a.defers } W) :
    (Code.rangeFunc g ps assign body).wpIn Fence.wide n Tryz.prog Q a w := by
  have hbz := hBs.lt
  refine wpIn_rangeFunc ?_
  intro fn hfn
  obtain ⟨rc, hrc⟩ : ∃ rc : LoopState → Option Code → Loop, rc = fun st pe => { state := st, pending := pe, fn, tmps := a.tmps, params := ps, assign, body, defers := w.heap.size } := ⟨_, rfl⟩
  obtain ⟨W1, hW1⟩ : ∃ W1, (w.alloc (.deferred (some []))).alloc (.loop (rc .ready none)) = W1 := ⟨_, rfl⟩
  have hL1 : W1.heap[w.heap.size + 1]? = some (.loop (rc .ready none)) := by
    rw [← hW1]; have := World.alloc_heap_new (w.alloc (.deferred (some []))) (.loop (rc .ready none)); rwa [World.size_alloc] at this
  have hK1 : W1.heap[w.heap.size]? = some (.deferred (some [])) := by
    rw [← hW1]; exact (Below.heap_alloc _ _ _ (by simp)).trans (World.alloc_heap_new w _)
  have hI1 : I 0 W1 := by rw [← hW1]; exact hI.alloc _ (hI.alloc _ h0)
  have hB1 : Blk W1 Bs 9 #[.string s] := by rw [← hW1]; exact (hBs.alloc _).alloc _
  refine ⟨w.heap.size + 1, [{ target := .collected w.heap.size, args := #[] }], W1, { target := .fn (.func 80) #[.pointer (some ⟨Bs, 0, none⟩)], args := #[.func (.yield (w.heap.size + 1)) #[] #[]] }, W1, 80,
    #[.func (.yield (w.heap.size + 1)) #[] #[]] ++ #[.pointer (some ⟨Bs, 0, none⟩)], W1, ?_, ?_, fun _ _ => trivial, ?_, fun _ => by omega, ?_⟩
  · rw [← hW1, hrc]; exact run_enterLoop_outer _ _ _ _ _
  · simp only [resolve, hg]
    simp [go_sem]
  · simp [invoke, go_sem]
  · refine (lines2_in (n - 1) (by omega) (w.heap.size + 1) Bs ls hls hsm
      (fun k W => I k W ∧ W.heap[w.heap.size + 1]? = some (.loop (rc .ready none)) ∧ W.heap[w.heap.size]? = some (.deferred (some [])))
      (fun k W u hs => ⟨hIb _ _ _ hs.1, (Below.heap_setCell W _ u _ (by simp; omega)).trans hs.2.1, (Below.heap_setCell W _ u _ (by simp; omega)).trans hs.2.2⟩)
      (fun k W hs => ⟨hId _ _ hs.1, hs.2⟩) ?_ W1 s hB1 hs ⟨hI1, hL1, hK1⟩).mono ?_
    · rintro k W x ⟨hi, hl, hk⟩ hx
      have hlt : w.heap.size + 1 < W.heap.size := (Array.getElem?_eq_some_iff.1 hl).1
      have hy := run_yield (P := Tryz.prog) (args := #[Value.string x]) hl (by rw [hrc]; simp [hps])
      rw [hrc] at hy
      refine ⟨fn, _, assign, body, hy, roundIn_of_wpIn hfn (hassign _ x W _ ?_)⟩
      clear hy
      refine ⟨_, run_beginRound hl (by rw [hrc]), ?_⟩
      have hl2 : (W.putObj (w.heap.size + 1) (.loop { rc .ready none with state := .busy })).heap[w.heap.size + 1]? = some (.loop { rc .ready none with state := .busy }) := World.putObj_heap_same hlt
      have hk2 : (W.putObj (w.heap.size + 1) (.loop { rc .ready none with state := .busy })).heap[w.heap.size]? = some (.deferred (some [])) := (World.putObj_heap_other (by omega)).trans hk
      have hb2 : (W.putObj (w.heap.size + 1) (.loop { rc .ready none with state := .busy })).heap[Bs]? = W.heap[Bs]? := World.putObj_heap_other (by omega)
      refine wpIn_mono (hbody _ k x _ (by omega) ⟨_, hl2⟩ (hI.putObj _ hi (by omega) hl rfl) hx) ?_
      rintro e a3 W3 hp
      cases e with
      | normal =>
        obtain ⟨hk3, hb3, hi3⟩ := hp
        have hl3 := hk3.same _ _ (by omega) hl2 rfl
        have hd3 := hk3.same _ _ (Nat.le_refl _) hk2 rfl
        have he := run_endRound (P := Tryz.prog) none hl3
        have hlt3 := (Array.getElem?_eq_some_iff.1 hl3).1
        have eq1 : ({ ({ rc .ready none with state := .busy } : Loop) with state := if (none : Option Code).isNone then .ready else .done, pending := none } : Loop) = rc .ready none := by rw [hrc]; rfl
        rw [eq1] at he
        refine ⟨_, _, he, rfl, ⟨hI.putObj _ hi3 (by omega) hl3 rfl, World.putObj_heap_same hlt3, (World.putObj_heap_other (by omega)).trans hd3⟩, (World.putObj_heap_other (by omega)).trans (hb3.trans hb2)⟩
      | ret => exact hp.elim
      | exit id => exact hp.elim
      | goto t => exact hp.elim
      | panic ch => exact hp.elim
      | outgrown => exact hp.elim
    · rintro e W2 ⟨⟨v, rfl⟩, hi, hl, hk⟩
      have he := run_endLoop (P := Tryz.prog) hl (by rw [hrc]; simp)
      exact ⟨none, _, by rw [hrc] at he; exact he, hdone _ _ (Nat.le_refl _) (hI.putObj _ hi (by omega) hl rfl) ((World.putObj_heap_other (by omega)).trans hk)⟩
end Go.Proofs.YtaijpiebjhhkjaaGreatDoor
