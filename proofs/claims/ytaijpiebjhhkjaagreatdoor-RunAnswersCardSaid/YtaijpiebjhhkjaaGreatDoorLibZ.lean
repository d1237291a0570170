/- Several texts in one: Carve, RunLine1, RunLine2, RunLine3, RunLine4, RunLine5, RunLine6. -/
import Derived.Test.YtaijpiebjhhkjaaGreatDoorLibA
import Derived.Test.YtaijpiebjhhkjaaGreatDoorLibY
import Derived.Test.YtaijpiebjhhkjaaGreatDoorLibE
import Derived.Deep.RegionHeld3
/- Pieces of a function's code, walked one by one. -/
namespace Go.Proofs.YtaijpiebjhhkjaaGreatDoor
open Go.RowKit
/-- the code at a path: 0 left, 1 right of a sequence or a condition; any number: into a block or a loop -/
def Code.at' : List Nat → Code → Code
  | [], c => c
  | 0 :: p, .seq a _ => Code.at' p a
  | _ :: p, .seq _ b => Code.at' p b
  | 0 :: p, .cond _ a _ => Code.at' p a
  | _ :: p, .cond _ _ b => Code.at' p b
  | _ :: p, .block _ c => Code.at' p c
  | _ :: p, .loop c => Code.at' p c
  | _ :: p, .scope c => Code.at' p c
  | _, c => c
/-- the first n + 1 statements, then what else -/
def Code.cutc : Nat → Code → Code → Code
  | 0, .seq a _, r => .seq a r
  | n + 1, .seq a b, r => .seq a (Code.cutc n b r)
  | _, _, r => r
/-- what stands behind the first n + 1 statements -/
def Code.dr : Nat → Code → Code
  | 0, .seq _ b => b
  | n + 1, .seq _ b => Code.dr n b
  | _, c => c
def Code.okk : Nat → Code → Bool
  | 0, .seq _ _ => true
  | n + 1, .seq _ b => Code.okk n b
  | _, _ => false
theorem cutc_dr : ∀ (n : Nat) (c : Code), Code.okk n c = true → Code.cutc n c (Code.dr n c) = c
  | 0, .seq _ _, _ => rfl
  | n + 1, .seq a b, h => by
    show Code.seq a (Code.cutc n b (Code.dr n b)) = _
    rw [cutc_dr n b h]
theorem wp_cutc {P : Program} {Q : Exit → Act → World → Prop} {a : Act} {w : World} (n : Nat) (c : Code) (hok : Code.okk n c = true) (h : (Code.cutc n c (Code.dr n c)).wp P Q a w) : c.wp P Q a w := by
  rw [cutc_dr n c hok] at h
  exact h
/-- what is known of a frame's slots -/
def Slots (a : Act) : List (Nat × Value) → Prop
  | [] => True
  | (k, v) :: l => a.tmps[k]? = some v ∧ Slots a l
def FrS (a : Act) (n : Nat) (l : List (Nat × Value)) : Prop := a.defers = [] ∧ a.tmps.size = n ∧ Slots a l
def Slx (x : Nat → Value) : List (Nat × Value) → Prop
  | [] => True
  | (k, v) :: l => x k = v ∧ Slx x l
theorem slx_of {a : Act} : ∀ l, Slots a l → Slx (fun k => (a.tmps[k]?).getD undef) l
  | [], _ => trivial
  | (k, v) :: l, h => ⟨by show (a.tmps[k]?).getD undef = v; rw [h.1]; rfl, slx_of l h.2⟩
theorem st_open {a : Act} {n : Nat} {l : List (Nat × Value)} (h : FrS a n l) : ∃ x : Nat → Value, a = ⟨((List.range n).map x).toArray, []⟩ ∧ Slx x l := by
  obtain ⟨h1, h2, h3⟩ := h
  refine ⟨fun k => (a.tmps[k]?).getD undef, ?_, slx_of l h3⟩
  cases a with
  | mk t d =>
    obtain rfl : d = [] := h1
    congr 1
    apply Array.ext
    · have : t.size = n := h2
      simp [this]
    · intro i h4 h5
      have h6 : i < t.size := h4
      simp [h6]
/-- a letter in the place of what was known -/
theorem FrS.mono {a : Act} {n : Nat} {l l' : List (Nat × Value)} (h : FrS a n l) (hl : Slots a l → Slots a l') : FrS a n l' := ⟨h.1, h.2.1, hl h.2.2⟩
end Go.Proofs.YtaijpiebjhhkjaaGreatDoor
/- run's desk: a line, up to its word. -/
namespace Go.Proofs.YtaijpiebjhhkjaaGreatDoor
open Go.RowKit
set_option maxRecDepth 100000 in
theorem ln_open {a : Act} {l : List (Nat × Value)} (h : FrS a 115 l) : ∃ x : Nat → Value, a = ⟨#[x 0, x 1, x 2, x 3, x 4, x 5, x 6, x 7, x 8, x 9, x 10, x 11, x 12, x 13, x 14, x 15, x 16, x 17, x 18, x 19, x 20, x 21, x 22, x 23, x 24, x 25, x 26, x 27, x 28, x 29, x 30, x 31, x 32, x 33, x 34, x 35, x 36, x 37, x 38, x 39, x 40, x 41, x 42, x 43, x 44, x 45, x 46, x 47, x 48, x 49, x 50, x 51, x 52, x 53, x 54, x 55, x 56, x 57, x 58, x 59, x 60, x 61, x 62, x 63, x 64, x 65, x 66, x 67, x 68, x 69, x 70, x 71, x 72, x 73, x 74, x 75, x 76, x 77, x 78, x 79, x 80, x 81, x 82, x 83, x 84, x 85, x 86, x 87, x 88, x 89, x 90, x 91, x 92, x 93, x 94, x 95, x 96, x 97, x 98, x 99, x 100, x 101, x 102, x 103, x 104, x 105, x 106, x 107, x 108, x 109, x 110, x 111, x 112, x 113, x 114], []⟩ ∧ Slx x l := by
  obtain ⟨x, h1, h2⟩ := st_open h
  refine ⟨x, h1.trans ?_, h2⟩
  kernel_rfl
noncomputable def lnCode : Code := Tryz.f83.body.getD .skip
noncomputable def ln1 : Code := Code.dr 3 lnCode
theorem Blk0.lt_of {w : World} {r : Nat} {o : Obj} (h : w.heap[r]? = some o) : r < w.heap.size := (Array.getElem?_eq_some_iff.1 h).1
/-- what is known ahead of the word -/
structure LineAt (W w : World) (b0 g : Nat) (C : Option Addr) (cc : Nat) (caps : List Int) (i : Nat) (O : List LG.Op) (p : Option Nat) (db sb : Nat) (x0 : ByteArray) (S : List ByteArray) : Prop where
  L : LogR W b0 g C cc caps i O p
  B : Below w.heap.size w W
  D : Blk W db 92 #[.pointer (some ⟨g, 0, none⟩)]
  S : Blk W sb 9 ((x0 :: S).map Value.string).toArray
  A : LaidRun W
theorem LineAt.below {W W' w : World} {b0 g : Nat} {C : Option Addr} {cc : Nat} {caps : List Int} {i : Nat} {O : List LG.Op} {p : Option Nat} {db sb : Nat} {x0 : ByteArray} {S : List ByteArray} (h : LineAt W w b0 g C cc caps i O p db sb x0 S) (hb : Below W.heap.size W W') : LineAt W' w b0 g C cc caps i O p db sb x0 S :=
  ⟨h.L.below hb, h.B.trans (hb.mono h.B.size), h.D.go hb, h.S.go hb, h.A.below hb⟩
theorem LineAt.c0 {W w : World} {b0 g : Nat} {C : Option Addr} {cc : Nat} {caps : List Int} {i : Nat} {O : List LG.Op} {p : Option Nat} {db sb : Nat} {x0 : ByteArray} {S : List ByteArray} (h : LineAt W w b0 g C cc caps i O p db sb x0 S) : W.cell? ⟨sb, 0, none⟩ = some (.string x0) := by rw [h.S.cell 0]; rfl
set_option maxHeartbeats 4000000 in
set_option maxRecDepth 100000 in
theorem line_p1 (w : World) (b0 g : Nat) (C : Option Addr) (cc : Nat) (caps : List Int) (i : Nat) (O : List LG.Op) (p : Option Nat) (hL : LogR w b0 g C cc caps i O p) (hA : LaidRun w) (s : ByteArray) (hs : s.size ≤ 10000) (rest : Code) (Q : Exit → Act → World → Prop)
    (hQ : ∀ a' W' db sb (x0 : ByteArray) (S : List ByteArray), RN.cutAt 32 s.data.toList = x0.data.toList :: wordsOf S → Hid (LineAt W' w b0 g C cc caps i O p db sb x0 S) → w.heap.size ≤ sb → FrS a' 115 [(2, .pointer (some ⟨db, 0, none⟩)), (6, .slice (some ⟨sb, 0, none⟩) (S.length + 1) (S.length + 1))] → rest.wp Tryz.prog Q a' W') :
    (Code.cutc 1 lnCode rest).wp Tryz.prog Q ⟨#[deskV g, .string s, undef, undef, undef, undef, undef, undef, undef, undef, undef, undef, undef, undef, undef, undef, undef, undef, undef, undef, undef, undef, undef, undef, undef, undef, undef, undef, undef, undef, undef, undef, undef, undef, undef, undef, undef, undef, undef, undef, undef, undef, undef, undef, undef, undef, undef, undef, undef, undef, undef, undef, undef, undef, undef, undef, undef, undef, undef, undef, undef, undef, undef, undef, undef, undef, undef, undef, undef, undef, undef, undef, undef, undef, undef, undef, undef, undef, undef, undef, undef, undef, undef, undef, undef, undef, undef, undef, undef, undef, undef, undef, undef, undef, undef, undef, undef, undef, undef, undef, undef, undef, undef, undef, undef, undef, undef, undef, undef, undef, undef, undef, undef, undef, undef], []⟩ w := by
  have HQ := Lib.hid hQ; have HL := Lib.hid hL; have HA := Lib.hid hA
  have hb1 := (Below.refl w.heap.size w).alloc (Nat.le_refl _) (.cells #[.pointer (some ⟨g, 0, none⟩)] 92)
  have HX1 : Hid (Blk (w.alloc (.cells #[.pointer (some ⟨g, 0, none⟩)] 92)) w.heap.size 92 #[.pointer (some ⟨g, 0, none⟩)]) := Lib.hid (Blk.new _ _ _)
  have HB1 := Lib.hid hb1
  obtain ⟨w1, hw1⟩ : ∃ x, x = w.alloc (.cells #[.pointer (some ⟨g, 0, none⟩)] 92) := ⟨_, rfl⟩
  rw [← hw1] at HX1 HB1
  clear hQ hL hA hb1
  conv => arg 2; whnf; arg 2; whnf
  go_upto_region 1 with (fail)
  rw [← hw1]
  clear hw1
  go_wp2_with fail
  refine (split_any s w1 (by omega) (HA.out.below HB1.out)).mono ?_; rintro e w2 ⟨S, rfl, hS, hw2⟩
  obtain ⟨x0, T, rfl⟩ : ∃ x T, S = x :: T := by
    cases S with
    | nil => exact absurd hS.symm (RN.cutAt_ne _ _)
    | cons x T => exact ⟨x, T, rfl⟩
  have hrow : Blk w2 w1.heap.size 9 ((x0 :: T).map Value.string).toArray := by rw [hw2]; exact Blk.new _ _ _
  have hb2 : Below w1.heap.size w1 w2 := by rw [hw2]; exact (Below.refl _ _).alloc (Nat.le_refl _) _
  have HB2 := Lib.hid (HB1.out.trans (hb2.mono HB1.out.size))
  have HS2 : Hid (LineAt w2 w b0 g C cc caps i O p w.heap.size w1.heap.size x0 T) := Lib.hid ⟨HL.out.below HB2.out, HB2.out, HX1.out.go hb2, hrow, HA.out.below HB2.out⟩
  have HSS := Lib.hid hS
  clear hw2 hS hrow hb2
  go_wp2
  exact HQ.out _ w2 w.heap.size w1.heap.size x0 T HSS.out.symm HS2 HB1.out.size ⟨rfl, rfl, rfl, rfl, trivial⟩
/-- the word's wants -/
abbrev WantIs (x0 : ByteArray) (wn : Nat) (wm is : Bool) : Prop := (wantOf x0.data.toList = some (wn, wm) ∧ is = true) ∨ (wantOf x0.data.toList = none ∧ wn = 0 ∧ wm = false ∧ is = false)
theorem want_is (x0 : ByteArray) : ∃ wn wm is, WantIs x0 wn wm is := by
  cases h : wantOf x0.data.toList with
  | none => exact ⟨0, false, false, .inr ⟨h, rfl, rfl, rfl⟩⟩
  | some q => exact ⟨q.1, q.2, true, .inl ⟨h, rfl⟩⟩
set_option maxHeartbeats 4000000 in
set_option maxRecDepth 100000 in
theorem line_p2 (w : World) (b0 g : Nat) (C : Option Addr) (cc : Nat) (caps : List Int) (i : Nat) (O : List LG.Op) (p : Option Nat) (db sb : Nat) (x0 : ByteArray) (S : List ByteArray) (wn : Nat) (wm is : Bool) (hw : WantIs x0 wn wm is) (W : World) (HS : Hid (LineAt W w b0 g C cc caps i O p db sb x0 S)) (a : Act) (hst : FrS a 115 [(2, .pointer (some ⟨db, 0, none⟩)), (6, .slice (some ⟨sb, 0, none⟩) (S.length + 1) (S.length + 1))]) (rest : Code) (Q : Exit → Act → World → Prop)
    (hQ : ∀ a' W' wb, Hid (LineAt W' w b0 g C cc caps i O p db sb x0 S) → Hid (Blk W' wb 162 #[.int .i64 wn, .bool wm]) → FrS a' 115 [(2, .pointer (some ⟨db, 0, none⟩)), (6, .slice (some ⟨sb, 0, none⟩) (S.length + 1) (S.length + 1)), (7, .pointer (some ⟨wb, 0, none⟩)), (8, .bool is)] → rest.wp Tryz.prog Q a' W') :
    (Code.cutc 0 (Code.dr 1 lnCode) rest).wp Tryz.prog Q a W := by
  obtain ⟨x, rfl, hx⟩ := ln_open hst
  obtain ⟨e2, e6, _⟩ := hx
  have HQ := Lib.hid hQ
  have hlook : ∀ (W : World) (r : Nat), W.heap[r]? = some (.map wantA 6) → (Instr.lookup 164 (.map (some r)) (.string x0) true).run Tryz.prog W = .ok (.tuple #[.agg #[.int .i64 wn, .bool wm], .bool is]) W := by
    intro W r h
    rw [look_want W r x0 h]
    rcases hw with ⟨h1, rfl⟩ | ⟨h1, rfl, rfl, rfl⟩ <;> rw [h1] <;> rfl
  have HLK := Lib.hid hlook
  have c0 := HS.out.c0
  have hsl := HS.out.S.lt
  have hs0 : W.heap.size ≠ sb := by omega
  have hs1 : W.heap.size + 1 ≠ sb := by omega
  clear hQ hw hlook
  conv => arg 2; whnf
  rw [e2, e6]
  clear e2 e6
  go_upto_region 2 with (fail)
  go_region_held3 (fun w' => w'.cell? ⟨sb, 0, none⟩ = some (.string x0)) (go_keep)
    (first
      | (go_simp; go_at_call 112; refine (wants_any W.drew).mono ?_; rintro e w3 ⟨rfl, hw3⟩; have HB3 : Hid (Below W.heap.size W w3) := Lib.hid (by rw [hw3]; exact (Below.refl _ _).drew.alloc (Nat.le_refl _) _); have hm3 : w3.heap[W.heap.size]? = some (.map wantA 6) := (by rw [hw3]; exact heap_alloc_new W.drew _); have hlk := HLK.out w3 W.heap.size hm3; have hlk2 := HLK.out (w3.alloc (.cells #[.int .i64 0, .bool false] 162)) W.heap.size (by rw [Below.heap_alloc w3 _ _ (Blk0.lt_of hm3)]; exact hm3); have y0 : w3.cell? ⟨sb, 0, none⟩ = some (.string x0) := (HB3.out.cell (p := ⟨sb, 0, none⟩) hsl).trans c0; have hs3 : w3.heap.size ≠ sb := (by have := HB3.out.size; omega); have HK : Hid (∃ wz, wz = w3) := Lib.hid ⟨_, rfl⟩; clear hw3 hm3; dsimp only)
      | (go_simp; go_at_call 112; refine (wants_any (W.drew.alloc (.cells #[.int .i64 0, .bool false] 162))).mono ?_; rintro e w3 ⟨rfl, hw3⟩; have HB3 : Hid (Below W.heap.size W w3) := Lib.hid (by rw [hw3]; exact ((Below.refl _ _).drew.alloc (Nat.le_refl _) _).alloc (by simp) _); have hm3 : w3.heap[W.heap.size + 1]? = some (.map wantA 6) := (by rw [hw3]; simpa using heap_alloc_new (W.drew.alloc (.cells #[.int .i64 0, .bool false] 162)) (.map wantA 6)); have hlk := HLK.out w3 (W.heap.size + 1) hm3; have hbx : Blk w3 W.heap.size 162 #[.int .i64 0, .bool false] := (by rw [hw3]; exact (Blk.new W.drew _ _).alloc _); obtain ⟨z0, z1, zf0, zf1, zz⟩ := hbx.two; have HBX := Lib.hid hbx; have y0 : w3.cell? ⟨sb, 0, none⟩ = some (.string x0) := (HB3.out.cell (p := ⟨sb, 0, none⟩) hsl).trans c0; clear hw3 hm3 hbx; dsimp only))
  all_goals
    go_wp2
    first
      | exact HQ.out _ _ w3.heap.size (Lib.hid ((HS.out.below HB3.out).below ((Below.refl _ _).alloc (Nat.le_refl _) _))) (Lib.hid (Blk.new _ _ _)) ⟨rfl, rfl, rfl, rfl, rfl, rfl, trivial⟩
      | exact HQ.out _ _ W.heap.size (Lib.hid (HS.out.below ((HB3.out.setCell (p := ⟨W.heap.size, 0, none⟩) (Nat.le_refl _) _).setCell (p := ⟨W.heap.size, 1, none⟩) (Nat.le_refl _) _))) (Lib.hid ((HBX.out.s2_0 _).s2_1 _)) ⟨rfl, rfl, rfl, rfl, rfl, rfl, trivial⟩
set_option maxHeartbeats 4000000 in
set_option maxRecDepth 100000 in
theorem line_p3 (w : World) (b0 g : Nat) (C : Option Addr) (cc : Nat) (caps : List Int) (i : Nat) (O : List LG.Op) (p : Option Nat) (db sb wb : Nat) (x0 : ByteArray) (S : List ByteArray) (wn : Nat) (wm is : Bool) (hz : ∀ s ∈ S, s.size ≤ 1000000) (hn : S.length ≤ 100000) (W : World) (HS : Hid (LineAt W w b0 g C cc caps i O p db sb x0 S)) (HN : Hid (Blk W wb 162 #[.int .i64 wn, .bool wm])) (a : Act) (hst : FrS a 115 [(2, .pointer (some ⟨db, 0, none⟩)), (6, .slice (some ⟨sb, 0, none⟩) (S.length + 1) (S.length + 1)), (7, .pointer (some ⟨wb, 0, none⟩)), (8, .bool is)]) (rest : Code) (Q : Exit → Act → World → Prop)
    (hQ : ∀ a' W' nv, Hid (LineAt W' w b0 g C cc caps i O p db sb x0 S) → Hid (Blk W' wb 162 #[.int .i64 wn, .bool wm]) → ((RN.nums (wordsOf S) = none ∧ nv = .slice none 0 0) ∨ ∃ l A' c', RN.nums (wordsOf S) = some l ∧ nv = .slice A' l.length c' ∧ W'.ownsRow W.heap.size 3 1 (.slice A' l.length c') l.length ((nints l).map (Value.int .i64))) → FrS a' 115 [(2, .pointer (some ⟨db, 0, none⟩)), (6, .slice (some ⟨sb, 0, none⟩) (S.length + 1) (S.length + 1)), (7, .pointer (some ⟨wb, 0, none⟩)), (8, .bool is), (9, nv), (10, .bool (RN.nums (wordsOf S)).isSome)] → rest.wp Tryz.prog Q a' W') :
    (Code.cutc 0 (Code.dr 2 lnCode) rest).wp Tryz.prog Q a W := by
  obtain ⟨x, rfl, hx⟩ := ln_open hst
  obtain ⟨e2, e6, e7, e8, _⟩ := hx
  have HQ := Lib.hid hQ
  have HZ := Lib.hid hz
  have hcell : ∀ j u, (S.map Value.string)[j]? = some u → W.cell? ⟨sb, 1 + j, none⟩ = some u := by
    intro j u hu
    rw [HS.out.S.cell (1 + j), Nat.add_comm]
    simpa using hu
  have hlt := HS.out.S.lt
  have hStrs : ∀ (A : Option Addr) (c : Nat), S.length ≤ c → c ≤ maxLen → (0 < S.length → A = some ⟨sb, 1, none⟩) → Strs W W.heap.size A c S := fun A c h1 h2 h3 => ⟨⟨by simp, fun h => ⟨sb, 1, h3 h, hlt, hcell⟩⟩, h1, h2⟩
  have HST := Lib.hid hStrs
  have f1 : (1 : Int) ≤ (S.length : Int) + 1 := by omega
  clear hQ hz hcell hlt hStrs
  by_cases h0 : S = []
  · subst h0
    conv => arg 2; whnf
    rw [e2, e6, e7, e8]
    clear e2 e6 e7 e8
    go_wp2_with fail
    refine (numbers_any (some ⟨sb, 0, none⟩) 0 [] W (HST.out _ 0 (Nat.le_refl _) (by simp [maxLen]) (fun h => absurd h (by simp))) HZ.out hn HS.out.A).mono ?_
    rintro e w3 ⟨hb3, hr⟩
    have HS3 := Lib.hid (HS.out.below hb3); have HN3 := Lib.hid (HN.out.go hb3)
    clear hb3
    rcases hr with ⟨h1, rfl⟩ | ⟨l, A', c', h1, rfl, ho⟩
    · have H1 := Lib.hid h1
      clear h1
      go_wp2
      exact HQ.out _ w3 _ HS3 HN3 (.inl ⟨H1.out, rfl⟩) ⟨rfl, rfl, rfl, rfl, rfl, rfl, rfl, by rw [H1.out]; rfl, trivial⟩
    · have H1 := Lib.hid h1; have HO := Lib.hid ho
      clear h1 ho
      go_wp2
      exact HQ.out _ w3 _ HS3 HN3 (.inr ⟨l, A', c', H1.out, rfl, HO.out⟩) ⟨rfl, rfl, rfl, rfl, rfl, rfl, rfl, by rw [H1.out]; rfl, trivial⟩
  · have hS0 : S.length ≠ 0 := fun e => h0 (List.length_eq_zero_iff.1 e)
    conv => arg 2; whnf
    rw [e2, e6, e7, e8]
    clear e2 e6 e7 e8
    go_wp2_with fail
    refine (numbers_any (some ⟨sb, 1, none⟩) S.length S W (HST.out _ _ (Nat.le_refl _) (by simp only [maxLen]; omega) (fun _ => rfl)) HZ.out hn HS.out.A).mono ?_
    rintro e w3 ⟨hb3, hr⟩
    have HS3 := Lib.hid (HS.out.below hb3); have HN3 := Lib.hid (HN.out.go hb3)
    clear hb3
    rcases hr with ⟨h1, rfl⟩ | ⟨l, A', c', h1, rfl, ho⟩
    · have H1 := Lib.hid h1
      clear h1
      go_wp2
      exact HQ.out _ w3 _ HS3 HN3 (.inl ⟨H1.out, rfl⟩) ⟨rfl, rfl, rfl, rfl, rfl, rfl, rfl, by rw [H1.out]; rfl, trivial⟩
    · have H1 := Lib.hid h1; have HO := Lib.hid ho
      clear h1 ho
      go_wp2
      exact HQ.out _ w3 _ HS3 HN3 (.inr ⟨l, A', c', H1.out, rfl, HO.out⟩) ⟨rfl, rfl, rfl, rfl, rfl, rfl, rfl, by rw [H1.out]; rfl, trivial⟩
end Go.Proofs.YtaijpiebjhhkjaaGreatDoor
/- run's desk: a line's word is read or not. -/
namespace Go.Proofs.YtaijpiebjhhkjaaGreatDoor
open Go.RowKit
noncomputable def ln2 : Code := Code.dr 0 ln1
set_option maxHeartbeats 4000000 in
set_option maxRecDepth 100000 in
theorem line_bad (w : World) (b0 g : Nat) (C : Option Addr) (cc : Nat) (caps : List Int) (i : Nat) (O : List LG.Op) (p : Option Nat) (db sb wb : Nat) (x0 : ByteArray) (S : List ByteArray) (wn : Nat) (wm is are : Bool) (nv : Value) (W : World) (HS : Hid (LineAt W w b0 g C cc caps i O p db sb x0 S)) (HN : Hid (Blk W wb 162 #[.int .i64 wn, .bool wm])) (hb : is = false ∨ (is = true ∧ are = false) ∨ ∃ (n : Nat) (A' : Option Addr) (c' : Nat), is = true ∧ are = true ∧ n ≤ 100000 ∧ nv = .slice A' n c' ∧ (n < wn ∨ (wn < n ∧ wm = false))) (a : Act) (hst : FrS a 115 [(2, .pointer (some ⟨db, 0, none⟩)), (6, .slice (some ⟨sb, 0, none⟩) (S.length + 1) (S.length + 1)), (7, .pointer (some ⟨wb, 0, none⟩)), (8, .bool is), (9, nv), (10, .bool are)]) (Q : Exit → Act → World → Prop)
    (hQ : ∀ a' W' sv, FrS a' 115 [(4, .string sv), (5, .iface 121 (.agg #[.iface 74 (.int .i64 2)]))] → Below W.heap.size W W' → Q .ret a' W') : ln1.wp Tryz.prog Q a W := by
  obtain ⟨x, rfl, hx⟩ := ln_open hst
  obtain ⟨e2, e6, e7, e8, e9, e10, _⟩ := hx
  have HQ := Lib.hid hQ
  have g0 := HS.out.A.unread
  obtain ⟨n0, n1, nf0, nf1, nz⟩ := HN.out.two
  clear hQ
  conv => arg 2; whnf
  rw [e2, e6, e7, e8, e9, e10]
  clear e2 e6 e7 e8 e9 e10
  have fin : ∀ a' : Act, FrS a' 115 [(4, .string ⟨#[]⟩), (5, .iface 121 (.agg #[.iface 74 (.int .i64 2)]))] → Q .ret a' W.drew := fun a' h => HQ.out a' W.drew _ h (Below.refl _ _).drew
  have FIN := Lib.hid fin
  clear fin
  rcases hb with rfl | ⟨rfl, rfl⟩ | ⟨n, A', c', rfl, rfl, hn, rfl, hc⟩
  · go_upto_region 5 with (fail)
    go_region_held3 (fun w' => w'.cell? ⟨4, 0, none⟩ = some (.iface 74 (.int .i64 2))) (go_keep)
      (first | fail)
    go_wp2
    exact FIN.out _ ⟨rfl, rfl, rfl, rfl, trivial⟩
  · go_upto_region 5 with (fail)
    go_region_held3 (fun w' => w'.cell? ⟨4, 0, none⟩ = some (.iface 74 (.int .i64 2))) (go_keep)
      (first | fail)
    go_wp2
    exact FIN.out _ ⟨rfl, rfl, rfl, rfl, trivial⟩
  · by_cases hlt : n < wn
    · have d0 : decide (n < wn) = true := decide_eq_true hlt
      clear hc
      go_upto_region 5 with (fail)
      go_region_held3 (fun w' => w'.cell? ⟨4, 0, none⟩ = some (.iface 74 (.int .i64 2))) (go_keep)
        (first | fail)
      go_wp2
      exact FIN.out _ ⟨rfl, rfl, rfl, rfl, trivial⟩
    · obtain ⟨h1, rfl⟩ : wn < n ∧ wm = false := hc.resolve_left hlt
      have d0 : decide (n < wn) = false := decide_eq_false hlt
      have d1 : decide (wn < n) = true := decide_eq_true h1
      clear hc
      go_upto_region 5 with (fail)
      go_region_held3 (fun w' => w'.cell? ⟨4, 0, none⟩ = some (.iface 74 (.int .i64 2))) (go_keep)
        (first | fail)
      go_wp2
      exact FIN.out _ ⟨rfl, rfl, rfl, rfl, trivial⟩
set_option maxHeartbeats 4000000 in
set_option maxRecDepth 100000 in
theorem line_go (db sb wb : Nat) (S : List ByteArray) (wn : Nat) (wm : Bool) (n : Nat) (A' : Option Addr) (c' : Nat) (W : World) (HN : Hid (Blk W wb 162 #[.int .i64 wn, .bool wm])) (_ : n ≤ 100000) (h1 : wn ≤ n) (h2 : wn < n → wm = true) (a : Act) (hst : FrS a 115 [(2, .pointer (some ⟨db, 0, none⟩)), (6, .slice (some ⟨sb, 0, none⟩) (S.length + 1) (S.length + 1)), (7, .pointer (some ⟨wb, 0, none⟩)), (8, .bool true), (9, .slice A' n c'), (10, .bool true)]) (rest : Code) (Q : Exit → Act → World → Prop)
    (hQ : ∀ a', FrS a' 115 [(2, .pointer (some ⟨db, 0, none⟩)), (6, .slice (some ⟨sb, 0, none⟩) (S.length + 1) (S.length + 1)), (9, .slice A' n c')] → rest.wp Tryz.prog Q a' W) : (Code.cutc 0 ln1 rest).wp Tryz.prog Q a W := by
  obtain ⟨x, rfl, hx⟩ := ln_open hst
  obtain ⟨e2, e6, e7, e8, e9, e10, _⟩ := hx
  have HQ := Lib.hid hQ
  obtain ⟨n0, n1, nf0, nf1, nz⟩ := HN.out.two
  have d0 : decide (n < wn) = false := decide_eq_false (by omega)
  clear hQ
  conv => arg 2; whnf
  rw [e2, e6, e7, e8, e9, e10]
  clear e2 e6 e7 e8 e9 e10
  by_cases h3 : wn < n
  · have d1 : decide (wn < n) = true := decide_eq_true h3
    obtain rfl := h2 h3
    go_wp2
    exact HQ.out _ ⟨rfl, rfl, rfl, rfl, rfl, trivial⟩
  · have d1 : decide (wn < n) = false := decide_eq_false h3
    go_wp2
    exact HQ.out _ ⟨rfl, rfl, rfl, rfl, rfl, trivial⟩
end Go.Proofs.YtaijpiebjhhkjaaGreatDoor
/- run's desk: each word. -/
namespace Go.Proofs.YtaijpiebjhhkjaaGreatDoor
open Go.RowKit
set_option maxHeartbeats 4000000 in
set_option maxRecDepth 100000 in
theorem line_add (w : World) (b0 g : Nat) (C : Option Addr) (cc : Nat) (caps : List Int) (i : Nat) (O : List LG.Op) (p : Option Nat) (db sb wb : Nat) (x0 : ByteArray) (S : List ByteArray) (l : List Nat) (A' : Option Addr) (c' B0 : Nat) (W : World) (HS : Hid (LineAt W w b0 g C cc caps i O p db sb x0 S)) (ho : W.ownsRow B0 3 1 (.slice A' l.length c') l.length ((nints l).map (Value.int .i64))) (hx : x0.data.toList = [97, 100, 100]) (hi : i ≤ 4000) (hc6 : caps.length ≤ 6) (hf : linksErr caps = 0) (a : Act) (hst : FrS a 115 [(2, .pointer (some ⟨db, 0, none⟩)), (6, .slice (some ⟨sb, 0, none⟩) (S.length + 1) (S.length + 1)), (9, .slice A' l.length c')]) (Q : Exit → Act → World → Prop)
    (hQ : ∀ a' W' sv ev O' p', FrS a' 115 [(4, .string sv), (5, ev)] → LineIs (wordOf caps (LG.runs O) x0.data.toList l).1 sv ev → LogR W' b0 g C cc caps (i + 1) O' p' → LG.runs O' = (wordOf caps (LG.runs O) x0.data.toList l).2 → Below b0 W W' → Stay g p W W' → NewR W p p' → Q .ret a' W') : ln2.wp Tryz.prog Q a W := by
  obtain ⟨x, rfl, hxx⟩ := ln_open hst
  obtain ⟨e2, e6, e9, _⟩ := hxx
  obtain rfl : x0 = ⟨#[97, 100, 100]⟩ := ByteArray.ext (Array.toList_inj.1 hx)
  have HQ := Lib.hid hQ; have HO := Lib.hid ho; have HF := Lib.hid hf
  have HNL : Hid ((nints l).length = l.length) := Lib.hid (by simp [nints])
  obtain ⟨bg, hbg⟩ := HS.out.L.blk
  have c0 := HS.out.c0
  obtain ⟨x0', xf0, xz⟩ := HS.out.D.one
  have hsz := HS.out.L.sz
  have hun := hc6
  have hun2 : wb = wb := rfl
  have hun3 := hi
  clear hQ ho hx hf hun hun2 hun3
  obtain ⟨er, her⟩ : ∃ er, addE caps (LG.runs O) false (nints l) = er := ⟨_, rfl⟩
  have hw : wordOf caps (LG.runs O) [97, 100, 100] l = (if er = 0 then (.ok [111, 107], LG.runs O ++ [nints l]) else (.err er, LG.runs O)) := by unfold wordOf; rw [if_pos rfl, her]
  obtain ⟨A2, c2, e3, hn3, hI⟩ := owns_ints HO.out
  injection e3 with e3a e3b e3c
  subst e3a e3c
  obtain ⟨pt, hpt⟩ : ∃ x, x = nints l := ⟨_, rfl⟩
  rw [← hpt] at hI her hw
  have HPL : Hid (pt.length = l.length) := Lib.hid (by rw [hpt]; exact HNL.out)
  have HI := Lib.hid hI; have HW := Lib.hid hw; have HER := Lib.hid her
  have hA : ∀ b off, A' = some ⟨b, off, none⟩ → b ≠ g := fun b off e e2 => by subst e2; exact own_blk_ne HO.out hbg (by decide) (by rw [e]; rfl)
  have HA := Lib.hid hA
  clear hn3 hI hw her hA hbg hpt
  rw [← HPL.out] at e9
  conv => arg 2; whnf
  rw [e2, e6, e9]
  clear e2 e6 e9
  go_upto_region 8 with (fail)
  go_wp2_with fail
  refine (radd_any W b0 g C cc caps i O p HS.out.L (by omega) hc6 A' c' pt HI.out HA.out er HER.out).mono ?_; rintro e w3 ⟨O', p', rfl, hL, hr, hb, hs, hn⟩
  have HL3 := Lib.hid hL; have HR3 := Lib.hid hr; have HB3 := Lib.hid hb; have HS3 := Lib.hid hs; have HN3 := Lib.hid hn
  clear hL hr hb hs hn
  go_wp2
  refine HQ.out _ w3 ⟨#[111, 107]⟩ (errVal er) O' p' ⟨rfl, rfl, rfl, rfl, trivial⟩ ?_ HL3.out ?_ HB3.out HS3.out HN3.out
  · show LineIs (wordOf caps (LG.runs O) [97, 100, 100] l).1 _ _
    rw [HW.out]
    by_cases h0 : er = 0
    · rw [if_pos h0, h0]; exact ⟨rfl, rfl⟩
    · rw [if_neg h0, errVal_pos h0]; exact ⟨h0, rfl⟩
  · show _ = (wordOf caps (LG.runs O) [97, 100, 100] l).2
    rw [HW.out, HR3.out]
    split <;> rfl
set_option maxHeartbeats 4000000 in
set_option maxRecDepth 100000 in
theorem line_drop (w : World) (b0 g : Nat) (C : Option Addr) (cc : Nat) (caps : List Int) (i : Nat) (O : List LG.Op) (p : Option Nat) (db sb wb : Nat) (x0 : ByteArray) (S : List ByteArray) (l : List Nat) (A' : Option Addr) (c' B0 : Nat) (W : World) (HS : Hid (LineAt W w b0 g C cc caps i O p db sb x0 S)) (ho : W.ownsRow B0 3 1 (.slice A' l.length c') l.length ((nints l).map (Value.int .i64))) (hx : x0.data.toList = [100, 114, 111, 112]) (h1 : l.length = 1) (hi : i ≤ 4000) (hc6 : caps.length ≤ 6) (hf : linksErr caps = 0) (a : Act) (hst : FrS a 115 [(2, .pointer (some ⟨db, 0, none⟩)), (6, .slice (some ⟨sb, 0, none⟩) (S.length + 1) (S.length + 1)), (9, .slice A' l.length c')]) (Q : Exit → Act → World → Prop)
    (hQ : ∀ a' W' sv ev O' p', FrS a' 115 [(4, .string sv), (5, ev)] → LineIs (wordOf caps (LG.runs O) x0.data.toList l).1 sv ev → LogR W' b0 g C cc caps (i + 1) O' p' → LG.runs O' = (wordOf caps (LG.runs O) x0.data.toList l).2 → Below b0 W W' → Stay g p W W' → NewR W p p' → Q .ret a' W') : ln2.wp Tryz.prog Q a W := by
  obtain ⟨x, rfl, hxx⟩ := ln_open hst
  obtain ⟨e2, e6, e9, _⟩ := hxx
  obtain rfl : x0 = ⟨#[100, 114, 111, 112]⟩ := ByteArray.ext (Array.toList_inj.1 hx)
  have HQ := Lib.hid hQ; have HO := Lib.hid ho; have HF := Lib.hid hf
  have HNL : Hid ((nints l).length = l.length) := Lib.hid (by simp [nints])
  obtain ⟨bg, hbg⟩ := HS.out.L.blk
  have c0 := HS.out.c0
  obtain ⟨x0', xf0, xz⟩ := HS.out.D.one
  have hsz := HS.out.L.sz
  have hun := hc6
  have hun2 : wb = wb := rfl
  have hun3 := hi
  clear hQ ho hx hf hun hun2 hun3
  obtain ⟨f, rfl⟩ : ∃ f, l = [f] := by
    match l, h1 with
    | [f], _ => exact ⟨f, rfl⟩
  obtain ⟨er, her⟩ : ∃ er : Int, (if (LG.runs O).length ≤ f then 1 else 0) = er := ⟨_, rfl⟩
  have hw : wordOf caps (LG.runs O) [100, 114, 111, 112] [f] = (if (LG.runs O).length ≤ f then (.err 1, LG.runs O) else (.ok [111, 107], (LG.runs O).eraseIdx f)) := by unfold wordOf; rw [if_neg (by decide), if_pos rfl]; rfl
  have HW := Lib.hid hw; have HER := Lib.hid her
  obtain ⟨ba, oa, ca, ha, hba⟩ : ∃ ba oa, ∃ (_ : A' = some ⟨ba, oa, none⟩), W.cell? ⟨ba, oa, none⟩ = some (.int .i64 f) ∧ ∃ cs, Blk W ba 3 cs := by
    obtain ⟨A2, c2, e3, hn3, hI⟩ := owns_ints HO.out
    injection e3 with e3a e3b e3c
    subst e3a e3c
    obtain ⟨b, off, e, _, hc⟩ := hI.rd.2 (by simp [nints])
    exact ⟨b, off, e, by have := hc 0 (.int .i64 f) (by simp [nints]); rwa [Nat.add_zero] at this, own_kindB HO.out (by rw [e]; rfl)⟩
  subst ca
  obtain ⟨bi, hbi⟩ := hba
  have hoth : ∀ (k : Nat) (t : TypeId) (cs : Array Value), Blk W k t cs → t ≠ 73 → t ≠ 22 → ∀ w3, Stay g p W w3 → ∀ j, w3.cell? ⟨k, j, none⟩ = W.cell? ⟨k, j, none⟩ := fun k t cs hk h1 h2 w3 hs j =>
    World.cell?_of_block (a := ⟨k, j, none⟩) (hs.block k hk.lt (Blk.ne_ hk hbg h1) fun e => by obtain ⟨c2, h3⟩ := HS.out.L.own k e; exact Blk.ne_ hk h3 h2 rfl)
  have HOT := Lib.hid hoth; have HBI := Lib.hid hbi
  rw [List.length_singleton] at e9
  clear hw h1 hbg hoth hbi her
  conv => arg 2; whnf
  rw [e2, e6, e9]
  clear e2 e6 e9
  go_upto_region 10 with (fail)
  go_region_held3 (fun w' => w'.cell? ⟨db, 0, none⟩ = some (.pointer (some ⟨g, 0, none⟩)) ∧ w'.cell? ⟨ba, oa, none⟩ = some (.int .i64 f)) (go_keep)
    (first
      | (go_simp; go_at_call 20; refine (rdrop_any _ b0 g C cc caps i O p (HS.out.L.below (Below.refl _ _).drew) (by omega) f).mono ?_; rintro e w3 ⟨O', p', rfl, hL, hr, hb, hs, hn⟩; rw [HER.out]; have HL3 := Lib.hid hL; have HR3 := Lib.hid hr; have HB3 : Hid (Below b0 W w3) := Lib.hid (((Below.refl b0 W).drew).trans hb); have HS3 : Hid (Stay g p W w3) := Lib.hid ((Stay.of_below g p (Below.refl _ _).drew).trans' hs); have HN3 : Hid (NewR W p p') := Lib.hid hn; have y0 : w3.cell? ⟨db, 0, none⟩ = some (.pointer (some ⟨g, 0, none⟩)) := (HOT.out _ _ _ HS.out.D (by decide) (by decide) w3 HS3.out 0).trans x0'; have y1 : w3.cell? ⟨ba, oa, none⟩ = some (.int .i64 f) := (HOT.out _ _ _ HBI.out (by decide) (by decide) w3 HS3.out oa).trans ha; clear hL hr hb hs hn; dsimp only))
  all_goals
    go_wp2
    refine HQ.out _ w3 ⟨#[111, 107]⟩ (errVal er) O' p' ⟨rfl, rfl, rfl, rfl, trivial⟩ ?_ HL3.out ?_ HB3.out HS3.out HN3.out
    · show LineIs (wordOf caps (LG.runs O) [100, 114, 111, 112] [f]).1 _ _
      rw [HW.out, ← HER.out]
      by_cases h0 : (LG.runs O).length ≤ f
      · rw [if_pos h0, if_pos h0]; exact ⟨by decide, rfl⟩
      · rw [if_neg h0, if_neg h0]; exact ⟨rfl, rfl⟩
    · show _ = (wordOf caps (LG.runs O) [100, 114, 111, 112] [f]).2
      rw [HW.out, HR3.out]
      split <;> rfl
set_option maxHeartbeats 4000000 in
set_option maxRecDepth 100000 in
theorem line_rates (w : World) (b0 g : Nat) (C : Option Addr) (cc : Nat) (caps : List Int) (i : Nat) (O : List LG.Op) (p : Option Nat) (db sb wb : Nat) (x0 : ByteArray) (S : List ByteArray) (l : List Nat) (A' : Option Addr) (c' B0 : Nat) (W : World) (HS : Hid (LineAt W w b0 g C cc caps i O p db sb x0 S)) (ho : W.ownsRow B0 3 1 (.slice A' l.length c') l.length ((nints l).map (Value.int .i64))) (hx : x0.data.toList = [114, 97, 116, 101, 115]) (hi : i ≤ 4000) (hc6 : caps.length ≤ 6) (hf : linksErr caps = 0) (a : Act) (hst : FrS a 115 [(2, .pointer (some ⟨db, 0, none⟩)), (6, .slice (some ⟨sb, 0, none⟩) (S.length + 1) (S.length + 1)), (9, .slice A' l.length c')]) (Q : Exit → Act → World → Prop)
    (hQ : ∀ a' W' sv ev O' p', FrS a' 115 [(4, .string sv), (5, ev)] → LineIs (wordOf caps (LG.runs O) x0.data.toList l).1 sv ev → LogR W' b0 g C cc caps (i + 1) O' p' → LG.runs O' = (wordOf caps (LG.runs O) x0.data.toList l).2 → Below b0 W W' → Stay g p W W' → NewR W p p' → Q .ret a' W') : ln2.wp Tryz.prog Q a W := by
  obtain ⟨x, rfl, hxx⟩ := ln_open hst
  obtain ⟨e2, e6, e9, _⟩ := hxx
  obtain rfl : x0 = ⟨#[114, 97, 116, 101, 115]⟩ := ByteArray.ext (Array.toList_inj.1 hx)
  have HQ := Lib.hid hQ; have HO := Lib.hid ho; have HF := Lib.hid hf
  have HNL : Hid ((nints l).length = l.length) := Lib.hid (by simp [nints])
  obtain ⟨bg, hbg⟩ := HS.out.L.blk
  have c0 := HS.out.c0
  obtain ⟨x0', xf0, xz⟩ := HS.out.D.one
  have hsz := HS.out.L.sz
  have hun := hc6
  have hun2 : wb = wb := rfl
  have hun3 := hi
  clear hQ ho hx hf hun hun2 hun3
  have hw : wordOf caps (LG.runs O) [114, 97, 116, 101, 115] l = (.ok (toldW ((ratesOf caps (LG.runs O)).map fun q => fracW q.num q.den)), LG.runs O) := by unfold wordOf; rw [if_neg (by decide), if_neg (by decide), if_pos rfl]
  have HW := Lib.hid hw
  have hin := HS.out.L.rin HF.out
  have hln : (ratesOf caps (LG.runs O)).length ≤ 6 := by rw [HS.out.L.rlen HF.out]; exact HS.out.L.ok.all
  have HIN := Lib.hid hin; have HLN := Lib.hid hln
  clear hw hbg hin hln
  conv => arg 2; whnf
  rw [e2, e6, e9]
  clear e2 e6 e9
  go_upto_region 12 with (fail)
  go_wp2_with fail
  refine (drates_any W b0 g C cc caps i O p HS.out.L HF.out hc6).mono ?_; rintro e w3 ⟨A3, c3, rfl, hfr, hb3⟩
  have HB3 := Lib.hid hb3; have HF3 := Lib.hid hfr
  clear hb3 hfr
  obtain ⟨FR, hFR⟩ : ∃ x, x = (ratesOf caps (LG.runs O)).map frQ := ⟨_, rfl⟩
  have hlm : (ratesOf caps (LG.runs O)).length = FR.length := by rw [hFR]; simp
  have HFR := Lib.hid hFR
  have HN6 : Hid (FR.length ≤ 10000) := Lib.hid (by rw [← hlm]; have := HLN.out; omega)
  rw [← hFR] at HF3
  rw [hlm]
  clear hlm hFR
  go_wp2_with fail
  refine (toldFr_any A3 c3 FR w3 HF3.out (fun f hf => by
    rw [HFR.out] at hf
    obtain ⟨q, hq, rfl⟩ := List.mem_map.1 hf
    exact qin_bounds (HIN.out q hq)) HN6.out (HS.out.A.below HB3.out)).mono ?_; rintro e w4 ⟨s, rfl, hs, hb4⟩
  have HB4 : Hid (Below W.heap.size W w4) := Lib.hid (HB3.out.trans (hb4.mono HB3.out.size)); have HSS := Lib.hid hs
  clear hb4 hs
  go_wp2
  refine HQ.out _ _ s .nilIface O p ⟨rfl, rfl, rfl, rfl, trivial⟩ ?_ ((HS.out.L.below HB4.out).more (Nat.le_succ i)) ?_ (HB4.out.mono hsz) (Stay.of_below _ _ HB4.out) (fun b e => .inl e)
  · show LineIs (wordOf caps (LG.runs O) [114, 97, 116, 101, 115] l).1 _ _
    rw [HW.out]
    exact ⟨rfl, by rw [HSS.out, HFR.out, List.map_map]; rfl⟩
  · show _ = (wordOf caps (LG.runs O) [114, 97, 116, 101, 115] l).2
    rw [HW.out]
set_option maxHeartbeats 4000000 in
set_option maxRecDepth 100000 in
theorem line_least (w : World) (b0 g : Nat) (C : Option Addr) (cc : Nat) (caps : List Int) (i : Nat) (O : List LG.Op) (p : Option Nat) (db sb wb : Nat) (x0 : ByteArray) (S : List ByteArray) (l : List Nat) (A' : Option Addr) (c' B0 : Nat) (W : World) (HS : Hid (LineAt W w b0 g C cc caps i O p db sb x0 S)) (ho : W.ownsRow B0 3 1 (.slice A' l.length c') l.length ((nints l).map (Value.int .i64))) (hx : x0.data.toList = [108, 101, 97, 115, 116]) (hi : i ≤ 4000) (hc6 : caps.length ≤ 6) (hf : linksErr caps = 0) (a : Act) (hst : FrS a 115 [(2, .pointer (some ⟨db, 0, none⟩)), (6, .slice (some ⟨sb, 0, none⟩) (S.length + 1) (S.length + 1)), (9, .slice A' l.length c')]) (Q : Exit → Act → World → Prop)
    (hQ : ∀ a' W' sv ev O' p', FrS a' 115 [(4, .string sv), (5, ev)] → LineIs (wordOf caps (LG.runs O) x0.data.toList l).1 sv ev → LogR W' b0 g C cc caps (i + 1) O' p' → LG.runs O' = (wordOf caps (LG.runs O) x0.data.toList l).2 → Below b0 W W' → Stay g p W W' → NewR W p p' → Q .ret a' W') : ln2.wp Tryz.prog Q a W := by
  obtain ⟨x, rfl, hxx⟩ := ln_open hst
  obtain ⟨e2, e6, e9, _⟩ := hxx
  obtain rfl : x0 = ⟨#[108, 101, 97, 115, 116]⟩ := ByteArray.ext (Array.toList_inj.1 hx)
  have HQ := Lib.hid hQ; have HO := Lib.hid ho; have HF := Lib.hid hf
  have HNL : Hid ((nints l).length = l.length) := Lib.hid (by simp [nints])
  obtain ⟨bg, hbg⟩ := HS.out.L.blk
  have c0 := HS.out.c0
  obtain ⟨x0', xf0, xz⟩ := HS.out.D.one
  have hsz := HS.out.L.sz
  have hun := hc6
  have hun2 : wb = wb := rfl
  have hun3 := hi
  clear hQ ho hx hf hun hun2 hun3
  have hw : wordOf caps (LG.runs O) [108, 101, 97, 115, 116] l = (if LG.runs O = [] then (.err 5, LG.runs O) else (.ok (fracW (leastOf caps (LG.runs O)).num (leastOf caps (LG.runs O)).den), LG.runs O)) := by unfold wordOf; rw [if_neg (by decide), if_neg (by decide), if_neg (by decide), if_pos rfl]
  have HW := Lib.hid hw
  clear hw hbg
  conv => arg 2; whnf
  rw [e2, e6, e9]
  clear e2 e6 e9
  go_upto_region 15 with (fail)
  go_wp2_with fail
  refine (dleast_any W b0 g C cc caps i O p HS.out.L HF.out hc6 HS.out.A).mono ?_; rintro e w3 ⟨⟨s, ev, rfl, hr⟩, hb3⟩
  have HB3 := Lib.hid hb3; have HR := Lib.hid hr
  clear hb3 hr
  go_wp2
  refine HQ.out _ _ s ev O p ⟨rfl, rfl, rfl, rfl, trivial⟩ ?_ ((HS.out.L.below HB3.out).more (Nat.le_succ i)) ?_ (HB3.out.mono hsz) (Stay.of_below _ _ HB3.out) (fun b e => .inl e)
  · show LineIs (wordOf caps (LG.runs O) [108, 101, 97, 115, 116] l).1 _ _
    rw [HW.out]
    rcases HR.out with ⟨h1, rfl⟩ | ⟨h1, rfl, h2⟩
    · rw [if_pos h1]; exact ⟨by decide, rfl⟩
    · rw [if_neg h1]; exact ⟨rfl, h2⟩
  · show _ = (wordOf caps (LG.runs O) [108, 101, 97, 115, 116] l).2
    rw [HW.out]
    split <;> rfl
end Go.Proofs.YtaijpiebjhhkjaaGreatDoor
/- run's desk: index and split. -/
namespace Go.Proofs.YtaijpiebjhhkjaaGreatDoor
open Go.RowKit
theorem idx_in (l : List Int) (he : idxErr l = 0) : FracIn (idxT l) (idxB l) := by
  obtain ⟨hf, ht⟩ := idx_parts he
  obtain ⟨h0, h6, hbad⟩ := few_ok hf
  have hb := badTo_in hbad
  have s1 := tot_bound l 1000 hb
  have s2 := sqs_bd l hb
  have hq : sqs l ≠ 0 := fun h => ht ((tot_sq l fun a ha => (hb a ha).1).1 h)
  have m1 : 0 ≤ tot l * tot l ∧ tot l * tot l ≤ 6000 * 6000 := ⟨Int.mul_nonneg s1.1 s1.1, Int.mul_le_mul (by omega) (by omega) s1.1 (by omega)⟩
  have m2 : 0 < (l.length : Int) * sqs l ∧ (l.length : Int) * sqs l ≤ 6 * 6000000 := ⟨Int.mul_pos (by omega) (by omega), Int.mul_le_mul (by omega) (by omega) s2.1 (by omega)⟩
  exact (frac_ok (low_err (tot l * tot l) (l.length * sqs l) (by omega) (by omega) m2.1 (by omega))).1
theorem spl_in (m : Int) (l : List Int) (h : splitErr m l = 0) : ∀ n ∈ splitL m l, -9223372036854775808 ≤ n ∧ n ≤ 9223372036854775807 := by
  obtain ⟨h1, h2, h3⟩ := split_ok h
  have hp := parts_bd (weighs_of h1) (m := max m (-m)) (by omega) (by omega)
  intro n hn
  unfold splitL at hn
  split at hn
  · obtain ⟨x, hx, rfl⟩ := List.mem_map.1 hn
    have := hp x hx
    omega
  · have := hp n hn
    omega
set_option maxHeartbeats 4000000 in
set_option maxRecDepth 100000 in
theorem line_index (w : World) (b0 g : Nat) (C : Option Addr) (cc : Nat) (caps : List Int) (i : Nat) (O : List LG.Op) (p : Option Nat) (db sb wb : Nat) (x0 : ByteArray) (S : List ByteArray) (l : List Nat) (A' : Option Addr) (c' B0 : Nat) (W : World) (HS : Hid (LineAt W w b0 g C cc caps i O p db sb x0 S)) (ho : W.ownsRow B0 3 1 (.slice A' l.length c') l.length ((nints l).map (Value.int .i64))) (hx : x0.data.toList = [105, 110, 100, 101, 120]) (hi : i ≤ 4000) (hc6 : caps.length ≤ 6) (hf : linksErr caps = 0) (a : Act) (hst : FrS a 115 [(2, .pointer (some ⟨db, 0, none⟩)), (6, .slice (some ⟨sb, 0, none⟩) (S.length + 1) (S.length + 1)), (9, .slice A' l.length c')]) (Q : Exit → Act → World → Prop)
    (hQ : ∀ a' W' sv ev O' p', FrS a' 115 [(4, .string sv), (5, ev)] → LineIs (wordOf caps (LG.runs O) x0.data.toList l).1 sv ev → LogR W' b0 g C cc caps (i + 1) O' p' → LG.runs O' = (wordOf caps (LG.runs O) x0.data.toList l).2 → Below b0 W W' → Stay g p W W' → NewR W p p' → Q .ret a' W') : ln2.wp Tryz.prog Q a W := by
  obtain ⟨x, rfl, hxx⟩ := ln_open hst
  obtain ⟨e2, e6, e9, _⟩ := hxx
  obtain rfl : x0 = ⟨#[105, 110, 100, 101, 120]⟩ := ByteArray.ext (Array.toList_inj.1 hx)
  have HQ := Lib.hid hQ; have HO := Lib.hid ho; have HF := Lib.hid hf
  have HNL : Hid ((nints l).length = l.length) := Lib.hid (by simp [nints])
  obtain ⟨bg, hbg⟩ := HS.out.L.blk
  have c0 := HS.out.c0
  obtain ⟨x0', xf0, xz⟩ := HS.out.D.one
  have hsz := HS.out.L.sz
  have hun := hc6
  have hun2 : wb = wb := rfl
  have hun3 := hi
  clear hQ ho hx hf hun hun2 hun3
  have hw : wordOf caps (LG.runs O) [105, 110, 100, 101, 120] l = (idxOf (nints l), LG.runs O) := by unfold wordOf; rw [if_neg (by decide), if_neg (by decide), if_neg (by decide), if_neg (by decide), if_pos rfl]
  have HW := Lib.hid hw
  obtain ⟨A2, c2, e3, hn3, hI⟩ := owns_ints HO.out
  injection e3 with e3a e3b e3c
  subst e3a e3c
  obtain ⟨pt, hpt⟩ : ∃ x, x = nints l := ⟨_, rfl⟩
  have HPT := Lib.hid hpt
  rw [← hpt] at hI
  have HPL : Hid (pt.length = l.length) := Lib.hid (by rw [hpt]; exact HNL.out)
  have HI := Lib.hid hI
  rw [← HPL.out] at e9
  clear hw hbg hn3 hI hpt
  conv => arg 2; whnf
  rw [e2, e6, e9]
  clear e2 e6 e9
  go_upto_region 17 with (fail)
  by_cases he : idxErr pt = 0
  · obtain ⟨vt, hvt⟩ : ∃ v, idxT pt = v := ⟨_, rfl⟩
    obtain ⟨vb, hvb⟩ : ∃ v, idxB pt = v := ⟨_, rfl⟩
    have hin := idx_in pt he
    rw [hvt, hvb] at hin
    have HE := Lib.hid he; have HVT := Lib.hid hvt; have HVB := Lib.hid hvb; have HIN := Lib.hid hin
    clear he hvt hvb hin
    go_wp2_with fail
    refine (index_ok A' c' pt W HI.out HE.out vt vb HVT.out HVB.out).mono ?_; rintro e w3 ⟨rfl, hb3⟩
    have HB3 := Lib.hid hb3
    clear hb3
    obtain ⟨w4, hw4⟩ : ∃ x, x = w3.alloc (.cells #[.int .i64 (vt), .int .i64 (vb)] 37) := ⟨_, rfl⟩
    have hb4 : Below w3.heap.size w3 w4 := by rw [hw4]; exact (Below.refl _ _).alloc (Nat.le_refl _) _
    have HX4 : Hid (Blk w4 w3.heap.size 37 #[.int .i64 (vt), .int .i64 (vb)]) := Lib.hid (by rw [hw4]; exact Blk.new _ _ _)
    have HB4 := Lib.hid (HB3.out.trans (hb4.mono HB3.out.size))
    clear hb4
    go_upto_region 18 with (fail)
    rw [← hw4]
    clear hw4
    obtain ⟨y0, y1, yf0, yf1, yz⟩ := HX4.out.two
    go_wp2_with fail
    refine (fraction_any vt vb w4 (by have := HIN.out; unfold FracIn at this; omega) (by have := HIN.out; unfold FracIn at this; omega) (by have := HIN.out; unfold FracIn at this; omega) (by have := HIN.out; unfold FracIn at this; omega) (HS.out.A.below HB4.out)).mono ?_; rintro e w5 ⟨s, rfl, hs, hb5⟩
    have HB5 : Hid (Below W.heap.size W w5) := Lib.hid (HB4.out.trans (hb5.mono HB4.out.size)); have HSS := Lib.hid hs
    clear hb5 hs
    go_wp2
    refine HQ.out _ _ s .nilIface O p ⟨rfl, rfl, rfl, rfl, trivial⟩ ?_ ((HS.out.L.below HB5.out).more (Nat.le_succ i)) ?_ (HB5.out.mono hsz) (Stay.of_below _ _ HB5.out) (fun b e => .inl e)
    · show LineIs (wordOf caps (LG.runs O) [105, 110, 100, 101, 120] l).1 _ _
      rw [HW.out]
      unfold idxOf
      rw [← HPT.out, if_pos HE.out]
      exact ⟨rfl, by rw [HSS.out, HVT.out, HVB.out]⟩
    · show _ = (wordOf caps (LG.runs O) [105, 110, 100, 101, 120] l).2
      rw [HW.out]
  · obtain ⟨er, her⟩ : ∃ v, idxErr pt = v := ⟨_, rfl⟩
    rw [her] at he
    have HE := Lib.hid he; have HER := Lib.hid her
    clear he her
    go_wp2_with fail
    refine (index_bad A' c' pt W HI.out er HER.out HE.out).mono ?_; rintro e w3 ⟨rfl, hb3⟩
    have HB3 := Lib.hid hb3
    clear hb3
    obtain ⟨w4, hw4⟩ : ∃ x, x = w3.alloc (.cells #[.int .i64 (0), .int .i64 (0)] 37) := ⟨_, rfl⟩
    have hb4 : Below w3.heap.size w3 w4 := by rw [hw4]; exact (Below.refl _ _).alloc (Nat.le_refl _) _
    have HX4 : Hid (Blk w4 w3.heap.size 37 #[.int .i64 (0), .int .i64 (0)]) := Lib.hid (by rw [hw4]; exact Blk.new _ _ _)
    have HB4 := Lib.hid (HB3.out.trans (hb4.mono HB3.out.size))
    clear hb4
    go_upto_region 18 with (fail)
    rw [← hw4]
    clear hw4
    obtain ⟨y0, y1, yf0, yf1, yz⟩ := HX4.out.two
    go_wp2_with fail
    refine (fraction_any 0 0 w4 (by decide) (by decide) (by decide) (by decide) (HS.out.A.below HB4.out)).mono ?_; rintro e w5 ⟨s, rfl, _, hb5⟩
    have HB5 : Hid (Below W.heap.size W w5) := Lib.hid (HB4.out.trans (hb5.mono HB4.out.size))
    clear hb5
    go_wp2
    refine HQ.out _ _ s (.iface 74 (.int .i64 er)) O p ⟨rfl, rfl, rfl, rfl, trivial⟩ ?_ ((HS.out.L.below HB5.out).more (Nat.le_succ i)) ?_ (HB5.out.mono hsz) (Stay.of_below _ _ HB5.out) (fun b e => .inl e)
    · show LineIs (wordOf caps (LG.runs O) [105, 110, 100, 101, 120] l).1 _ _
      rw [HW.out]
      unfold idxOf
      rw [← HPT.out, HER.out, if_neg HE.out]
      exact ⟨HE.out, rfl⟩
    · show _ = (wordOf caps (LG.runs O) [105, 110, 100, 101, 120] l).2
      rw [HW.out]
end Go.Proofs.YtaijpiebjhhkjaaGreatDoor
/- run's desk: split. -/
namespace Go.Proofs.YtaijpiebjhhkjaaGreatDoor
open Go.RowKit
theorem split_both (m : Int) (A : Option Addr) (c : Nat) (l : List Int) (w : World) (h : Ints w w.heap.size A c l) : Calls Tryz.prog 119 #[.int .i64 m, .slice A l.length c] w fun e w' => ∃ A1 c1 SL ev, e = .returned (.tuple #[.slice A1 SL.length c1, ev]) ∧ Ints w' w'.heap.size A1 c1 SL ∧ SL.length ≤ l.length ∧ (∀ n ∈ SL, -9223372036854775808 ≤ n ∧ n ≤ 9223372036854775807) ∧ ((splitErr m l = 0 ∧ ev = .nilIface ∧ SL = splitL m l) ∨ (splitErr m l ≠ 0 ∧ ev = .iface 74 (.int .i64 (splitErr m l)))) ∧ Below w.heap.size w w' := by
  by_cases he : splitErr m l = 0
  · refine (split_yes m A c l w h he).mono ?_
    rintro e w' ⟨v, rfl, ho, hb⟩
    have ho' : w'.ownsRow w.heap.size 3 1 v (splitL m l).length ((splitL m l).map (Value.int .i64)) := by rw [splitL_len]; exact ho
    obtain ⟨A1, c1, rfl, _, hI⟩ := owns_ints ho'
    exact ⟨A1, c1, splitL m l, _, rfl, hI, by rw [splitL_len]; exact Nat.le_refl _, spl_in m l he, .inl ⟨he, rfl, rfl⟩, hb⟩
  · refine (split_bad m A c l w h _ rfl he).mono ?_
    rintro e w' ⟨rfl, hb⟩
    exact ⟨none, 0, [], _, rfl, ⟨Reads.none_, Nat.le_refl _, by simp [maxLen]⟩, Nat.zero_le _, by simp, .inr ⟨he, rfl⟩, hb⟩
set_option maxHeartbeats 4000000 in
set_option maxRecDepth 100000 in
theorem line_split (w : World) (b0 g : Nat) (C : Option Addr) (cc : Nat) (caps : List Int) (i : Nat) (O : List LG.Op) (p : Option Nat) (db sb wb : Nat) (x0 : ByteArray) (S : List ByteArray) (l : List Nat) (A' : Option Addr) (c' B0 : Nat) (W : World) (HS : Hid (LineAt W w b0 g C cc caps i O p db sb x0 S)) (ho : W.ownsRow B0 3 1 (.slice A' l.length c') l.length ((nints l).map (Value.int .i64))) (hx : x0.data.toList = [115, 112, 108, 105, 116]) (h2 : 2 ≤ l.length) (hl : l.length ≤ 10000) (hi : i ≤ 4000) (hc6 : caps.length ≤ 6) (hf : linksErr caps = 0) (a : Act) (hst : FrS a 115 [(2, .pointer (some ⟨db, 0, none⟩)), (6, .slice (some ⟨sb, 0, none⟩) (S.length + 1) (S.length + 1)), (9, .slice A' l.length c')]) (Q : Exit → Act → World → Prop)
    (hQ : ∀ a' W' sv ev O' p', FrS a' 115 [(4, .string sv), (5, ev)] → LineIs (wordOf caps (LG.runs O) x0.data.toList l).1 sv ev → LogR W' b0 g C cc caps (i + 1) O' p' → LG.runs O' = (wordOf caps (LG.runs O) x0.data.toList l).2 → Below b0 W W' → Stay g p W W' → NewR W p p' → Q .ret a' W') : ln2.wp Tryz.prog Q a W := by
  obtain ⟨x, rfl, hxx⟩ := ln_open hst
  obtain ⟨e2, e6, e9, _⟩ := hxx
  obtain rfl : x0 = ⟨#[115, 112, 108, 105, 116]⟩ := ByteArray.ext (Array.toList_inj.1 hx)
  have HQ := Lib.hid hQ; have HO := Lib.hid ho; have HF := Lib.hid hf
  have HNL : Hid ((nints l).length = l.length) := Lib.hid (by simp [nints])
  obtain ⟨bg, hbg⟩ := HS.out.L.blk
  have c0 := HS.out.c0
  obtain ⟨x0', xf0, xz⟩ := HS.out.D.one
  have hsz := HS.out.L.sz
  have hun := hc6
  have hun2 : wb = wb := rfl
  have hun3 := hi
  clear hQ ho hx hf hun hun2 hun3
  have hw : wordOf caps (LG.runs O) [115, 112, 108, 105, 116] l = (splOf (nints l), LG.runs O) := by unfold wordOf; rw [if_neg (by decide), if_neg (by decide), if_neg (by decide), if_neg (by decide), if_neg (by decide)]
  have HW := Lib.hid hw
  obtain ⟨m, r, rfl⟩ : ∃ m r, l = m :: r := by
    match l, h2 with
    | m :: r, _ => exact ⟨m, r, rfl⟩
  obtain ⟨rt, hrt⟩ : ∃ x, x = nints r := ⟨_, rfl⟩
  have HRT := Lib.hid hrt
  have HRL : Hid (rt.length = r.length) := Lib.hid (by rw [hrt]; simp [nints])
  have hr1 : 1 ≤ rt.length := by have := HRL.out; simp only [List.length_cons] at h2; omega
  have hr2 : rt.length ≤ 10000 := by have := HRL.out; simp only [List.length_cons] at hl; omega
  obtain ⟨ba, ca, hA, hcell, hcap, hcm, hblt⟩ : ∃ ba, ∃ (_ : True), A' = some ⟨ba, 0, none⟩ ∧ (∀ j u, ((nints (m :: r)).map (Value.int .i64))[j]? = some u → W.cell? ⟨ba, j, none⟩ = some u) ∧ rt.length + 1 ≤ c' ∧ c' ≤ maxLen ∧ ba < W.heap.size := by
    obtain ⟨A2, c2, e3, h3, h4, h5⟩ := owns_reads HO.out
    injection e3 with e3a e3b e3c
    subst e3a e3c
    rcases HO.out.2 with ⟨hv, _⟩ | ⟨gg, cap, cur, hv, _, hh, _⟩
    · exfalso
      injection hv with hv1 hv2
      simp at hv2
    · injection hv with hv1 hv2 hv3
      subst hv1
      refine ⟨gg, trivial, rfl, fun j u hu => ?_, by have := HRL.out; rw [List.length_cons] at h3; omega, h4, (Array.getElem?_eq_some_iff.1 hh).1⟩
      have := HO.out.cells (g := gg) rfl j u hu
      rwa [show (⟨gg, 0, none⟩ : Addr).add j = ⟨gg, j, none⟩ by unfold Addr.add; split <;> simp_all] at this
  subst hA
  have ha0 : W.cell? ⟨ba, 0, none⟩ = some (.int .i64 m) := hcell 0 _ (by simp [nints])
  have hI : ∀ c, rt.length ≤ c → c ≤ maxLen → Ints W W.heap.size (some ⟨ba, 1, none⟩) c rt := fun c h1 h2 => ⟨⟨by simp, fun _ => ⟨ba, 1, rfl, hblt, fun j u hu => hcell (1 + j) u (by rw [hrt] at hu; rw [Nat.add_comm]; simpa [nints] using hu)⟩⟩, h1, h2⟩
  have HI := Lib.hid hI
  have hcm1 : c' - 1 ≤ maxLen := by omega
  have hcap1 : rt.length ≤ c' - 1 := by omega
  rw [List.length_cons, ← HRL.out] at e9
  have f1 : (1 : Int) ≤ (rt.length : Int) + 1 := by omega
  have f2 : (rt.length : Int) + 1 ≤ (c' : Int) := by omega
  have f3 : c' ≠ 1 := by omega
  have HCM := Lib.hid hcm
  clear hw hbg hrt hI hcell h2 hl hcm
  conv => arg 2; whnf
  rw [e2, e6, e9]
  clear e2 e6 e9
  go_upto_region 19 with (fail)
  go_region_held3 (fun w' => w'.cell? ⟨ba, 0, none⟩ = some (.int .i64 m)) (go_keep)
    (first
      | (go_simp; go_at_call 119; refine (split_both m (some ⟨ba, 1, none⟩) (c' - 1) rt W.drew ((HI.out _ hcap1 hcm1).below (Below.refl _ _).drew (Nat.le_refl _))).mono ?_; rintro e w3 ⟨A3, c3, SL, ev, rfl, hi3, hsl, hsb, hr, hb3⟩; have HB3 : Hid (Below W.heap.size W w3) := Lib.hid ((Below.refl _ _).drew.trans hb3); have HI3 := Lib.hid hi3; have HSL := Lib.hid hsl; have HSB := Lib.hid hsb; have HR := Lib.hid hr; have y0 : w3.cell? ⟨ba, 0, none⟩ = some (.int .i64 m) := (HB3.out.cell (p := ⟨ba, 0, none⟩) hblt).trans ha0; clear hi3 hsl hsb hr hb3; dsimp only))
  go_wp2_with fail
  refine (toldInt_any A3 c3 SL w3 HI3.out HSB.out (by have := HSL.out; omega) (HS.out.A.below HB3.out)).mono ?_; rintro e w4 ⟨s, rfl, hs, hb4⟩
  have HB4 : Hid (Below W.heap.size W w4) := Lib.hid (HB3.out.trans (hb4.mono HB3.out.size)); have HSS := Lib.hid hs
  clear hb4 hs
  go_wp2
  refine HQ.out _ _ s ev O p ⟨rfl, rfl, rfl, rfl, trivial⟩ ?_ ((HS.out.L.below HB4.out).more (Nat.le_succ i)) ?_ (HB4.out.mono hsz) (Stay.of_below _ _ HB4.out) (fun b e => .inl e)
  · show LineIs (wordOf caps (LG.runs O) [115, 112, 108, 105, 116] (m :: r)).1 _ _
    rw [HW.out]
    have e1 : (nints (m :: r)).headD 0 = (m : Int) := rfl
    have e2 : (nints (m :: r)).tail = rt := by rw [HRT.out]; rfl
    unfold splOf
    rw [e1, e2]
    rcases HR.out with ⟨h1, rfl, h2⟩ | ⟨h1, rfl⟩
    · rw [if_pos h1]; exact ⟨rfl, by rw [HSS.out, h2]⟩
    · rw [if_neg h1]; exact ⟨h1, rfl⟩
  · show _ = (wordOf caps (LG.runs O) [115, 112, 108, 105, 116] (m :: r)).2
    rw [HW.out]
end Go.Proofs.YtaijpiebjhhkjaaGreatDoor
/- run's desk: a line, whole. -/
namespace Go.Proofs.YtaijpiebjhhkjaaGreatDoor
open Go.RowKit
theorem lineOf_is {caps : List Int} {L : List (List Int)} {line h : List UInt8} {t : List (List UInt8)} (hc : RN.cutAt 32 line = h :: t) : lineOf caps L line = (match wantOf h, RN.nums t with | some (n, m), some l => if l.length < n ∨ (n < l.length ∧ m = false) then (.bad, L) else wordOf caps L h l | _, _ => (.bad, L)) := by
  unfold lineOf
  rw [hc]
  rfl
theorem want_word {l : List UInt8} {n : Nat} {m : Bool} (h : wantOf l = some (n, m)) : (l = [97, 100, 100] ∧ n = 1) ∨ (l = [100, 114, 111, 112] ∧ n = 1 ∧ m = false) ∨ l = [114, 97, 116, 101, 115] ∨ l = [108, 101, 97, 115, 116] ∨ l = [105, 110, 100, 101, 120] ∨ (l = [115, 112, 108, 105, 116] ∧ n = 2) := by
  unfold wantOf at h
  split at h
  · rename_i e; injection h with h; injection h with h1 h2; exact .inl ⟨e, h1.symm⟩
  split at h
  · rename_i e; injection h with h; injection h with h1 h2; exact .inr (.inl ⟨e, h1.symm, h2.symm⟩)
  split at h
  · rename_i e; exact .inr (.inr (.inl e))
  split at h
  · rename_i e; exact .inr (.inr (.inr (.inl e)))
  split at h
  · rename_i e; exact .inr (.inr (.inr (.inr (.inl e))))
  split at h
  · rename_i e; injection h with h; injection h with h1 h2; exact .inr (.inr (.inr (.inr (.inr ⟨e, h1.symm⟩))))
  · cases h
set_option maxHeartbeats 4000000 in
set_option maxRecDepth 100000 in
theorem line_any (W : World) (b0 g : Nat) (C : Option Addr) (cc : Nat) (caps : List Int) (i : Nat) (O : List LG.Op) (p : Option Nat) (hL : LogR W b0 g C cc caps i O p) (hA : LaidRun W) (s : ByteArray) (hs : s.size ≤ 5000) (hi : i ≤ 4000) (hc6 : caps.length ≤ 6) (hf : linksErr caps = 0) :
    Calls Tryz.prog 83 #[deskV g, .string s] W fun e w' => ∃ sv ev O' p', e = .returned (.tuple #[.string sv, ev]) ∧ LineIs (lineOf caps (LG.runs O) s.data.toList).1 sv ev ∧ LogR w' b0 g C cc caps (i + 1) O' p' ∧ LG.runs O' = (lineOf caps (LG.runs O) s.data.toList).2 ∧ Below b0 W w' ∧ Stay g p W w' ∧ NewR W p p' := by
  have hsz := hL.sz
  go_enter Tryz.func83, Tryz.ntmps83
  have fin : ∀ (a' : Act) (W' : World) (sv : ByteArray) (ev : Value) (O' : List LG.Op) (p' : Option Nat), FrS a' 115 [(4, .string sv), (5, ev)] → LineIs (lineOf caps (LG.runs O) s.data.toList).1 sv ev → LogR W' b0 g C cc caps (i + 1) O' p' → LG.runs O' = (lineOf caps (LG.runs O) s.data.toList).2 → Below b0 W W' → Stay g p W W' → NewR W p p' → bodyPost Tryz.prog Tryz.f83 (fun e w' => ∃ sv ev O' p', e = .returned (.tuple #[.string sv, ev]) ∧ LineIs (lineOf caps (LG.runs O) s.data.toList).1 sv ev ∧ LogR w' b0 g C cc caps (i + 1) O' p' ∧ LG.runs O' = (lineOf caps (LG.runs O) s.data.toList).2 ∧ Below b0 W w' ∧ Stay g p W w' ∧ NewR W p p') .ret a' W' := by
    intro a' W' sv ev O' p' hst h1 h2 h3 h4 h5 h6
    obtain ⟨x, rfl, hx⟩ := ln_open hst
    obtain ⟨e4, e5, _⟩ := hx
    rw [e4, e5]
    go_ret2
    exact ⟨sv, ev, O', p', rfl, h1, h2, h3, h4, h5, h6⟩
  refine wp_cutc 1 lnCode rfl (line_p1 W b0 g C cc caps i O p hL hA s (by omega) _ _ fun a1 W1 db sb x0 S hcut HS1 hwsb hst1 => ?_)
  obtain ⟨wn, wm, is, hw⟩ := want_is x0
  have hwsz : ∀ y ∈ S, y.size ≤ 1000000 := fun y hy => by
    have := cut_size 32 s.data.toList y.data.toList (by rw [hcut]; exact List.mem_cons_of_mem _ (List.mem_map_of_mem hy))
    rw [bytes_len, bytes_len] at this
    omega
  have hSl : S.length ≤ 5000 := by
    have := cut_len 32 s.data.toList
    rw [hcut, bytes_len, List.length_cons, List.length_map] at this
    omega
  have hli := lineOf_is (caps := caps) (L := LG.runs O) hcut
  refine wp_cutc 0 (Code.dr 1 lnCode) rfl (line_p2 W b0 g C cc caps i O p db sb x0 S wn wm is hw W1 HS1 a1 hst1 _ _ fun a2 W2 wb HS2 HN2 hst2 => ?_)
  refine wp_cutc 0 (Code.dr 2 lnCode) rfl (line_p3 W b0 g C cc caps i O p db sb wb x0 S wn wm is hwsz (by omega) W2 HS2 HN2 a2 hst2 _ _ fun a3 W3 nv HS3 HN3 hnv hst3 => ?_)
  have hB3 := HS3.out.B
  have bad : lineOf caps (LG.runs O) s.data.toList = (.bad, LG.runs O) → (is = false ∨ (is = true ∧ (RN.nums (wordsOf S)).isSome = false) ∨ ∃ (n : Nat) (A' : Option Addr) (c' : Nat), is = true ∧ (RN.nums (wordsOf S)).isSome = true ∧ n ≤ 100000 ∧ nv = .slice A' n c' ∧ (n < wn ∨ (wn < n ∧ wm = false))) → ln1.wp Tryz.prog _ a3 W3 := fun hl hb => line_bad W b0 g C cc caps i O p db sb wb x0 S wn wm is _ nv W3 HS3 HN3 hb a3 hst3 _ fun a4 W4 sv hst4 hb4 => by
    have hb5 : Below W.heap.size W W4 := hB3.trans (hb4.mono hB3.size)
    exact fin a4 W4 sv _ O p hst4 (by rw [hl]; rfl) ((hL.below hb5).more (Nat.le_succ i)) (by rw [hl]) (hb5.mono hsz) (Stay.of_below _ _ hb5) (fun b e => .inl e)
  rcases hnv with ⟨hn0, rfl⟩ | ⟨l, A', c', hn0, rfl, ho⟩
  · refine bad (by rw [hli, hn0]; split <;> simp_all) ?_
    cases is with
    | false => exact .inl rfl
    | true => exact .inr (.inl ⟨rfl, by rw [hn0]; rfl⟩)
  · rcases hw with ⟨hw1, rfl⟩ | ⟨hw1, rfl, rfl, rfl⟩
    · have hll := RN.nums_len hn0
      rw [List.length_map] at hll
      by_cases hb : l.length < wn ∨ (wn < l.length ∧ wm = false)
      · refine bad (by rw [hli, hw1, hn0]; exact if_pos hb) (.inr (.inr ⟨l.length, A', c', rfl, by rw [hn0]; rfl, by omega, rfl, hb⟩))
      · have hlw : lineOf caps (LG.runs O) s.data.toList = wordOf caps (LG.runs O) x0.data.toList l := by rw [hli, hw1, hn0]; exact if_neg hb
        rw [hn0] at hst3
        refine wp_cutc 0 ln1 rfl (line_go db sb wb S wn wm l.length A' c' W3 HN3 (by omega) (by omega) (fun h => by cases wm with | true => rfl | false => exact absurd (.inr ⟨h, rfl⟩) hb) a3 hst3 _ _ fun a4 hst4 => ?_)
        have fin2 : ∀ a' W' sv ev O' p', FrS a' 115 [(4, .string sv), (5, ev)] → LineIs (wordOf caps (LG.runs O) x0.data.toList l).1 sv ev → LogR W' b0 g C cc caps (i + 1) O' p' → LG.runs O' = (wordOf caps (LG.runs O) x0.data.toList l).2 → Below b0 W3 W' → Stay g p W3 W' → NewR W3 p p' → bodyPost Tryz.prog Tryz.f83 (fun e w' => ∃ sv ev O' p', e = .returned (.tuple #[.string sv, ev]) ∧ LineIs (lineOf caps (LG.runs O) s.data.toList).1 sv ev ∧ LogR w' b0 g C cc caps (i + 1) O' p' ∧ LG.runs O' = (lineOf caps (LG.runs O) s.data.toList).2 ∧ Below b0 W w' ∧ Stay g p W w' ∧ NewR W p p') .ret a' W' := fun a' W' sv ev O' p' h1 h2 h3 h4 h5 h6 h7 =>
          fin a' W' sv ev O' p' h1 (by rw [hlw]; exact h2) h3 (by rw [hlw]; exact h4) ((hB3.mono hsz).trans h5) ((Stay.of_below g p hB3).trans' h6) fun b e => (h7 b e).imp id fun h => Nat.le_trans hB3.size h
        rcases want_word hw1 with ⟨hx, rfl⟩ | ⟨hx, rfl, rfl⟩ | hx | hx | hx | ⟨hx, rfl⟩
        · exact line_add W b0 g C cc caps i O p db sb wb x0 S l A' c' _ W3 HS3 ho hx hi hc6 hf a4 hst4 _ fin2
        · exact line_drop W b0 g C cc caps i O p db sb wb x0 S l A' c' _ W3 HS3 ho hx (by have h1 : ¬ l.length < 1 := fun h => hb (.inl h); have h2 : ¬ 1 < l.length := fun h => hb (.inr ⟨h, rfl⟩); omega) hi hc6 hf a4 hst4 _ fin2
        · exact line_rates W b0 g C cc caps i O p db sb wb x0 S l A' c' _ W3 HS3 ho hx hi hc6 hf a4 hst4 _ fin2
        · exact line_least W b0 g C cc caps i O p db sb wb x0 S l A' c' _ W3 HS3 ho hx hi hc6 hf a4 hst4 _ fin2
        · exact line_index W b0 g C cc caps i O p db sb wb x0 S l A' c' _ W3 HS3 ho hx hi hc6 hf a4 hst4 _ fin2
        · exact line_split W b0 g C cc caps i O p db sb wb x0 S l A' c' _ W3 HS3 ho hx (by omega) (by omega) hi hc6 hf a4 hst4 _ fin2
    · exact bad (by rw [hli, hw1]) (.inl rfl)
end Go.Proofs.YtaijpiebjhhkjaaGreatDoor
