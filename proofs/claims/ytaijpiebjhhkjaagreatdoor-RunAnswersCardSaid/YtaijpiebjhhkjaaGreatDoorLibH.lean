/- Several texts in one: RunErr, PlSess, RunRun1, RunRun2, PlFact, RunIs. -/
import Derived.Test.YtaijpiebjhhkjaaGreatDoorLibZ
import Derived.Test.YtaijpiebjhhkjaaGreatDoorLibI
import Derived.Test.YtaijpiebjhhkjaaGreatDoorLibB
import Derived.Shelf.RegionOpen
import Derived.Test.YtaijpiebjhhkjaaGreatDoorTopOne
/- Errno.Error; (run.desk).answer. -/
namespace Go.Proofs.YtaijpiebjhhkjaaGreatDoor
open Go.RowKit
theorem LaidRun.below0 {w w' : World} {b : Nat} (h : LaidRun w) (hg : 14 ≤ b) (hb : Below b w w') : LaidRun w' := by
  have hlt := h.lt
  have hc : ∀ g k v, g < 14 → w.cell? ⟨g, k, none⟩ = some v → w'.cell? ⟨g, k, none⟩ = some v := fun g k v hg' hv => (hb.cell (p := ⟨g, k, none⟩) (Nat.lt_of_lt_of_le hg' hg)).trans hv
  obtain ⟨a1, a2, h1⟩ := h.syn
  obtain ⟨b1, b2, h2⟩ := h.rng
  obtain ⟨m, h3⟩ := h.maxl
  exact ⟨hc _ _ _ (by decide) h.laid, var?_below (g := 8) hb (by kernel_rfl) (Nat.lt_of_lt_of_le (by decide) hg) h.pow, ⟨a1, a2, hc _ _ _ (by decide) h1⟩, ⟨b1, b2, hc _ _ _ (by decide) h2⟩, ⟨m, hc _ _ _ (by decide) h3⟩, fun k v hk => hc _ _ _ (by decide) (h.links k v hk), hc _ _ _ (by decide) h.unread, Nat.le_trans hlt hb.size⟩
/-- an error's name -/
def errName (n : Int) : List UInt8 :=
  if n = 0 then [79, 75] else if n = 1 then [69, 114, 114, 82, 97, 110, 103, 101] else if n = 2 then [69, 114, 114, 83, 121, 110, 116, 97, 120]
  else if n = 3 then [69, 114, 114, 83, 104, 97, 112, 101] else if n = 4 then [69, 114, 114, 70, 117, 108, 108] else if n = 5 then [69, 114, 114, 78, 111, 110, 101]
  else if n = 6 then [69, 114, 114, 83, 116, 97, 116, 101] else if n = 7 then [69, 114, 114, 67, 108, 97, 115, 104] else if n = 8 then [69, 114, 114, 76, 111, 119] else [69, 114, 114, 110, 111]
theorem errName_len (n : Int) : (errName n).length ≤ 9 := by
  unfold errName
  repeat (first | (split; · decide) | decide)
set_option maxRecDepth 100000 in
theorem errName_any (n : Int) (w : World) : Calls Tryz.prog 84 #[.int .i64 n] w fun e w' => e = .returned (.string ⟨(errName n).toArray⟩) ∧ w' = w := by
  by_cases h0 : n = 0
  · subst h0; go_enter Tryz.func84, Tryz.ntmps84; go_wp2; go_ret; exact ⟨rfl, rfl⟩
  by_cases h1 : n = 1
  · subst h1; go_enter Tryz.func84, Tryz.ntmps84; go_wp2; go_ret; exact ⟨rfl, rfl⟩
  by_cases h2 : n = 2
  · subst h2; go_enter Tryz.func84, Tryz.ntmps84; go_wp2; go_ret; exact ⟨rfl, rfl⟩
  by_cases h3 : n = 3
  · subst h3; go_enter Tryz.func84, Tryz.ntmps84; go_wp2; go_ret; exact ⟨rfl, rfl⟩
  by_cases h4 : n = 4
  · subst h4; go_enter Tryz.func84, Tryz.ntmps84; go_wp2; go_ret; exact ⟨rfl, rfl⟩
  by_cases h5 : n = 5
  · subst h5; go_enter Tryz.func84, Tryz.ntmps84; go_wp2; go_ret; exact ⟨rfl, rfl⟩
  by_cases h6 : n = 6
  · subst h6; go_enter Tryz.func84, Tryz.ntmps84; go_wp2; go_ret; exact ⟨rfl, rfl⟩
  by_cases h7 : n = 7
  · subst h7; go_enter Tryz.func84, Tryz.ntmps84; go_wp2; go_ret; exact ⟨rfl, rfl⟩
  by_cases h8 : n = 8
  · subst h8; go_enter Tryz.func84, Tryz.ntmps84; go_wp2; go_ret; exact ⟨rfl, rfl⟩
  have he : errName n = [69, 114, 114, 110, 111] := by
    unfold errName
    rw [if_neg h0, if_neg h1, if_neg h2, if_neg h3, if_neg h4, if_neg h5, if_neg h6, if_neg h7, if_neg h8]
  rw [he]
  clear he
  have b0 : (n == 0) = false := beq_eq_false_iff_ne.2 h0
  have b1 : (n == 1) = false := beq_eq_false_iff_ne.2 h1
  have b2 : (n == 2) = false := beq_eq_false_iff_ne.2 h2
  have b3 : (n == 3) = false := beq_eq_false_iff_ne.2 h3
  have b4 : (n == 4) = false := beq_eq_false_iff_ne.2 h4
  have b5 : (n == 5) = false := beq_eq_false_iff_ne.2 h5
  have b6 : (n == 6) = false := beq_eq_false_iff_ne.2 h6
  have b7 : (n == 7) = false := beq_eq_false_iff_ne.2 h7
  have b8 : (n == 8) = false := beq_eq_false_iff_ne.2 h8
  clear h0 h1 h2 h3 h4 h5 h6 h7 h8
  go_enter Tryz.func84, Tryz.ntmps84
  go_wp2
  go_ret
  exact ⟨rfl, rfl⟩
/-- the text of an answer -/
def ansOf : LineR → List UInt8
  | .bad => [98, 97, 100]
  | .err er => errName er
  | .ok l => l
set_option maxHeartbeats 2000000 in
set_option maxRecDepth 100000 in
theorem answer_any (W : World) (b0 g : Nat) (C : Option Addr) (cc : Nat) (caps : List Int) (i : Nat) (O : List LG.Op) (p : Option Nat) (hL : LogR W b0 g C cc caps i O p) (hA : LaidRun W) (hg : 14 ≤ b0) (s : ByteArray) (hs : s.size ≤ 5000) (hi : i ≤ 4000) (hc6 : caps.length ≤ 6) (hf : linksErr caps = 0) :
    Calls Tryz.prog 54 #[deskV g, .string s] W fun e w' => ∃ sv O' p', e = .returned (.string sv) ∧ sv.data.toList = ansOf (lineOf caps (LG.runs O) s.data.toList).1 ∧ LogR w' b0 g C cc caps (i + 1) O' p' ∧ LG.runs O' = (lineOf caps (LG.runs O) s.data.toList).2 ∧ Below b0 W w' ∧ Stay g p W w' ∧ NewR W p p' := by
  have hb := (Below.refl W.heap.size W).alloc (Nat.le_refl _) (.cells #[.pointer (some ⟨g, 0, none⟩)] 92)
  have hsz := hL.sz
  have HX1 : Hid (Blk (W.alloc (.cells #[.pointer (some ⟨g, 0, none⟩)] 92)) W.heap.size 92 #[.pointer (some ⟨g, 0, none⟩)]) := Lib.hid (Blk.new _ _ _)
  have HB1 := Lib.hid hb; have HL1 := Lib.hid (hL.below hb); have HA1 := Lib.hid (hA.below hb)
  obtain ⟨w1, hw1⟩ : ∃ x, x = W.alloc (.cells #[.pointer (some ⟨g, 0, none⟩)] 92) := ⟨_, rfl⟩
  rw [← hw1] at HX1 HB1 HL1 HA1
  clear hb hL hA
  have HSZ := Lib.hid hsz; have HG := Lib.hid hg; have HF := Lib.hid hf
  clear hsz hg hf
  go_enter Tryz.func54, Tryz.ntmps54
  go_upto_region 1 with (fail)
  rw [← hw1]
  clear hw1
  obtain ⟨x0, xf0, xz⟩ := HX1.out.one
  go_wp2_with fail
  refine (line_any w1 b0 g C cc caps i O p HL1.out HA1.out s hs hi hc6 HF.out).mono ?_; rintro e w2 ⟨sv, ev, O', p', rfl, h1, h2, h3, h4, h5, h6⟩
  have HB : Hid (Below b0 W w2) := Lib.hid ((HB1.out.mono HSZ.out).trans h4)
  have HY : Hid (Stay g p W w2) := Lib.hid ((Stay.of_below g p HB1.out).trans' h5)
  have HN : Hid (NewR W p p') := Lib.hid fun b e => (h6 b e).imp id fun h => Nat.le_trans HB1.out.size h
  have HLD : Hid (Laid w2) := Lib.hid (HA1.out.below0 HG.out h4).laid
  have HL2 := Lib.hid h2; have H3 := Lib.hid h3; have H1 := Lib.hid h1
  have HSB : Hid (b0 ≤ w2.heap.size) := Lib.hid h2.sz
  clear h1 h2 h3 h4 h5 h6 x0 xf0 xz
  obtain ⟨r, hr⟩ : ∃ r, r = (lineOf caps (LG.runs O) s.data.toList).1 := ⟨_, rfl⟩
  rw [← hr] at H1
  have HR := Lib.hid hr
  clear hr
  cases r with
  | bad =>
    have e := H1.out
    unfold LineIs at e
    simp only at e
    clear H1
    subst e
    go_wp2_with fail
    refine (bad_hit (.iface 74 (.int .i64 2)) rfl ⟨w2.heap.size, 0, none⟩ .nilIface _ ((HLD.out.alloc _).alloc _) (by rw [World.cell?_alloc_lt _ _ _ (by simp)]; simp) (by rw [World.frozen?_alloc_old _ _ _ (by simp)]; simp)).mono ?_
    rintro e w3 ⟨rfl, hw3⟩
    have HB3 : Hid (Below w2.heap.size w2 w3) := Lib.hid (by
      rw [hw3]
      refine Below.setCell ?_ (by simp) _
      repeat (first | exact Below.refl _ _ | refine Below.alloc ?_ (by simp <;> omega) _))
    clear hw3
    go_wp2
    go_ret
    refine ⟨_, O', p', rfl, by rw [← HR.out]; rfl, HL2.out.below HB3.out, H3.out, HB.out.trans (HB3.out.mono HSB.out), HY.out.below HB3.out, HN.out⟩
  | err er =>
    have e := H1.out
    unfold LineIs at e
    simp only at e
    clear H1
    obtain ⟨_, rfl⟩ := e
    go_wp2_with fail
    refine (bad_miss er ⟨w2.heap.size, 0, none⟩ .nilIface _ ((HLD.out.alloc _).alloc _) (by rw [World.cell?_alloc_lt _ _ _ (by simp)]; simp) (by rw [World.frozen?_alloc_old _ _ _ (by simp)]; simp)).mono ?_
    rintro e w3 ⟨rfl, hw3⟩
    have HB3 : Hid (Below (w2.heap.size + 2) ((w2.alloc (.cells #[.nilIface] 121)).alloc (.cells #[.int .i64 0] 74)) w3) := Lib.hid (by
      rw [hw3]
      repeat (first | exact Below.refl _ _ | refine Below.alloc ?_ (by simp <;> omega) _))
    clear hw3
    have HX8 : Hid (Blk ((w2.alloc (.cells #[.nilIface] 121)).alloc (.cells #[.int .i64 0] 74)) (w2.heap.size + 1) 74 #[.int .i64 0]) := Lib.hid (by
      have := Blk.new (w2.alloc (.cells #[.nilIface] 121)) 74 #[.int .i64 0]
      rwa [show (w2.alloc (.cells #[.nilIface] 121)).heap.size = w2.heap.size + 1 by simp] at this)
    have HX9 : Hid (Blk w3 (w2.heap.size + 1) 74 #[.int .i64 0]) := Lib.hid (HX8.out.below HB3.out (by omega))
    have HLD3 : Hid (Laid w3) := Lib.hid (((HLD.out.alloc _).alloc _).below (by simpa using HB3.out))
    have HB4 : Hid (Below w2.heap.size w2 w3) := Lib.hid ((((Below.refl w2.heap.size w2).alloc (Nat.le_refl _) _).alloc (by simp) _).trans (HB3.out.mono (by omega)))
    have hlt := HX9.out.lt
    clear HB3 HX8
    go_wp2_with fail
    refine (as_hit er ⟨w2.heap.size + 1, 0, none⟩ (.int .i64 0) _ HLD3.out (HX9.out.cell 0) (HX9.out.frozen 0)).mono ?_
    rintro e w5 ⟨rfl, hw5⟩
    have HB5 : Hid (Below w2.heap.size w2 w5) := Lib.hid (by
      rw [hw5]
      refine Below.setCell ?_ (by simp) _
      have h4 := HB4.out.size
      repeat (first | exact HB4.out | refine Below.alloc ?_ (by first | exact h4 | (simp; done) | (simp; omega)) _))
    have c8 : w5.cell? ⟨w2.heap.size + 1, 0, none⟩ = some (.int .i64 er) := by
      rw [hw5]
      refine World.cell?_setCell_same _ _ _ (u := .int .i64 0) ?_
      have hbx : Below w3.heap.size w3 ((((w3.alloc (.cells #[.pointer (some ⟨w2.heap.size + 1, 0, none⟩)] 117)).alloc (.cells #[.pointer (some ⟨14, 117, none⟩), .pointer (some ⟨w3.heap.size, 0, none⟩), .int .u64 150] 150)).alloc (.cells #[.pointer (some ⟨14, 117, none⟩), .pointer (some ⟨w3.heap.size, 0, none⟩), .int .u64 150] 150)).alloc (.cells #[.int .i64 er] 74)) := by
        repeat (first | exact Below.refl _ _ | refine Below.alloc ?_ (by first | exact Nat.le_refl _ | (simp; done) | (simp; omega)) _)
      exact (hbx.cell (p := ⟨w2.heap.size + 1, 0, none⟩) hlt).trans (HX9.out.cell 0)
    clear hw5 hlt
    go_wp2_with fail
    refine (errName_any er _).mono ?_
    rintro e w6 ⟨rfl, rfl⟩
    go_wp2
    go_ret
    refine ⟨_, O', p', rfl, by rw [← HR.out]; rfl, HL2.out.below HB5.out, H3.out, HB.out.trans (HB5.out.mono HSB.out), HY.out.below HB5.out, HN.out⟩
  | ok l =>
    have e := H1.out
    unfold LineIs at e
    simp only at e
    clear H1
    obtain ⟨rfl, hsv⟩ := e
    have HSV := Lib.hid hsv
    clear hsv
    go_wp2_with fail
    refine (as_nil _ _).mono ?_
    rintro e w3 ⟨rfl, hw3⟩
    have HB3 : Hid (Below w2.heap.size w2 w3) := Lib.hid (by
      rw [hw3]
      repeat (first | exact Below.refl _ _ | refine Below.alloc ?_ (by simp <;> omega) _))
    clear hw3
    go_wp2_with fail
    refine (as_nil _ _).mono ?_
    rintro e w4 ⟨rfl, rfl⟩
    go_wp2
    go_ret
    refine ⟨_, O', p', rfl, by rw [← HR.out]; exact HSV.out, HL2.out.below HB3.out, H3.out, HB.out.trans (HB3.out.mono HSB.out), HY.out.below HB3.out, HN.out⟩
end Go.Proofs.YtaijpiebjhhkjaaGreatDoor
/- Plain: a session: lines of a text, the answers one by one. -/
namespace Go.Proofs.YtaijpiebjhhkjaaGreatDoor
open Go.RowKit
/-- a text's lines, each with its newline; the last may lack it -/
def lns : List UInt8 → List (List UInt8)
  | [] => []
  | x :: t => if x = 10 then [10] :: lns t else match lns t with
    | [] => [[x]]
    | h :: r => (x :: h) :: r
theorem lns_cons (x : UInt8) (t : List UInt8) : lns (x :: t) = if x = 10 then [10] :: lns t else match lns t with
    | [] => [[x]]
    | h :: r => (x :: h) :: r := by rw [lns]
theorem lns_ne {t : List UInt8} (h : t ≠ []) : lns t ≠ [] := by
  cases t with
  | nil => exact absurd rfl h
  | cons x t => unfold lns; split; · simp
                split <;> simp
theorem lns_nil {t : List UInt8} (h : lns t = []) : t = [] := by
  cases t with
  | nil => rfl
  | cons x t => exact absurd h (lns_ne (by simp))
theorem lns_flat : ∀ t : List UInt8, (lns t).flatten = t
  | [] => rfl
  | x :: t => by
    have ih := lns_flat t
    unfold lns
    split
    · rename_i h; simp [ih, h]
    · split
      · rename_i h; rw [h] at ih; simp at ih ⊢; exact ih
      · rename_i h; rw [h] at ih; simp at ih ⊢; exact ih
theorem lns_len : ∀ t : List UInt8, (lns t).length ≤ t.length
  | [] => Nat.le_refl _
  | x :: t => by
    have ih := lns_len t
    unfold lns
    split
    · simp; exact ih
    · split
      · simp
      · rename_i h; rw [h] at ih; simp at ih ⊢; omega
theorem lns_whole : ∀ t : List UInt8, Whole2 (lns t)
  | [] => fun k x h => by simp [lns] at h
  | y :: t => by
    have ih := lns_whole t
    intro k x h
    unfold lns at h ⊢
    split at h
    · rename_i h10
      rw [if_pos h10]
      cases k with
      | zero => simp at h; subst h; exact .inl ⟨[], rfl, by simp⟩
      | succ k =>
        simp at h
        rcases ih k x h with h1 | ⟨h1, h2, h3⟩
        · exact .inl h1
        · exact .inr ⟨by simp; exact h1, h2, h3⟩
    · rename_i h10
      rw [if_neg h10]
      cases ht : lns t with
      | nil =>
        rw [ht] at h
        cases k with
        | zero => simp at h; subst h; exact .inr ⟨rfl, by simp, by simpa using fun e => h10 e.symm⟩
        | succ k => simp at h
      | cons hd r =>
        rw [ht] at h ih
        cases k with
        | zero =>
          simp at h
          subst h
          rcases ih 0 hd rfl with ⟨a, h1, h2⟩ | ⟨h1, h2, h3⟩
          · exact .inl ⟨y :: a, by rw [h1]; rfl, by simp; exact ⟨fun e => h10 e.symm, h2⟩⟩
          · exact .inr ⟨by simpa using h1, by simp, by simp; exact ⟨fun e => h10 e.symm, h3⟩⟩
        | succ k =>
          simp at h
          rcases ih (k + 1) x (by simpa using h) with h1 | ⟨h1, h2, h3⟩
          · exact .inl h1
          · exact .inr ⟨by simpa using h1, h2, h3⟩
theorem mem_flat {x : List UInt8} : ∀ {L : List (List UInt8)}, x ∈ L → x.length ≤ L.flatten.length
  | y :: L, h => by
    rw [List.flatten_cons, List.length_append]
    rcases List.mem_cons.1 h with rfl | h
    · omega
    · have := mem_flat h; omega
theorem lns_mem {t x : List UInt8} (h : x ∈ lns t) : x.length ≤ t.length := by
  have := mem_flat h
  rwa [lns_flat] at this
/-- a beginning up to a newline -/
theorem lns_app : ∀ (a b : List UInt8), (a = [] ∨ a.getLast? = some 10) → lns (a ++ b) = lns a ++ lns b
  | [], b, _ => rfl
  | x :: a, b, h => by
    have hl : (x :: a).getLast? = some 10 := h.resolve_left (by simp)
    by_cases ha : a = []
    · subst ha
      simp at hl
      subst hl
      rfl
    · have ih := lns_app a b (.inr (by rw [List.getLast?_cons_of_ne_nil ha] at hl; exact hl))
      rw [List.cons_append]
      show lns (x :: (a ++ b)) = lns (x :: a) ++ lns b
      rw [lns_cons, lns_cons, ih]
      split
      · simp
      · cases hx : lns a with
        | nil => exact absurd (lns_nil hx) ha
        | cons h r => simp
theorem trimNl_cons {x : UInt8} {l : List UInt8} (h : l ≠ []) : trimNl (x :: l) = x :: trimNl l := by
  unfold trimNl
  rw [List.getLast?_cons_of_ne_nil h, List.dropLast_cons_of_ne_nil h]
  split <;> rfl
/-- lines, and a text cut at each newline -/
theorem cut_lns : ∀ t : List UInt8, RN.cutAt 10 t = (lns t).map trimNl ++ (if t = [] ∨ t.getLast? = some 10 then [[]] else [])
  | [] => by simp [RN.cutAt, lns]
  | x :: t => by
    have ih := cut_lns t
    by_cases ht : t = []
    · subst ht
      by_cases hx : x = 10
      · subst hx; rfl
      · have h1 : ¬ (([x] : List UInt8) = [] ∨ [x].getLast? = some 10) := by simp; exact hx
        rw [if_neg h1]
        simp [RN.cutAt, lns, hx, trimNl]
    · have hl : (x :: t).getLast? = t.getLast? := List.getLast?_cons_of_ne_nil ht
      have hc : ((x :: t) = [] ∨ (x :: t).getLast? = some 10) ↔ (t = [] ∨ t.getLast? = some 10) := by
        rw [hl]
        simp [ht]
      have hi : (if (x :: t) = [] ∨ (x :: t).getLast? = some 10 then [[]] else ([] : List (List UInt8))) = if t = [] ∨ t.getLast? = some 10 then [[]] else [] := by
        by_cases h : t = [] ∨ t.getLast? = some 10
        · rw [if_pos h, if_pos (hc.2 h)]
        · rw [if_neg h, if_neg (fun e => h (hc.1 e))]
      rw [hi]
      unfold RN.cutAt lns
      by_cases hx : x = 10
      · rw [if_pos hx, if_pos hx, ih]
        simp [trimNl]
      · rw [if_neg hx, if_neg hx, ih]
        cases hn : lns t with
        | nil => exact absurd (lns_nil hn) ht
        | cons h r =>
          have hh : h ≠ [] := by
            intro e
            rcases lns_whole t 0 h (by rw [hn]; rfl) with ⟨a, h1, _⟩ | ⟨_, h2, _⟩
            · rw [e] at h1; simp at h1
            · exact h2 e
          simp [trimNl_cons hh]
/-- the answers to lines, the flows behind them -/
noncomputable def sessOut (caps : List Int) : List (List Int) → List (List UInt8) → List UInt8
  | _, [] => []
  | L, x :: r => ansOf (lineOf caps L (trimNl x)).1 ++ 10 :: sessOut caps (lineOf caps L (trimNl x)).2 r
noncomputable def sessL (caps : List Int) : List (List Int) → List (List UInt8) → List (List Int)
  | L, [] => L
  | L, x :: r => sessL caps (lineOf caps L (trimNl x)).2 r
theorem sessL_snoc (caps : List Int) (x : List UInt8) : ∀ (L : List (List Int)) (ls : List (List UInt8)), sessL caps L (ls ++ [x]) = (lineOf caps (sessL caps L ls) (trimNl x)).2
  | _, [] => rfl
  | _, _ :: r => sessL_snoc caps x _ r
theorem sessOut_snoc (caps : List Int) (x : List UInt8) : ∀ (L : List (List Int)) (ls : List (List UInt8)), sessOut caps L (ls ++ [x]) = sessOut caps L ls ++ (ansOf (lineOf caps (sessL caps L ls) (trimNl x)).1 ++ [10])
  | L, [] => by simp [sessOut, sessL]
  | L, y :: r => by
    rw [List.cons_append, sessOut, sessOut, sessL, sessOut_snoc caps x _ r]
    simp
theorem sessOut_app (caps : List Int) (ms : List (List UInt8)) : ∀ (L : List (List Int)) (ls : List (List UInt8)), sessOut caps L (ls ++ ms) = sessOut caps L ls ++ sessOut caps (sessL caps L ls) ms
  | _, [] => rfl
  | L, y :: r => by
    rw [List.cons_append, sessOut, sessOut, sessL, sessOut_app caps ms _ r]
    simp
/-- run.Run's links -/
def caps4 : List Int := [12, 6, 4, 10]
/-- what run.Run answers -/
noncomputable def runOf (t : List UInt8) : List UInt8 := if 3000 < t.length then [116, 111, 111, 32, 108, 111, 110, 103, 10] else sessOut caps4 [] (lns t)
/-- an answer is short -/
theorem joins_len (c : UInt8) (m : Nat) : ∀ l : List (List UInt8), (∀ x ∈ l, x.length ≤ m) → (RN.joinAt c l).length ≤ l.length * (m + 1)
  | [], _ => by simp [RN.joinAt]
  | [w], h => by have := h w (by simp); simp [RN.joinAt]; omega
  | w :: v :: r, h => by
    have h1 := h w (by simp)
    have ih := joins_len c m (v :: r) fun x hx => h x (by simp; right; simpa using hx)
    show (w ++ c :: RN.joinAt c (v :: r)).length ≤ _
    rw [List.length_append, List.length_cons, List.length_cons, Nat.add_mul]
    omega
theorem told_len (m : Nat) (l : List (List UInt8)) (h : ∀ x ∈ l, x.length ≤ m) (h6 : l.length ≤ 6) : (toldW l).length ≤ 6 * (m + 1) := by
  unfold toldW
  split
  · simp; omega
  · exact Nat.le_trans (joins_len 32 m l h) (Nat.mul_le_mul_right _ h6)
theorem frac_short {q : Rat} (h : QIn q) : (fracW q.num q.den).length ≤ 41 := by
  obtain ⟨h1, h2, h3, h4⟩ := qin_bounds h
  exact fracW_len h1 h2 h3 h4
theorem ans_short (caps : List Int) (L : List (List Int)) (hin : ∀ q ∈ ratesOf caps L, QIn q) (hlen : (ratesOf caps L).length ≤ 6) (s : List UInt8) : (ansOf (lineOf caps L s).1).length ≤ 300 := by
  have key : ∀ (h : List UInt8) (l : List Nat), (ansOf (wordOf caps L h l).1).length ≤ 300 := fun h l => by
    unfold wordOf
    have he : ∀ er, (ansOf (.err er)).length ≤ 300 := fun er => Nat.le_trans (errName_len er) (by decide)
    have hl0 : QIn (leastOf caps L) ∨ L = [] := by
      by_cases hr : ratesOf caps L = []
      · left
        unfold leastOf
        rw [hr]
        decide
      · left
        obtain ⟨m, hm⟩ : ∃ m, (MM.srt (ratesOf caps L))[0]? = some m := ⟨_, List.getElem?_eq_getElem (by rw [(MM.perm_srt _).length_eq]; exact List.length_pos_iff.2 hr)⟩
        have hlo : leastOf caps L = m := by
          unfold leastOf
          rw [List.headD_eq_head?_getD, List.head?_eq_getElem?, hm]; rfl
        rw [hlo]
        exact hin m ((MM.perm_srt _).mem_iff.1 (List.mem_of_getElem? hm))
    split
    · split
      · show 2 ≤ 300; decide
      · exact he _
    split
    · split
      · exact he _
      · show 2 ≤ 300; decide
    split
    · refine Nat.le_trans (told_len 41 _ ?_ (by rw [List.length_map]; exact hlen)) (by decide)
      intro x hx
      obtain ⟨q, hq, rfl⟩ := List.mem_map.1 hx
      exact frac_short (hin q hq)
    split
    · split
      · exact he _
      · rename_i hn
        exact Nat.le_trans (frac_short (hl0.resolve_right hn)) (by decide)
    split
    · unfold idxOf
      split
      · rename_i h0
        have hf := idx_in _ h0
        unfold FracIn at hf
        exact Nat.le_trans (fracW_len (by omega) (by omega) (by omega) (by omega)) (by decide)
      · exact he _
    · unfold splOf
      split
      · rename_i h0
        have hb := spl_in _ _ h0
        have h6 : (splitL ((nints l).headD 0) (nints l).tail).length ≤ 6 := by
          rw [splitL_len]
          obtain ⟨h1, _⟩ := split_ok h0
          obtain ⟨hf, _⟩ := idx_parts h1
          exact (few_ok hf).2.1
        refine Nat.le_trans (told_len 20 _ ?_ (by rw [List.length_map]; exact h6)) (by decide)
        intro x hx
        obtain ⟨n, hn, rfl⟩ := List.mem_map.1 hx
        exact itoa_len (hb n hn).1 (hb n hn).2
      · exact he _
  unfold lineOf
  split
  · show 3 ≤ 300; decide
  · split
    · split
      · show 3 ≤ 300; decide
      · exact key _ _
    · show 3 ≤ 300; decide
end Go.Proofs.YtaijpiebjhhkjaaGreatDoor
/- run.Run: what holds between two lines. -/
namespace Go.Proofs.YtaijpiebjhhkjaaGreatDoor
open Go.RowKit Go.Shelf
theorem own_stayR {w w' : World} {g : Nat} {p : Option Nat} {base e size n : Nat} {v : Value} {xs : List Value} (h : w.ownsRow base e size v n xs) (hs : Stay g p w w') (hne : ∀ b, v.ownBlock = some b → b ≠ g ∧ p ≠ some b) : w'.ownsRow base e size v n xs := by
  refine ⟨h.1, ?_⟩
  rcases h.2 with hn | ⟨g', cap, cur, rfl, hb, hgg, rest⟩
  · exact .inl hn
  · obtain ⟨h1, h2⟩ := hne g' rfl
    exact .inr ⟨g', cap, cur, rfl, hb, (hs.block g' (Array.getElem?_eq_some_iff.1 hgg).1 h1 h2).trans hgg, rest⟩
/-- where blocks of other types change -/
theorem own_stayT {w w' : World} {g : Nat} {p : Option Nat} {base e size n : Nat} {v : Value} {xs : List Value} (h : w.ownsRow base e size v n xs) (hs : Stay g p w w') {t tp : TypeId} {cs : Array Value} (hg : Blk w g t cs) (h1 : e ≠ t) (hp : ∀ b, p = some b → ∃ cs, Blk w b tp cs) (h2 : e ≠ tp) : w'.ownsRow base e size v n xs :=
  own_stayR h hs fun b e => ⟨fun e2 => own_blk_ne h hg h1 (e2 ▸ e), fun e2 => by obtain ⟨cs', hc⟩ := hp b e2; exact own_blk_ne h hc h2 e⟩
theorem Blk.ne_t {w : World} {i j : Nat} {t u : TypeId} {cs ds : Array Value} (h : Blk w i t cs) (k : Blk w j u ds) (hne : t ≠ u) : i ≠ j := fun e => by
  subst e; unfold Blk at h k; rw [h] at k; injection k with k; injection k with _ k; exact hne k
theorem Blk.stayT {w w' : World} {i g : Nat} {p : Option Nat} {ti t tp : TypeId} {cs ds : Array Value} (h : Blk w i ti cs) (hs : Stay g p w w') (hg : Blk w g t ds) (h1 : ti ≠ t) (hp : ∀ b, p = some b → ∃ cs, Blk w b tp cs) (h2 : ti ≠ tp) : Blk w' i ti cs :=
  h.stay hs (h.ne_t hg h1) fun e => by obtain ⟨cs', hc⟩ := hp i e; exact h.ne_t hc h2 rfl
section
variable {W W' : World} {b0 g : Nat} {C : Option Addr} {cc : Nat} {caps : List Int} {i : Nat} {O : List LG.Op} {p : Option Nat}
theorem LogR.other (h : LogR W b0 g C cc caps i O p) {row : Option Nat} (hg : W.grownBy W' row) (hr : ∀ r, row = some r → ∃ o : Obj, W.heap[r]? = some o ∧ o.isCells = false) : LogR W' b0 g C cc caps i O p := by
  obtain ⟨P, cp, vs, bs, safe, h1, h2⟩ := h.log
  exact ⟨⟨P, cp, vs, bs, safe, ⟨h1.blk.other2 hg hr, h1.net.other2 hg hr, h1.lo⟩, h2⟩, h.ok, h.num, Nat.le_trans h.sz hg.size⟩
theorem LogR.far (h : LogR W b0 g C cc caps i O p) {j : Nat} {t : TypeId} {cs : Array Value} (hj : Blk W j t cs) (h1 : 73 ≠ t) (h2 : 3 ≠ t) (h3 : 22 ≠ t) (k : Nat) (u : Value) : LogR (W.setCell ⟨j, k, none⟩ u) b0 g C cc caps i O p := by
  obtain ⟨P, cp, vs, bs, safe, hl, hr⟩ := h.log
  exact ⟨⟨P, cp, vs, bs, safe, ⟨hl.blk.far (p := ⟨j, k, none⟩) (hl.blk.ne_t hj h1) u, hl.net.far hj h2 h3 k u, hl.lo⟩, hr⟩, h.ok, h.num, by have := h.sz; simpa [World.setCell] using this⟩
theorem LogR.stayT (h : LogR W b0 g C cc caps i O p) {j : Nat} {q : Option Nat} (hs : Stay j q W W') {t tp : TypeId} {cs : Array Value} (hj : Blk W j t cs) (h1 : 73 ≠ t) (h2 : 3 ≠ t) (h3 : 22 ≠ t) (hp : ∀ b, q = some b → ∃ cs, Blk W b tp cs) (h4 : 73 ≠ tp) (h5 : 3 ≠ tp) (h6 : 22 ≠ tp) : LogR W' b0 g C cc caps i O p := by
  obtain ⟨P, cp, vs, bs, safe, hl, hr⟩ := h.log
  exact ⟨⟨P, cp, vs, bs, safe, ⟨hl.blk.stayT hs hj h1 hp h4, ⟨own_stayT hl.net.capO hs hj h2 hp h5, own_stayT hl.net.own hs hj h3 hp h6, fun i u l a b => own_stayT (hl.net.row i u l a b) hs hj h2 hp h5, hl.net.apC, hl.net.apR⟩, hl.lo⟩, hr⟩, h.ok, h.num, Nat.le_trans h.sz hs.size⟩
end
theorem BldV.stayT {w w' : World} {B b : Nat} {v : Value} {l : List UInt8} (h : BldV w B b v l) {g : Nat} {p : Option Nat} (hs : Stay g p w w') {t tp : TypeId} {cs : Array Value} (hg : Blk w g t cs) (h1 : 96 ≠ t) (h2 : 5 ≠ t) (hp : ∀ b, p = some b → ∃ cs, Blk w b tp cs) (h3 : 96 ≠ tp) (h4 : 5 ≠ tp) : BldV w' B b v l := by
  obtain ⟨q, hq, hk⟩ := h.blk
  exact ⟨h.lo, ⟨q, hq, hk.stayT hs hg h1 hp h3⟩, own_stayT h.own hs hg h2 hp h4⟩
theorem BldV.ownk {w : World} {B b : Nat} {v : Value} {l : List UInt8} (h : BldV w B b v l) : ∀ i, v.ownBlock = some i → ∃ cs, Blk w i 5 cs := fun _ e => own_kindB h.own e
/-- where only blocks of cells change, all else lies as it lay -/
theorem keeps_stay {W W' : World} {g : Nat} {p : Option Nat} (hs : Stay g p W W') {t tp : TypeId} {cs : Array Value} (hg : Blk W g t cs) (hp : ∀ b, p = some b → ∃ cs, Blk W b tp cs) : KeepsOthers W W' :=
  ⟨hs.size, fun k o hk ho => (hs.block k (Array.getElem?_eq_some_iff.1 hk).1 (fun e => by subst e; unfold Blk at hg; rw [hg] at hk; cases hk; cases ho) (fun e => by obtain ⟨c, hc⟩ := hp k e; unfold Blk at hc; rw [hc] at hk; cases hk; cases ho)).trans hk⟩
/-- between two lines -/
structure RunI (w0 : World) (g d bb Bs : Nat) (C : Option Addr) (cc : Nat) (T : List (List UInt8)) (k : Nat) (W : World) : Prop where
  log : ∃ O p, LogR W w0.heap.size g C cc caps4 k O p ∧ LG.runs O = sessL caps4 [] (T.take k)
  desk : Blk W d 92 #[.pointer (some ⟨g, 0, none⟩)]
  bld : ∃ v, BldV W w0.heap.size bb v (sessOut caps4 [] (T.take k))
  txt : ∃ v, Blk W Bs 9 #[v]
  laid : LaidRun W
  bel : Below w0.heap.size w0 W
  len : (sessOut caps4 [] (T.take k)).length ≤ 301 * k
section
variable {w0 : World} {g d bb Bs : Nat} {C : Option Addr} {cc : Nat} {T : List (List UInt8)} {k : Nat} {W W' : World}
theorem RunI.below (h : RunI w0 g d bb Bs C cc T k W) (hb : Below W.heap.size W W') : RunI w0 g d bb Bs C cc T k W' := by
  obtain ⟨O, p, h1, h2⟩ := h.log
  obtain ⟨v, h3⟩ := h.bld
  obtain ⟨u, h4⟩ := h.txt
  exact ⟨⟨O, p, h1.below hb, h2⟩, h.desk.go hb, ⟨v, h3.below hb⟩, ⟨u, h4.go hb⟩, h.laid.below hb, h.bel.trans (hb.mono h.bel.size), h.len⟩
theorem LaidRun.other {w w' : World} (h : LaidRun w) {b : Nat} (hb : Below b w w') (hg : 14 ≤ b) : LaidRun w' := h.below0 hg hb
theorem runI_own (B : Nat) (hB : w0.heap.size ≤ B) (hG : 14 ≤ w0.heap.size) : OwnFrom B (RunI w0 g d bb Bs C cc T) := fun k W W' row h hg hr => by
  have hr' : ∀ r, row = some r → ∃ o : Obj, W.heap[r]? = some o ∧ o.isCells = false := fun r e => (hr r e).2
  obtain ⟨O, p, h1, h2⟩ := h.log
  obtain ⟨v, h3⟩ := h.bld
  obtain ⟨u, h4⟩ := h.txt
  have hb : Below w0.heap.size W W' := (Below.refl _ W).grown hg h.bel.size fun i e => Nat.le_trans hB (hr i e).1
  exact ⟨⟨O, p, h1.other hg hr', h2⟩, h.desk.other2 hg hr', ⟨v, h3.other hg hr'⟩, ⟨u, h4.other2 hg hr'⟩, h.laid.below0 hG hb, h.bel.trans hb, h.len⟩
theorem RunI.box (hBs : w0.heap.size ≤ Bs) (hG : 14 ≤ w0.heap.size) (h : RunI w0 g d bb Bs C cc T k W) (u : Value) : RunI w0 g d bb Bs C cc T k (W.setCell ⟨Bs, 0, none⟩ u) := by
  obtain ⟨O, p, h1, h2⟩ := h.log
  obtain ⟨v, h3⟩ := h.bld
  obtain ⟨x, h4⟩ := h.txt
  have hb : Below w0.heap.size W (W.setCell ⟨Bs, 0, none⟩ u) := (Below.refl _ W).setCell (p := ⟨Bs, 0, none⟩) hBs u
  exact ⟨⟨O, p, h1.far h4 (by decide) (by decide) (by decide) 0 u, h2⟩, h.desk.far (p := ⟨Bs, 0, none⟩) (h.desk.ne_t h4 (by decide)) u, ⟨v, h3.far h4 (by decide) (by decide) 0 u⟩, ⟨_, h4.set_ 0 u⟩, h.laid.below0 hG hb, h.bel.trans hb, h.len⟩
theorem RunI.drew (h : RunI w0 g d bb Bs C cc T k W) : RunI w0 g d bb Bs C cc T k W.drew := h.below (Below.refl _ _).drew
/-- a line answered, and written -/
theorem RunI.step (hG : 14 ≤ w0.heap.size) {x : List UInt8} (hx : T[k]? = some x) {O : List LG.Op} {p : Option Nat} (hL : LogR W w0.heap.size g C cc caps4 k O p) (hO : LG.runs O = sessL caps4 [] (T.take k)) (h : RunI w0 g d bb Bs C cc T k W)
    {W1 W2 : World} {O' : List LG.Op} {p' : Option Nat} (h1 : LogR W1 w0.heap.size g C cc caps4 (k + 1) O' p') (h2 : LG.runs O' = (lineOf caps4 (LG.runs O) (trimNl x)).2) (h3 : Below w0.heap.size W W1) (h4 : Stay g p W W1)
    {v v' : Value} (hv : BldV W w0.heap.size bb v (sessOut caps4 [] (T.take k))) (hw : BldV W2 w0.heap.size bb v' (sessOut caps4 [] (T.take k) ++ (ansOf (lineOf caps4 (LG.runs O) (trimNl x)).1 ++ [10]))) (h5 : Stay bb v.ownBlock W1 W2) (h6 : Below w0.heap.size W1 W2) (h7 : (ansOf (lineOf caps4 (LG.runs O) (trimNl x)).1).length ≤ 300) :
    KeepsOthers W W2 ∧ W2.heap[Bs]? = W.heap[Bs]? ∧ RunI w0 g d bb Bs C cc T (k + 1) W2 := by
  obtain ⟨cg, hg⟩ := hL.blk
  obtain ⟨y, ht⟩ := h.txt
  have hv1 : BldV W1 w0.heap.size bb v (sessOut caps4 [] (T.take k)) := hv.stayT h4 hg (by decide) (by decide) hL.own (by decide) (by decide)
  obtain ⟨q, _, hk1⟩ := hv1.blk
  have htk : T.take (k + 1) = T.take k ++ [x] := by rw [List.take_add_one, hx, Option.toList_some]
  have t1 : Blk W1 Bs 9 #[y] := ht.stayT h4 hg (by decide) hL.own (by decide)
  have t2 : Blk W2 Bs 9 #[y] := t1.stayT h5 hk1 (by decide) hv1.ownk (by decide)
  refine ⟨(keeps_stay h4 hg hL.own).trans (keeps_stay h5 hk1 hv1.ownk), by unfold Blk at t2 ht; rw [t2, ht], ⟨⟨O', p', h1.stayT h5 hk1 (by decide) (by decide) (by decide) hv1.ownk (by decide) (by decide) (by decide), ?_⟩, (h.desk.stayT h4 hg (by decide) hL.own (by decide)).stayT h5 hk1 (by decide) hv1.ownk (by decide), ⟨v', ?_⟩, ⟨y, t2⟩, h.laid.below0 hG (h3.trans h6), h.bel.trans (h3.trans h6), ?_⟩⟩
  · rw [htk, sessL_snoc, h2, hO]
  · rw [htk, sessOut_snoc, ← hO]; exact hw
  · rw [htk, sessOut_snoc, ← hO, List.length_append, List.length_append]; have := h.len; simp only [List.length_cons, List.length_nil]; omega
end
set_option maxRecDepth 100000 in
theorem run_long (s : ByteArray) (w : World) (hs : 3000 < s.size) :
    Calls Tryz.prog 26 #[.string s] w fun e w' => e = .returned (.string ⟨#[116, 111, 111, 32, 108, 111, 110, 103, 10]⟩) ∧ w' = w := by
  have h1 : (3000 : Int) < (s.size : Int) := by omega
  go_enter Tryz.func26, Tryz.ntmps26
  go_wp2
  go_ret
  exact ⟨rfl, rfl⟩
end Go.Proofs.YtaijpiebjhhkjaaGreatDoor
/- run.Run, whole. -/
namespace Go.Proofs.YtaijpiebjhhkjaaGreatDoor
open Go.RowKit Go.Shelf
attribute [local go_sem] Oper.semAt_some
theorem links_ints (w : World) (hl : LaidRun w) : Ints w w.heap.size (some ⟨0, 0, none⟩) 4 caps4 := by
  refine ⟨⟨by simp, fun _ => ⟨0, 0, rfl, Nat.lt_of_lt_of_le (by decide) hl.lt, fun j u hu => ?_⟩⟩, by decide, by decide⟩
  rw [List.getElem?_map] at hu
  obtain ⟨v, hv, rfl⟩ := Option.map_eq_some_iff.1 hu
  rw [Nat.zero_add]
  exact hl.links j v hv
theorem trim_len (l : List UInt8) : (trimNl l).length ≤ l.length := by
  unfold trimNl
  split
  · simp
  · exact Nat.le_refl _
theorem rnew_any (w : World) (hl : LaidRun w) :
    Calls Tryz.prog 8 #[.slice (some ⟨0, 0, none⟩) 4 4] w fun e w' => ∃ g C cc, e = .returned (.tuple #[.pointer (some ⟨g, 0, none⟩), .nilIface]) ∧ LogR w' w.heap.size g C cc caps4 0 [] none ∧ Below w.heap.size w w' := by
  refine (log_yes _ 4 caps4 _ w (links_ints w hl) (Nat.le_refl _) (by decide)).mono ?_
  rintro e w' ⟨g, cv, rfl, hL, hb⟩
  obtain ⟨C, cc, rfl, _, _⟩ := owns_ints hL.net.capO
  exact ⟨g, C, cc, rfl, rlog_new w' w.heap.size g C cc caps4 hL hb.size, hb⟩
set_option maxRecDepth 100000 in
set_option maxHeartbeats 8000000 in
theorem run_any (b : ByteArray) (w : World) (hs : b.size ≤ 3000) (hl : LaidRun w) :
    Calls Tryz.prog 26 #[.string b] w fun e w' => ∃ sv, e = .returned (.string sv) ∧ sv.data.toList = sessOut caps4 [] (lns b.data.toList) ∧ Below w.heap.size w w' := by
  refine (callsIn_wide (n := 8)).1 ?_
  have HL := Lib.hid hl
  have hG : 14 ≤ w.heap.size := hl.lt
  have hsz : ¬ (3000 : Int) < (b.size : Int) := by omega
  have hsz2 : ¬ 3000 < b.size := by omega
  clear hl
  refine callsIn_of_wp_marks Tryz.func26 rfl trivial ?_ rfl
  simp only [Tryz.ntmps26, List.size_toArray, List.length_cons, List.length_nil, Nat.reduceAdd, Nat.reduceSub, Array.replicate_succ, Array.replicate_zero, List.push_toArray, List.append_toArray, List.nil_append, List.cons_append]
  gi_wp2_with (refine ⟨trivial, ?_⟩; gi_at_call 8; refine (callsIn_wide.2 (rnew_any w HL.out)).mono ?_; rintro e w1 ⟨g, C, cc, rfl, hlog, hb1⟩)
  have HB1 := Lib.hid hb1; have HLG := Lib.hid hlog
  have HZ1 : Hid (w.heap.size ≤ w1.heap.size) := Lib.hid hb1.size
  clear hb1 hlog
  gi_wp2_with (refine ⟨trivial, ?_⟩; gi_at_call 52; refine (lines_in b _ _).mono ?_; rintro e w' ⟨rfl, hw⟩; rw [hw]; clear hw w')
  have H5 := ((Blk.new w1 92 #[.pointer (some ⟨g, 0, none⟩)]).alloc (.cells #[.pointer none, .slice none 0 0] 96)).alloc (.cells #[.string b] 9)
  have H6 := (bldV_new (w1.alloc (.cells #[.pointer (some ⟨g, 0, none⟩)] 92)) w.heap.size (by simp; have := HZ1.out; omega)).below ((Below.refl _ _).alloc (Nat.le_refl _) (.cells #[.string b] 9))
  have H7 := Blk.new' ((w1.alloc (.cells #[.pointer (some ⟨g, 0, none⟩)] 92)).alloc (.cells #[.pointer none, .slice none 0 0] 96)) 9 #[.string b] (g := w1.heap.size + 1 + 1) (by simp)
  have HB := (((Below.refl w1.heap.size w1).alloc (Nat.le_refl _) (.cells #[.pointer (some ⟨g, 0, none⟩)] 92)).alloc (by simp) (.cells #[.pointer none, .slice none 0 0] 96)).alloc (by simp; omega) (.cells #[.string b] 9)
  rw [World.size_alloc] at H6
  obtain ⟨w4, hw4⟩ : ∃ x, x = ((w1.alloc (.cells #[.pointer (some ⟨g, 0, none⟩)] 92)).alloc (.cells #[.pointer none, .slice none 0 0] 96)).alloc (.cells #[.string b] 9) := ⟨_, rfl⟩
  rw [← hw4] at H5 H6 H7 HB ⊢
  have hz4 : w4.heap.size = w1.heap.size + 3 := by rw [hw4]; simp
  clear hw4
  have hI0 : RunI w g w1.heap.size (w1.heap.size + 1) (w1.heap.size + 1 + 1) C cc (lns b.data.toList) 0 w4 :=
    ⟨⟨[], none, HLG.out.below HB, rfl⟩, H5, ⟨_, H6⟩, ⟨_, H7⟩, (HL.out.below HB1.out).below HB, HB1.out.trans (HB.mono HZ1.out), Nat.le_refl _⟩
  obtain ⟨g5, hg5⟩ : ∃ x, x = w1.heap.size := ⟨_, rfl⟩
  obtain ⟨g6, hg6⟩ : ∃ x, x = w1.heap.size + 1 := ⟨_, rfl⟩
  obtain ⟨g7, hg7⟩ : ∃ x, x = w1.heap.size + 1 + 1 := ⟨_, rfl⟩
  rw [← hg7, ← hg6, ← hg5] at hI0; rw [← hg7] at H7
  rw [← hg7, ← hg6, ← hg5]
  have j7 : w.heap.size ≤ g7 := by have := HZ1.out; omega
  have hzz : w.heap.size ≤ w4.heap.size := by have := HZ1.out; omega
  have hT : (lns b.data.toList).length ≤ 3000 := by have := lns_len b.data.toList; rw [bytes_len] at this; omega
  have hTm : ∀ (k : Nat) (x : List UInt8), (lns b.data.toList)[k]? = some x → x.length ≤ 3000 := fun k x h => by have := lns_mem (List.mem_of_getElem? h); rw [bytes_len] at this; omega
  have HTM := Lib.hid hTm
  clear H5 H6 HB hg5 hg6 hg7 hz4 hTm
  refine range_lines2 (w := w4) 8 (by decide) g7 rfl rfl (lns b.data.toList) (lns_whole _) (by rw [lns_flat, bytes_len]; omega) b H7 (by rw [lns_flat])
    (RunI w g g5 g6 g7 C cc (lns b.data.toList)) (runI_own _ hzz hG) (fun k W u h => h.box j7 hG u) (fun k W h => h.drew) hI0
    (fun x => { tmps := #[.string b, undef, .string ⟨#[]⟩, .pointer (some ⟨g, 0, none⟩), .nilIface, .pointer (some ⟨g5, 0, none⟩), .pointer (some ⟨g6, 0, none⟩), .string x, .string b, .int .i64 b.size, .bool false, .tuple #[.pointer (some ⟨g, 0, none⟩), .nilIface], .slice (some ⟨0, 0, none⟩) 4 4, .tuple #[.pointer (some ⟨g, 0, none⟩), .nilIface], .pointer (some ⟨g, 0, none⟩), .nilIface, .nilIface, .bool false, .pointer (some ⟨g, 0, none⟩), .agg #[.pointer (some ⟨g, 0, none⟩)], .string b, .func (.func 80) #[] #[.pointer (some ⟨g7, 0, none⟩)], .string x, undef, undef, undef, undef, undef, undef, undef], defers := [] }) ?assign ?body ?done
  case assign =>
    intro l x W K hK
    gi_wp2
    exact hK
  case body =>
    intro l k x W hl hr hI0' hx
    have hI := hI0'.drew
    clear hI0'
    obtain ⟨O, p, hL, hO⟩ := hI.log
    obtain ⟨v, hv⟩ := hI.bld
    have hk : k < (lns b.data.toList).length := (List.getElem?_eq_some_iff.1 hx).1
    have hxs : x.size ≤ 1000000000 := by have := HTM.out k _ hx; rw [bytes_len] at this; omega
    have HRS : Hid (∀ r : ByteArray, r.data.toList = trimNl x.data.toList → r.size ≤ 5000) := Lib.hid fun r h => by
      have := HTM.out k _ hx
      have h2 := trim_len x.data.toList
      rw [← bytes_len, h]; omega
    have HLA := Lib.hid hI.laid; have HLO := Lib.hid hL; have HOO := Lib.hid hO; have HI := Lib.hid hI; have HV := Lib.hid hv; have HX := Lib.hid hx
    have hk4 : k ≤ 4000 := by omega
    have HAN : Hid ((ansOf (lineOf caps4 (LG.runs O) (trimNl x.data.toList)).1).length ≤ 300) := Lib.hid (ans_short caps4 _ (hL.rin (by decide)) (by rw [hL.rlen (by decide)]; exact hL.ok.all) _)
    have HOL : Hid ((sessOut caps4 [] ((lns b.data.toList).take k)).length ≤ 301 * k) := Lib.hid hI.len
    obtain ⟨cg, hcg⟩ := hL.blk
    have HCG := Lib.hid hcg
    clear hcg
    obtain ⟨x0, xf0, xz⟩ := hI.desk.one
    clear hI hL hO hv hx
    have hd : 1 ≤ 8 - 1 - 1 := by decide
    have hmx : Tryz.prog.follows .mixedOrders = true := by kernel_rfl
    gi_wp2
    gi_region_with_o (first
      | (refine ⟨trivial, ?_⟩; gi_at_call 55; refine (CallsIn.inRound l (callsIn_wide.2 (trim_nl x _ hxs))).mono ?_; rintro e w' ⟨r, rfl, hr1, rfl⟩; have HR := Lib.hid hr1; clear hr1)
      | (refine ⟨trivial, ?_⟩; gi_at_call 54; refine (CallsIn.inRound l (callsIn_wide.2 (answer_any W.drew w.heap.size g C cc caps4 k O p HLO.out HLA.out hG r (HRS.out r HR.out) hk4 (by decide) (by decide)))).mono ?_; rintro e W1 ⟨sv, O', p', rfl, hr1, hr2, hr3, hr4, hr5, hr6⟩; have HA1 := Lib.hid hr1; have HA2 := Lib.hid hr2; have HA3 := Lib.hid hr3; have HA4 := Lib.hid hr4; have HA5 := Lib.hid hr5; clear hr1 hr2 hr3 hr4 hr5 hr6; have hsv : sv.size ≤ 300 := (by rw [← bytes_len, HA1.out, HR.out]; exact HAN.out); have fa : ¬ 9223372036854775807 < sv.size + 1 := (by omega))
      | (refine ⟨trivial, ?_⟩; gi_at_call 53; have HV1 := Lib.hid (HV.out.stayT HA5.out HCG.out (by decide) (by decide) HLO.out.own (by decide) (by decide)); have hsz3 : (sessOut caps4 [] ((lns b.data.toList).take k)).length + (sv ++ ⟨#[10]⟩ : ByteArray).size ≤ 100000000 := (by rw [ByteArray.size_append]; have := HOL.out; have e1 : (⟨#[10]⟩ : ByteArray).size = 1 := rfl; omega); have HWR := Lib.hid (bldV_write w.heap.size g6 v _ (sv ++ ⟨#[10]⟩) W1 HV1.out hsz3 HA2.out.sz); refine (CallsIn.inRound l (callsIn_wide.2 HWR.out)).mono ?_; rintro e W2 ⟨rfl, v', hr1, hr2, hr3⟩; have HB1' := Lib.hid hr1; have HB2' := Lib.hid hr2; have HB3' := Lib.hid hr3; clear hr1 hr2 hr3))
    all_goals
      gi_wp2
      have hxx := HX.out
      obtain ⟨q1, q2, q3⟩ := HI.out.step hG HX.out HLO.out HOO.out HA2.out (by rw [← HR.out]; exact HA3.out) HA4.out HA5.out HV.out (by have := HB1'.out; rw [ByteArray.data_append, Array.toList_append, HA1.out, HR.out] at this; exact this) HB2'.out HB3'.out HAN.out
      exact ⟨((KeepsOthers.drew W).trans q1).from _, q2, q3⟩
  case done =>
    intro D W hD hI hK
    obtain ⟨v, hv⟩ := hI.bld
    rw [List.take_length] at hv
    obtain ⟨q, _, hbk⟩ := hv.blk
    have hne1 : D ≠ g6 := fun e => by subst e; unfold Blk at hbk; rw [hbk] at hK; cases hK
    have hne2 : v.ownBlock ≠ some D := fun e => by obtain ⟨c, hc⟩ := hv.ownk D e; unfold Blk at hc; rw [hc] at hK; cases hK
    have hbz := hI.bel.size
    have HV := Lib.hid hv; have HBL := Lib.hid hI.bel; have HK := Lib.hid hK
    have hDl := (Array.getElem?_eq_some_iff.1 hK).1
    clear hv hbk hI hK
    gi_wp2_with (refine ⟨trivial, ?_⟩; gi_at_call 56; refine (callsIn_wide.2 (bldV_string w.heap.size g6 v _ W HV.out hbz)).mono ?_; rintro e w5 ⟨rfl, hst, hb5⟩)
    have hK5 : w5.heap[D]? = some (.deferred (some [])) := (hst.block D hDl hne1 hne2).trans HK.out
    have HB5 := Lib.hid (HBL.out.trans hb5)
    clear hst hb5
    have hgr := grownBy_putObj' w5 D (.deferred none)
    refine ⟨by simp, .inl ⟨_, _, rfl, run_takeDeferred hK5, ?_⟩⟩
    exact ⟨.string ⟨(sessOut caps4 [] (lns b.data.toList)).toArray⟩, by simp [results, Tryz.results26, go_sem], _, rfl, by simp, HB5.out.grown hgr HB5.out.size (fun k e => by cases e; omega)⟩
end Go.Proofs.YtaijpiebjhhkjaaGreatDoor
/- Plain: the closed fact of RunBegins, the sessions of RunAlike. -/
namespace Go.Proofs.YtaijpiebjhhkjaaGreatDoor
open Go.RowKit
theorem fillR_eq {caps : List Int} {L : List (List Int)} {K : Nat} {R : List Rat} (ok : NetOk caps L) (h : FillEnds caps L K R) : fillR caps L = R := by
  obtain ⟨K', h'⟩ := fillR_is ok
  exact (h'.same h).2
theorem ratesOf_eq {caps : List Int} {L : List (List Int)} {K : Nat} {R : List Rat} (he : netErr caps L = 0) (hn : L ≠ []) (h : FillEnds caps L K R) : ratesOf caps L = R := by
  rw [ratesOf_some hn, fillR_eq (netOk_of he) h]
theorem num_digit {n : Nat} (h : n < 10) : RN.num [UInt8.ofNat (48 + n)] = some n := RN.num_some.2 ⟨by omega, Lib.decDigits_one h⟩
theorem nums_cons {w : List UInt8} {r : List (List UInt8)} {n : Nat} {l : List Nat} (h : RN.num w = some n) (hr : RN.nums r = some l) : RN.nums (w :: r) = some (n :: l) := by
  unfold RN.nums
  rw [h, hr]
theorem itoa_digit {n : Nat} (h : n < 10) : Lib.itoa (n : Int) = [UInt8.ofNat (48 + n)] := by
  unfold Lib.itoa
  rw [if_neg (by omega), show ((n : Int)).toNat = n by omega]
  exact Lib.decDigits_one h
theorem itoa_12 : Lib.itoa 12 = [49, 50] := by
  unfold Lib.itoa
  rw [if_neg (by omega), show ((12 : Int)).toNat = 12 by omega, Lib.decDigits_two (by omega) (by omega)]
  rfl
theorem lineOf_go {caps : List Int} {L : List (List Int)} {line h : List UInt8} {t : List (List UInt8)} {n : Nat} {m : Bool} {l : List Nat} (hc : RN.cutAt 32 line = h :: t) (hw : wantOf h = some (n, m)) (hn : RN.nums t = some l) (hb : ¬ (l.length < n ∨ (n < l.length ∧ m = false))) : lineOf caps L line = wordOf caps L h l := by
  rw [lineOf_is hc, hw, hn]; exact if_neg hb
theorem word_add {caps : List Int} {L : List (List Int)} {l : List Nat} (h : addE caps L false (nints l) = 0) : wordOf caps L [97, 100, 100] l = (.ok [111, 107], L ++ [nints l]) := by
  unfold wordOf; rw [if_pos rfl, if_pos h]
theorem word_addno {caps : List Int} {L : List (List Int)} {l : List Nat} {er : Int} (h : addE caps L false (nints l) = er) (h0 : er ≠ 0) : wordOf caps L [97, 100, 100] l = (.err er, L) := by
  unfold wordOf; rw [if_pos rfl, h, if_neg h0]
theorem word_drop {caps : List Int} {L : List (List Int)} {l : List Nat} (h : ¬ L.length ≤ l.headD 0) : wordOf caps L [100, 114, 111, 112] l = (.ok [111, 107], L.eraseIdx (l.headD 0)) := by
  unfold wordOf; rw [if_neg (by decide), if_pos rfl, if_neg h]
theorem word_rates {caps : List Int} {L : List (List Int)} {l : List Nat} {R : List Rat} (h : ratesOf caps L = R) : wordOf caps L [114, 97, 116, 101, 115] l = (.ok (toldW (R.map fun q => fracW q.num q.den)), L) := by
  unfold wordOf; rw [if_neg (by decide), if_neg (by decide), if_pos rfl, h]
theorem word_least {caps : List Int} {L : List (List Int)} {l : List Nat} {q : Rat} (hn : L ≠ []) (h : leastOf caps L = q) : wordOf caps L [108, 101, 97, 115, 116] l = (.ok (fracW q.num q.den), L) := by
  unfold wordOf; rw [if_neg (by decide), if_neg (by decide), if_neg (by decide), if_pos rfl, if_neg hn, h]
theorem word_index {caps : List Int} {L : List (List Int)} {l : List Nat} : wordOf caps L [105, 110, 100, 101, 120] l = (idxOf (nints l), L) := by
  unfold wordOf; rw [if_neg (by decide), if_neg (by decide), if_neg (by decide), if_neg (by decide), if_pos rfl]
theorem word_split {caps : List Int} {L : List (List Int)} {l : List Nat} : wordOf caps L [115, 112, 108, 105, 116] l = (splOf (nints l), L) := by
  unfold wordOf; rw [if_neg (by decide), if_neg (by decide), if_neg (by decide), if_neg (by decide), if_neg (by decide)]
/-! the fact's lines -/
theorem fc1 : lineOf caps4 [] (trimNl [114, 97, 116, 101, 115, 10]) = (.ok [45], []) := by
  refine (lineOf_go (h := [114, 97, 116, 101, 115]) (t := []) (n := 0) (m := false) (l := []) (by decide) (by decide) rfl (by decide)).trans ?_
  rw [word_rates (R := []) (if_pos rfl)]; rfl
theorem nums_1 {a : Nat} (ha : a < 10) : RN.nums [[UInt8.ofNat (48 + a)]] = some [a] := nums_cons (num_digit ha) rfl
theorem nums_2 {a b : Nat} (ha : a < 10) (hb : b < 10) : RN.nums [[UInt8.ofNat (48 + a)], [UInt8.ofNat (48 + b)]] = some [a, b] := nums_cons (num_digit ha) (nums_1 hb)
theorem nums_3 {a b c : Nat} (ha : a < 10) (hb : b < 10) (hc : c < 10) : RN.nums [[UInt8.ofNat (48 + a)], [UInt8.ofNat (48 + b)], [UInt8.ofNat (48 + c)]] = some [a, b, c] := nums_cons (num_digit ha) (nums_2 hb hc)
theorem fc2 : lineOf caps4 [] (trimNl [97, 100, 100, 32, 48, 32, 49, 10]) = (.ok [111, 107], [[0, 1]]) := by
  refine (lineOf_go (h := [97, 100, 100]) (t := [[48], [49]]) (n := 1) (m := true) (l := [0, 1]) (by decide) (by decide) (nums_2 (a := 0) (b := 1) (by decide) (by decide)) (by decide)).trans ?_
  rw [word_add (by decide)]; rfl
theorem fc3 : lineOf caps4 [[0, 1]] (trimNl [97, 100, 100, 32, 49, 32, 50, 10]) = (.ok [111, 107], [[0, 1], [1, 2]]) := by
  refine (lineOf_go (h := [97, 100, 100]) (t := [[49], [50]]) (n := 1) (m := true) (l := [1, 2]) (by decide) (by decide) (nums_2 (a := 1) (b := 2) (by decide) (by decide)) (by decide)).trans ?_
  rw [word_add (by decide)]; rfl
theorem fc4 (L : List (List Int)) (h : addE caps4 L false [0] = 0) : lineOf caps4 L (trimNl [97, 100, 100, 32, 48, 10]) = (.ok [111, 107], L ++ [[0]]) := by
  refine (lineOf_go (h := [97, 100, 100]) (t := [[48]]) (n := 1) (m := true) (l := [0]) (by decide) (by decide) (nums_1 (a := 0) (by decide)) (by decide)).trans ?_
  rw [word_add h]; rfl
theorem fc5 (L : List (List Int)) : lineOf caps4 L (trimNl [102, 108, 121, 10]) = (.bad, L) := by
  rw [lineOf_is (h := [102, 108, 121]) (t := []) (by decide)]
  rfl
theorem ends3 : FillEnds caps4 [[0, 1], [1, 2], [0]] 2 [3, 3, 9] := ends_dec (by decide +kernel) (by decide +kernel) (by decide +kernel)
theorem ends2 : FillEnds caps4 [[0, 1], [0]] 1 [6, 6] := ends_dec (by decide +kernel) (by decide +kernel) (by decide +kernel)
theorem fc6 : lineOf caps4 [[0, 1], [1, 2], [0]] (trimNl [114, 97, 116, 101, 115, 10]) = (.ok [51, 32, 51, 32, 57], [[0, 1], [1, 2], [0]]) := by
  refine (lineOf_go (h := [114, 97, 116, 101, 115]) (t := []) (n := 0) (m := false) (l := []) (by decide) (by decide) rfl (by decide)).trans ?_
  rw [word_rates (ratesOf_eq (by decide) (by decide) ends3)]
  have e3 : fracW (3 : Rat).num (3 : Rat).den = [51] := itoa_digit (n := 3) (by decide)
  have e9 : fracW (9 : Rat).num (9 : Rat).den = [57] := itoa_digit (n := 9) (by decide)
  simp only [List.map_cons, List.map_nil, e3, e9]
  rfl
theorem fc7 : lineOf caps4 [[0, 1], [1, 2], [0]] (trimNl [108, 101, 97, 115, 116, 10]) = (.ok [51], [[0, 1], [1, 2], [0]]) := by
  refine (lineOf_go (h := [108, 101, 97, 115, 116]) (t := []) (n := 0) (m := false) (l := []) (by decide) (by decide) rfl (by decide)).trans ?_
  rw [word_least (q := 3) (by decide) (by rw [leastOf, ratesOf_eq (by decide) (by decide) ends3]; decide +kernel)]
  have e3 : fracW (3 : Rat).num (3 : Rat).den = [51] := itoa_digit (n := 3) (by decide)
  rw [e3]
theorem fc8 : lineOf caps4 [[0, 1], [1, 2], [0]] (trimNl [100, 114, 111, 112, 32, 49, 10]) = (.ok [111, 107], [[0, 1], [0]]) := by
  refine (lineOf_go (h := [100, 114, 111, 112]) (t := [[49]]) (n := 1) (m := false) (l := [1]) (by decide) (by decide) (nums_1 (a := 1) (by decide)) (by decide)).trans ?_
  rw [word_drop (by decide)]; rfl
theorem fc9 : lineOf caps4 [[0, 1], [0]] (trimNl [114, 97, 116, 101, 115, 10]) = (.ok [54, 32, 54], [[0, 1], [0]]) := by
  refine (lineOf_go (h := [114, 97, 116, 101, 115]) (t := []) (n := 0) (m := false) (l := []) (by decide) (by decide) rfl (by decide)).trans ?_
  rw [word_rates (ratesOf_eq (by decide) (by decide) ends2)]
  have e6 : fracW (6 : Rat).num (6 : Rat).den = [54] := itoa_digit (n := 6) (by decide)
  simp only [List.map_cons, List.map_nil, e6]
  rfl
theorem fc10 (L : List (List Int)) : lineOf caps4 L (trimNl [105, 110, 100, 101, 120, 32, 51, 32, 49, 10]) = (.ok [52, 47, 53], L) := by
  refine (lineOf_go (h := [105, 110, 100, 101, 120]) (t := [[51], [49]]) (n := 1) (m := true) (l := [3, 1]) (by decide) (by decide) (nums_2 (a := 3) (b := 1) (by decide) (by decide)) (by decide)).trans ?_
  rw [word_index]
  have h0 : idxErr (nints [3, 1]) = 0 := by decide +kernel
  have h1 : idxT (nints [3, 1]) = 4 := by decide +kernel
  have h2 : idxB (nints [3, 1]) = 5 := by decide +kernel
  unfold idxOf fracW
  rw [if_pos h0, h1, h2, if_neg (by decide), show Lib.itoa 4 = [52] from itoa_digit (n := 4) (by decide), show Lib.itoa 5 = [53] from itoa_digit (n := 5) (by decide)]
  rfl
theorem fc11 (L : List (List Int)) : lineOf caps4 L (trimNl [115, 112, 108, 105, 116, 32, 55, 32, 49, 32, 49, 10]) = (.ok [52, 32, 51], L) := by
  refine (lineOf_go (h := [115, 112, 108, 105, 116]) (t := [[55], [49], [49]]) (n := 2) (m := true) (l := [7, 1, 1]) (by decide) (by decide) (nums_3 (a := 7) (b := 1) (c := 1) (by decide) (by decide) (by decide)) (by decide)).trans ?_
  rw [word_split]
  have h0 : splitErr ((nints [7, 1, 1]).headD 0) (nints [7, 1, 1]).tail = 0 := by decide +kernel
  have h1 : splitL ((nints [7, 1, 1]).headD 0) (nints [7, 1, 1]).tail = [4, 3] := by decide +kernel
  unfold splOf
  rw [if_pos h0, h1, List.map_cons, List.map_cons, List.map_nil, show Lib.itoa 4 = [52] from itoa_digit (n := 4) (by decide), show Lib.itoa 3 = [51] from itoa_digit (n := 3) (by decide)]
  rfl
/-- the fact's text, its answers -/
def factT : List UInt8 := [114, 97, 116, 101, 115, 10, 97, 100, 100, 32, 48, 32, 49, 10, 97, 100, 100, 32, 49, 32, 50, 10, 97, 100, 100, 32, 48, 10, 102, 108, 121, 10, 114, 97, 116, 101, 115, 10, 108, 101, 97, 115, 116, 10, 100, 114, 111, 112, 32, 49, 10, 114, 97, 116, 101, 115, 10, 105, 110, 100, 101, 120, 32, 51, 32, 49, 10, 115, 112, 108, 105, 116, 32, 55, 32, 49, 32, 49, 10]
def factA : List UInt8 := [45, 10, 111, 107, 10, 111, 107, 10, 111, 107, 10, 98, 97, 100, 10, 51, 32, 51, 32, 57, 10, 51, 10, 111, 107, 10, 54, 32, 54, 10, 52, 47, 53, 10, 52, 32, 51, 10]
theorem fact_lns : lns factT = [[114, 97, 116, 101, 115, 10], [97, 100, 100, 32, 48, 32, 49, 10], [97, 100, 100, 32, 49, 32, 50, 10], [97, 100, 100, 32, 48, 10], [102, 108, 121, 10], [114, 97, 116, 101, 115, 10], [108, 101, 97, 115, 116, 10], [100, 114, 111, 112, 32, 49, 10], [114, 97, 116, 101, 115, 10], [105, 110, 100, 101, 120, 32, 51, 32, 49, 10], [115, 112, 108, 105, 116, 32, 55, 32, 49, 32, 49, 10]] := by decide +kernel
theorem fact_out : sessOut caps4 [] (lns factT) = factA := by
  rw [fact_lns]
  have h4 := fc4 [[0, 1], [1, 2]] (by decide)
  rw [show [[0, 1], [1, 2]] ++ [[0]] = ([[0, 1], [1, 2], [0]] : List (List Int)) from rfl] at h4
  simp only [sessOut, fc1, fc2, fc3, h4, fc5, fc6, fc7, fc8, fc9, fc10, fc11, ansOf]
  rfl
/-! so many flows over one link -/
def alikeT (k : Nat) : List UInt8 := (List.replicate k [97, 100, 100, 32, 48, 10]).flatten ++ [108, 101, 97, 115, 116, 10]
def alikeQ (k : Nat) : Rat := 12 / (k : Rat)
def alikeW (k : Nat) : List UInt8 := fracW (lowT 12 k) (lowB 12 k)
def alikeA (k : Nat) : List UInt8 := (List.replicate k [111, 107, 10]).flatten ++ (alikeW k ++ [10])
theorem alike_lns {k : Nat} (_ : 1 ≤ k) (h6 : k ≤ 6) : lns (alikeT k) = List.replicate k [97, 100, 100, 32, 48, 10] ++ [[108, 101, 97, 115, 116, 10]] := by
  have : k = 1 ∨ k = 2 ∨ k = 3 ∨ k = 4 ∨ k = 5 ∨ k = 6 := by omega
  rcases this with rfl | rfl | rfl | rfl | rfl | rfl <;> decide +kernel
theorem add_many (k : Nat) (h6 : k ≤ 6) : sessL caps4 [] (List.replicate k [97, 100, 100, 32, 48, 10]) = List.replicate k [0] ∧ sessOut caps4 [] (List.replicate k [97, 100, 100, 32, 48, 10]) = (List.replicate k [111, 107, 10]).flatten := by
  induction k with
  | zero => exact ⟨rfl, rfl⟩
  | succ k ih =>
    obtain ⟨h1, h2⟩ := ih (by omega)
    have he : addE caps4 (List.replicate k [0]) false [0] = 0 := by
      have : k = 0 ∨ k = 1 ∨ k = 2 ∨ k = 3 ∨ k = 4 ∨ k = 5 := by omega
      rcases this with rfl | rfl | rfl | rfl | rfl | rfl <;> decide
    rw [List.replicate_succ', sessL_snoc, sessOut_snoc, h1, h2, fc4 _ he]
    refine ⟨by rw [← List.replicate_succ'], ?_⟩
    rw [List.replicate_succ', List.flatten_append]
    rfl
theorem alike_ends {k : Nat} (_ : 1 ≤ k) (h6 : k ≤ 6) : FillEnds caps4 (List.replicate k [0]) 1 (List.replicate k (alikeQ k)) := by
  have : k = 1 ∨ k = 2 ∨ k = 3 ∨ k = 4 ∨ k = 5 ∨ k = 6 := by omega
  rcases this with rfl | rfl | rfl | rfl | rfl | rfl <;> exact ends_dec (by decide +kernel) (by decide +kernel) (by decide +kernel)
theorem alike_least {k : Nat} (h1 : 1 ≤ k) (h6 : k ≤ 6) : leastOf caps4 (List.replicate k [0]) = alikeQ k := by
  have he := alike_ends h1 h6
  have hk : k = 1 ∨ k = 2 ∨ k = 3 ∨ k = 4 ∨ k = 5 ∨ k = 6 := by omega
  rw [leastOf, ratesOf_eq (by rcases hk with rfl | rfl | rfl | rfl | rfl | rfl <;> decide) (by intro e; have := congrArg List.length e; simp at this; omega) he]
  rcases hk with rfl | rfl | rfl | rfl | rfl | rfl <;> decide +kernel
theorem alike_frac {k : Nat} (h1 : 1 ≤ k) (h6 : k ≤ 6) : fracW (alikeQ k).num (alikeQ k).den = alikeW k := by
  have hk : k = 1 ∨ k = 2 ∨ k = 3 ∨ k = 4 ∨ k = 5 ∨ k = 6 := by omega
  unfold alikeW
  rcases hk with rfl | rfl | rfl | rfl | rfl | rfl <;> (congr 1 <;> decide +kernel)
theorem alike_out {k : Nat} (h1 : 1 ≤ k) (h6 : k ≤ 6) : sessOut caps4 [] (lns (alikeT k)) = alikeA k := by
  rw [alike_lns h1 h6, sessOut_snoc, (add_many k h6).1, (add_many k h6).2]
  have hl : lineOf caps4 (List.replicate k [0]) (trimNl [108, 101, 97, 115, 116, 10]) = (.ok (alikeW k), List.replicate k [0]) := by
    refine (lineOf_go (h := [108, 101, 97, 115, 116]) (t := []) (n := 0) (m := false) (l := []) (by decide) (by decide) rfl (by decide)).trans ?_
    rw [word_least (by intro e; have := congrArg List.length e; simp at this; omega) (alike_least h1 h6), alike_frac h1 h6]
  rw [hl]
  rfl
theorem alike_word {k : Nat} (h1 : 1 ≤ k) (h6 : k ≤ 6) : alikeW k = (if k = 1 then [49, 50] else if k = 2 then [54] else if k = 3 then [52] else if k = 4 then [51] else if k = 5 then [49, 50, 47, 53] else [50]) := by
  have hk : k = 1 ∨ k = 2 ∨ k = 3 ∨ k = 4 ∨ k = 5 ∨ k = 6 := by omega
  have e2 : Lib.itoa 2 = [50] := itoa_digit (n := 2) (by decide)
  have e3 : Lib.itoa 3 = [51] := itoa_digit (n := 3) (by decide)
  have e4 : Lib.itoa 4 = [52] := itoa_digit (n := 4) (by decide)
  have e5 : Lib.itoa 5 = [53] := itoa_digit (n := 5) (by decide)
  have e6 : Lib.itoa 6 = [54] := itoa_digit (n := 6) (by decide)
  rcases hk with rfl | rfl | rfl | rfl | rfl | rfl
  · rw [alikeW, show lowT 12 ((1 : Nat) : Int) = 12 by decide +kernel, show lowB 12 ((1 : Nat) : Int) = 1 by decide +kernel, fracW, if_pos rfl, itoa_12]; rfl
  · rw [alikeW, show lowT 12 ((2 : Nat) : Int) = 6 by decide +kernel, show lowB 12 ((2 : Nat) : Int) = 1 by decide +kernel, fracW, if_pos rfl, e6]; rfl
  · rw [alikeW, show lowT 12 ((3 : Nat) : Int) = 4 by decide +kernel, show lowB 12 ((3 : Nat) : Int) = 1 by decide +kernel, fracW, if_pos rfl, e4]; rfl
  · rw [alikeW, show lowT 12 ((4 : Nat) : Int) = 3 by decide +kernel, show lowB 12 ((4 : Nat) : Int) = 1 by decide +kernel, fracW, if_pos rfl, e3]; rfl
  · rw [alikeW, show lowT 12 ((5 : Nat) : Int) = 12 by decide +kernel, show lowB 12 ((5 : Nat) : Int) = 5 by decide +kernel, fracW, if_neg (by decide), itoa_12, e5]; rfl
  · rw [alikeW, show lowT 12 ((6 : Nat) : Int) = 2 by decide +kernel, show lowB 12 ((6 : Nat) : Int) = 1 by decide +kernel, fracW, if_pos rfl, e2]; rfl
/-- the answers, cut at each newline -/
theorem alike_cut {k : Nat} (h1 : 1 ≤ k) (h6 : k ≤ 6) : RN.cutAt 10 (alikeA k) = List.replicate k [111, 107] ++ [alikeW k, []] := by
  have hk : k = 1 ∨ k = 2 ∨ k = 3 ∨ k = 4 ∨ k = 5 ∨ k = 6 := by omega
  unfold alikeA
  rw [alike_word h1 h6]
  rcases hk with rfl | rfl | rfl | rfl | rfl | rfl <;> decide +kernel
/-- a link that is not there -/
theorem range_out : sessOut caps4 [] (lns [97, 100, 100, 32, 52, 10]) = [69, 114, 114, 82, 97, 110, 103, 101, 10] := by
  rw [show lns [97, 100, 100, 32, 52, 10] = [[97, 100, 100, 32, 52, 10]] by decide +kernel]
  have hl : lineOf caps4 [] (trimNl [97, 100, 100, 32, 52, 10]) = (.err 1, []) := by
    refine (lineOf_go (h := [97, 100, 100]) (t := [[52]]) (n := 1) (m := true) (l := [4]) (by decide) (by decide) (nums_1 (a := 4) (by decide)) (by decide)).trans ?_
    rw [word_addno (er := 1) (by decide) (by decide)]
  simp only [sessOut, hl, ansOf]
  rfl
/-! the answers to a beginning -/
theorem begins_app {a b : List UInt8} (h : a = [] ∨ a.getLast? = some 10) : ∃ r, sessOut caps4 [] (lns (a ++ b)) = sessOut caps4 [] (lns a) ++ r := by
  rw [lns_app a b h, sessOut_app]
  exact ⟨_, rfl⟩
end Go.Proofs.YtaijpiebjhhkjaaGreatDoor
/- run.Run as the laws call it: what it answers, as bytes. -/
namespace Go.Proofs.YtaijpiebjhhkjaaGreatDoor
open Go.RowKit
theorem run_is (b : ByteArray) (w : World) (hs : b.size ≤ 3000) (hl : LaidRun w) (out : List UInt8) (ho : sessOut caps4 [] (lns b.data.toList) = out) :
    Calls Tryz.prog 26 #[.string b] w fun e w' => e = .returned (.string ⟨out.toArray⟩) ∧ Below w.heap.size w w' := by
  refine (run_any b w hs hl).mono ?_
  rintro e w' ⟨sv, rfl, h, hb⟩
  refine ⟨?_, hb⟩
  rw [← ho, ← h]
theorem run_fact (b : ByteArray) (hb : b.data.toList = factT) (w : World) (hl : LaidRun w) :
    Calls Tryz.prog 26 #[.string b] w fun e w' => e = .returned (.string ⟨factA.toArray⟩) ∧ Below w.heap.size w w' :=
  run_is b w (by rw [← bytes_len, hb]; decide) hl factA (by rw [hb]; exact fact_out)
end Go.Proofs.YtaijpiebjhhkjaaGreatDoor
