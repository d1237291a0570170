/- A log in memory; its small functions. -/
import Derived.Test.YtaijpiebjhhkjaaGreatDoorLibM
import Derived.Test.YtaijpiebjhhkjaaGreatDoorPlLog
namespace Go.Proofs.YtaijpiebjhhkjaaGreatDoor
open Go.RowKit
attribute [local go_sem ↓] run_min_mn run_max_mx
/-- what is neither block g nor block p stays -/
structure Stay (g : Nat) (p : Option Nat) (w w' : World) : Prop where
  size : w.heap.size ≤ w'.heap.size
  block : ∀ i, i < w.heap.size → i ≠ g → p ≠ some i → w'.heap[i]? = w.heap[i]?
section
variable {g : Nat} {p p' : Option Nat} {w w' w'' : World}
theorem Stay.refl (g : Nat) (p : Option Nat) (w : World) : Stay g p w w := ⟨Nat.le_refl _, fun _ _ _ _ => rfl⟩
theorem Stay.trans (h : Stay g p w w') (h' : Stay g p' w' w'') (hp : ∀ i, p' = some i → p = some i ∨ w.heap.size ≤ i) : Stay g p w w'' :=
  ⟨Nat.le_trans h.size h'.size, fun i hi h1 h2 => (h'.block i (Nat.lt_of_lt_of_le hi h.size) h1 (fun e => by rcases hp i e with e | e; exact h2 e; omega)).trans (h.block i hi h1 h2)⟩
theorem Stay.trans' (h : Stay g p w w') (h' : Stay g p w' w'') : Stay g p w w'' := h.trans h' fun _ e => .inl e
theorem Stay.of_below (g : Nat) (p : Option Nat) (h : Below w.heap.size w w') : Stay g p w w' := ⟨h.size, fun i hi _ _ => h.block i hi⟩
theorem Stay.below (h : Stay g p w w') (h' : Below w'.heap.size w' w'') : Stay g p w w'' := h.trans' (Stay.of_below g p h')
theorem Stay.set (h : Stay g p w w') (k : Nat) (u : Value) : Stay g p w (w'.setCell ⟨g, k, none⟩ u) :=
  ⟨by have := h.size; simpa [World.setCell] using this, fun i hi h1 h2 => (Below.heap_setCell w' ⟨g, k, none⟩ u i (fun e => h1 e)).trans (h.block i hi h1 h2)⟩
theorem Stay.grown (h : Stay g p w w') (hg : w'.grownBy w'' p) : Stay g p w w'' :=
  ⟨Nat.le_trans h.size hg.size, fun i hi h1 h2 => (hg.block i (Nat.lt_of_lt_of_le hi h.size) (fun e => h2 e.symm)).trans (h.block i hi h1 h2)⟩
theorem Blk.stay {i : Nat} {t : TypeId} {cs : Array Value} (h : Blk w i t cs) (hs : Stay g p w w') (h1 : i ≠ g) (h2 : p ≠ some i) : Blk w' i t cs := (hs.block i h.lt h1 h2).trans h
theorem Ints.stay {B : Nat} {A : Option Addr} {c : Nat} {l : List Int} (h : Ints w B A c l) (hB : B ≤ w.heap.size) (hs : Stay g p w w') (hA : ∀ b off, A = some ⟨b, off, none⟩ → b ≠ g ∧ p ≠ some b) : Ints w' B A c l :=
  ⟨⟨h.rd.1, fun hn => by
    obtain ⟨b, off, e, hb, hc⟩ := h.rd.2 hn
    obtain ⟨h1, h2⟩ := hA b off e
    exact ⟨b, off, e, hb, fun j u hu => (World.cell?_of_block (w := w) (a := ⟨b, off + j, none⟩) (hs.block b (Nat.lt_of_lt_of_le hb hB) h1 h2)).trans (hc j u hu)⟩⟩, h.le, h.cap⟩
end
structure LogAt (w : World) (base g : Nat) (cv pv : Value) (vs : List Value) (caps : List Int) (L : List (List Int)) (bs : ByteArray) (safe left : Int) (st : Bool) : Prop where
  blk : Blk w g 73 #[cv, pv, .string bs, .int .i64 safe, .int .i64 left, .bool st]
  net : NetOwn w base cv pv vs caps L
  lo : base ≤ g
section
variable {w w' : World} {base g : Nat} {cv pv : Value} {vs : List Value} {caps : List Int} {L : List (List Int)} {bs : ByteArray} {safe left : Int} {st : Bool}
theorem LogAt.below (h : LogAt w base g cv pv vs caps L bs safe left st) (hb : Below w.heap.size w w') : LogAt w' base g cv pv vs caps L bs safe left st :=
  ⟨h.blk.below hb h.blk.lt, h.net.below hb, h.lo⟩
theorem LogAt.cells (h : LogAt w base g cv pv vs caps L bs safe left st) : w.cell? ⟨g, 0, none⟩ = some cv ∧ w.cell? ⟨g, 1, none⟩ = some pv ∧ w.cell? ⟨g, 2, none⟩ = some (.string bs) ∧ w.cell? ⟨g, 3, none⟩ = some (.int .i64 safe) ∧ w.cell? ⟨g, 4, none⟩ = some (.int .i64 left) ∧ w.cell? ⟨g, 5, none⟩ = some (.bool st) ∧
    w.frozen? ⟨g, 0, none⟩ = false ∧ w.frozen? ⟨g, 1, none⟩ = false ∧ w.frozen? ⟨g, 2, none⟩ = false ∧ w.frozen? ⟨g, 3, none⟩ = false ∧ w.frozen? ⟨g, 4, none⟩ = false ∧ w.frozen? ⟨g, 5, none⟩ = false ∧ g < w.heap.size :=
  ⟨h.blk.cell 0, h.blk.cell 1, h.blk.cell 2, h.blk.cell 3, h.blk.cell 4, h.blk.cell 5, h.blk.frozen 0, h.blk.frozen 1, h.blk.frozen 2, h.blk.frozen 3, h.blk.frozen 4, h.blk.frozen 5, h.blk.lt⟩
theorem LogAt.s2 (h : LogAt w base g cv pv vs caps L bs safe left st) (b : ByteArray) : LogAt (w.setCell ⟨g, 2, none⟩ (.string b)) base g cv pv vs caps L b safe left st := ⟨h.blk.set_ 2 _, h.net.far h.blk (by decide) (by decide) 2 _, h.lo⟩
theorem LogAt.s3 (h : LogAt w base g cv pv vs caps L bs safe left st) (x : Int) : LogAt (w.setCell ⟨g, 3, none⟩ (.int .i64 x)) base g cv pv vs caps L bs x left st := ⟨h.blk.set_ 3 _, h.net.far h.blk (by decide) (by decide) 3 _, h.lo⟩
theorem LogAt.s4 (h : LogAt w base g cv pv vs caps L bs safe left st) (x : Int) : LogAt (w.setCell ⟨g, 4, none⟩ (.int .i64 x)) base g cv pv vs caps L bs safe x st := ⟨h.blk.set_ 4 _, h.net.far h.blk (by decide) (by decide) 4 _, h.lo⟩
theorem LogAt.s5 (h : LogAt w base g cv pv vs caps L bs safe left st) (x : Bool) : LogAt (w.setCell ⟨g, 5, none⟩ (.bool x)) base g cv pv vs caps L bs safe left x := ⟨h.blk.set_ 5 _, h.net.far h.blk (by decide) (by decide) 5 _, h.lo⟩
end
set_option maxHeartbeats 2000000 in
/-- a step: does it stop? -/
theorem step_log (w : World) (base g : Nat) (cv pv : Value) (vs : List Value) (caps : List Int) (L : List (List Int)) (bs : ByteArray) (safe left : Int) (st : Bool) (h : LogAt w base g cv pv vs caps L bs safe left st) (h1 : -1 ≤ left) (h2 : left ≤ 9223372036854775807) (_ : base ≤ w.heap.size) (sb : Bool) (hs : decide (left = 0) = sb) (nl : Int) (hn : max (-1) (left - 1) = nl) :
    Calls Tryz.prog 40 #[.pointer (some ⟨g, 0, none⟩)] w fun e w' => e = .returned (.bool sb) ∧ LogAt w' base g cv pv vs caps L bs safe nl sb ∧ Below base w w' ∧ ∀ p, Stay g p w w' := by
  obtain ⟨c0, c1, c2, c3, c4, c5, f0, f1, f2, f3, f4, f5, z⟩ := h.cells
  have hlo := h.lo
  have H := Lib.hid h
  have hsb : (left == 0) = sb := by rw [← hs]; rfl
  have HSB := Lib.hid hsb; have HN := Lib.hid hn
  clear h c0 c1 c2 c3 f0 f1 f2 f3 hs hn hsb
  go_enter Tryz.func40, Tryz.ntmps40
  go_wp2
  rw [HSB.out, HN.out]
  go_ret
  exact ⟨rfl, (H.out.s5 sb).s4 nl, ((Below.refl base w).setCell (p := ⟨g, 5, none⟩) hlo _).setCell (p := ⟨g, 4, none⟩) hlo _, fun p => ((Stay.refl g p w).set 5 _).set 4 _⟩
theorem netOwn_new {w : World} {base : Nat} {cv : Value} {caps : List Int} (h : w.ownsRow base 3 1 cv caps.length (caps.map (Value.int .i64))) : NetOwn w base cv (.slice none 0 0) [] caps [] :=
  ⟨h, World.ownsRow_nil _ _ _ _, fun i u l h1 _ => by simp at h1, fun i u h1 => by simp at h1, fun i j u u' h1 _ _ => by simp at h1⟩
set_option maxHeartbeats 2000000 in
theorem log_no (A : Option Addr) (c : Nat) (l : List Int) (B : Nat) (w : World) (h : Ints w B A c l) (er : Int) (he : linksErr l = er) (h0 : er ≠ 0) :
    Calls Tryz.prog 8 #[.slice A l.length c] w fun e w' => e = .returned (.tuple #[.pointer none, .iface 74 (.int .i64 er)]) ∧ Below w.heap.size w w' := by
  have hl := links_all A c l B w h
  rw [he, errVal_pos h0] at hl
  have HL := Lib.hid hl
  clear hl h he h0
  go_enter Tryz.func8, Tryz.ntmps8
  go_wp2_with fail
  refine HL.out.mono ?_; rintro e w' ⟨rfl, rfl⟩
  go_wp2
  go_ret2
  exact ⟨rfl, Below.refl _ _⟩
set_option maxHeartbeats 2000000 in
theorem log_yes (A : Option Addr) (c : Nat) (l : List Int) (B : Nat) (w : World) (h : Ints w B A c l) (hB : B ≤ w.heap.size) (he : linksErr l = 0) :
    Calls Tryz.prog 8 #[.slice A l.length c] w fun e w' => ∃ g cv, e = .returned (.tuple #[.pointer (some ⟨g, 0, none⟩), .nilIface]) ∧ LogAt w' w.heap.size g cv (.slice none 0 0) [] l [] ByteArray.empty 0 (-1) false ∧ Below w.heap.size w w' := by
  have hl := links_all A c l B w h
  rw [he, errVal_zero] at hl
  have HL := Lib.hid hl
  have H := Lib.hid h
  have h6 : l.length ≤ 6 := by
    unfold linksErr at he
    split at he
    · omega
    · split at he
      · omega
      · omega
  clear hl h he
  go_enter Tryz.func8, Tryz.ntmps8
  go_wp2_with fail
  refine HL.out.mono ?_; rintro e w' ⟨rfl, rfl⟩
  go_wp2_with fail
  refine (clone_any A c l B _ H.out (by omega) hB).mono ?_; rintro e w1 ⟨v, rfl, ho, hb⟩
  obtain ⟨C, cc, rfl, _, _⟩ := owns_ints ho
  have HO := Lib.hid ho
  have HB := Lib.hid hb
  clear ho hb
  go_wp2
  go_ret2
  exact ⟨w1.heap.size, .slice C l.length cc, rfl, ⟨Blk.new _ _ _, netOwn_new (own_below HO.out ((Below.refl _ _).alloc (Nat.le_refl _) _)), HB.out.size⟩, HB.out.alloc HB.out.size _⟩
set_option maxHeartbeats 4000000 in
/-- one path more -/
theorem do_add (w : World) (base g n cp : Nat) (t : TypeId) (cs : Array Value) (P : Option Addr) (vs : List Value) (U : Option Addr) (m cu : Nat) (hg : Blk w g t cs) (hc : cs[1]? = some (.slice P n cp)) (ht : 22 ≠ t) (hown : w.ownsRow base 22 1 (.slice P n cp) n vs) (hn : n ≤ 1000) (hb : base ≤ w.heap.size) :
    Calls Tryz.prog 74 #[.pointer (some ⟨g, 0, none⟩), .string ⟨#[43]⟩, .slice U m cu] w fun e w' => e = .returned (.tuple #[]) ∧ ∃ P' cp' w1, w1.ownsRow base 22 1 (.slice P' (n + 1) cp') (n + 1) (vs ++ [.slice U m cu]) ∧ w.grownBy w1 (Value.slice P n cp).ownBlock ∧ Blk w1 g t cs ∧ w' = w1.setCell ⟨g, 1, none⟩ (.slice P' (n + 1) cp') ∧ ((Value.slice P' (n + 1) cp').ownBlock = (Value.slice P n cp).ownBlock ∨ (Value.slice P' (n + 1) cp').ownBlock = some (w.heap.size + 1)) := by
  have c1 : w.cell? ⟨g, 1, none⟩ = some (.slice P n cp) := (hg.cell 1).trans hc
  have z := hg.lt
  have HG := Lib.hid hg; have HO := Lib.hid hown
  have hone : ∀ u ∈ #[Value.slice U m cu].toList, u.oneCell' = true := by simp [Value.oneCell']
  have HC := Lib.hid hc
  clear hg hown hc
  go_enter Tryz.func74, Tryz.ntmps74
  go_wp2_with (at_builtin; refine wpList_push2 w #[.slice U m cu] rfl (.tmp 12) (.tmp 14) 23 rfl base 22 (.slice none 0 0) 1 24 Tryz.underlying23 Tryz.info_row rfl (by omega) (.slice P n cp) n vs rfl HO.out rfl rfl hone (by omega) (by decide) hb ?_; intro v' w1 ho hgr hnb; obtain ⟨g2, cp2, hv, _, _, _, _⟩ := own_form ho (by omega); subst hv; have HNB := Lib.hid hnb; clear hnb; have HO1 := Lib.hid ho; have HG1 := Lib.hid (HG.out.grown hgr (fun e => own_blk_ne HO.out HG.out ht e.symm)); have HGR := Lib.hid hgr; clear ho hgr c1; have c1 := (HG1.out.cell 1).trans HC.out; have z1 := HG1.out.lt; have f1 := HG1.out.frozen 1)
  refine bodyPost_ret (results_none rfl _ _ _) rfl ?_
  exact ⟨rfl, _, _, w1, HO1.out, HGR.out, HG1.out, rfl, HNB.out⟩
end Go.Proofs.YtaijpiebjhhkjaaGreatDoor
