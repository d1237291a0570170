/- The condition on the listed variables of run's laws: a world that meets it, what it gives; the wrap that keeps the world's shape. -/
import Derived.Test.YtaijpiebjhhkjaaGreatDoorRows
import Derived.Test.YtaijpiebjhhkjaaGreatDoorLibT
import Derived.LaidSub
import Derived.ChangeSame
import Derived.ChangeVars
import Derived.JoinedOf
import Derived.RowKit
import Derived.RowKitTokens
import Derived.LaidLaws
import Derived.LaidHandle
import Derived.Stop.Joined
import Derived.Stop.LaidErr
import Derived.HandedShaped
import Derived.Shelf.Vars
import Derived.Lib.LaidTab
namespace Go.Proofs.YtaijpiebjhhkjaaGreatDoor
open Go.ChangeShapes Go.WideShapes Go.RowKit
section
variable {H : Type} {enc : TypeId × Value → H}
theorem returns_and_shaped {a : Assume} {C : Checked} {os : Os} {f : FuncId} {fn : Func} {s : ChangeSpec} {conds : List PathCond} {apart fresh handsOn again : Bool} {X : World → Array Value → Prop}
    (hX : ∀ (w w' : World) (args : Array Value), w.heap = w'.heap → X w args → X w' args)
    (own : ownKnob C.prog.godebug = none) (started : os.Started) (noInit : C.prog.inits.idxOf? f = none) (hfn : C.prog.funcs[f]? = some fn)
    (witness : ∃ (w : World) (tape : Tape) (i : Input), w.os = os ∧ (w.forCall tape i).Shaped C.prog ∧ i.vars = [] ∧ Input.okWide C.prog (w.forCall tape i) .any w.heap.size f i ∧
      ((s.pre enc C.prog fn conds apart (w.forCall tape i).memory i.args ∧ X (w.forCall tape i).memory i.args) ∧ sizedMet enc C.prog fn (OpenSpec.ofChange s) apart (w.forCall tape i).memory i.args) ∧ a.holds C.prog (lone (Frame.enter C.prog f i.args .normal) [] (w.forCall tape i)))
    (contract : ∀ (W : World) (base : Nat) (args : Array Value) (ds gs : List (DataW H)) (before : List MemPlace),
      (∀ (j : Nat) t v, fn.params[j]? = some t → args[j]? = some v → Value.okWide C.prog W .any base t v) →
      DataW.Whole enc C.prog fn.params.toList s.vars apart W args.toList ds gs before →
      conds.all (PathCond.test C.prog ⟨fn.params.toList, ds, s.plain.varTypes C.prog, gs⟩) = true →
      (DataW.weightsEach C.prog (fn.params.toList ++ s.plain.varTypes C.prog) (ds ++ gs)).all (· ≤ reachBytes) = true → X W args → W.ShapedOpen C.prog →
      a.holds C.prog (lone (Frame.enter C.prog f args .normal) [] W) →
      Calls C.prog f args W fun e W' => ∃ v, e = .returned v ∧ s.post enc C.prog fn apart fresh handsOn again W args v W') :
    ReturnsInHanded a C os f .any (fun w args => (s.pre enc C.prog fn conds apart w args ∧ X w args) ∧ sizedMet enc C.prog fn (OpenSpec.ofChange s) apart w args) (s.post enc C.prog fn apart fresh handsOn again) := by
  refine returnsInHanded_of_calls own started noInit witness ?_
  intro w tape i _ hsh _ hok hpre hholds
  obtain ⟨_, _, _, fn', hfn', _, _, _, _, hval⟩ := hok
  have e : fn' = fn := Option.some.inj (hfn'.symm.trans hfn)
  subst e
  obtain ⟨⟨⟨ds, gs, before, hw, hc⟩, hx⟩, hz⟩ := hpre
  have hw' := DataW.Whole.of_heap (w' := w.forCall tape i) (by rfl) hw
  refine (contract (w.forCall tape i) w.heap.size i.args ds gs before hval hw' hc (hz.weights hw) (hX _ _ _ (by rfl) hx) hsh hholds).mono fun e W' ⟨v, he, hp⟩ => ?_
  subst he
  exact ChangeSpec.post_blind hp
end
def laidList : List (String × DataW Unit) := [("math/bits.deBruijn32tab", Rows.laid_math_bits_deBruijn32tab), ("math/bits.deBruijn64tab", Rows.laid_math_bits_deBruijn64tab), ("internal/strconv.uint64pow10", Rows.laid_internal_strconv_uint64pow10), ("unicode/utf8.acceptRanges", Rows.laid_unicode_utf8_acceptRanges), ("errors.errorType", Rows.laid_errors_errorType), ("strconv.ErrRange", Rows.laid_strconv_ErrRange), ("strconv.ErrSyntax", Rows.laid_strconv_ErrSyntax), ("fairsluice/run.links", Rows.laid_fairsluice_run_links), ("fairsluice/run.unread", Rows.laid_fairsluice_run_unread), ("unicode/utf8.first", Rows.laid_unicode_utf8_first)]
theorem Tryz.et : Tryz.prog.globalNamed "errors.errorType" = some 3 := by kernel_rfl
theorem Tryz.rt : (Tryz.prog.cutTypes.find? (·.1 == "internal/reflectlite.rtype")).map (·.2) = some 197 := by kernel_rfl
theorem Tryz.oneRow : ((List.range 290).filter fun t => Tryz.prog.rowNamed t [101, 114, 114, 111, 114]) = [26] := by kernel_rfl
theorem Tryz.size : Tryz.prog.types.size = 290 := by kernel_rfl
/-- what the condition gives a walk: the variable's one cell -/
theorem laid_handle {W : World} (hh : handlesMet Tryz.prog [("errors.errorType", Rows.laid_errors_errorType)] W) : Laid W := by
  obtain ⟨name, u, ty, e1, e2, e3, e4, e5⟩ := hh _ (List.mem_singleton.2 rfl)
  have en : name = [101, 114, 114, 111, 114] := (Option.some.inj e1).symm
  subst en
  obtain rfl := Option.some.inj (Tryz.rt.symm.trans e2)
  have hm : ty ∈ (List.range 290).filter fun t => Tryz.prog.rowNamed t [101, 114, 114, 111, 114] := List.mem_filter.2 ⟨List.mem_range.2 (by rw [← Tryz.size]; exact e3), e4⟩
  rw [Tryz.oneRow] at hm
  obtain rfl := List.mem_singleton.1 hm
  have hh : typeHandle Tryz.prog 26 = .pointer (some ⟨14, 26, none⟩) := by kernel_rfl
  rw [hh] at e5
  unfold Laid
  simpa using World.var?_cell Tryz.et e5 0
/-- one variable of the list, alone -/
theorem laid_one {W : World} {l : List (String × DataW Unit)} {n : String} {d : DataW Unit} (h : laidMet Tryz.prog l W) (hf : (l.filter fun x => x.1 == n) = [(n, d)]) : laidMet Tryz.prog [(n, d)] W := by
  have := h.filter fun x => x.1 == n
  rwa [hf] at this
/-- an interface's cell -/
theorem laid_iface {W : World} {n name : String} {d : DataW Unit} {g : Nat} {ti : TypeId} {ms : Array (String × TypeId)} (h : laidMet Tryz.prog [(n, .iface name d)] W) (hg : Tryz.prog.globalNamed n = some g) (ht : (Tryz.prog.globals[g]?).map (·.type) = some ti) (hi : Tryz.prog.underlying ti = some (.interface ms)) :
    ∃ u v, W.cell? ⟨g, 0, none⟩ = some (.iface u v) := by
  obtain ⟨ps, ⟨g0, t0, cs0, f0, p0, q0, hg0, ht0, hv0, hd0, _, e0⟩, _, hrows⟩ := h
  obtain rfl := Option.some.inj (hg.symm.trans hg0)
  obtain rfl := Option.some.inj (ht.symm.trans ht0)
  obtain ⟨_, u, v, hc, _, _⟩ := iface_of_trod hi hd0
  refine ⟨u, v, ?_⟩
  have := World.var?_cell hg0 hv0 0
  rw [this]
  have e : cs0 = #[.iface u v] := by cases cs0; simp at hc; rw [hc]
  rw [e]; rfl
set_option maxRecDepth 100000 in
/-- a named type has one row -/
theorem typeName_row {nm : String} {tp : TypeId} (hrows : ((List.range Tryz.prog.types.size).all fun u => Tryz.prog.typeName? 3 u != some nm || u == tp) = true) (hstar : nm.toList.head? ≠ ("*" : String).toList.head?) (hs0 : ("*" : String).toList ≠ []) (u : TypeId) (hu : Tryz.prog.typeName? 3 u = some nm) : u = tp := by
  by_cases hlt : u < Tryz.prog.types.size
  · have := List.all_eq_true.1 hrows u (List.mem_range.2 hlt)
    simpa [hu] using this
  · exfalso
    unfold Program.typeName? at hu
    cases hi : Tryz.prog.info? u with
    | none => simp [hi] at hu
    | some i =>
      have hb := Tables.info?_beyond hlt hi
      simp only [hi] at hu
      cases hd : i.desc <;> simp only [hd, TypeDesc.tableOnly] at hu hb <;> try cases hb
      all_goals try cases hu
      rename_i e
      simp only [Option.map_eq_some_iff] at hu
      obtain ⟨n', _, hs⟩ := hu
      refine hstar ?_
      rw [← hs, String.toList_append]
      cases hl : ("*" : String).toList with
      | nil => exact absurd hl hs0
      | cons c l => rfl
set_option maxRecDepth 100000 in
theorem laid_unread {W : World} (h : laidMet Tryz.prog [("fairsluice/run.unread", Rows.laid_fairsluice_run_unread)] W) : W.cell? ⟨4, 0, none⟩ = some (.iface 74 (.int .i64 2)) := by
  obtain ⟨ps, ⟨g0, t0, cs0, f0, p0, q0, hg0, ht0, hv0, hd0, _, e0⟩, _, hrows⟩ := h
  have hg : Tryz.prog.globalNamed "fairsluice/run.unread" = some 4 := by kernel_rfl
  have ht : (Tryz.prog.globals[4]?).map (·.type) = some 121 := by kernel_rfl
  obtain rfl := Option.some.inj (hg.symm.trans hg0)
  obtain rfl := Option.some.inj (ht.symm.trans ht0)
  have hsz : Tryz.prog.cellsOf 121 = 1 := by kernel_rfl
  have hse : Tryz.prog.cellsOf 26 = 1 := by kernel_rfl
  obtain ⟨y0, n, hx, hl, hy⟩ := trod_struct1 Tryz.underlying121 hd0
  rw [hsz] at hl
  obtain ⟨c, hc0⟩ : ∃ c, cs0.toList = [c] := by
    match cs0.toList, hl with
    | [c], _ => exact ⟨c, rfl⟩
  rw [hc0, hse] at hy
  have hy1 : y0.1 = .iface "fairsluice/api.Errno" (.lit (.int .i64 2)) := by
    have e : (Rows.laid_fairsluice_run_unread : DataW Unit) = .agg [.iface "fairsluice/api.Errno" (.lit (.int .i64 2))] := rfl
    rw [e] at hx
    simp only [Prod.mk.injEq, DataW.agg.injEq, List.cons.injEq, and_true] at hx
    exact hx.1.symm
  obtain ⟨d0, p1⟩ := y0
  subst hy1
  obtain ⟨f1, u, v, hcu, hn, h1⟩ := iface_of_trod Tryz.underlying26 hy
  simp only [List.drop_zero, List.take_succ_cons, List.take_zero, List.cons.injEq, and_true] at hcu
  subst hcu
  obtain rfl := typeName_row (nm := "fairsluice/api.Errno") (tp := 74) (by kernel_rfl) (by decide +kernel) (by decide +kernel) u hn
  obtain ⟨m, hv, hm, _⟩ := DataW.trod_int Tryz.underlying74 h1
  simp only [Prod.mk.injEq, DataW.lit.injEq, Lit.int.injEq, true_and] at hm
  obtain ⟨hm, _⟩ := hm
  subst hm
  have e : cs0 = #[.iface 74 v] := by cases cs0; simp at hc0; rw [hc0]
  have hcell : W.cell? ⟨4, 0, none⟩ = some (.iface 74 v) := by rw [World.var?_cell hg0 hv0 0, e]; rfl
  have ok := (hrows 4 0 (by subst e0; rw [e]; simp [MemPlace.row])).2 _ _ hcell
  have hv' : v = .int .i64 2 := by
    unfold Value.okWide at ok
    simp only [Tryz.underlying74] at ok
    unfold Cell.okWide at ok
    cases v <;> simp [Value.cells, Cell.ok, Tryz.underlying74] at ok hv
    obtain ⟨rfl, rfl⟩ := hv
    rfl
  rw [hcell, hv']
theorem pow_tab : (Rows.laid_internal_strconv_uint64pow10 : DataW Unit) = Lib.tabData .u64 Lib.pow10Tab := by kernel_rfl
theorem links_tab : (Rows.laid_fairsluice_run_links : DataW Unit) = Lib.tabData .i64 [12, 6, 4, 10] := by kernel_rfl
set_option maxRecDepth 100000 in
theorem laid_of {W : World} (h : laidMetH Tryz.prog laidList W) (hsh : W.ShapedOpen Tryz.prog) : LaidRun W := by
  have h' : laidMet Tryz.prog (laidList.filter fun x => x.2.handleName?.isNone) W ∧ handlesMet Tryz.prog [("errors.errorType", Rows.laid_errors_errorType)] W := h
  have h2 := laid_one (n := "internal/strconv.uint64pow10") (d := Rows.laid_internal_strconv_uint64pow10) h'.1 rfl
  have h3 := laid_one (n := "fairsluice/run.links") (d := Rows.laid_fairsluice_run_links) h'.1 rfl
  have h4 := laid_one (n := "fairsluice/run.unread") (d := Rows.laid_fairsluice_run_unread) h'.1 rfl
  have h5 := laid_one (n := "strconv.ErrSyntax") (d := Rows.laid_strconv_ErrSyntax) h'.1 rfl
  have h6 := laid_one (n := "strconv.ErrRange") (d := Rows.laid_strconv_ErrRange) h'.1 rfl
  rw [pow_tab] at h2
  rw [links_tab] at h3
  have ht : Lib.TabIs Tryz.prog W "internal/strconv.uint64pow10" .u64 Lib.pow10Tab := Lib.tabIs_of_head (g := 8) (t := 243) (e := 216) (n := 20) (by kernel_rfl) (by kernel_rfl) (by kernel_rfl) (by kernel_rfl) (by kernel_rfl) (by kernel_rfl) h2
  have hl : Lib.TabIs Tryz.prog W "fairsluice/run.links" .i64 [12, 6, 4, 10] := Lib.tabIs_of_head (g := 0) (t := 90) (e := 3) (n := 4) (by kernel_rfl) (by kernel_rfl) (by kernel_rfl) (by kernel_rfl) (by kernel_rfl) (by kernel_rfl) h3
  obtain ⟨u5, v5, h5⟩ := laid_iface (g := 6) (ti := 26) h5 (by kernel_rfl) (by kernel_rfl) Tryz.underlying26
  obtain ⟨u6, v6, h6⟩ := laid_iface (g := 7) (ti := 26) h6 (by kernel_rfl) (by kernel_rfl) Tryz.underlying26
  obtain ⟨m, hm⟩ := Go.Proofs.cell_of_shapedOpen_int (g := 1) (t := 3) (k := .i64) (zero := #[.int .i64 0]) hsh (of_decide_eq_true (by kernel_rfl)) (by kernel_rfl) rfl (by kernel_rfl) (by kernel_rfl) Tryz.underlying3
  refine ⟨laid_handle h'.2, ht, ⟨u5, v5, h5⟩, ⟨u6, v6, h6⟩, ⟨m, hm⟩, fun k v hk => ?_, laid_unread h4, ?_⟩
  · have hkl := (List.getElem?_eq_some_iff.1 hk).1
    have := hl.cell (g := 0) (by kernel_rfl) k hkl
    rw [this, List.getD_eq_getElem?_getD, hk]; rfl
  · obtain ⟨cs, hh, _⟩ := hsh.1 13 #[.pointer none] 189 (of_decide_eq_true (by kernel_rfl)) (by kernel_rfl)
    exact (Array.getElem?_eq_some_iff.1 hh).1
/-- a table's cells -/
noncomputable def tabCells : DataW Unit → Array Value
  | .agg l => (l.map fun x => match x with | .lit (.int k n) => Value.int k n | _ => .nilIface).toArray
  | _ => #[]
noncomputable def tabCells2 : DataW Unit → Array Value
  | .agg l => (l.map fun x => (tabCells x).toList).flatten.toArray
  | _ => #[]
def putCells (cs : Array Value) : Obj → Obj
  | .cells _ t frozen => .cells cs t frozen
  | o => o
abbrev laidRng : ByteArray := ⟨#[118, 97, 108, 117, 101, 32, 111, 117, 116, 32, 111, 102, 32, 114, 97, 110, 103, 101]⟩
abbrev laidSyn : ByteArray := ⟨#[105, 110, 118, 97, 108, 105, 100, 32, 115, 121, 110, 116, 97, 120]⟩
noncomputable def laidLow : Nat := (World.holding Tryz.prog default ⟨#[], #[], []⟩).heap.size
noncomputable def laidWorld (os : Os) : World :=
  let w0 := World.holding Tryz.prog os ⟨#[.cells #[.string laidSyn] 251, .cells #[.string laidRng] 251], #[], []⟩
  { w0 with heap := (((((((((w0.heap.modify 3 (putCells #[.iface 197 (.agg #[.pointer (some ⟨14, 26, none⟩)])])).modify 9 (putCells (tabCells Rows.laid_math_bits_deBruijn32tab))).modify 10 (putCells (tabCells Rows.laid_math_bits_deBruijn64tab))).modify 8 (putCells (tabCells Rows.laid_internal_strconv_uint64pow10))).modify 12 (putCells (tabCells2 Rows.laid_unicode_utf8_acceptRanges))).modify 6 (putCells #[.iface 249 (.pointer (some ⟨laidLow, 0, none⟩))])).modify 7 (putCells #[.iface 249 (.pointer (some ⟨laidLow + 1, 0, none⟩))])).modify 0 (putCells (tabCells Rows.laid_fairsluice_run_links))).modify 4 (putCells #[.iface 74 (.int .i64 2)])).modify 11 (putCells (tabCells Rows.laid_unicode_utf8_first)) }
set_option maxRecDepth 100000 in
theorem laidWorld_met (os : Os) (args : Array Value) : laidMetH Tryz.prog laidList ((laidWorld os).forCall (fun _ _ => 0) ⟨#[], args, []⟩).memory :=
  laidMetH_of_parts (laidMet_of_run' 12 (by kernel_rfl) (by kernel_rfl)) (by kernel_rfl)
end Go.Proofs.YtaijpiebjhhkjaaGreatDoor
