/- The condition on the listed variable: a world that meets it, and what it gives. -/
import Derived.Test.YtaijpiebjhhkjaaGreatDoorRows
import Derived.Test.YtaijpiebjhhkjaaGreatDoorLogLaidS
import Derived.LaidSub
import Derived.ChangeSame
import Derived.ChangeVars
import Derived.JoinedOf
import Derived.RowKit
import Derived.RowKitTokens
import Derived.LaidLaws
import Derived.LaidHandle
import Derived.Stop.Joined
namespace Go.Proofs.YtaijpiebjhhkjaaGreatDoor
open Go.ChangeShapes Go.WideShapes Go.RowKit
def laidList : List (String × DataW Unit) := [("math/bits.deBruijn32tab", Rows.laid_math_bits_deBruijn32tab), ("math/bits.deBruijn64tab", Rows.laid_math_bits_deBruijn64tab), ("internal/strconv.uint64pow10", Rows.laid_internal_strconv_uint64pow10), ("errors.errorType", Rows.laid_errors_errorType), ("strconv.ErrRange", Rows.laid_strconv_ErrRange), ("strconv.ErrSyntax", Rows.laid_strconv_ErrSyntax), ("unicode.White_Space", Rows.laid_unicode_White_Space), ("strings.asciiSpace", Rows.laid_strings_asciiSpace)]
theorem Tryz.et : Tryz.prog.globalNamed "errors.errorType" = some 3 := by kernel_rfl
theorem Tryz.rt : (Tryz.prog.cutTypes.find? (·.1 == "internal/reflectlite.rtype")).map (·.2) = some 197 := by kernel_rfl
theorem Tryz.oneRow : ((List.range 290).filter fun t => Tryz.prog.rowNamed t [101, 114, 114, 111, 114]) = [26] := by kernel_rfl
theorem Tryz.size : Tryz.prog.types.size = 290 := by kernel_rfl
/-- what the condition gives a walk: the variable's one cell -/
theorem laid_handle {W : World} (hh : handlesMet Tryz.prog [("errors.errorType", Rows.laid_errors_errorType)] W) : Laid W := by
  obtain ⟨name, u, ty, e1, e2, e3, e4, e5⟩ := hh _ (List.mem_singleton.2 rfl)
  have en : name = [101, 114, 114, 111, 114] := (Option.some.inj e1).symm
  subst en
  obtain rfl := Option.some.inj (Tryz.rt.symm.trans e2)
  have hm : ty ∈ (List.range 290).filter fun t => Tryz.prog.rowNamed t [101, 114, 114, 111, 114] := List.mem_filter.2 ⟨List.mem_range.2 (by rw [← Tryz.size]; exact e3), e4⟩
  rw [Tryz.oneRow] at hm
  obtain rfl := List.mem_singleton.1 hm
  have hh : typeHandle Tryz.prog 26 = .pointer (some ⟨14, 26, none⟩) := by kernel_rfl
  rw [hh] at e5
  unfold Laid
  simpa using World.var?_cell Tryz.et e5 0
theorem ascii_tab : (Rows.laid_strings_asciiSpace : DataW Unit) = Lib.tabData .u8 Lib.asciiSpaceTab := by kernel_rfl
theorem laid_of {W : World} (h : laidMetH Tryz.prog laidList W) : LaidLog W := by
  have h' : laidMet Tryz.prog (laidList.filter fun x => x.2.handleName?.isNone) W ∧ handlesMet Tryz.prog [("errors.errorType", Rows.laid_errors_errorType)] W := h
  have h2 : laidMet Tryz.prog [("strings.asciiSpace", Rows.laid_strings_asciiSpace)] W := h'.1.filter fun x => x.1 == "strings.asciiSpace"
  rw [ascii_tab] at h2
  have ht : Lib.TabIs Tryz.prog W "strings.asciiSpace" .u8 Lib.asciiSpaceTab := Lib.tabIs_of_head (g := 2) (t := 143) (e := 5) (n := 256) (by kernel_rfl) (by kernel_rfl) (by kernel_rfl) (by kernel_rfl) (by kernel_rfl) (by kernel_rfl) h2
  refine ⟨laid_handle h'.2, ht, ?_⟩
  have hc := ht.cell (g := 2) (by kernel_rfl) 0 (by rw [Lib.asciiSpaceTab_length]; decide)
  rcases Nat.lt_or_ge 2 W.heap.size with h | h
  · exact h
  · simp [World.cell?, h] at hc
/-- a table's cells -/
noncomputable def tabCells : DataW Unit → Array Value
  | .agg l => (l.map fun x => match x with | .lit (.int k n) => Value.int k n | _ => .nilIface).toArray
  | _ => #[]
def putCells (cs : Array Value) : Obj → Obj
  | .cells _ t frozen => .cells cs t frozen
  | o => o
abbrev laidRng : ByteArray := ⟨#[118, 97, 108, 117, 101, 32, 111, 117, 116, 32, 111, 102, 32, 114, 97, 110, 103, 101]⟩
abbrev laidSyn : ByteArray := ⟨#[105, 110, 118, 97, 108, 105, 100, 32, 115, 121, 110, 116, 97, 120]⟩
noncomputable def laidLow : Nat := (World.holding Tryz.prog default ⟨#[], #[], []⟩).heap.size
noncomputable def laidWorld (os : Os) : World :=
  let w0 := World.holding Tryz.prog os ⟨#[.cells #[.string laidSyn] 251, .cells #[.string laidRng] 251, .cells #[.slice (some ⟨laidLow + 3, 0, none⟩) 7 7, .slice none 0 0, .int .i64 2] 224, .cells #[.int .u16 9, .int .u16 13, .int .u16 1, .int .u16 32, .int .u16 133, .int .u16 101, .int .u16 160, .int .u16 5760, .int .u16 5600, .int .u16 8192, .int .u16 8202, .int .u16 1, .int .u16 8232, .int .u16 8233, .int .u16 1, .int .u16 8239, .int .u16 8287, .int .u16 48, .int .u16 12288, .int .u16 12288, .int .u16 1] 227], #[], []⟩
  { w0 with heap := (((((((w0.heap.modify 3 (putCells #[.iface 197 (.agg #[.pointer (some ⟨14, 26, none⟩)])])).modify 9 (putCells (tabCells Rows.laid_math_bits_deBruijn32tab))).modify 10 (putCells (tabCells Rows.laid_math_bits_deBruijn64tab))).modify 8 (putCells (tabCells Rows.laid_internal_strconv_uint64pow10))).modify 2 (putCells (tabCells Rows.laid_strings_asciiSpace))).modify 6 (putCells #[.iface 249 (.pointer (some ⟨laidLow, 0, none⟩))])).modify 7 (putCells #[.iface 249 (.pointer (some ⟨laidLow + 1, 0, none⟩))])).modify 5 (putCells #[.pointer (some ⟨laidLow + 2, 0, none⟩)]) }
set_option maxRecDepth 100000 in
theorem laidWorld_met (os : Os) (args : Array Value) : laidMetH Tryz.prog laidList ((laidWorld os).forCall (fun _ _ => 0) ⟨#[], args, []⟩).memory :=
  laidMetH_of_parts (laidMet_of_run' 12 (by kernel_rfl) (by kernel_rfl)) (by kernel_rfl)
end Go.Proofs.YtaijpiebjhhkjaaGreatDoor
