/- What the row lists: the table of powers; a world that holds what the row lists. -/
import Derived.Test.YtooockbfagkknaaGreatDoorRows
import Derived.Test.YtooockbfagkknaaGreatDoorItoa
import Derived.Stop.LaidErr
import Derived.Deep.DeepHandedRow
namespace Go.Proofs.YtooockbfagkknaaGreatDoor.syn
open Go.RowKit
theorem gTabType : (Tryz.prog.globals[0]?).map (·.type) = some 141 := by kernel_rfl
theorem cellsTab : Tryz.prog.cellsOf 141 = 20 := by kernel_rfl
theorem cellsU64 : Tryz.prog.cellsOf 124 = 1 := by kernel_rfl
/-- What the row's list gives. -/
theorem tab_of {W : World} (h : laidMetH Tryz.prog Rows.syntaxParsesRow.laid W) : Tab W := by
  have h1 : laidMet Tryz.prog [("math/bits.deBruijn32tab", Rows.laid_math_bits_deBruijn32tab), ("math/bits.deBruijn64tab", Rows.laid_math_bits_deBruijn64tab), ("internal/strconv.uint64pow10", Rows.laid_internal_strconv_uint64pow10)] W := h
  exact Lib.tabIs_of_head (rest := []) gTab gTabType Tryz.underlying141 Tryz.underlying124 cellsU64 cellsTab h1.tail.tail
def litsOf (d : DataW Unit) : Array Value := match d with
  | .agg l => (l.map fun x => match x with
    | .lit (.int k z) => Value.int k z
    | _ => .bool false).toArray
  | _ => #[]
def putTab (h : Array Obj) (g : Nat) (d : DataW Unit) : Array Obj := h.modify g fun
  | .cells _ t frozen => .cells (litsOf d) t frozen
  | o => o
/-- A world that holds what the row lists. -/
noncomputable def laidWorld (os : Os) : World :=
  { World.holding Tryz.prog os ⟨#[], #[], []⟩ with heap := putTab (putTab (putTab (World.holding Tryz.prog os ⟨#[], #[], []⟩).heap 1 Rows.laid_math_bits_deBruijn32tab) 2 Rows.laid_math_bits_deBruijn64tab) 0 Rows.laid_internal_strconv_uint64pow10 }
end Go.Proofs.YtooockbfagkknaaGreatDoor.syn
