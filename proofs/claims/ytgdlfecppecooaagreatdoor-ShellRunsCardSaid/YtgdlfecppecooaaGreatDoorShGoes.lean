/- ShellRuns: it starts nothing. -/
import Derived.Test.YtgdlfecppecooaaGreatDoorCards
import Derived.Test.YtgdlfecppecooaaGreatDoorTie
import Derived.SevenTiedAt
import Derived.KernelRfl
set_option linter.all false
namespace Go.Proofs.YtgdlfecppecooaaGreatDoor.shellRuns
open Go
set_option maxRecDepth 100000
theorem goes_none {P : Program} (h : (P.funcs.toList.all fun fn => !fn.goes) = true) (c : OpenClaim) (hs : c.start = .entering) : c.goesBy P = false := by
  have hf : ∀ fn ∈ P.funcs.toList, fn.goes = false := fun fn hm => by
    have := List.all_eq_true.1 h fn hm
    simpa using this
  have hg : ∀ f, P.goes f = false := fun f => by
    unfold Program.goes
    rw [Bool.or_eq_false_iff]
    constructor
    · rw [List.any_eq_false]
      intro g _
      cases hq : P.funcs[g]? with
      | none => simp
      | some fn =>
        have hm : fn ∈ P.funcs.toList := List.mem_of_getElem? (i := g) (by rw [Array.getElem?_toList]; exact hq)
        simp [hf fn hm]
    · have : P.funcs.any Func.goes = false := by
        rw [← Array.any_toList, List.any_eq_false]
        intro fn hm
        simp [hf fn hm]
      rw [this, Bool.and_false]
  unfold OpenClaim.goesBy Program.goesAt Program.goesFrom
  rw [hs]
  cases P.funcNamed c.func with
  | none => rfl
  | some f => simp [hg f]
theorem nogo : (Tryz.prog.funcs.toList.all fun fn => !fn.goes) = true := by kernel_rfl
theorem goes : false = Rows.shellRunsRow.goesBy Tryz.pinned.checked.prog := (goes_none nogo Rows.shellRunsRow rfl).symm
end Go.Proofs.YtgdlfecppecooaaGreatDoor.shellRuns
