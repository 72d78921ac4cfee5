/- ShellRuns: closed facts of its card. -/
import Derived.Test.YtgdlfecppecooaaGreatDoorCards
import Derived.Test.YtgdlfecppecooaaGreatDoorTie
import Derived.SevenTiedAt
import Derived.KernelRfl
set_option linter.all false
namespace Go.Proofs.YtgdlfecppecooaaGreatDoor.shellRuns
open Go
set_option maxRecDepth 100000
theorem looks : true = Tryz.pinned.checked.prog.looks [] := by kernel_rfl
theorem main : Tryz.pinned.checked.prog.mainIs = some (true, "035401f3834ad377ded2bb95192fb090961a83f929b99ffe61a68852b3161355".toList) := by kernel_rfl
theorem wf : Rows.shellRunsRow.wfByText (OpenSpec.ofChange Rows.shellRunsSpec) = true := by kernel_rfl
theorem inst : Tryz.f3.isInstance Tryz.pinned.checked.prog Rows.shellRunsRow.origin Rows.shellRunsRow.targs := of_decide_eq_true (by kernel_rfl)
theorem wrap : Tryz.f3.isWrapper Tryz.pinned.checked.prog Rows.shellRunsRow.wrapper Rows.shellRunsRow.mainSum := by unfold Func.isWrapper; first | (rw [if_pos (by decide +kernel)]; kernel_rfl) | (rw [if_neg (by decide +kernel)]; exact ⟨rfl, rfl⟩)
theorem plain (f : FuncId) (fn : Func) (hf : Tryz.pinned.checked.prog.funcNamed "spoor/spoorlaw30.ShellRuns" = some f) (hfn : Tryz.pinned.checked.prog.funcs[f]? = some fn) :
    true = Tryz.pinned.checked.prog.looks [] ∧ ∀ (j : Nat) t, fn.params[j]? = some t → Tryz.pinned.checked.prog.wantsStandIn t = false := by
  obtain rfl : f = 3 := Option.some.inj ((show Tryz.prog.funcNamed "spoor/spoorlaw30.ShellRuns" = some 3 by kernel_rfl).symm.trans hf) |>.symm
  obtain rfl : fn = Tryz.f3 := (Option.some.inj (Tryz.func3.symm.trans hfn)).symm
  refine ⟨looks, fun j t ht => ?_⟩
  rw [Tryz.params3] at ht
  simp at ht
end Go.Proofs.YtgdlfecppecooaaGreatDoor.shellRuns
