/- ShellRuns: the call, from a world that holds the two errors. -/
import Derived.Test.YtgdlfecppecooaaGreatDoorEvRuns
import Derived.Test.YtgdlfecppecooaaGreatDoorProg
import Derived.KernelRfl
import Derived.Test.YtgdlfecppecooaaGreatDoorEvBase
import Derived.Test.YtgdlfecppecooaaGreatDoorEvShellRuns587
set_option linter.all false
namespace Go.Proofs.YtgdlfecppecooaaGreatDoor.ev
open Go Go.RowKit
set_option maxRecDepth 100000
noncomputable def errs : T AO := .node none (.node (some (.cells [.iface 396 (.pointer (some ⟨998, 0, none⟩))] 52 true)) .nil .nil) (.node (some (.cells [.iface 396 (.pointer (some ⟨999, 0, none⟩))] 52 true)) .nil .nil)
theorem shellRuns_run : okRun (callW Tryz.prog (exec Tryz.prog [shellRuns587] 1000000) 3 [] ⟨errs, 1000⟩) = true := by kernel_rfl
theorem shellRuns (W : World) {a1 a2 : Addr} {fz1 fz2 : Nat × Nat} (w1 : W.heap[1]? = some (.cells #[.iface 396 (.pointer (some a1))] 52 fz1)) (w2 : W.heap[2]? = some (.cells #[.iface 396 (.pointer (some a2))] 52 fz2))
    (s1 : a1.spot = none) (s2 : a2.spot = none) : Calls Tryz.prog 3 #[] W fun e W' => e = .returned (.bool true) ∧ Below W.heap.size W W' :=
  below_two (h1 := .node none (.node (some (.cells [.iface 396 (.pointer (some ⟨998, 0, none⟩))] 52 true)) .nil .nil) .nil) (by kernel_rfl) (by kernel_rfl) (by kernel_rfl) (by kernel_rfl) (by kernel_rfl) (by kernel_rfl) (by kernel_rfl) (by kernel_rfl)
    (by intro en h; simp only [List.mem_cons, List.not_mem_nil, or_false] at h; rcases h with rfl; exact shellRuns587_ok) mixed noCount shellRuns_run W w1 w2 s1 s2
end Go.Proofs.YtgdlfecppecooaaGreatDoor.ev
