/- ShellRuns: the call, from a world that holds the two errors. -/
import Derived.Test.YtjdehneddakpnaaGreatDoorCEvB
import Derived.Test.YtjdehneddakpnaaGreatDoorProg
import Derived.KernelRfl
import Derived.Test.YtjdehneddakpnaaGreatDoorCEvS
import Derived.Test.YtjdehneddakpnaaGreatDoorCEvT
set_option linter.all false
namespace Go.Proofs.YtjdehneddakpnaaGreatDoor.ev
open Go Go.RowKit
set_option maxRecDepth 100000
noncomputable def errs : T AO := .node none (.node none (.node (some (.cells [.iface 346 (.pointer (some ⟨999, 0, none⟩))] 104 true)) .nil .nil) .nil) (.node (some (.cells [.iface 346 (.pointer (some ⟨998, 0, none⟩))] 104 true)) .nil .nil)
theorem shellRuns_run : okRun (callW Tryz.prog (exec Tryz.prog [shellRuns587] 1000000) 11 [] ⟨errs, 1000⟩) = true := by kernel_rfl
theorem shellRuns (W : World) {a1 a2 : Addr} {fz1 fz2 : Nat × Nat} (w1 : W.heap[2]? = some (.cells #[.iface 346 (.pointer (some a1))] 104 fz1)) (w2 : W.heap[3]? = some (.cells #[.iface 346 (.pointer (some a2))] 104 fz2))
    (s1 : a1.spot = none) (s2 : a2.spot = none) : Calls Tryz.prog 11 #[] W fun e W' => e = .returned (.bool true) ∧ Below W.heap.size W W' :=
  below_two (h1 := .node none .nil (.node (some (.cells [.iface 346 (.pointer (some ⟨998, 0, none⟩))] 104 true)) .nil .nil)) (by kernel_rfl) (by kernel_rfl) (by kernel_rfl) (by kernel_rfl) (by kernel_rfl) (by kernel_rfl) (by kernel_rfl) (by kernel_rfl)
    (by intro en h; simp only [List.mem_cons, List.not_mem_nil, or_false] at h; rcases h with rfl; exact shellRuns587_ok) mixed noCount shellRuns_run W w1 w2 s1 s2
end Go.Proofs.YtjdehneddakpnaaGreatDoor.ev
