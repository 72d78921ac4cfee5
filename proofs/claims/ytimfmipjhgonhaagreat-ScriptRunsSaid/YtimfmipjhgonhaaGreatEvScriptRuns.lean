/- ScriptRuns: calls that are evaluated ahead. -/
import Derived.Test.YtimfmipjhgonhaaGreatEvRuns
import Derived.Test.YtimfmipjhgonhaaGreatProg
import Derived.KernelRfl
import Derived.Test.YtimfmipjhgonhaaGreatEvBase
import Derived.Test.YtimfmipjhgonhaaGreatEvScriptRuns67
import Derived.Test.YtimfmipjhgonhaaGreatEvScriptRuns969
import Derived.Test.YtimfmipjhgonhaaGreatEvScriptRuns1390
namespace Go.Proofs.YtimfmipjhgonhaaGreat.ev
open Go Go.RowKit
set_option maxRecDepth 100000
theorem scriptRuns (W : World) : Calls Tryz.prog 6 #[] W fun e W' => e = .returned (.bool true) ∧ Below W.heap.size W W' :=
  below_of (n := 1000000) (g0 := 1000) (tab := [scriptRuns67, scriptRuns969, scriptRuns1390]) below (by intro en h; simp only [List.mem_cons, List.not_mem_nil, or_false] at h; rcases h with rfl | rfl | rfl; exact scriptRuns67_ok; exact scriptRuns969_ok; exact scriptRuns1390_ok) mixed noCount (by kernel_rfl) W
end Go.Proofs.YtimfmipjhgonhaaGreat.ev
