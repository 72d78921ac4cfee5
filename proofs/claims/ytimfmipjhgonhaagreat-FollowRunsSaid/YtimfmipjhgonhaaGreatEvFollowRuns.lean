/- FollowRuns: calls that are evaluated ahead. -/
import Derived.Test.YtimfmipjhgonhaaGreatEvRuns
import Derived.Test.YtimfmipjhgonhaaGreatProg
import Derived.KernelRfl
import Derived.Test.YtimfmipjhgonhaaGreatEvBase
import Derived.Test.YtimfmipjhgonhaaGreatEvFollowRuns248
import Derived.Test.YtimfmipjhgonhaaGreatEvFollowRuns1194
import Derived.Test.YtimfmipjhgonhaaGreatEvFollowRuns1816
namespace Go.Proofs.YtimfmipjhgonhaaGreat.ev
open Go Go.RowKit
set_option maxRecDepth 100000
theorem followRuns (W : World) : Calls Tryz.prog 5 #[] W fun e W' => e = .returned (.bool true) ∧ Below W.heap.size W W' :=
  below_of (n := 1000000) (g0 := 1000) (tab := [followRuns248, followRuns1194, followRuns1816]) below (by intro en h; simp only [List.mem_cons, List.not_mem_nil, or_false] at h; rcases h with rfl | rfl | rfl; exact followRuns248_ok; exact followRuns1194_ok; exact followRuns1816_ok) mixed noCount (by kernel_rfl) W
end Go.Proofs.YtimfmipjhgonhaaGreat.ev
