/- StreamRuns and PointRuns: the calls, in every order that may be drawn. -/
import Derived.Test.YtimfmipjhgonhaaGreatEvRuns
import Derived.Test.YtimfmipjhgonhaaGreatProg
import Derived.KernelRfl
namespace Go.Proofs.YtimfmipjhgonhaaGreat.ev
open Go Go.RowKit
theorem noCount : NoNG Tryz.prog := noNG_spec (by kernel_rfl)
theorem mixed : Tryz.prog.follows .mixedOrders = true := by kernel_rfl
theorem below : Nat.ble Tryz.prog.globals.size 1000 = true := by kernel_rfl
theorem pointRuns (W : World) : Calls Tryz.prog 4 #[] W fun e W' => e = .returned (.bool true) ∧ Below W.heap.size W W' :=
  below_of (n := 1000000) below mixed noCount (by kernel_rfl) W
theorem streamRuns (W : World) : Calls Tryz.prog 3 #[] W fun e W' => e = .returned (.bool true) ∧ Below W.heap.size W W' :=
  below_of (n := 1000000) below mixed noCount (by kernel_rfl) W
end Go.Proofs.YtimfmipjhgonhaaGreat.ev
