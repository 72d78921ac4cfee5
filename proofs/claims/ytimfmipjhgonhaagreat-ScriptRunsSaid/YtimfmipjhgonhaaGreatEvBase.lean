/- An evaluator of closed calls: what is asked of the program. -/
import Derived.Test.YtimfmipjhgonhaaGreatEvRuns
import Derived.Test.YtimfmipjhgonhaaGreatProg
import Derived.KernelRfl
namespace Go.Proofs.YtimfmipjhgonhaaGreat.ev
open Go Go.RowKit
theorem noCount : NoNG Tryz.prog := noNG_spec (by kernel_rfl)
theorem mixed : Tryz.prog.follows .mixedOrders = true := by kernel_rfl
theorem below : Nat.ble Tryz.prog.globals.size 1000 = true := by kernel_rfl
end Go.Proofs.YtimfmipjhgonhaaGreat.ev
