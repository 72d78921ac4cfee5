/- StreamRuns: the call, in every order that may be drawn. -/
import Derived.Test.YtacolbfofamocaaGreatEvB
import Derived.Test.YtacolbfofamocaaGreatProg
import Derived.KernelRfl
namespace Go.Proofs.YtacolbfofamocaaGreat.ev
open Go Go.RowKit
theorem noCount : NoNG Tryz.prog := noNG_spec (by kernel_rfl)
theorem mixed : Tryz.prog.follows .mixedOrders = true := by kernel_rfl
theorem below : Nat.ble Tryz.prog.globals.size 1000 = true := by kernel_rfl
theorem streamRuns (W : World) : Calls Tryz.prog 5 #[] W fun e W' => e = .returned (.bool true) ∧ Below W.heap.size W W' :=
  below_of (n := 1000000) (g0 := 1000) (tab := []) below (by intro en h; cases h) mixed noCount (by kernel_rfl) W
end Go.Proofs.YtacolbfofamocaaGreat.ev
