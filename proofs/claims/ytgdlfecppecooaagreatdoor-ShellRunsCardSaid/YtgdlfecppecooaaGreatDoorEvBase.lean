/- An evaluator of closed calls: what is asked of the program. -/
import Derived.Test.YtgdlfecppecooaaGreatDoorEvRuns
import Derived.Test.YtgdlfecppecooaaGreatDoorProg
import Derived.KernelRfl
set_option linter.all false
namespace Go.Proofs.YtgdlfecppecooaaGreatDoor.ev
open Go Go.RowKit
theorem bok : BOk Tryz.prog := by
  have hs : (Tryz.prog.info? TB).isSome = true := by kernel_rfl
  have hl : liesAt Tryz.prog Tryz.prog.depth TB (2 / Tryz.prog.cellsOf TB) 0 TB 1 = true := by kernel_rfl
  obtain ⟨j, hj⟩ := Option.isSome_iff_exists.1 hs
  exact ⟨j, hj, hl⟩
theorem xok : XOk Tryz.prog := ⟨⟨Tryz.f49, by kernel_rfl, by kernel_rfl, by kernel_rfl, by kernel_rfl, by kernel_rfl⟩, ⟨Tryz.f111, by kernel_rfl, by kernel_rfl, by kernel_rfl, by kernel_rfl, by kernel_rfl⟩⟩
theorem noCount : NoNG Tryz.prog := ⟨noNG_spec (by kernel_rfl), bok, xok⟩
theorem mixed : Tryz.prog.follows .mixedOrders = true := by kernel_rfl
theorem below : Nat.ble Tryz.prog.globals.size 1000 = true := by kernel_rfl
end Go.Proofs.YtgdlfecppecooaaGreatDoor.ev
