/- ShellShows: the closed facts of its row. -/
import Derived.Test.YtjdehneddakpnaaGreatDoorRows
import Derived.Test.YtjdehneddakpnaaGreatDoorChecked
import Derived.Test.YtjdehneddakpnaaGreatDoorSShC
set_option linter.all false
namespace Go.Proofs.YtjdehneddakpnaaGreatDoor.shellShows
open Go Go.ChangeShapes Go.WideShapes Go.ChangeAt Go.RowKit
theorem k1 : join.p1 Tryz.prog 5 Tryz.f5 (Rows.OpenSpec.upto Rows.shellShowsSpec).bare Rows.shellShowsUptoRow = true := by kernel_rfl
theorem k2 : join.p2 Tryz.prog 5 Tryz.f5 (Rows.OpenSpec.upto Rows.shellShowsSpec).bare Rows.shellShowsUptoRow = true := by kernel_rfl
theorem k3 : join.p3 Tryz.prog 5 Tryz.f5 (Rows.OpenSpec.upto Rows.shellShowsSpec).bare Rows.shellShowsUptoRow = true := by kernel_rfl
theorem k4 : join.p4 Tryz.prog 5 Tryz.f5 (Rows.OpenSpec.upto Rows.shellShowsSpec).bare Rows.shellShowsUptoRow = true := by kernel_rfl
theorem k5 : join.p5 Tryz.prog 5 Tryz.f5 (Rows.OpenSpec.upto Rows.shellShowsSpec).bare Rows.shellShowsUptoRow = true := by kernel_rfl
theorem k6 : join.p6 Tryz.prog 5 Tryz.f5 (Rows.OpenSpec.upto Rows.shellShowsSpec).bare Rows.shellShowsUptoRow = true := by kernel_rfl
theorem k7 : join.p7 Tryz.prog 5 Tryz.f5 (Rows.OpenSpec.upto Rows.shellShowsSpec).bare Rows.shellShowsUptoRow = true := by kernel_rfl
theorem k8 : join.p8 Tryz.prog 5 Tryz.f5 (Rows.OpenSpec.upto Rows.shellShowsSpec).bare Rows.shellShowsUptoRow = true := by kernel_rfl
theorem k9 : join.p9 Tryz.prog 5 Tryz.f5 (Rows.OpenSpec.upto Rows.shellShowsSpec).bare Rows.shellShowsUptoRow = true := by kernel_rfl
theorem k10 : join.p10 Tryz.prog 5 Tryz.f5 (Rows.OpenSpec.upto Rows.shellShowsSpec).bare Rows.shellShowsUptoRow = true := by kernel_rfl
theorem k11 : join.p11 Tryz.prog 5 Tryz.f5 (Rows.OpenSpec.upto Rows.shellShowsSpec).bare Rows.shellShowsUptoRow = true := by kernel_rfl
theorem k12 : join.p12 Tryz.prog 5 Tryz.f5 (Rows.OpenSpec.upto Rows.shellShowsSpec).bare Rows.shellShowsUptoRow = true := by kernel_rfl
theorem facts : joinedFacts Tryz.prog 5 Tryz.f5 (Rows.OpenSpec.upto Rows.shellShowsSpec).bare Rows.shellShowsUptoRow = true := join.facts k1 k2 k3 k4 k5 k6 k7 k8 k9 k10 k11 k12
theorem name : Tryz.prog.funcNamed Rows.shellShowsUptoRow.func = some 5 := by kernel_rfl
end Go.Proofs.YtjdehneddakpnaaGreatDoor.shellShows
