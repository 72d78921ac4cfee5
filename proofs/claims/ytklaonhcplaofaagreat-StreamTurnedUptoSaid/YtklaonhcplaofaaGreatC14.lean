/- StreamTurned: a part of the proof. -/
import Derived.Test.YtklaonhcplaofaaGreatRows
import Derived.Test.YtklaonhcplaofaaGreatChecked
import Derived.Test.YtklaonhcplaofaaGreatC13
set_option linter.all false
namespace Go.Proofs.YtklaonhcplaofaaGreat
open Go.Proofs.Tryz
namespace streamTurned
open Go Go.ChangeShapes Go.WideShapes Go.ChangeAt Go.RowKit
def k1:join.p1 prog 3 Tryz.f3 (Rows.OpenSpec.upto Rows.streamTurnedSpec).bare Rows.streamTurnedUptoRow:=by kernel_rfl
def k2:join.p2 prog 3 Tryz.f3 (Rows.OpenSpec.upto Rows.streamTurnedSpec).bare Rows.streamTurnedUptoRow:=by kernel_rfl
def k3:join.p3 prog 3 Tryz.f3 (Rows.OpenSpec.upto Rows.streamTurnedSpec).bare Rows.streamTurnedUptoRow:=by kernel_rfl
def k4:join.p4 prog 3 Tryz.f3 (Rows.OpenSpec.upto Rows.streamTurnedSpec).bare Rows.streamTurnedUptoRow:=by kernel_rfl
def k5:join.p5 prog 3 Tryz.f3 (Rows.OpenSpec.upto Rows.streamTurnedSpec).bare Rows.streamTurnedUptoRow:=by kernel_rfl
def k6:join.p6 prog 3 Tryz.f3 (Rows.OpenSpec.upto Rows.streamTurnedSpec).bare Rows.streamTurnedUptoRow:=by kernel_rfl
def k7:join.p7 prog 3 Tryz.f3 (Rows.OpenSpec.upto Rows.streamTurnedSpec).bare Rows.streamTurnedUptoRow:=by kernel_rfl
def k8:join.p8 prog 3 Tryz.f3 (Rows.OpenSpec.upto Rows.streamTurnedSpec).bare Rows.streamTurnedUptoRow:=by kernel_rfl
def k9:join.p9 prog 3 Tryz.f3 (Rows.OpenSpec.upto Rows.streamTurnedSpec).bare Rows.streamTurnedUptoRow:=by kernel_rfl
def k10:join.p10 prog 3 Tryz.f3 (Rows.OpenSpec.upto Rows.streamTurnedSpec).bare Rows.streamTurnedUptoRow:=by kernel_rfl
def k11:join.p11 prog 3 Tryz.f3 (Rows.OpenSpec.upto Rows.streamTurnedSpec).bare Rows.streamTurnedUptoRow:=by kernel_rfl
def k12:join.p12 prog 3 Tryz.f3 (Rows.OpenSpec.upto Rows.streamTurnedSpec).bare Rows.streamTurnedUptoRow:=by kernel_rfl
def facts:joinedFacts prog 3 Tryz.f3 (Rows.OpenSpec.upto Rows.streamTurnedSpec).bare Rows.streamTurnedUptoRow:=join.facts k1 k2 k3 k4 k5 k6 k7 k8 k9 k10 k11 k12
def name:Tryz.prog.funcNamed Rows.streamTurnedUptoRow.func=some 3:=by kernel_rfl
end streamTurned
end Go.Proofs.YtklaonhcplaofaaGreat
