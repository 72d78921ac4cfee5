/- StreamRises: a part of the proof. -/
import Derived.Test.YtadfknojfbmjgaaGreatRows
import Derived.Test.YtadfknojfbmjgaaGreatChecked
import Derived.Test.YtadfknojfbmjgaaGreatC34
set_option linter.all false
namespace Go.Proofs.YtadfknojfbmjgaaGreat
namespace streamRises
open Go Go.ChangeShapes Go.WideShapes Go.ChangeAt Go.RowKit
def k1:join.p1 Tryz.prog 3 Tryz.f3 (Rows.OpenSpec.upto Rows.streamRisesSpec).bare Rows.streamRisesUptoRow:=by kernel_rfl
def k2:join.p2 Tryz.prog 3 Tryz.f3 (Rows.OpenSpec.upto Rows.streamRisesSpec).bare Rows.streamRisesUptoRow:=by kernel_rfl
def k3:join.p3 Tryz.prog 3 Tryz.f3 (Rows.OpenSpec.upto Rows.streamRisesSpec).bare Rows.streamRisesUptoRow:=by kernel_rfl
def k4:join.p4 Tryz.prog 3 Tryz.f3 (Rows.OpenSpec.upto Rows.streamRisesSpec).bare Rows.streamRisesUptoRow:=by kernel_rfl
def k5:join.p5 Tryz.prog 3 Tryz.f3 (Rows.OpenSpec.upto Rows.streamRisesSpec).bare Rows.streamRisesUptoRow:=by kernel_rfl
def k6:join.p6 Tryz.prog 3 Tryz.f3 (Rows.OpenSpec.upto Rows.streamRisesSpec).bare Rows.streamRisesUptoRow:=by kernel_rfl
def k7:join.p7 Tryz.prog 3 Tryz.f3 (Rows.OpenSpec.upto Rows.streamRisesSpec).bare Rows.streamRisesUptoRow:=by kernel_rfl
def k8:join.p8 Tryz.prog 3 Tryz.f3 (Rows.OpenSpec.upto Rows.streamRisesSpec).bare Rows.streamRisesUptoRow:=by kernel_rfl
def k9:join.p9 Tryz.prog 3 Tryz.f3 (Rows.OpenSpec.upto Rows.streamRisesSpec).bare Rows.streamRisesUptoRow:=by kernel_rfl
def k10:join.p10 Tryz.prog 3 Tryz.f3 (Rows.OpenSpec.upto Rows.streamRisesSpec).bare Rows.streamRisesUptoRow:=by kernel_rfl
def k11:join.p11 Tryz.prog 3 Tryz.f3 (Rows.OpenSpec.upto Rows.streamRisesSpec).bare Rows.streamRisesUptoRow:=by kernel_rfl
def k12:join.p12 Tryz.prog 3 Tryz.f3 (Rows.OpenSpec.upto Rows.streamRisesSpec).bare Rows.streamRisesUptoRow:=by kernel_rfl
def facts:joinedFacts Tryz.prog 3 Tryz.f3 (Rows.OpenSpec.upto Rows.streamRisesSpec).bare Rows.streamRisesUptoRow:=join.facts k1 k2 k3 k4 k5 k6 k7 k8 k9 k10 k11 k12
def name:Tryz.prog.funcNamed Rows.streamRisesUptoRow.func=some 3:=by kernel_rfl
end streamRises
end Go.Proofs.YtadfknojfbmjgaaGreat
