/- PointReads: a part of the proof. -/
import Derived.Test.YtiiiphndmbabcaaGreatRows
import Derived.Test.YtiiiphndmbabcaaGreatChecked
import Derived.Test.YtiiiphndmbabcaaGreatC14
set_option linter.all false
namespace Go.Proofs.YtiiiphndmbabcaaGreat
open Go.Proofs.Tryz
namespace pointReads
open Go Go.ChangeShapes Go.WideShapes Go.ChangeAt Go.RowKit
def k1:join.p1 prog 4 Tryz.f4 (Rows.OpenSpec.upto Rows.pointReadsSpec).bare Rows.pointReadsUptoRow:=by kernel_rfl
def k2:join.p2 prog 4 Tryz.f4 (Rows.OpenSpec.upto Rows.pointReadsSpec).bare Rows.pointReadsUptoRow:=by kernel_rfl
def k3:join.p3 prog 4 Tryz.f4 (Rows.OpenSpec.upto Rows.pointReadsSpec).bare Rows.pointReadsUptoRow:=by kernel_rfl
def k4:join.p4 prog 4 Tryz.f4 (Rows.OpenSpec.upto Rows.pointReadsSpec).bare Rows.pointReadsUptoRow:=by kernel_rfl
def k5:join.p5 prog 4 Tryz.f4 (Rows.OpenSpec.upto Rows.pointReadsSpec).bare Rows.pointReadsUptoRow:=by kernel_rfl
def k6:join.p6 prog 4 Tryz.f4 (Rows.OpenSpec.upto Rows.pointReadsSpec).bare Rows.pointReadsUptoRow:=by kernel_rfl
def k7:join.p7 prog 4 Tryz.f4 (Rows.OpenSpec.upto Rows.pointReadsSpec).bare Rows.pointReadsUptoRow:=by kernel_rfl
def k8:join.p8 prog 4 Tryz.f4 (Rows.OpenSpec.upto Rows.pointReadsSpec).bare Rows.pointReadsUptoRow:=by kernel_rfl
def k9:join.p9 prog 4 Tryz.f4 (Rows.OpenSpec.upto Rows.pointReadsSpec).bare Rows.pointReadsUptoRow:=by kernel_rfl
def k10:join.p10 prog 4 Tryz.f4 (Rows.OpenSpec.upto Rows.pointReadsSpec).bare Rows.pointReadsUptoRow:=by kernel_rfl
def k11:join.p11 prog 4 Tryz.f4 (Rows.OpenSpec.upto Rows.pointReadsSpec).bare Rows.pointReadsUptoRow:=by kernel_rfl
def k12:join.p12 prog 4 Tryz.f4 (Rows.OpenSpec.upto Rows.pointReadsSpec).bare Rows.pointReadsUptoRow:=by kernel_rfl
def facts:joinedFacts prog 4 Tryz.f4 (Rows.OpenSpec.upto Rows.pointReadsSpec).bare Rows.pointReadsUptoRow:=join.facts k1 k2 k3 k4 k5 k6 k7 k8 k9 k10 k11 k12
def name:Tryz.prog.funcNamed Rows.pointReadsUptoRow.func=some 4:=by kernel_rfl
end pointReads
end Go.Proofs.YtiiiphndmbabcaaGreat
