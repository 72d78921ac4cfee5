/- ScriptRuns: whatever the input (there is none), the call returns true and leaves what was there as it was. No conditions. -/
import Derived.Test.YtimfmipjhgonhaaGreatRows
import Derived.Test.YtimfmipjhgonhaaGreatEvScriptRuns
import Derived.Test.YtimfmipjhgonhaaGreatFactScriptRuns
import Derived.Test.YtimfmipjhgonhaaGreatFrame
namespace Go.Proofs.YtimfmipjhgonhaaGreat.scriptRuns
open Go.ChangeShapes Go.WideShapes Go.ChangeAt Go.RowKit
theorem own : ownKnob Tryz.prog.godebug = none := by kernel_rfl
set_option maxRecDepth 100000 in
theorem lifted (os : Os) (started : os.Started) (H : Type) (enc : TypeId × Value → H) :
    ReturnsInHanded {} Tryz.checked os 6 .any (Rows.scriptRunsSpec.pre6 enc Tryz.prog Tryz.f6 Rows.scriptRunsRow.domain false) (Rows.scriptRunsSpec.post enc Tryz.prog Tryz.f6 false true false false) := by
  refine returnsInHanded_of_change (C := Tryz.checked) own started (by kernel_rfl) Tryz.func6
    (ChangeSpec.witness6 (enc := enc) (C := Tryz.checked) false ⟨#[], #[], []⟩ 8 (by kernel_rfl) (by kernel_rfl) (by kernel_rfl) (by kernel_rfl)) ?_
  intro W base args ds gs before _ hW _ _
  have hW0 := hW
  obtain ⟨p, q, hA, hV, _, _, _⟩ := hW0
  have hA : DataW.TrodAll enc Tryz.prog W 0 (fun _ => true) true [] args.toList ds p := hA
  obtain ⟨ha, rfl, rfl⟩ := trodAll_none hA
  obtain ⟨rfl, rfl⟩ := trodVars_none hV
  obtain rfl : args = #[] := by cases args; simp_all
  refine (ev.scriptRuns W).mono fun e W' ⟨he, hb⟩ => ⟨_, he, frame.post_law (B := 4) hW rfl rfl (by kernel_rfl) (by decide +kernel) rfl Tryz.underlying4 hb⟩
theorem proved : Rows.ScriptRunsSaid :=
  OpenClaim.holds_of_wide 6 Tryz.f6 rfl rfl rfl rfl rfl rfl rfl ⟨rfl, rfl, rfl, rfl, rfl⟩ rfl rfl rfl rfl rfl name Tryz.func6 facts
    (of_decide_eq_true (by kernel_rfl)) (by unfold Func.isWrapper; first | (rw [if_pos (by decide +kernel)]; kernel_rfl) | (rw [if_neg (by decide +kernel)]; exact ⟨rfl, rfl⟩))
    (fun os started H enc _ => lifted os started H enc)
#print axioms proved
end Go.Proofs.YtimfmipjhgonhaaGreat.scriptRuns
