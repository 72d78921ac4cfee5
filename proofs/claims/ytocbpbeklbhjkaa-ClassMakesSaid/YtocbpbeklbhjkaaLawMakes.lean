/- ClassMakes: for any ranges the call returns true and leaves what was there as it was. No conditions. -/
import Derived.Test.YtocbpbeklbhjkaaRows
import Derived.Test.YtocbpbeklbhjkaaOpen
import Derived.Test.YtocbpbeklbhjkaaMakes
import Derived.Test.YtocbpbeklbhjkaaFrame
namespace Go.Proofs.Ytocbpbeklbhjkaa.classMakes
open Go.ChangeShapes Go.WideShapes Go.ChangeAt Go.RowKit
theorem own : ownKnob Try.prog.godebug = none := by kernel_rfl
set_option maxRecDepth 100000 in
theorem lifted (os : Os) (started : os.Started) (H : Type) (enc : TypeId × Value → H) :
    ReturnsInHanded {} Try.checked os 4 .any (Rows.classMakesSpec.pre6 enc Try.prog Try.f4 Rows.classMakesRow.domain false) (Rows.classMakesSpec.post enc Try.prog Try.f4 false true false false) := by
  refine returnsInHanded_of_change (C := Try.checked) own started (by kernel_rfl) Try.func4
    (ChangeSpec.witness6 (enc := enc) (C := Try.checked) false ⟨#[], #[.slice none 0 0], []⟩ 8 (by kernel_rfl) (by kernel_rfl) (by kernel_rfl) (by kernel_rfl)) ?_
  intro W base args ds gs before hval hW _ _
  have hW0 := hW
  obtain ⟨p, q, hA, hV, _, _, _⟩ := hW0
  rw [Try.params4] at hA hval
  obtain ⟨v0, vs0, d0, ds0, p0, q0, hargs, rfl, rfl, h0, r0⟩ := trodAll_cons hA
  obtain ⟨rfl, rfl, rfl⟩ := trodAll_nil r0
  obtain ⟨rfl, rfl⟩ := trodVars_none hV
  obtain rfl : args = #[v0] := by cases args; simp_all
  obtain ⟨a0, l0, k0, e0, i0⟩ := cls.open_ranges (hval 0 22 v0 rfl rfl) h0
  subst e0
  have contract := cls.makes a0 l0 k0 W i0
  exact contract.mono fun e W' ⟨he, hb⟩ => ⟨_, he, frame.post_law (B := 4) hW rfl rfl (by kernel_rfl) (by decide +kernel) rfl Try.underlying4 hb⟩
theorem proved : Rows.ClassMakesSaid :=
  OpenClaim.holds_of_wide 4 Try.f4 rfl rfl rfl rfl rfl rfl rfl ⟨rfl, rfl, rfl, rfl, rfl⟩ rfl rfl rfl rfl rfl (by kernel_rfl) Try.func4 (by kernel_rfl)
    (of_decide_eq_true (by kernel_rfl)) (by unfold Func.isWrapper; first | (rw [if_pos (by decide +kernel)]; kernel_rfl) | (rw [if_neg (by decide +kernel)]; exact ⟨rfl, rfl⟩))
    (fun os started H enc _ => lifted os started H enc)
#print axioms proved
end Go.Proofs.Ytocbpbeklbhjkaa.classMakes
