/- ClassRises: for any ranges the call returns true and leaves what was there as it was. No conditions. -/
import Derived.Test.YtocbpbeklbhjkaaRows
import Derived.Test.YtocbpbeklbhjkaaOpen
import Derived.Test.YtocbpbeklbhjkaaRisesLaw
import Derived.Test.YtocbpbeklbhjkaaFrame
namespace Go.Proofs.Ytocbpbeklbhjkaa.classRises
open Go.ChangeShapes Go.WideShapes Go.ChangeAt Go.RowKit
theorem own : ownKnob Try.prog.godebug = none := by kernel_rfl
set_option maxRecDepth 100000 in
theorem lifted (os : Os) (started : os.Started) (H : Type) (enc : TypeId × Value → H) :
    ReturnsInHanded {} Try.checked os 6 .any (Rows.classRisesSpec.pre6 enc Try.prog Try.f6 Rows.classRisesRow.domain false) (Rows.classRisesSpec.post enc Try.prog Try.f6 false true false false) := by
  refine returnsInHanded_of_change (C := Try.checked) own started (by kernel_rfl) Try.func6
    (ChangeSpec.witness6 (enc := enc) (C := Try.checked) false ⟨#[], #[.slice none 0 0, .slice none 0 0], []⟩ 8 (by kernel_rfl) (by kernel_rfl) (by kernel_rfl) (by kernel_rfl)) ?_
  intro W base args ds gs before hval hW _ _
  have hW0 := hW
  obtain ⟨p, q, hA, hV, _, _, _⟩ := hW0
  rw [Try.params6] at hA hval
  obtain ⟨v0, vs0, d0, ds0, p0, q0, hargs, rfl, rfl, h0, r0⟩ := trodAll_cons hA
  obtain ⟨v1, vs1, d1, ds1, p1, q1, rfl, rfl, rfl, h1, r1⟩ := trodAll_cons r0
  obtain ⟨rfl, rfl, rfl⟩ := trodAll_nil r1
  obtain ⟨rfl, rfl⟩ := trodVars_none hV
  obtain rfl : args = #[v0, v1] := by cases args; simp_all
  obtain ⟨a0, l0, k0, e0, i0⟩ := cls.open_ranges (hval 0 22 v0 rfl rfl) h0
  subst e0
  obtain ⟨a1, l1, k1, e1, i1⟩ := cls.open_ranges (hval 1 22 v1 rfl rfl) h1
  subst e1
  have contract := cls.risesLaw a0 a1 l0 l1 k0 k1 W i0 i1
  exact contract.mono fun e W' ⟨he, hb⟩ => ⟨_, he, frame.post_law (B := 4) hW rfl rfl (by kernel_rfl) (by decide +kernel) rfl Try.underlying4 hb⟩
theorem proved : Rows.ClassRisesSaid :=
  OpenClaim.holds_of_wide 6 Try.f6 rfl rfl rfl rfl rfl rfl rfl ⟨rfl, rfl, rfl, rfl, rfl⟩ rfl rfl rfl rfl rfl (by kernel_rfl) Try.func6 (by kernel_rfl)
    (of_decide_eq_true (by kernel_rfl)) (by unfold Func.isWrapper; first | (rw [if_pos (by decide +kernel)]; kernel_rfl) | (rw [if_neg (by decide +kernel)]; exact ⟨rfl, rfl⟩))
    (fun os started H enc _ => lifted os started H enc)
#print axioms proved
end Go.Proofs.Ytocbpbeklbhjkaa.classRises
