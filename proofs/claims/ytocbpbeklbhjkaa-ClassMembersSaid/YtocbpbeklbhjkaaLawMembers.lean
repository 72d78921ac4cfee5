/- ClassMembers: for any ranges and any rune the call returns true and leaves what was there as it was. No conditions. -/
import Derived.Test.YtocbpbeklbhjkaaRows
import Derived.Test.YtocbpbeklbhjkaaOpen
import Derived.Test.YtocbpbeklbhjkaaMembers
import Derived.Test.YtocbpbeklbhjkaaFrame
namespace Go.Proofs.Ytocbpbeklbhjkaa.classMembers
open Go.ChangeShapes Go.WideShapes Go.ChangeAt Go.RowKit
theorem own : ownKnob Try.prog.godebug = none := by kernel_rfl
set_option maxRecDepth 100000 in
theorem lifted (os : Os) (started : os.Started) (H : Type) (enc : TypeId × Value → H) :
    ReturnsInHanded {} Try.checked os 5 .any (Rows.classMembersSpec.pre6 enc Try.prog Try.f5 Rows.classMembersRow.domain false) (Rows.classMembersSpec.post enc Try.prog Try.f5 false true false false) := by
  refine returnsInHanded_of_change (C := Try.checked) own started (by kernel_rfl) Try.func5
    (ChangeSpec.witness6 (enc := enc) (C := Try.checked) false ⟨#[], #[.slice none 0 0, .slice none 0 0, .int .i32 0], []⟩ 8 (by kernel_rfl) (by kernel_rfl) (by kernel_rfl) (by kernel_rfl)) ?_
  intro W base args ds gs before hval hW _ _
  have hW0 := hW
  obtain ⟨p, q, hA, hV, _, _, _⟩ := hW0
  rw [Try.params5] at hA hval
  obtain ⟨v0, vs0, d0, ds0, p0, q0, hargs, rfl, rfl, h0, r0⟩ := trodAll_cons hA
  obtain ⟨v1, vs1, d1, ds1, p1, q1, rfl, rfl, rfl, h1, r1⟩ := trodAll_cons r0
  obtain ⟨v2, vs2, d2, ds2, p2, q2, rfl, rfl, rfl, h2, r2⟩ := trodAll_cons r1
  obtain ⟨rfl, rfl, rfl⟩ := trodAll_nil r2
  obtain ⟨rfl, rfl⟩ := trodVars_none hV
  obtain rfl : args = #[v0, v1, v2] := by cases args; simp_all
  obtain ⟨a0, l0, k0, e0, i0⟩ := cls.open_ranges (hval 0 22 v0 rfl rfl) h0
  subst e0
  obtain ⟨a1, l1, k1, e1, i1⟩ := cls.open_ranges (hval 1 22 v1 rfl rfl) h1
  subst e1
  obtain ⟨n2, rfl, rfl, rfl, w2⟩ := open_int Try.underlying21 (hval 2 21 v2 rfl rfl) h2
  have contract := cls.members a0 a1 l0 l1 k0 k1 n2 W i0 i1
  exact contract.mono fun e W' ⟨he, hb⟩ => ⟨_, he, frame.post_law (B := 4) hW rfl rfl (by kernel_rfl) (by decide +kernel) rfl Try.underlying4 hb⟩
theorem proved : Rows.ClassMembersSaid :=
  OpenClaim.holds_of_wide 5 Try.f5 rfl rfl rfl rfl rfl rfl rfl ⟨rfl, rfl, rfl, rfl, rfl⟩ rfl rfl rfl rfl rfl (by kernel_rfl) Try.func5 (by kernel_rfl)
    (of_decide_eq_true (by kernel_rfl)) (by unfold Func.isWrapper; first | (rw [if_pos (by decide +kernel)]; kernel_rfl) | (rw [if_neg (by decide +kernel)]; exact ⟨rfl, rfl⟩))
    (fun os started H enc _ => lifted os started H enc)
#print axioms proved
end Go.Proofs.Ytocbpbeklbhjkaa.classMembers
