/-
  No cell of these rows narrows 'for every input' (looked for: loops, veiled, ifaces, maps, wideKeys, modest, calm, conditions, laid).
  DERIVED. THE GIVEN ROWS OF THIS SEAT. 6 by the template 'for every input the law returns true; each argument reads behind the call as it read before'; 0 by the template 'total and deterministic' (their statements: YtocbpbeklbhjkaaTotals.lean).
  GIVEN WITH THE SEED: the statements are not yours to turn. If you find one false, say at which input.
  Laid BY PROGRAM, IN A SANDBOX (cutbox-rows.mjs): the forced cells as the released guide's own fill.sh prints them over the translation 5ea802d8b868e173… (all of the seat's roots in one cut). By AI agents, Wed Nov 11 2026. No macro, syntax, notation, axiom, sorry.
-/
import Derived.Test.YtocbpbeklbhjkaaChecked
import GoSem.Claim
import GoSem.ClaimJoined
import GoSem.ClaimMapViews
import Derived.JoinedTies
import Derived.KernelRfl
namespace Go.Proofs.Ytocbpbeklbhjkaa
/- THE CELL 'sum', in the pinned program and in every row, IS THE sha256 OF THE DUMP (.gsa) THAT YtocbpbeklbhjkaaProg.lean LOADS. Nothing in Lean hashes anything: it is a label: what it is worth is what the hold of that sum in a sandbox is worth. -/
noncomputable def Try.pinned : Pinned := { name := "ytocbpbeklbhjkaa", sum := "5ea802d8b868e173994added98f7ef84463c8191e1fa6597fe4da702788d5cf7", checked := Try.checked }
namespace Rows
def none {H : Type} : Left H := { results := [], args := [] }

/-- 'spoorlaw9.ClassRuns': WHATEVER THE INPUT: true; the input reads as it did. -/
def classRunsSpec : ChangeSpec := { name := "classRuns", fn := fun _ => fun
  | [] => { results := [.lit (.bool true)], args := [] }
  | _ => none }
def classRunsRow : OpenClaim := { program := "ytocbpbeklbhjkaa", sum := "5ea802d8b868e173994added98f7ef84463c8191e1fa6597fe4da702788d5cf7", func := "spoor/spoorlaw9.ClassRuns", spec := "classRuns", unfollowed := true, recurses := true, apart := false }
def ClassRunsSaid : Prop := classRunsRow.holds Try.pinned (OpenSpec.ofChange classRunsSpec)

/-- ITS FALSE NEIGHBOUR: 'it returns false'. Refute it at one input. -/
def classRunsWrong : ChangeSpec := { name := "classRuns", fn := fun _ => fun
  | [] => { results := [.lit (.bool false)], args := [] }
  | _ => none }
def ClassRunsWrongFalsely : Prop := classRunsRow.holds Try.pinned (OpenSpec.ofChange classRunsWrong)

/-- 'spoorlaw9.ClassMakes': WHATEVER THE INPUT: true; the input reads as it did. -/
def classMakesSpec : ChangeSpec := { name := "classMakes", fn := fun _ => fun
  | [d] => { results := [.lit (.bool true)], args := [d] }
  | _ => none }
def classMakesRow : OpenClaim := { program := "ytocbpbeklbhjkaa", sum := "5ea802d8b868e173994added98f7ef84463c8191e1fa6597fe4da702788d5cf7", func := "spoor/spoorlaw9.ClassMakes", spec := "classMakes", unfollowed := true, recurses := true, apart := false }
def ClassMakesSaid : Prop := classMakesRow.holds Try.pinned (OpenSpec.ofChange classMakesSpec)

/-- ITS FALSE NEIGHBOUR: 'it returns false'. Refute it at one input. -/
def classMakesWrong : ChangeSpec := { name := "classMakes", fn := fun _ => fun
  | [d] => { results := [.lit (.bool false)], args := [d] }
  | _ => none }
def ClassMakesWrongFalsely : Prop := classMakesRow.holds Try.pinned (OpenSpec.ofChange classMakesWrong)

/-- 'spoorlaw9.ClassMembers': WHATEVER THE INPUT: true; the input reads as it did. -/
def classMembersSpec : ChangeSpec := { name := "classMembers", fn := fun _ => fun
  | [d1, d2, d3] => { results := [.lit (.bool true)], args := [d1, d2, d3] }
  | _ => none }
def classMembersRow : OpenClaim := { program := "ytocbpbeklbhjkaa", sum := "5ea802d8b868e173994added98f7ef84463c8191e1fa6597fe4da702788d5cf7", func := "spoor/spoorlaw9.ClassMembers", spec := "classMembers", unfollowed := true, recurses := true, apart := false }
def ClassMembersSaid : Prop := classMembersRow.holds Try.pinned (OpenSpec.ofChange classMembersSpec)

/-- ITS FALSE NEIGHBOUR: 'it returns false'. Refute it at one input. -/
def classMembersWrong : ChangeSpec := { name := "classMembers", fn := fun _ => fun
  | [d1, d2, d3] => { results := [.lit (.bool false)], args := [d1, d2, d3] }
  | _ => none }
def ClassMembersWrongFalsely : Prop := classMembersRow.holds Try.pinned (OpenSpec.ofChange classMembersWrong)

/-- 'spoorlaw9.ClassRises': WHATEVER THE INPUT: true; the input reads as it did. -/
def classRisesSpec : ChangeSpec := { name := "classRises", fn := fun _ => fun
  | [d1, d2] => { results := [.lit (.bool true)], args := [d1, d2] }
  | _ => none }
def classRisesRow : OpenClaim := { program := "ytocbpbeklbhjkaa", sum := "5ea802d8b868e173994added98f7ef84463c8191e1fa6597fe4da702788d5cf7", func := "spoor/spoorlaw9.ClassRises", spec := "classRises", unfollowed := true, recurses := true, apart := false }
def ClassRisesSaid : Prop := classRisesRow.holds Try.pinned (OpenSpec.ofChange classRisesSpec)

/-- ITS FALSE NEIGHBOUR: 'it returns false'. Refute it at one input. -/
def classRisesWrong : ChangeSpec := { name := "classRises", fn := fun _ => fun
  | [d1, d2] => { results := [.lit (.bool false)], args := [d1, d2] }
  | _ => none }
def ClassRisesWrongFalsely : Prop := classRisesRow.holds Try.pinned (OpenSpec.ofChange classRisesWrong)

/-- 'spoorlaw9.ClassEnds': WHATEVER THE INPUT: true; the input reads as it did. -/
def classEndsSpec : ChangeSpec := { name := "classEnds", fn := fun _ => fun
  | [d] => { results := [.lit (.bool true)], args := [d] }
  | _ => none }
def classEndsRow : OpenClaim := { program := "ytocbpbeklbhjkaa", sum := "5ea802d8b868e173994added98f7ef84463c8191e1fa6597fe4da702788d5cf7", func := "spoor/spoorlaw9.ClassEnds", spec := "classEnds", unfollowed := true, recurses := true, apart := false }
def ClassEndsSaid : Prop := classEndsRow.holds Try.pinned (OpenSpec.ofChange classEndsSpec)

/-- ITS FALSE NEIGHBOUR: 'it returns false'. Refute it at one input. -/
def classEndsWrong : ChangeSpec := { name := "classEnds", fn := fun _ => fun
  | [d] => { results := [.lit (.bool false)], args := [d] }
  | _ => none }
def ClassEndsWrongFalsely : Prop := classEndsRow.holds Try.pinned (OpenSpec.ofChange classEndsWrong)

/-- 'spoorlaw9.ClassCounts': WHATEVER THE INPUT: true; the input reads as it did. -/
def classCountsSpec : ChangeSpec := { name := "classCounts", fn := fun _ => fun
  | [d] => { results := [.lit (.bool true)], args := [d] }
  | _ => none }
def classCountsRow : OpenClaim := { program := "ytocbpbeklbhjkaa", sum := "5ea802d8b868e173994added98f7ef84463c8191e1fa6597fe4da702788d5cf7", func := "spoor/spoorlaw9.ClassCounts", spec := "classCounts", unfollowed := true, recurses := true, apart := false }
def ClassCountsSaid : Prop := classCountsRow.holds Try.pinned (OpenSpec.ofChange classCountsSpec)

/-- ITS FALSE NEIGHBOUR: 'it returns false'. Refute it at one input. -/
def classCountsWrong : ChangeSpec := { name := "classCounts", fn := fun _ => fun
  | [d] => { results := [.lit (.bool false)], args := [d] }
  | _ => none }
def ClassCountsWrongFalsely : Prop := classCountsRow.holds Try.pinned (OpenSpec.ofChange classCountsWrong)

/- THE SECOND FORM. 'bulk': how many values and letters a reading holds, each counted each time it is reached (what is shared counts as often as it is met; a slice's spare places count too). A statement '..UptoSaid' is the law's where the arguments, and the package variables that the reading takes, are together of bulk at most 1048576: NARROWER than '..Said'. Prove '..Said' where nothing that the law and all that it calls make is longer than what came in: it says more and counts as full. Else prove '..UptoSaid'. A law counts once. -/
mutual
def uptoBulk {H : Type} : DataW H → Nat
  | .lit (.string bytes) => bytes.length + 1
  | .lit _ => 1
  | .nil => 1
  | .ptr d => uptoBulk d + 1
  | .slice elems spare => uptoBulkAll elems + uptoBulkAll spare + 1
  | .agg parts => uptoBulkAll parts + 1
  | .iface _ d => uptoBulk d + 1
  | .map entries => uptoBulkEntries entries + 1
  | .held _ => 1
def uptoBulkAll {H : Type} : List (DataW H) → Nat
  | [] => 0
  | d :: r => uptoBulk d + uptoBulkAll r
def uptoBulkEntries {H : Type} : List (Lit × DataW H) → Nat
  | [] => 0
  | x :: r => uptoBulkEntry x + uptoBulkEntries r
def uptoBulkEntry {H : Type} : Lit × DataW H → Nat
  | (.string bytes, d) => bytes.length + uptoBulk d + 1
  | (_, d) => uptoBulk d + 1
 end
def uptoSmall : (H : Type) → List (DataW H) → Bool := fun _ ds => decide (uptoBulkAll ds ≤ 1048576)
def OpenSpec.upto (s : _root_.Go.ChangeSpec) : _root_.Go.OpenSpec := { _root_.Go.OpenSpec.ofChange s with cond := some uptoSmall }

/-- 'spoorlaw9.ClassRuns', WHERE WHAT IT READS IS OF BULK AT MOST 1048576: true; the input reads as it did. -/
def classRunsUptoRow : OpenClaim := { program := "ytocbpbeklbhjkaa", sum := "5ea802d8b868e173994added98f7ef84463c8191e1fa6597fe4da702788d5cf7", func := "spoor/spoorlaw9.ClassRuns", spec := "classRuns", unfollowed := true, recurses := true, apart := false, narrowed := true }
def ClassRunsUptoSaid : Prop := classRunsUptoRow.holds Try.pinned (OpenSpec.upto classRunsSpec)

/-- 'spoorlaw9.ClassMakes', WHERE WHAT IT READS IS OF BULK AT MOST 1048576: true; the input reads as it did. -/
def classMakesUptoRow : OpenClaim := { program := "ytocbpbeklbhjkaa", sum := "5ea802d8b868e173994added98f7ef84463c8191e1fa6597fe4da702788d5cf7", func := "spoor/spoorlaw9.ClassMakes", spec := "classMakes", unfollowed := true, recurses := true, apart := false, narrowed := true }
def ClassMakesUptoSaid : Prop := classMakesUptoRow.holds Try.pinned (OpenSpec.upto classMakesSpec)

/-- 'spoorlaw9.ClassMembers', WHERE WHAT IT READS IS OF BULK AT MOST 1048576: true; the input reads as it did. -/
def classMembersUptoRow : OpenClaim := { program := "ytocbpbeklbhjkaa", sum := "5ea802d8b868e173994added98f7ef84463c8191e1fa6597fe4da702788d5cf7", func := "spoor/spoorlaw9.ClassMembers", spec := "classMembers", unfollowed := true, recurses := true, apart := false, narrowed := true }
def ClassMembersUptoSaid : Prop := classMembersUptoRow.holds Try.pinned (OpenSpec.upto classMembersSpec)

/-- 'spoorlaw9.ClassRises', WHERE WHAT IT READS IS OF BULK AT MOST 1048576: true; the input reads as it did. -/
def classRisesUptoRow : OpenClaim := { program := "ytocbpbeklbhjkaa", sum := "5ea802d8b868e173994added98f7ef84463c8191e1fa6597fe4da702788d5cf7", func := "spoor/spoorlaw9.ClassRises", spec := "classRises", unfollowed := true, recurses := true, apart := false, narrowed := true }
def ClassRisesUptoSaid : Prop := classRisesUptoRow.holds Try.pinned (OpenSpec.upto classRisesSpec)

/-- 'spoorlaw9.ClassEnds', WHERE WHAT IT READS IS OF BULK AT MOST 1048576: true; the input reads as it did. -/
def classEndsUptoRow : OpenClaim := { program := "ytocbpbeklbhjkaa", sum := "5ea802d8b868e173994added98f7ef84463c8191e1fa6597fe4da702788d5cf7", func := "spoor/spoorlaw9.ClassEnds", spec := "classEnds", unfollowed := true, recurses := true, apart := false, narrowed := true }
def ClassEndsUptoSaid : Prop := classEndsUptoRow.holds Try.pinned (OpenSpec.upto classEndsSpec)

/-- 'spoorlaw9.ClassCounts', WHERE WHAT IT READS IS OF BULK AT MOST 1048576: true; the input reads as it did. -/
def classCountsUptoRow : OpenClaim := { program := "ytocbpbeklbhjkaa", sum := "5ea802d8b868e173994added98f7ef84463c8191e1fa6597fe4da702788d5cf7", func := "spoor/spoorlaw9.ClassCounts", spec := "classCounts", unfollowed := true, recurses := true, apart := false, narrowed := true }
def ClassCountsUptoSaid : Prop := classCountsUptoRow.holds Try.pinned (OpenSpec.upto classCountsSpec)

end Rows
end Go.Proofs.Ytocbpbeklbhjkaa
