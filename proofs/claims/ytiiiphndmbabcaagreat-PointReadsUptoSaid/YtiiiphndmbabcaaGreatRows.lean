/-
  No cell of these rows narrows 'for every input' (looked for: loops, veiled, ifaces, maps, wideKeys, modest, calm, conditions, laid).
  DERIVED. THE GIVEN ROWS OF THIS SEAT. 3 by the template 'for every input the law returns true; each argument reads behind the call as it read before'; 0 by the template 'total and deterministic' (their statements: YtiiiphndmbabcaaGreatTotals.lean).
  GIVEN WITH THE SEED: the statements are not yours to turn. If you find one false, say at which input.
  Laid BY PROGRAM, IN A SANDBOX (cutbox-rows.mjs): the forced cells as the released guide's own fill.sh prints them over the translation aa4216050e9a0b21… (all of the seat's roots in one cut). By AI agents, Wed Nov 11 2026. No macro, syntax, notation, axiom, sorry.
-/
import Derived.Test.YtiiiphndmbabcaaGreatChecked
import GoSem.Claim
import GoSem.ClaimJoined
import GoSem.ClaimMapViews
import Derived.JoinedTies
import Derived.KernelRfl
namespace Go.Proofs.YtiiiphndmbabcaaGreat
/- THE CELL 'sum', in the pinned program and in every row, IS THE sha256 OF THE DUMP (.gsa) THAT YtiiiphndmbabcaaGreatProg.lean LOADS. Nothing in Lean hashes anything: it is a label: what it is worth is what the hold of that sum in a sandbox is worth. -/
noncomputable def Tryz.pinned : Pinned := { name := "ytiiiphndmbabcaagreat", sum := "aa4216050e9a0b21d15239dc0bdc428b465d198da175570c1a0584c998cd3581", checked := Tryz.checked }
namespace Rows
def none {H : Type} : Left H := { results := [], args := [] }

/-- 'spoorlaw27.PointAny': WHATEVER THE INPUT: true; the input reads as it did. -/
def pointAnySpec : ChangeSpec := { name := "pointAny", fn := fun _ => fun
  | [d1, d2] => { results := [.lit (.bool true)], args := [d1, d2] }
  | _ => none }
def pointAnyRow : OpenClaim := { program := "ytiiiphndmbabcaagreat", sum := "aa4216050e9a0b21d15239dc0bdc428b465d198da175570c1a0584c998cd3581", func := "spoor/spoorlaw27.PointAny", spec := "pointAny", inPlace := ["slices.overlaps[spoor/table.row[string, int]]", "internal/abi.NoEscape"], unfollowed := true, recurses := true, apart := false }
def PointAnySaid : Prop := pointAnyRow.holds Tryz.pinned (OpenSpec.ofChange pointAnySpec)

/-- ITS FALSE NEIGHBOUR: 'it returns false'. Refute it at one input. -/
def pointAnyWrong : ChangeSpec := { name := "pointAny", fn := fun _ => fun
  | [d1, d2] => { results := [.lit (.bool false)], args := [d1, d2] }
  | _ => none }
def PointAnyWrongFalsely : Prop := pointAnyRow.holds Tryz.pinned (OpenSpec.ofChange pointAnyWrong)

/-- 'spoorlaw27.PointReads': WHATEVER THE INPUT: true; the input reads as it did. -/
def pointReadsSpec : ChangeSpec := { name := "pointReads", fn := fun _ => fun
  | [d1, d2] => { results := [.lit (.bool true)], args := [d1, d2] }
  | _ => none }
def pointReadsRow : OpenClaim := { program := "ytiiiphndmbabcaagreat", sum := "aa4216050e9a0b21d15239dc0bdc428b465d198da175570c1a0584c998cd3581", func := "spoor/spoorlaw27.PointReads", spec := "pointReads", inPlace := ["slices.overlaps[spoor/table.row[string, int]]", "internal/abi.NoEscape"], unfollowed := true, recurses := true, apart := false }
def PointReadsSaid : Prop := pointReadsRow.holds Tryz.pinned (OpenSpec.ofChange pointReadsSpec)

/-- ITS FALSE NEIGHBOUR: 'it returns false'. Refute it at one input. -/
def pointReadsWrong : ChangeSpec := { name := "pointReads", fn := fun _ => fun
  | [d1, d2] => { results := [.lit (.bool false)], args := [d1, d2] }
  | _ => none }
def PointReadsWrongFalsely : Prop := pointReadsRow.holds Tryz.pinned (OpenSpec.ofChange pointReadsWrong)

/-- 'spoorlaw20.StreamWell': WHATEVER THE INPUT: true; the input reads as it did. -/
def streamWellSpec : ChangeSpec := { name := "streamWell", fn := fun _ => fun
  | [d1, d2] => { results := [.lit (.bool true)], args := [d1, d2] }
  | _ => none }
def streamWellRow : OpenClaim := { program := "ytiiiphndmbabcaagreat", sum := "aa4216050e9a0b21d15239dc0bdc428b465d198da175570c1a0584c998cd3581", func := "spoor/spoorlaw20.StreamWell", spec := "streamWell", inPlace := ["slices.overlaps[spoor/table.row[string, int]]", "internal/abi.NoEscape"], unfollowed := true, recurses := true, apart := false }
def StreamWellSaid : Prop := streamWellRow.holds Tryz.pinned (OpenSpec.ofChange streamWellSpec)

/-- ITS FALSE NEIGHBOUR: 'it returns false'. Refute it at one input. -/
def streamWellWrong : ChangeSpec := { name := "streamWell", fn := fun _ => fun
  | [d1, d2] => { results := [.lit (.bool false)], args := [d1, d2] }
  | _ => none }
def StreamWellWrongFalsely : Prop := streamWellRow.holds Tryz.pinned (OpenSpec.ofChange streamWellWrong)

/- THE SECOND FORM. 'bulk': how many values and letters a reading holds, each counted each time it is reached (what is shared counts as often as it is met; a slice's spare places count too). A statement '..UptoSaid' is the law's where the arguments, and the package variables that the reading takes, are together of bulk at most 1048576: NARROWER than '..Said'. Prove '..Said' where nothing that the law and all that it calls make is longer than what came in: it says more and counts as full. Else prove '..UptoSaid'. A law counts once. -/
mutual
def uptoBulk {H : Type} : DataW H → Nat
  | .lit (.string bytes) => bytes.length + 1
  | .lit _ => 1
  | .nil => 1
  | .ptr d => uptoBulk d + 1
  | .slice elems spare => uptoBulkAll elems + uptoBulkAll spare + 1
  | .agg parts => uptoBulkAll parts + 1
  | .iface _ d => uptoBulk d + 1
  | .map entries => uptoBulkEntries entries + 1
  | .held _ => 1
def uptoBulkAll {H : Type} : List (DataW H) → Nat
  | [] => 0
  | d :: r => uptoBulk d + uptoBulkAll r
def uptoBulkEntries {H : Type} : List (Lit × DataW H) → Nat
  | [] => 0
  | x :: r => uptoBulkEntry x + uptoBulkEntries r
def uptoBulkEntry {H : Type} : Lit × DataW H → Nat
  | (.string bytes, d) => bytes.length + uptoBulk d + 1
  | (_, d) => uptoBulk d + 1
 end
def uptoSmall : (H : Type) → List (DataW H) → Bool := fun _ ds => decide (uptoBulkAll ds ≤ 1048576)
def OpenSpec.upto (s : _root_.Go.ChangeSpec) : _root_.Go.OpenSpec := { _root_.Go.OpenSpec.ofChange s with cond := some uptoSmall }

/-- 'spoorlaw27.PointAny', WHERE WHAT IT READS IS OF BULK AT MOST 1048576: true; the input reads as it did. -/
def pointAnyUptoRow : OpenClaim := { program := "ytiiiphndmbabcaagreat", sum := "aa4216050e9a0b21d15239dc0bdc428b465d198da175570c1a0584c998cd3581", func := "spoor/spoorlaw27.PointAny", spec := "pointAny", inPlace := ["slices.overlaps[spoor/table.row[string, int]]", "internal/abi.NoEscape"], unfollowed := true, recurses := true, apart := false, narrowed := true }
def PointAnyUptoSaid : Prop := pointAnyUptoRow.holds Tryz.pinned (OpenSpec.upto pointAnySpec)

/-- 'spoorlaw27.PointReads', WHERE WHAT IT READS IS OF BULK AT MOST 1048576: true; the input reads as it did. -/
def pointReadsUptoRow : OpenClaim := { program := "ytiiiphndmbabcaagreat", sum := "aa4216050e9a0b21d15239dc0bdc428b465d198da175570c1a0584c998cd3581", func := "spoor/spoorlaw27.PointReads", spec := "pointReads", inPlace := ["slices.overlaps[spoor/table.row[string, int]]", "internal/abi.NoEscape"], unfollowed := true, recurses := true, apart := false, narrowed := true }
def PointReadsUptoSaid : Prop := pointReadsUptoRow.holds Tryz.pinned (OpenSpec.upto pointReadsSpec)

/-- 'spoorlaw20.StreamWell', WHERE WHAT IT READS IS OF BULK AT MOST 1048576: true; the input reads as it did. -/
def streamWellUptoRow : OpenClaim := { program := "ytiiiphndmbabcaagreat", sum := "aa4216050e9a0b21d15239dc0bdc428b465d198da175570c1a0584c998cd3581", func := "spoor/spoorlaw20.StreamWell", spec := "streamWell", inPlace := ["slices.overlaps[spoor/table.row[string, int]]", "internal/abi.NoEscape"], unfollowed := true, recurses := true, apart := false, narrowed := true }
def StreamWellUptoSaid : Prop := streamWellUptoRow.holds Tryz.pinned (OpenSpec.upto streamWellSpec)

end Rows
end Go.Proofs.YtiiiphndmbabcaaGreat
