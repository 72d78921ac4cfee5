/-
  No cell of these rows narrows 'for every input' (looked for: loops, veiled, ifaces, maps, wideKeys, modest, calm, conditions, laid).
  DERIVED. THE GIVEN ROWS OF THIS SEAT. 4 by the template 'for every input the law returns true; each argument reads behind the call as it read before'; 0 by the template 'total and deterministic' (their statements: YtimfmipjhgonhaaGreatTotals.lean).
  GIVEN WITH THE SEED: the statements are not yours to turn. If you find one false, say at which input.
  Laid BY PROGRAM, IN A SANDBOX (cutbox-rows.mjs): the forced cells as the released guide's own fill.sh prints them over the translation 0133404749d1b04e… (all of the seat's roots in one cut). By AI agents, Wed Nov 11 2026. No macro, syntax, notation, axiom, sorry.
-/
import Derived.Test.YtimfmipjhgonhaaGreatChecked
import GoSem.Claim
import GoSem.ClaimJoined
import GoSem.ClaimMapViews
import Derived.JoinedTies
import Derived.KernelRfl
namespace Go.Proofs.YtimfmipjhgonhaaGreat
/- THE CELL 'sum', in the pinned program and in every row, IS THE sha256 OF THE DUMP (.gsa) THAT YtimfmipjhgonhaaGreatProg.lean LOADS. Nothing in Lean hashes anything: it is a label: what it is worth is what the hold of that sum in a sandbox is worth. -/
noncomputable def Tryz.pinned : Pinned := { name := "ytimfmipjhgonhaagreat", sum := "0133404749d1b04e3a3a1b0bfad06b5b9b261722ce6d94bd538a7abf8dbc494a", checked := Tryz.checked }
namespace Rows
def none {H : Type} : Left H := { results := [], args := [] }

/-- 'spoorlaw20.StreamRuns': WHATEVER THE INPUT: true; the input reads as it did. -/
def streamRunsSpec : ChangeSpec := { name := "streamRuns", fn := fun _ => fun
  | [] => { results := [.lit (.bool true)], args := [] }
  | _ => none }
def streamRunsRow : OpenClaim := { program := "ytimfmipjhgonhaagreat", sum := "0133404749d1b04e3a3a1b0bfad06b5b9b261722ce6d94bd538a7abf8dbc494a", func := "spoor/spoorlaw20.StreamRuns", spec := "streamRuns", inPlace := ["slices.overlaps[spoor/table.row[string, int]]", "internal/abi.NoEscape"], unfollowed := true, recurses := true, plainKeys := false, apart := false }
def StreamRunsSaid : Prop := streamRunsRow.holds Tryz.pinned (OpenSpec.ofChange streamRunsSpec)

/-- ITS FALSE NEIGHBOUR: 'it returns false'. Refute it at one input. -/
def streamRunsWrong : ChangeSpec := { name := "streamRuns", fn := fun _ => fun
  | [] => { results := [.lit (.bool false)], args := [] }
  | _ => none }
def StreamRunsWrongFalsely : Prop := streamRunsRow.holds Tryz.pinned (OpenSpec.ofChange streamRunsWrong)

/-- 'spoorlaw27.PointRuns': WHATEVER THE INPUT: true; the input reads as it did. -/
def pointRunsSpec : ChangeSpec := { name := "pointRuns", fn := fun _ => fun
  | [] => { results := [.lit (.bool true)], args := [] }
  | _ => none }
def pointRunsRow : OpenClaim := { program := "ytimfmipjhgonhaagreat", sum := "0133404749d1b04e3a3a1b0bfad06b5b9b261722ce6d94bd538a7abf8dbc494a", func := "spoor/spoorlaw27.PointRuns", spec := "pointRuns", inPlace := ["slices.overlaps[spoor/table.row[string, int]]", "internal/abi.NoEscape"], unfollowed := true, recurses := true, plainKeys := false, apart := false }
def PointRunsSaid : Prop := pointRunsRow.holds Tryz.pinned (OpenSpec.ofChange pointRunsSpec)

/-- ITS FALSE NEIGHBOUR: 'it returns false'. Refute it at one input. -/
def pointRunsWrong : ChangeSpec := { name := "pointRuns", fn := fun _ => fun
  | [] => { results := [.lit (.bool false)], args := [] }
  | _ => none }
def PointRunsWrongFalsely : Prop := pointRunsRow.holds Tryz.pinned (OpenSpec.ofChange pointRunsWrong)

/-- 'spoorlaw28.FollowRuns': WHATEVER THE INPUT: true; the input reads as it did. -/
def followRunsSpec : ChangeSpec := { name := "followRuns", fn := fun _ => fun
  | [] => { results := [.lit (.bool true)], args := [] }
  | _ => none }
def followRunsRow : OpenClaim := { program := "ytimfmipjhgonhaagreat", sum := "0133404749d1b04e3a3a1b0bfad06b5b9b261722ce6d94bd538a7abf8dbc494a", func := "spoor/spoorlaw28.FollowRuns", spec := "followRuns", inPlace := ["slices.overlaps[spoor/table.row[int, spoor/yard.file]]", "slices.overlaps[spoor/table.row[string, []byte]]", "slices.overlaps[spoor/table.row[int, string]]", "slices.overlaps[spoor/table.row[string, int]]", "internal/abi.NoEscape", "slices.overlaps[spoor/table.row[int, spoor/point.Point]]", "slices.overlaps[spoor/table.row[int, int]]"], unfollowed := true, recurses := true, plainKeys := false, apart := false }
def FollowRunsSaid : Prop := followRunsRow.holds Tryz.pinned (OpenSpec.ofChange followRunsSpec)

/-- ITS FALSE NEIGHBOUR: 'it returns false'. Refute it at one input. -/
def followRunsWrong : ChangeSpec := { name := "followRuns", fn := fun _ => fun
  | [] => { results := [.lit (.bool false)], args := [] }
  | _ => none }
def FollowRunsWrongFalsely : Prop := followRunsRow.holds Tryz.pinned (OpenSpec.ofChange followRunsWrong)

/-- 'spoorlaw29.ScriptRuns': WHATEVER THE INPUT: true; the input reads as it did. -/
def scriptRunsSpec : ChangeSpec := { name := "scriptRuns", fn := fun _ => fun
  | [] => { results := [.lit (.bool true)], args := [] }
  | _ => none }
def scriptRunsRow : OpenClaim := { program := "ytimfmipjhgonhaagreat", sum := "0133404749d1b04e3a3a1b0bfad06b5b9b261722ce6d94bd538a7abf8dbc494a", func := "spoor/spoorlaw29.ScriptRuns", spec := "scriptRuns", inPlace := ["slices.overlaps[spoor/table.row[string, []byte]]", "slices.overlaps[spoor/table.row[int, string]]", "slices.overlaps[spoor/table.row[string, int]]", "internal/abi.NoEscape", "slices.overlaps[spoor/table.row[int, spoor/point.Point]]", "slices.overlaps[spoor/table.row[int, spoor/yard.file]]", "slices.overlaps[spoor/table.row[int, int]]"], unfollowed := true, recurses := true, plainKeys := false, apart := false }
def ScriptRunsSaid : Prop := scriptRunsRow.holds Tryz.pinned (OpenSpec.ofChange scriptRunsSpec)

/-- ITS FALSE NEIGHBOUR: 'it returns false'. Refute it at one input. -/
def scriptRunsWrong : ChangeSpec := { name := "scriptRuns", fn := fun _ => fun
  | [] => { results := [.lit (.bool false)], args := [] }
  | _ => none }
def ScriptRunsWrongFalsely : Prop := scriptRunsRow.holds Tryz.pinned (OpenSpec.ofChange scriptRunsWrong)

/- THE SECOND FORM. 'bulk': how many values and letters a reading holds, each counted each time it is reached (what is shared counts as often as it is met; a slice's spare places count too). A statement '..UptoSaid' is the law's where the arguments, and the package variables that the reading takes, are together of bulk at most 1048576: NARROWER than '..Said'. Prove '..Said' where nothing that the law and all that it calls make is longer than what came in: it says more and counts as full. Else prove '..UptoSaid'. A law counts once. -/
mutual
def uptoBulk {H : Type} : DataW H → Nat
  | .lit (.string bytes) => bytes.length + 1
  | .lit _ => 1
  | .nil => 1
  | .ptr d => uptoBulk d + 1
  | .slice elems spare => uptoBulkAll elems + uptoBulkAll spare + 1
  | .agg parts => uptoBulkAll parts + 1
  | .iface _ d => uptoBulk d + 1
  | .map entries => uptoBulkEntries entries + 1
  | .held _ => 1
def uptoBulkAll {H : Type} : List (DataW H) → Nat
  | [] => 0
  | d :: r => uptoBulk d + uptoBulkAll r
def uptoBulkEntries {H : Type} : List (Lit × DataW H) → Nat
  | [] => 0
  | x :: r => uptoBulkEntry x + uptoBulkEntries r
def uptoBulkEntry {H : Type} : Lit × DataW H → Nat
  | (.string bytes, d) => bytes.length + uptoBulk d + 1
  | (_, d) => uptoBulk d + 1
 end
def uptoSmall : (H : Type) → List (DataW H) → Bool := fun _ ds => decide (uptoBulkAll ds ≤ 1048576)
def OpenSpec.upto (s : _root_.Go.ChangeSpec) : _root_.Go.OpenSpec := { _root_.Go.OpenSpec.ofChange s with cond := some uptoSmall }

/-- 'spoorlaw20.StreamRuns', WHERE WHAT IT READS IS OF BULK AT MOST 1048576: true; the input reads as it did. -/
def streamRunsUptoRow : OpenClaim := { program := "ytimfmipjhgonhaagreat", sum := "0133404749d1b04e3a3a1b0bfad06b5b9b261722ce6d94bd538a7abf8dbc494a", func := "spoor/spoorlaw20.StreamRuns", spec := "streamRuns", inPlace := ["slices.overlaps[spoor/table.row[string, int]]", "internal/abi.NoEscape"], unfollowed := true, recurses := true, plainKeys := false, apart := false, narrowed := true }
def StreamRunsUptoSaid : Prop := streamRunsUptoRow.holds Tryz.pinned (OpenSpec.upto streamRunsSpec)

/-- 'spoorlaw27.PointRuns', WHERE WHAT IT READS IS OF BULK AT MOST 1048576: true; the input reads as it did. -/
def pointRunsUptoRow : OpenClaim := { program := "ytimfmipjhgonhaagreat", sum := "0133404749d1b04e3a3a1b0bfad06b5b9b261722ce6d94bd538a7abf8dbc494a", func := "spoor/spoorlaw27.PointRuns", spec := "pointRuns", inPlace := ["slices.overlaps[spoor/table.row[string, int]]", "internal/abi.NoEscape"], unfollowed := true, recurses := true, plainKeys := false, apart := false, narrowed := true }
def PointRunsUptoSaid : Prop := pointRunsUptoRow.holds Tryz.pinned (OpenSpec.upto pointRunsSpec)

/-- 'spoorlaw28.FollowRuns', WHERE WHAT IT READS IS OF BULK AT MOST 1048576: true; the input reads as it did. -/
def followRunsUptoRow : OpenClaim := { program := "ytimfmipjhgonhaagreat", sum := "0133404749d1b04e3a3a1b0bfad06b5b9b261722ce6d94bd538a7abf8dbc494a", func := "spoor/spoorlaw28.FollowRuns", spec := "followRuns", inPlace := ["slices.overlaps[spoor/table.row[int, spoor/yard.file]]", "slices.overlaps[spoor/table.row[string, []byte]]", "slices.overlaps[spoor/table.row[int, string]]", "slices.overlaps[spoor/table.row[string, int]]", "internal/abi.NoEscape", "slices.overlaps[spoor/table.row[int, spoor/point.Point]]", "slices.overlaps[spoor/table.row[int, int]]"], unfollowed := true, recurses := true, plainKeys := false, apart := false, narrowed := true }
def FollowRunsUptoSaid : Prop := followRunsUptoRow.holds Tryz.pinned (OpenSpec.upto followRunsSpec)

/-- 'spoorlaw29.ScriptRuns', WHERE WHAT IT READS IS OF BULK AT MOST 1048576: true; the input reads as it did. -/
def scriptRunsUptoRow : OpenClaim := { program := "ytimfmipjhgonhaagreat", sum := "0133404749d1b04e3a3a1b0bfad06b5b9b261722ce6d94bd538a7abf8dbc494a", func := "spoor/spoorlaw29.ScriptRuns", spec := "scriptRuns", inPlace := ["slices.overlaps[spoor/table.row[string, []byte]]", "slices.overlaps[spoor/table.row[int, string]]", "slices.overlaps[spoor/table.row[string, int]]", "internal/abi.NoEscape", "slices.overlaps[spoor/table.row[int, spoor/point.Point]]", "slices.overlaps[spoor/table.row[int, spoor/yard.file]]", "slices.overlaps[spoor/table.row[int, int]]"], unfollowed := true, recurses := true, plainKeys := false, apart := false, narrowed := true }
def ScriptRunsUptoSaid : Prop := scriptRunsUptoRow.holds Tryz.pinned (OpenSpec.upto scriptRunsSpec)

end Rows
end Go.Proofs.YtimfmipjhgonhaaGreat
