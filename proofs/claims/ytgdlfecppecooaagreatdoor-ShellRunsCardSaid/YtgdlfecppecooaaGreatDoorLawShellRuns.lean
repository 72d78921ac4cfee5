/- ShellRuns: whatever the input (there is none), the call returns true and leaves what was there as it was. No conditions. -/
import Derived.Test.YtgdlfecppecooaaGreatDoorCards
import Derived.Test.YtgdlfecppecooaaGreatDoorTie
import Derived.Test.YtgdlfecppecooaaGreatDoorEvShellRuns
import Derived.Test.YtgdlfecppecooaaGreatDoorFactShellRuns
import Derived.Test.YtgdlfecppecooaaGreatDoorFrame
import Derived.Test.YtgdlfecppecooaaGreatDoorShGoes
import Derived.Test.YtgdlfecppecooaaGreatDoorShPlain
import Derived.Stop.LaidErr
import Derived.LaidLaws
import Derived.Plain9
import Derived.Deep.DeepHandedRow
import Derived.SevenTiedAt
set_option linter.all false
namespace Go.Proofs.YtgdlfecppecooaaGreatDoor.shellRuns
open Go.ChangeShapes Go.WideShapes Go.ChangeAt Go.RowKit
theorem own : ownKnob Tryz.prog.godebug = none := by kernel_rfl
/-! What the row lists: two errors; a world that holds what it lists. -/
theorem star : "*" ++ "errors.errorString" = "*errors.errorString" := by decide
theorem rowE (u : TypeId) (h : Tryz.prog.typeName? 3 u = some "*errors.errorString") : u = 396 :=
  typeName_ptr_named (nm := "errors.errorString") (by rw [star]; kernel_rfl) (by kernel_rfl) (by decide) u (by rw [star]; exact h)
theorem gR : Tryz.prog.globalNamed "strconv.ErrRange" = some 2 := by kernel_rfl
theorem gS : Tryz.prog.globalNamed "strconv.ErrSyntax" = some 1 := by kernel_rfl
theorem gRT : (Tryz.prog.globals[2]?).map (·.type) = some 52 := by kernel_rfl
theorem gST : (Tryz.prog.globals[1]?).map (·.type) = some 52 := by kernel_rfl
theorem cE : Tryz.prog.cellsOf 398 = 1 := by kernel_rfl
theorem cS : Tryz.prog.cellsOf 9 = 1 := by kernel_rfl
theorem cell_of {P : Program} {W : World} {n : String} {g : Nat} {zero x : Array Value} {t : TypeId} (hsh : W.ShapedOpen P) (hn : P.globalNamed n = some g) (hl : g < P.globals.size)
    (hr : ((begin P (fun _ _ => 0) default).world.heap[g]?).bind Obj.row? = some (zero, t)) (hv : W.var? P n = some x) : W.heap[g]? = some (.cells x t) := by
  obtain ⟨cs, h, _⟩ := hsh.1 g zero t hl hr
  unfold World.var? at hv
  rw [hn, Option.bind_some, h] at hv
  cases hv
  exact h
theorem spot_of {W : World} {a : Addr} {v : Value} (h : W.cell? a = some v) : a.spot = none := by
  cases q : a.spot with
  | none => rfl
  | some k =>
    unfold World.cell? at h
    split at h
    · simp [q] at h
    · cases h
theorem errs {W : World} (h : laidMetH Tryz.prog Rows.shellRunsRow.laid W) (hsh : W.ShapedOpen Tryz.prog) : ∃ a1 a2 : Addr, W.heap[1]? = some (.cells #[.iface 396 (.pointer (some a1))] 52 (0, 0)) ∧ W.heap[2]? = some (.cells #[.iface 396 (.pointer (some a2))] 52 (0, 0)) ∧ a1.spot = none ∧ a2.spot = none := by
  have h1 : laidMet Tryz.prog [("math/bits.deBruijn32tab", Rows.laid_math_bits_deBruijn32tab), ("math/bits.deBruijn64tab", Rows.laid_math_bits_deBruijn64tab), ("internal/strconv.uint64pow10", Rows.laid_internal_strconv_uint64pow10), ("strconv.ErrRange", Rows.laid_strconv_ErrRange), ("strconv.ErrSyntax", Rows.laid_strconv_ErrSyntax)] W := h
  have h2 := h1.tail.tail.tail
  obtain ⟨a2, _, v2, c2, _, _⟩ := laid_sentinel h2 gR gRT Tryz.underlying52 rowE Tryz.underlying396 Tryz.underlying398 rfl rfl Tryz.underlying9 cE cS
  obtain ⟨a1, _, v1, c1, _, _⟩ := laid_sentinel h2.tail gS gST Tryz.underlying52 rowE Tryz.underlying396 Tryz.underlying398 rfl rfl Tryz.underlying9 cE cS
  exact ⟨a1, a2, cell_of (zero := #[.nilIface]) hsh gS (of_decide_eq_true (by kernel_rfl)) (by kernel_rfl) v1, cell_of (zero := #[.nilIface]) hsh gR (of_decide_eq_true (by kernel_rfl)) (by kernel_rfl) v2, spot_of c1, spot_of c2⟩
def litsOf (d : DataW Unit) : Array Value := match d with
  | .agg l => (l.map fun x => match x with
    | .lit (.int k z) => Value.int k z
    | _ => .bool false).toArray
  | _ => #[]
def putAll (h : Array Obj) (g : Nat) (c : Array Value) : Array Obj := h.modify g fun
  | .cells _ t frozen => .cells c t frozen
  | o => o
def textR : ByteArray := ⟨#[118, 97, 108, 117, 101, 32, 111, 117, 116, 32, 111, 102, 32, 114, 97, 110, 103, 101]⟩
def textS : ByteArray := ⟨#[105, 110, 118, 97, 108, 105, 100, 32, 115, 121, 110, 116, 97, 120]⟩
noncomputable def low : Nat := (World.holding Tryz.prog default ⟨#[], #[], []⟩).heap.size
/-- A world that holds what the row lists. -/
noncomputable def laidWorld (os : Os) : World :=
  let w0 := World.holding Tryz.prog os ⟨#[.cells #[.string textR] 398, .cells #[.string textS] 398], #[], []⟩
  { w0 with heap := putAll (putAll (putAll (putAll (putAll w0.heap 4 (litsOf Rows.laid_math_bits_deBruijn32tab)) 5 (litsOf Rows.laid_math_bits_deBruijn64tab)) 3 (litsOf Rows.laid_internal_strconv_uint64pow10)) 2 #[.iface 396 (.pointer (some ⟨low, 0, none⟩))]) 1 #[.iface 396 (.pointer (some ⟨low + 1, 0, none⟩))] }
theorem laid_met (os : Os) : laidMet Tryz.prog Rows.shellRunsRow.laid ((laidWorld os).forCall (fun _ _ => 0) ⟨#[], #[], []⟩).memory :=
  laidMet_of_run' 8 (by kernel_rfl) (by kernel_rfl)
theorem reads (os : Os) {H : Type} (enc : TypeId × Value → H) : ∃ places, DataW.whole enc Tryz.prog ((laidWorld os).forCall (fun _ _ => 0) ⟨#[], #[], []⟩).memory Tryz.f3.params.toList Rows.shellRunsSpec.vars false (#[] : Array Value).toList 8 = some ([], [], places) :=
  ⟨[], by kernel_rfl⟩
set_option maxRecDepth 100000 in
theorem lifted (os : Os) (started : os.Started) (H : Type) (enc : TypeId × Value → H) (F : Stop.Interp) :
    ReturnsInHanded {} Tryz.checked os 3 .any ((OpenSpec.ofChange Rows.shellRunsSpec).preRow enc Tryz.prog Tryz.f3 Rows.shellRunsRow.domain false Rows.shellRunsRow.laid) (((OpenSpec.ofChange Rows.shellRunsSpec).at F).post enc Tryz.prog Tryz.f3 false true false false) := by
  obtain ⟨places, hx⟩ := reads os enc
  refine returnsInHanded_of_row (C := Tryz.checked) (s := OpenSpec.ofChange Rows.shellRunsSpec) own started (by kernel_rfl) Tryz.func3
    (witness_row_at (enc := enc) (C := Tryz.checked) false (laidWorld os) #[] rfl (by kernel_rfl) (by kernel_rfl) (by kernel_rfl)
      (OpenSpec.preRow_of_cond 8 hx (by kernel_rfl) (fun k hk => by cases hk) (by kernel_rfl) (laid_met os))) ?_
  intro W base args ds gs before hval hW _ _ _ hL hsh _
  have hW0 := hW
  obtain ⟨p, q, hA, hV, _, _, _⟩ := hW0
  have hA : DataW.TrodAll enc Tryz.prog W 0 (fun _ => true) true [] args.toList ds p := hA
  obtain ⟨ha, rfl, rfl⟩ := trodAll_none hA
  obtain ⟨rfl, rfl⟩ := trodVars_none hV
  obtain rfl : args = #[] := by cases args; simp_all
  obtain ⟨a1, a2, w1, w2, s1, s2⟩ := errs hL hsh
  refine (ev.shellRuns W w1 w2 s1 s2).mono fun e W' ⟨he, hb⟩ => ⟨_, he, ?_⟩
  exact frame.post_law (B := 4) hW rfl rfl (by kernel_rfl) (by decide +kernel) rfl Tryz.underlying4 hb
set_option maxRecDepth 100000 in
theorem said : Rows.ShellRunsSaid :=
  OpenClaim.holds_of_cond 3 Tryz.f3 rfl rfl rfl rfl rfl rfl rfl ⟨rfl, rfl, rfl, rfl, rfl⟩ rfl rfl rfl rfl rfl name Tryz.func3 facts
    inst wrap
    (fun os started H enc _ F => by rw [OpenClaim.pre_eq_preRow]; exact lifted os started H enc F)
theorem proved : Rows.ShellRunsCardSaid :=
  Claim7.holds_tied_plain_at .later [] _ _ _ _ said (fun _ h => by cases h) wf (fun _ h => by cases h) shellRuns_row_tie rfl ⟨rfl, rfl⟩ main rfl plain goes
#print axioms proved
end Go.Proofs.YtgdlfecppecooaaGreatDoor.shellRuns
