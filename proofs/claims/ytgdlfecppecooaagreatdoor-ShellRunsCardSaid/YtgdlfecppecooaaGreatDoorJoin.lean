/- The closed facts of a row, each in a theorem of its own: together they are too much for one. -/
import Derived.WalkKit
import Derived.ProofKit
set_option linter.all false
namespace Go.Proofs.YtgdlfecppecooaaGreatDoor.join
open Go Go.ChangeShapes Go.WideShapes Go.ChangeAt Go.RowKit
def p1 (P : Program) (_f : FuncId) (_fn : Func) (s : ChangeSpec) (c : OpenClaim) : Bool := (c.wf (OpenSpec.ofChange s) && laidOutB P && mapsRowed P)
def p2 (P : Program) (_f : FuncId) (fn : Func) (s : ChangeSpec) (c : OpenClaim) : Bool := (fn.params.all (P.readableRec ·) && namedTie P c.named s.vars && (c.stops == []) && (P.stops == []) && (c.knobs == []) && (P.stopKnobs == []))
def p3 (P : Program) (f : FuncId) (_fn : Func) (_s : ChangeSpec) (c : OpenClaim) : Bool := (c.inPlace == P.inPlace f)
def p4 (P : Program) (f : FuncId) (_fn : Func) (_s : ChangeSpec) (c : OpenClaim) : Bool := (c.unfollowed == P.unfollowed f)
def p5 (P : Program) (f : FuncId) (_fn : Func) (_s : ChangeSpec) (c : OpenClaim) : Bool := (c.recurses == P.recurses f)
def p6 (P : Program) (f : FuncId) (_fn : Func) (_s : ChangeSpec) (c : OpenClaim) : Bool := (c.named == P.varsNamed f)
def p7 (P : Program) (_f : FuncId) (fn : Func) (s : ChangeSpec) (c : OpenClaim) : Bool := ((c.maps == (fn.params.toList ++ s.plain.varTypes P).any (P.mapsRec ·)) && (c.ifaces == (fn.params.toList ++ s.plain.varTypes P).any (P.ifacesRec ·)) && (c.mapsOut == P.mapsAmong fn.resultTypes.toList) && (c.loops == (fn.params.toList ++ s.plain.varTypes P).any (P.loopsFrom ·)) && (c.wideKeys == (fn.params.toList ++ s.plain.varTypes P ++ fn.resultTypes.toList).any (P.wideKeysFrom ·)) && s.vars.all (P.varReadable ·) && fn.resultTypes.all (fun t => P.readableRec t && decide (t < P.types.size)) && (c.ifacesOut == fn.resultTypes.toList.any (P.ifacesRec ·)) && (c.loopsOut == fn.resultTypes.toList.any (P.loopsFrom ·)))
def p8 (P : Program) (_f : FuncId) (_fn : Func) (_s : ChangeSpec) (c : OpenClaim) : Bool := (c.plainKeys == P.plainKeys)
def p9 (P : Program) (_f : FuncId) (_fn : Func) (_s : ChangeSpec) (c : OpenClaim) : Bool := (c.shortTexts.isNone && P.stopsHeard && P.mayEnter)
def p10 (P : Program) (_f : FuncId) (_fn : Func) (_s : ChangeSpec) (c : OpenClaim) : Bool := (c.lifted == P.liftsFinal)
def p11 (P : Program) (_f : FuncId) (fn : Func) (_s : ChangeSpec) (c : OpenClaim) : Bool := ((P.make == some c.make) && (c.kinds == (if c.domain.isEmpty then [] else fn.params.toList.map fun t => match P.underlying t with | some (.int k) => some k | _ => none)) && (c.pinned == c.pinnedBy))
def p12 (P : Program) (_f : FuncId) (fn : Func) (s : ChangeSpec) (c : OpenClaim) : Bool := ((c.veiled == (fn.params.toList ++ s.plain.varTypes P ++ fn.resultTypes.toList).any (P.veiledRec ·)) && c.veiledFits P fn.params.toList (fn.params.toList ++ s.plain.varTypes P ++ fn.resultTypes.toList))
theorem facts {P : Program} {f : FuncId} {fn : Func} {s : ChangeSpec} {c : OpenClaim} (h1 : p1 P f fn s c = true) (h2 : p2 P f fn s c = true) (h3 : p3 P f fn s c = true) (h4 : p4 P f fn s c = true) (h5 : p5 P f fn s c = true) (h6 : p6 P f fn s c = true) (h7 : p7 P f fn s c = true) (h8 : p8 P f fn s c = true) (h9 : p9 P f fn s c = true) (h10 : p10 P f fn s c = true) (h11 : p11 P f fn s c = true) (h12 : p12 P f fn s c = true) : joinedFacts P f fn s c = true := by
  unfold p1 at h1; unfold p2 at h2; unfold p3 at h3; unfold p4 at h4; unfold p5 at h5; unfold p6 at h6; unfold p7 at h7; unfold p8 at h8; unfold p9 at h9; unfold p10 at h10; unfold p11 at h11; unfold p12 at h12
  unfold joinedFacts
  simp only [Bool.and_eq_true, and_assoc] at h1 h2 h7 h9 h11 h12 ⊢
  exact ⟨h1.1, h1.2.1, h1.2.2, h2.1, h2.2.1, h2.2.2.1, h2.2.2.2.1, h2.2.2.2.2.1, h2.2.2.2.2.2, h3, h4, h5, h6, h7.1, h7.2.1, h7.2.2.1, h7.2.2.2.1, h7.2.2.2.2.1, h7.2.2.2.2.2.1, h7.2.2.2.2.2.2.1, h7.2.2.2.2.2.2.2.1, h7.2.2.2.2.2.2.2.2, h8, h9.1, h9.2.1, h9.2.2, h10, h11.1, h11.2.1, h11.2.2, h12.1, h12.2⟩
end Go.Proofs.YtgdlfecppecooaaGreatDoor.join
