/- plain, walked. -/
import Derived.Test.YtooockbfagkknaaGreatDoorPar1
namespace Go.Proofs.YtooockbfagkknaaGreatDoor.syn
open Go.RowKit Go.Proofs.YtooockbfagkknaaGreatDoor.sl Go.Proofs.YtooockbfagkknaaGreatDoor.cls
def plainB (x : Nd) : Bool := (x.op == 2 || x.r.length == 0) && (x.op == 5 || (x.mn == 0 && x.mx == 0 && !x.lz)) && (x.op == 6 || x.cap == 0)
abbrev agN (y : NdV) : Value := .agg #[.int .i64 y.x.op, .slice y.a y.n y.c, .int .i64 y.x.mn, .int .i64 y.x.mx, .bool y.x.lz, .int .i64 y.x.cap, .int .i64 y.x.kids]
set_option maxHeartbeats 4000000 in
set_option maxRecDepth 100000 in
theorem plainC (y : NdV) (hn : y.n = y.x.r.length) (w : World) : Calls Tryz.prog 54 #[agN y] w fun e w' => e = .returned (.bool (plainB y.x)) ∧ Below w.heap.size w w' := by
  obtain ⟨⟨op, r, mn, mx, lz, cap, kids⟩, a, n, c⟩ := y
  simp only at hn
  subst hn
  suffices key : ∀ b, plainB ⟨op, r, mn, mx, lz, cap, kids⟩ = b → Calls Tryz.prog 54 #[.agg #[.int .i64 op, .slice a r.length c, .int .i64 mn, .int .i64 mx, .bool lz, .int .i64 cap, .int .i64 kids]] w fun e w' => e = .returned (.bool b) ∧ Below w.heap.size w w' from key _ rfl
  intro b hb
  have HB := Lib.hid hb
  clear hb
  unfold plainB at HB
  simp only at HB
  generalize r.length = rl at HB ⊢
  go_enter Tryz.func54, Tryz.ntmps54
  go_wp2_with fail
  all_goals (go_ret; refine ⟨congrArg _ ?_, (Below.refl w.heap.size w).alloc (Nat.le_refl _) _⟩; rw [← HB.out]; show Value.bool _ = Value.bool _; congr 1)
  all_goals (rw [Bool.eq_iff_iff]; simp_all)
end Go.Proofs.YtooockbfagkknaaGreatDoor.syn
