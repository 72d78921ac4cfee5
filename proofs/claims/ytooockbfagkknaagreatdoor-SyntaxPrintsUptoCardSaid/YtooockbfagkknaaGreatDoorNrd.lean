/- Nodes that can be read; what the walk over nodes computes. -/
import Derived.Test.YtooockbfagkknaaGreatDoorRight2
namespace Go.Proofs.YtooockbfagkknaaGreatDoor.syn
open Go.RowKit Go.Proofs.YtooockbfagkknaaGreatDoor.sl Go.Proofs.YtooockbfagkknaaGreatDoor.cls
/-- The kids of a node, one behind the other. -/
def kidsGo (f : Nat → Nat → Bool × Nat × Nat) : Nat → Nat → Nat → Bool × Nat × Nat
  | 0, a, g => (true, a, g)
  | k + 1, a, g => if (f a g).1 = false then f a g else kidsGo f k (f a g).2.1 (f a g).2.2
def oneF (L : List Nd) : Nat → Nat → Nat → Bool × Nat × Nat
  | 0, a, g => (false, a, g)
  | n + 1, a, g => if L.length ≤ a then (false, a, g) else
    if (shapedF (L.getD a (nd 0)) g).2 = false then (false, a, g) else kidsGo (oneF L n) (shapedF (L.getD a (nd 0)) g).1.toNat (a + 1) (if (L.getD a (nd 0)).op = 6 then g + 1 else g)
/-- Nodes that can be read. -/
structure Nrd (W : World) (la : Option Addr) (lc : Nat) (ls : List NdV) : Prop where
  rd : Rd eN W la ls lc
  each : ∀ y ∈ ls, y.n = y.x.r.length ∧ Rd er W y.a y.x.r y.c ∧ y.x.r.length ≤ 2000000 ∧ y.x.kids ≤ 9223372036854775807
theorem Nrd.kept {W w : World} {la : Option Addr} {lc : Nat} {ls : List NdV} (h : Nrd W la lc ls) (b : Below W.heap.size W w) : Nrd w la lc ls :=
  ⟨h.rd.kept b, fun y hy => ⟨(h.each y hy).1, (h.each y hy).2.1.kept b, (h.each y hy).2.2⟩⟩
abbrev ncell (y : NdV) : Obj := .cells #[.int .i64 y.x.op, .slice y.a y.n y.c, .int .i64 y.x.mn, .int .i64 y.x.mx, .bool y.x.lz, .int .i64 y.x.cap, .int .i64 y.x.kids] 35
theorem below_drew {B : Nat} {a w : World} (h : Below B a w) : Below B a w.drew := ⟨h.os, h.tape, h.output, h.size, h.block⟩
theorem copied_below {B : Nat} {a w : World} (h : Below B a w) (hB : B ≤ w.heap.size) (y : NdV) : Below B a (w.alloc (ncell y)).drew := below_drew (h.alloc hB _)
theorem copied_old {w : World} {P : Nat} {o : Obj} (h : w.heap[P]? = some o) (y : NdV) : ((w.alloc (ncell y)).drew).heap[P]? = some o := ((copied_below (Below.refl w.heap.size w) (Nat.le_refl _) y).block P (heap_lt h)).trans h
theorem copied_new (w : World) (y : NdV) : ((w.alloc (ncell y)).drew).heap[w.heap.size]? = some (ncell y) := heap_alloc_new w _
end Go.Proofs.YtooockbfagkknaaGreatDoor.syn
