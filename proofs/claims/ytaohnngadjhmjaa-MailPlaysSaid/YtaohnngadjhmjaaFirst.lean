/- mail.First at four boxes, the second of them nil; of no boxes; MailRuns. -/
import Derived.Test.YtaohnngadjhmjaaCalls
import Derived.Lib.Hide
namespace Go.Proofs.Ytaohnngadjhmjaa.mail
open Go.Conc Go.RowKit
variable {B : Nat} {w : World} {L : List BoxS}
/-- Four places of a slice: boxes at 0, 2, 3. -/
structure Four (w : World) (m b0 b1 b2 : Nat) : Prop where
  c0 : w.cell? ⟨m, 0, none⟩ = some (.pointer (some ⟨b0, 0, none⟩))
  c1 : w.cell? ⟨m, 1, none⟩ = some (.pointer none)
  c2 : w.cell? ⟨m, 2, none⟩ = some (.pointer (some ⟨b1, 0, none⟩))
  c3 : w.cell? ⟨m, 3, none⟩ = some (.pointer (some ⟨b2, 0, none⟩))
set_option maxHeartbeats 1000000 in
theorem First_0 {i0 i1 i2 m : Nat} {x0 x1 x2 : BoxS} (h0 : L[i0]? = some x0) (H : Boxes B w L) (hB : B ≤ w.heap.size) (F : Four w m x0.b x1.b x2.b) (v : Int) {q : List Value} (hq : x0.q = .int .i64 v :: q) :
    Calls Try.prog 12 #[.slice (some ⟨m, 0, none⟩) 4 4] w fun e w' => e = .returned (.tuple #[.int .i64 0, .int .i64 v, .bool true]) ∧ Boxes B w' (L.set i0 { x0 with q }) ∧ Below B w w' := by
  have r0 := Lib.hid (Recv_some_int h0 H hB v hq)
  clear hq
  obtain ⟨c0, c1, c2, c3⟩ := F
  go_enter Try.func12, Try.ntmps12
  go_wp2_with fail
  refine wp_loop_rounds 5 ?_
  rw [rounds_succ]
  go_wp2_with (go_at_call 9; refine r0.out.mono ?_; rintro e w' ⟨rfl, hq⟩)
  go_ret3
  exact ⟨rfl, hq⟩
set_option maxHeartbeats 1000000 in
theorem First_1 {i0 i1 i2 m : Nat} {x0 x1 x2 : BoxS} (h0 : L[i0]? = some x0) (h1 : L[i1]? = some x1) (H : Boxes B w L) (hB : B ≤ w.heap.size) (F : Four w m x0.b x1.b x2.b) (e0 : x0.q = []) (v : Int) {q : List Value} (hq : x1.q = .int .i64 v :: q) :
    Calls Try.prog 12 #[.slice (some ⟨m, 0, none⟩) 4 4] w fun e w' => e = .returned (.tuple #[.int .i64 2, .int .i64 v, .bool true]) ∧ Boxes B w' (L.set i1 { x1 with q }) ∧ Below B w w' := by
  have r0 := Lib.hid (Recv_none_int h0 H e0)
  have r1 := Lib.hid (Recv_some_int h1 H hB v hq)
  clear hq
  clear e0
  obtain ⟨c0, c1, c2, c3⟩ := F
  go_enter Try.func12, Try.ntmps12
  go_wp2_with fail
  refine wp_loop_rounds 5 ?_
  rw [rounds_succ]
  go_wp2_with (go_at_call 9; refine r0.out.mono ?_; rintro e w' ⟨rfl, rfl⟩)
  rw [rounds_succ]
  go_wp2_with fail
  rw [rounds_succ]
  go_wp2_with (go_at_call 9; refine r1.out.mono ?_; rintro e w' ⟨rfl, hq⟩)
  go_ret3
  exact ⟨rfl, hq⟩
set_option maxHeartbeats 1000000 in
theorem First_2 {i0 i1 i2 m : Nat} {x0 x1 x2 : BoxS} (h0 : L[i0]? = some x0) (h1 : L[i1]? = some x1) (h2 : L[i2]? = some x2) (H : Boxes B w L) (hB : B ≤ w.heap.size) (F : Four w m x0.b x1.b x2.b) (e0 : x0.q = []) (e1 : x1.q = []) (v : Int) {q : List Value} (hq : x2.q = .int .i64 v :: q) :
    Calls Try.prog 12 #[.slice (some ⟨m, 0, none⟩) 4 4] w fun e w' => e = .returned (.tuple #[.int .i64 3, .int .i64 v, .bool true]) ∧ Boxes B w' (L.set i2 { x2 with q }) ∧ Below B w w' := by
  have r0 := Lib.hid (Recv_none_int h0 H e0)
  have r1 := Lib.hid (Recv_none_int h1 H e1)
  have r2 := Lib.hid (Recv_some_int h2 H hB v hq)
  clear hq
  clear e0
  clear e1
  obtain ⟨c0, c1, c2, c3⟩ := F
  go_enter Try.func12, Try.ntmps12
  go_wp2_with fail
  refine wp_loop_rounds 5 ?_
  rw [rounds_succ]
  go_wp2_with (go_at_call 9; refine r0.out.mono ?_; rintro e w' ⟨rfl, rfl⟩)
  rw [rounds_succ]
  go_wp2_with fail
  rw [rounds_succ]
  go_wp2_with (go_at_call 9; refine r1.out.mono ?_; rintro e w' ⟨rfl, rfl⟩)
  rw [rounds_succ]
  go_wp2_with (go_at_call 9; refine r2.out.mono ?_; rintro e w' ⟨rfl, hq⟩)
  go_ret3
  exact ⟨rfl, hq⟩
set_option maxHeartbeats 1000000 in
theorem First_3 {i0 i1 i2 m : Nat} {x0 x1 x2 : BoxS} (h0 : L[i0]? = some x0) (h1 : L[i1]? = some x1) (h2 : L[i2]? = some x2) (H : Boxes B w L) (F : Four w m x0.b x1.b x2.b) (e0 : x0.q = []) (e1 : x1.q = []) (e2 : x2.q = []) :
    Calls Try.prog 12 #[.slice (some ⟨m, 0, none⟩) 4 4] w fun e w' => e = .returned (.tuple #[.int .i64 (-1), .int .i64 0, .bool false]) ∧ w' = w := by
  have r0 := Lib.hid (Recv_none_int h0 H e0)
  have r1 := Lib.hid (Recv_none_int h1 H e1)
  have r2 := Lib.hid (Recv_none_int h2 H e2)
  clear e0
  clear e1
  clear e2
  obtain ⟨c0, c1, c2, c3⟩ := F
  go_enter Try.func12, Try.ntmps12
  go_wp2_with fail
  refine wp_loop_rounds 5 ?_
  rw [rounds_succ]
  go_wp2_with (go_at_call 9; refine r0.out.mono ?_; rintro e w' ⟨rfl, rfl⟩)
  rw [rounds_succ]
  go_wp2_with fail
  rw [rounds_succ]
  go_wp2_with (go_at_call 9; refine r1.out.mono ?_; rintro e w' ⟨rfl, rfl⟩)
  rw [rounds_succ]
  go_wp2_with (go_at_call 9; refine r2.out.mono ?_; rintro e w' ⟨rfl, rfl⟩)
  rw [rounds_succ]
  go_wp2_with fail
  go_ret3
  exact ⟨rfl, rfl⟩
theorem First_nothing (w : World) : Calls Try.prog 13 #[.slice none 0 0] w fun e w' => e = .returned (.tuple #[.int .i64 (-1), .string ⟨#[]⟩, .bool false]) ∧ w' = w := by
  go_enter Try.func13, Try.ntmps13
  go_wp2_with fail
  refine wp_loop_rounds 1 ?_
  rw [rounds_succ]
  go_wp2
  go_ret3
  exact ⟨rfl, rfl⟩
end Go.Proofs.Ytaohnngadjhmjaa.mail

