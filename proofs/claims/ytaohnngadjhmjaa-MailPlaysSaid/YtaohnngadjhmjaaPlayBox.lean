/- The calls on boxes of int; what they leave alone is said exactly. -/
import Derived.Test.YtaohnngadjhmjaaFirst
namespace Go.Proofs.Ytaohnngadjhmjaa.mail
open Go.Conc Go.RowKit
variable {B : Nat} {w : World} {L : List BoxS}
/-- All but the box's own two blocks stays. -/
def Off (x : BoxS) (w w' : World) : Prop := w'.os = w.os ∧ w'.tape = w.tape ∧ w'.output = w.output ∧ w'.heap.size = w.heap.size ∧ ∀ k, k ≠ x.b → k ≠ x.c → w'.heap[k]? = w.heap[k]?
theorem Off.refl (x : BoxS) (w : World) : Off x w w := ⟨rfl, rfl, rfl, rfl, fun _ _ _ => rfl⟩
theorem off_setChan (x : BoxS) (w : World) (cap : Nat) (buf : Array Value) (cl : Bool) (s r : Nat) : Off x w (w.setChan x.c cap buf cl s r false) :=
  ⟨rfl, rfl, rfl, by simp [World.setChan], fun k _ h => setChan_other _ _ _ _ _ _ _ _ h⟩
theorem sendO_can {i : Nat} {x : BoxS} (hi : L[i]? = some x) (H : Boxes B w L) (hcl : x.cl = false) (hq : x.q.length < x.cap) (x' : Int) :
    Calls Try.prog 8 #[.pointer (some ⟨x.b, 0, none⟩), .int .i64 x'] w fun e w' => e = .returned (.bool true) ∧ Boxes B w' (L.set i { x with q := x.q ++ [.int .i64 x'] }) ∧ Off x w w' := by
  have a := H.at_ i x hi
  have c1 := a.cell1
  obtain ⟨s, r, hc⟩ := a.2
  rw [hcl] at c1 hc
  refine (send_room_int x.b x.c x.cap s r x.q.toArray x' w a.cell0 c1 hc (by simpa using hq)).mono ?_
  rintro e w' ⟨rfl, rfl⟩
  have h := H.queue hi (x.q ++ [.int .i64 x']) (s + 1) r hcl
  exact ⟨rfl, by rw [List.push_toArray]; exact h.1, off_setChan _ _ _ _ _ _ _⟩
theorem sendO_not {i : Nat} {x : BoxS} (hi : L[i]? = some x) (H : Boxes B w L) (hn : x.cl = true ∨ x.cap ≤ x.q.length) (x' : Int) :
    Calls Try.prog 8 #[.pointer (some ⟨x.b, 0, none⟩), .int .i64 x'] w fun e w' => e = .returned (.bool false) ∧ w' = w := by
  have a := H.at_ i x hi
  have c1 := a.cell1
  obtain ⟨s, r, hc⟩ := a.2
  rcases hcl : x.cl with _ | _
  · rw [hcl] at c1 hc hn
    refine (send_full_int x.b x.c x.cap s r x.q.toArray x' w a.cell0 c1 hc (by simpa using hn)).mono ?_
    rintro e w' ⟨rfl, rfl⟩
    exact ⟨rfl, rfl⟩
  · rw [hcl] at c1
    refine (send_shut_int x.b x' w c1).mono ?_
    rintro e w' ⟨rfl, rfl⟩
    exact ⟨rfl, rfl⟩
theorem recvO {i : Nat} {x : BoxS} (hi : L[i]? = some x) (H : Boxes B w L) (x' : Int) {q : List Value} (hq : x.q = .int .i64 x' :: q) :
    Calls Try.prog 9 #[.pointer (some ⟨x.b, 0, none⟩)] w fun e w' => e = .returned (.tuple #[.int .i64 x', .bool true]) ∧ Boxes B w' (L.set i { x with q }) ∧ Off x w w' := by
  have a := H.at_ i x hi
  obtain ⟨s, r, hc⟩ := a.2
  have hx : (x.q.toArray.extract 1 x.q.toArray.size) = q.toArray := by rw [hq]; simp
  refine (recv_buf_int x.b x.c x.cap s r x.q.toArray x.cl (.int .i64 x') w a.cell0 hc (by rw [hq]; rfl) (by rw [hq]; simp)).mono ?_
  rintro e w' ⟨rfl, rfl⟩
  have h := H.queue hi q s (r + 1) rfl
  rw [hx]
  exact ⟨rfl, h.1, off_setChan _ _ _ _ _ _ _⟩
theorem closeO {i : Nat} {x : BoxS} (hi : L[i]? = some x) (H : Boxes B w L) :
    Calls Try.prog 10 #[.pointer (some ⟨x.b, 0, none⟩)] w fun e w' => e = .returned (.tuple #[]) ∧ Boxes B w' (L.set i { x with cl := true }) ∧ Off x w w' := by
  have a := H.at_ i x hi
  have c1 := a.cell1
  have hs := H.self i x hi
  obtain ⟨s, r, hc⟩ := a.2
  rcases hcl : x.cl with _ | _
  · rw [hcl] at hc c1
    refine (close_open_int x.b x.c x.cap s r x.q.toArray w hs a.free1 a.cell0 c1 hc).mono ?_
    rintro e w' ⟨rfl, rfl⟩
    have hsz : (w.setCell ⟨x.b, 1, none⟩ (.bool true)).heap.size = w.heap.size := by simp [World.setCell]
    refine ⟨rfl, H.set hi rfl rfl ⟨?_, s, r, heap_setChan _ _ _ _ _ _ _ _ (by rw [hsz]; exact a.lt.2)⟩ (fun k _ h h' => ?_), rfl, rfl, rfl, ?_, fun k h h' => ?_⟩
    · rw [setChan_other _ _ _ _ _ _ _ _ hs]
      show (w.heap.modify x.b _)[x.b]? = _
      rw [Array.getElem?_modify, if_pos rfl, a.1]
      simp
    · rw [setChan_other _ _ _ _ _ _ _ _ h', Below.heap_setCell _ _ _ _ h]
    · rw [← hsz]; simp [World.setChan]
    · rw [setChan_other _ _ _ _ _ _ _ _ h', Below.heap_setCell _ _ _ _ h]
  · rw [hcl] at c1
    refine (close_again_int x.b w c1).mono ?_
    rintro e w' ⟨rfl, rfl⟩
    have e : L.set i { x with cl := true } = L := by
      have e : ({ x with cl := true } : BoxS) = x := by cases x; simp_all
      rw [e]
      exact set_same hi
    rw [e]
    exact ⟨rfl, H, Off.refl _ _⟩
theorem newO (n : Nat) (w : World) (h1 : 1 ≤ n) (h2 : n ≤ 4096) (H : Boxes B w L) (hB : B ≤ w.heap.size) :
    Calls Try.prog 7 #[.int .i64 n] w fun e w' => ∃ y : BoxS, y.T = 62 ∧ y.cap = n ∧ y.q = [] ∧ y.cl = false ∧ e = .returned (.tuple #[.pointer (some ⟨y.b, 0, none⟩), .int .i64 0]) ∧ Boxes B w' (L ++ [y]) ∧ Below w.heap.size w w' := by
  refine (new_ok_int n w h1 h2).mono ?_
  rintro e w' ⟨rfl, rfl⟩
  have hb := ((Below.refl w.heap.size w).alloc (Nat.le_refl _) (.chan n #[] false 0 0 false)).alloc (by simp) (.cells #[.chan (some w.heap.size), .bool false] 62)
  refine ⟨⟨62, w.heap.size + 1, w.heap.size, n, [], false⟩, rfl, rfl, rfl, rfl, rfl, H.snoc hB (by simp) (by simp) (by simp) ⟨?_, 0, 0, ?_⟩ fun k hk => hb.block k hk, hb⟩
  · have h := heap_alloc_new (w.alloc (.chan n #[] false 0 0 false)) (.cells #[.chan (some w.heap.size), .bool false] 62)
    simpa [made] using h
  · show ((w.alloc (.chan n #[] false 0 0 false)).alloc (.cells #[.chan (some w.heap.size), .bool false] 62)).heap[w.heap.size]? = _
    rw [Below.heap_alloc _ _ _ (by simp)]
    exact heap_alloc_new _ _
set_option maxHeartbeats 1000000 in
theorem FirstO_0 {i0 i1 i2 m : Nat} {x0 x1 x2 : BoxS} (h0 : L[i0]? = some x0) (H : Boxes B w L) (F : Four w m x0.b x1.b x2.b) (v : Int) {q : List Value} (hq : x0.q = .int .i64 v :: q) :
    Calls Try.prog 12 #[.slice (some ⟨m, 0, none⟩) 4 4] w fun e w' => e = .returned (.tuple #[.int .i64 0, .int .i64 v, .bool true]) ∧ Boxes B w' (L.set i0 { x0 with q }) ∧ Off x0 w w' := by
  have r0 := Lib.hid (recvO h0 H v hq)
  clear hq
  obtain ⟨c0, c1, c2, c3⟩ := F
  go_enter Try.func12, Try.ntmps12
  go_wp2_with fail
  refine wp_loop_rounds 5 ?_
  rw [rounds_succ]
  go_wp2_with (go_at_call 9; refine r0.out.mono ?_; rintro e w' ⟨rfl, hq⟩)
  go_ret3
  exact ⟨rfl, hq⟩
set_option maxHeartbeats 1000000 in
theorem FirstO_1 {i0 i1 i2 m : Nat} {x0 x1 x2 : BoxS} (h0 : L[i0]? = some x0) (h1 : L[i1]? = some x1) (H : Boxes B w L) (F : Four w m x0.b x1.b x2.b) (e0 : x0.q = []) (v : Int) {q : List Value} (hq : x1.q = .int .i64 v :: q) :
    Calls Try.prog 12 #[.slice (some ⟨m, 0, none⟩) 4 4] w fun e w' => e = .returned (.tuple #[.int .i64 2, .int .i64 v, .bool true]) ∧ Boxes B w' (L.set i1 { x1 with q }) ∧ Off x1 w w' := by
  have r0 := Lib.hid (Recv_none_int h0 H e0)
  have r1 := Lib.hid (recvO h1 H v hq)
  clear hq
  clear e0
  obtain ⟨c0, c1, c2, c3⟩ := F
  go_enter Try.func12, Try.ntmps12
  go_wp2_with fail
  refine wp_loop_rounds 5 ?_
  rw [rounds_succ]
  go_wp2_with (go_at_call 9; refine r0.out.mono ?_; rintro e w' ⟨rfl, rfl⟩)
  rw [rounds_succ]
  go_wp2_with fail
  rw [rounds_succ]
  go_wp2_with (go_at_call 9; refine r1.out.mono ?_; rintro e w' ⟨rfl, hq⟩)
  go_ret3
  exact ⟨rfl, hq⟩
set_option maxHeartbeats 1000000 in
theorem FirstO_2 {i0 i1 i2 m : Nat} {x0 x1 x2 : BoxS} (h0 : L[i0]? = some x0) (h1 : L[i1]? = some x1) (h2 : L[i2]? = some x2) (H : Boxes B w L) (F : Four w m x0.b x1.b x2.b) (e0 : x0.q = []) (e1 : x1.q = []) (v : Int) {q : List Value} (hq : x2.q = .int .i64 v :: q) :
    Calls Try.prog 12 #[.slice (some ⟨m, 0, none⟩) 4 4] w fun e w' => e = .returned (.tuple #[.int .i64 3, .int .i64 v, .bool true]) ∧ Boxes B w' (L.set i2 { x2 with q }) ∧ Off x2 w w' := by
  have r0 := Lib.hid (Recv_none_int h0 H e0)
  have r1 := Lib.hid (Recv_none_int h1 H e1)
  have r2 := Lib.hid (recvO h2 H v hq)
  clear hq
  clear e0
  clear e1
  obtain ⟨c0, c1, c2, c3⟩ := F
  go_enter Try.func12, Try.ntmps12
  go_wp2_with fail
  refine wp_loop_rounds 5 ?_
  rw [rounds_succ]
  go_wp2_with (go_at_call 9; refine r0.out.mono ?_; rintro e w' ⟨rfl, rfl⟩)
  rw [rounds_succ]
  go_wp2_with fail
  rw [rounds_succ]
  go_wp2_with (go_at_call 9; refine r1.out.mono ?_; rintro e w' ⟨rfl, rfl⟩)
  rw [rounds_succ]
  go_wp2_with (go_at_call 9; refine r2.out.mono ?_; rintro e w' ⟨rfl, hq⟩)
  go_ret3
  exact ⟨rfl, hq⟩
end Go.Proofs.Ytaohnngadjhmjaa.mail
