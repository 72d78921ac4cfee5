/- The walks over mail.Box at one element type. -/
import Derived.Test.YtaohnngadjhmjaaChecked
import Derived.Conc.LoneSelect
import Derived.KernelRfl
import Derived.Laws.Rows
import Derived.WalkKit
namespace Go.Proofs.Ytaohnngadjhmjaa.mail
open Go.Conc Go.RowKit

theorem bytes_arr : ∃ i, Try.prog.info? 41 = some i ∧ i.bytes = 16 := by
  have h : (Try.prog.info? 41).map (·.bytes) = some 16 := by kernel_rfl
  obtain ⟨i, hi, hb⟩ := Option.map_eq_some_iff.1 h
  exact ⟨i, hi, hb⟩
theorem mk_arr (w : World) (n : Nat) (hn : n ≤ 4096) : (Instr.makeChan 68 (.int .i64 (n : Int))).run Try.prog w = .ok (.chan (some w.heap.size)) (w.alloc (.chan n #[] false 0 0 false)) := by
  obtain ⟨i, hi, hb⟩ := bytes_arr
  exact run_makeChan (P := Try.prog) (w := w) Try.underlying68 hi .i64 n (by omega) (by rw [hb]; omega)

/-- Block c holds o; every other old block is as it was. -/
structure Upd (w w' : World) (c : Nat) (o : Obj) : Prop where
  os : w'.os = w.os
  tape : w'.tape = w.tape
  output : w'.output = w.output
  size : w.heap.size ≤ w'.heap.size
  at_c : w'.heap[c]? = some o
  block : ∀ k, k < w.heap.size → k ≠ c → w'.heap[k]? = w.heap[k]?
theorem Upd.below {w w1 w' : World} {c : Nat} {o : Obj} (h : Upd w w1 c o) (hcs : c < w.heap.size) (B : Below w.heap.size w1 w') : Upd w w' c o :=
  ⟨B.os.trans h.os, B.tape.trans h.tape, B.output.trans h.output, Nat.le_trans h.size B.size, (B.block c hcs).trans h.at_c, fun k hk hne => (B.block k hk).trans (h.block k hk hne)⟩
theorem Upd.of (w w' : World) (c : Nat) (o : Obj) (B : Below w.heap.size w w') (hcs : c < w.heap.size) (cap : Nat) (buf : Array Value) (cl : Bool) (s r : Nat) (ho : o = .chan cap buf cl s r false) : Upd w (w'.setChan c cap buf cl s r false) c o := by
  have hcs' : c < w'.heap.size := by have := B.size; omega
  subst ho
  refine ⟨B.os, B.tape, B.output, by rw [size_setChan]; exact B.size, heap_setChan _ _ _ _ _ _ _ _ hcs', fun k hk hne => ?_⟩
  rw [← B.block k hk]
  simp [World.setChan, Array.getElem?_setIfInBounds_ne (Ne.symm hne)]

set_option maxRecDepth 100000 in
theorem send_shut_arr (b : Nat) (x y : Int) (w : World) (hbs : b < w.heap.size) (h1 : w.cell? ⟨b, 1, none⟩ = some (.bool true)) :
    Calls Try.prog 18 #[.pointer (some ⟨b, 0, none⟩), .agg #[.int .i64 x, .int .i64 y]] w fun e w' => e = .returned (.bool false) ∧ Below w.heap.size w w' := by
  go_enter Try.func18, Try.ntmps18
  go_wp2
  go_ret
  exact ⟨rfl, (Below.refl _ _).alloc (Nat.le_refl _) _⟩

set_option maxRecDepth 100000 in
theorem send_room_arr (b c cap s r : Nat) (buf : Array Value) (x y : Int) (w : World) (hbs : b < w.heap.size) (hcs : c < w.heap.size) (h0 : w.cell? ⟨b, 0, none⟩ = some (.chan (some c))) (h1 : w.cell? ⟨b, 1, none⟩ = some (.bool false))
    (hc : w.heap[c]? = some (.chan cap buf false s r false)) (hr : buf.size < cap) :
    Calls Try.prog 18 #[.pointer (some ⟨b, 0, none⟩), .agg #[.int .i64 x, .int .i64 y]] w fun e w' => e = .returned (.bool true) ∧ Upd w w' c (.chan cap (buf.push (.agg #[.int .i64 x, .int .i64 y])) false (s + 1) r false) := by
  refine calls_of_loneTo fun cs => ?_
  have e : Frame.enter Try.prog 18 #[.pointer (some ⟨b, 0, none⟩), .agg #[.int .i64 x, .int .i64 y]] .normal = (base 18).at ⟨#[.pointer (some ⟨b, 0, none⟩), .agg #[.int .i64 x, .int .i64 y], undef, undef, undef, undef, undef, undef, undef, undef, undef, undef, undef, undef, undef, undef, undef], []⟩ [.code (Try.f18.body.getD .skip)] := by
    simp [Frame.enter, Frame.at, Try.func18, base, Try.f18]
    try rfl
  rw [e]
  clear e
  refine LoneTo.goes (n := 60) ?_
  simp only [Try.f18, Option.getD_some]
  repeat (first | s_c stepG_seq | s_reg | s_c stepG_region_end | s_c stepG_skip | s_c stepG_block | s_c stepG_inBlock | s_cond true | s_cond false | s_op)
  s_stop
  have hc' : (w.alloc (.cells #[.int .i64 x, .int .i64 y] 41)).heap[c]? = some (.chan cap buf false s r false) := by rw [Below.heap_alloc _ _ _ hcs]; exact hc
  refine LoneTo.step (step_lone_select_send_room (c := c) (cap := cap) (buf := buf) (s := s) (r := r) (tm := false) (stepG_comm (cases := #[scase c (.agg #[.int .i64 x, .int .i64 y]) (.agg #[.int .i64 0, .int .i64 0])]) (blocking := false) (shape := .select) (w' := w.alloc (.cells #[.int .i64 x, .int .i64 y] 41)) rfl rfl (by decide) (by simp [go_sem, execOp, scase, Act.eval, Try.underlying41])) hc' hr) ?_
  rw [Frame.finish_at]
  walk_nrm
  refine LoneTo.goes (n := 60) ?_
  repeat (first | s_c stepG_seq | s_reg | s_c stepG_region_end | s_c stepG_skip | s_c stepG_block | s_c stepG_inBlock | s_cond true | s_cond false | s_op)
  s_c stepG_ret'
  s_stop
  exact LoneTo.done ⟨.returned (.bool true), _, rfl, ⟨rfl, Upd.of w _ c _ ((Below.refl _ _).alloc (Nat.le_refl _) _) hcs _ _ _ _ _ rfl⟩, rfl, rfl, rfl, rfl, _, Try.func18, by simp [results, Try.f18, Frame.at]⟩

set_option maxRecDepth 100000 in
theorem send_full_arr (b c cap s r : Nat) (buf : Array Value) (x y : Int) (w : World) (hbs : b < w.heap.size) (hcs : c < w.heap.size) (h0 : w.cell? ⟨b, 0, none⟩ = some (.chan (some c))) (h1 : w.cell? ⟨b, 1, none⟩ = some (.bool false))
    (hc : w.heap[c]? = some (.chan cap buf false s r false)) (hr : cap ≤ buf.size) :
    Calls Try.prog 18 #[.pointer (some ⟨b, 0, none⟩), .agg #[.int .i64 x, .int .i64 y]] w fun e w' => e = .returned (.bool false) ∧ Below w.heap.size w w' := by
  refine calls_of_loneTo fun cs => ?_
  have e : Frame.enter Try.prog 18 #[.pointer (some ⟨b, 0, none⟩), .agg #[.int .i64 x, .int .i64 y]] .normal = (base 18).at ⟨#[.pointer (some ⟨b, 0, none⟩), .agg #[.int .i64 x, .int .i64 y], undef, undef, undef, undef, undef, undef, undef, undef, undef, undef, undef, undef, undef, undef, undef], []⟩ [.code (Try.f18.body.getD .skip)] := by
    simp [Frame.enter, Frame.at, Try.func18, base, Try.f18]
    try rfl
  rw [e]
  clear e
  refine LoneTo.goes (n := 60) ?_
  simp only [Try.f18, Option.getD_some]
  repeat (first | s_c stepG_seq | s_reg | s_c stepG_region_end | s_c stepG_skip | s_c stepG_block | s_c stepG_inBlock | s_cond true | s_cond false | s_op)
  s_stop
  have hc' : (w.alloc (.cells #[.int .i64 x, .int .i64 y] 41)).heap[c]? = some (.chan cap buf false s r false) := by rw [Below.heap_alloc _ _ _ hcs]; exact hc
  refine LoneTo.step (step_lone_select_send_full (c := c) (cap := cap) (buf := buf) (s := s) (r := r) (tm := false) (stepG_comm (cases := #[scase c (.agg #[.int .i64 x, .int .i64 y]) (.agg #[.int .i64 0, .int .i64 0])]) (blocking := false) (shape := .select) (w' := w.alloc (.cells #[.int .i64 x, .int .i64 y] 41)) rfl rfl (by decide) (by simp [go_sem, execOp, scase, Act.eval, Try.underlying41])) hc' hr) ?_
  rw [Frame.finish_at]
  walk_nrm
  refine LoneTo.goes (n := 60) ?_
  repeat (first | s_c stepG_seq | s_reg | s_c stepG_region_end | s_c stepG_skip | s_c stepG_block | s_c stepG_inBlock | s_cond true | s_cond false | s_op)
  s_c stepG_ret'
  s_stop
  exact LoneTo.done ⟨.returned (.bool false), _, rfl, ⟨rfl, (Below.refl _ _).alloc (Nat.le_refl _) _⟩, rfl, rfl, rfl, rfl, _, Try.func18, by simp [results, Try.f18, Frame.at]⟩


set_option maxRecDepth 100000 in
theorem recv_buf_arr (b c cap s r : Nat) (buf : Array Value) (closed : Bool) (x y : Int) (w : World) (hbs : b < w.heap.size) (hcs : c < w.heap.size) (h0 : w.cell? ⟨b, 0, none⟩ = some (.chan (some c)))
    (hc : w.heap[c]? = some (.chan cap buf closed s r false)) (hv : buf[0]? = some (.agg #[.int .i64 x, .int .i64 y])) (hr : 0 < buf.size) :
    Calls Try.prog 20 #[.pointer (some ⟨b, 0, none⟩)] w fun e w' => e = .returned (.tuple #[.agg #[.int .i64 x, .int .i64 y], .bool true]) ∧ Upd w w' c (.chan cap (buf.extract 1 buf.size) closed s (r + 1) false) := by
  refine calls_of_loneTo fun cs => ?_
  have e : Frame.enter Try.prog 20 #[.pointer (some ⟨b, 0, none⟩)] .normal = (base 20).at ⟨#[.pointer (some ⟨b, 0, none⟩), undef, undef, undef, undef, undef, undef, undef, undef, undef, undef, undef, undef, undef, undef, undef, undef, undef, undef], []⟩ [.code (Try.f20.body.getD .skip)] := by
    simp [Frame.enter, Frame.at, Try.func20, base, Try.f20]
    try rfl
  rw [e]
  clear e
  refine LoneTo.goes (n := 60) ?_
  simp only [Try.f20, Option.getD_some]
  repeat (first | s_c stepG_seq | s_reg | s_c stepG_region_end | s_c stepG_skip | s_c stepG_block | s_c stepG_inBlock | s_cond true | s_cond false | s_op)
  s_stop
  have hc' : (w.alloc (.cells #[.int .i64 0, .int .i64 0] 41)).heap[c]? = some (.chan cap buf closed s r false) := by rw [Below.heap_alloc _ _ _ hcs]; exact hc
  have hv' : buf.getD 0 undef = .agg #[.int .i64 x, .int .i64 y] := by simp [Array.getD_eq_getD_getElem?, hv]
  refine LoneTo.step (step_lone_select_recv_buf (c := c) (cap := cap) (buf := buf) (closed := closed) (s := s) (r := r) (tm := false) (stepG_comm (cases := #[rcase c (.agg #[.int .i64 0, .int .i64 0])]) (blocking := false) (shape := .select) (w' := (w.alloc (.cells #[.int .i64 0, .int .i64 0] 41))) rfl rfl (by decide) (by simp [go_sem, execOp, rcase, Act.eval, Try.underlying41])) hc' hr) ?_
  rw [Frame.finish_at]
  rw [hv']
  have hU : Upd w ((w.alloc (.cells #[.int .i64 0, .int .i64 0] 41)).setChan c cap (buf.extract 1 buf.size) closed s (r + 1) false) c (.chan cap (buf.extract 1 buf.size) closed s (r + 1) false) := Upd.of w _ c _ ((Below.refl _ _).alloc (Nat.le_refl _) _) hcs _ _ _ _ _ rfl
  have hz : ((w.alloc (.cells #[.int .i64 0, .int .i64 0] 41)).setChan c cap (buf.extract 1 buf.size) closed s (r + 1) false).heap.size = w.heap.size + 1 := by rw [size_setChan]; simp
  have hk : ((w.alloc (.cells #[.int .i64 0, .int .i64 0] 41)).setChan c cap (buf.extract 1 buf.size) closed s (r + 1) false).heap[w.heap.size]? = some (.cells #[.int .i64 0, .int .i64 0] 41) := by
    simp only [World.setChan]; rw [Array.getElem?_setIfInBounds_ne (Nat.ne_of_lt hcs)]; exact heap_alloc_new _ _
  revert hU hz hk
  generalize (w.alloc (.cells #[.int .i64 0, .int .i64 0] 41)).setChan c cap (buf.extract 1 buf.size) closed s (r + 1) false = w1
  intro hU hz hk
  have k0 : w1.cell? ⟨w.heap.size, 0, none⟩ = some (.int .i64 0) := by simp [World.cell?, hk]
  have k1 : w1.cell? ⟨w.heap.size, 1, none⟩ = some (.int .i64 0) := by simp [World.cell?, hk]
  have kf0 : w1.frozen? ⟨w.heap.size, 0, none⟩ = false := by simp [World.frozen?, hk]
  have kf1 : w1.frozen? ⟨w.heap.size, 1, none⟩ = false := by simp [World.frozen?, hk]
  have hlt : w.heap.size < w1.heap.size := by omega
  clear hz hk hc' hv'
  walk_nrm
  refine LoneTo.goes (n := 60) ?_
  repeat (first | s_c stepG_seq | s_reg | s_c stepG_region_end | s_c stepG_skip | s_c stepG_block | s_c stepG_inBlock | s_cond true | s_cond false | s_op)
  s_c stepG_ret'
  s_stop
  refine LoneTo.done ⟨.returned (.tuple #[.agg #[.int .i64 x, .int .i64 y], .bool true]), _, rfl, ⟨rfl, ?_⟩, rfl, rfl, rfl, rfl, _, Try.func20, ?_⟩
  · refine hU.below hcs ?_
    repeat (first | exact Below.refl _ _ | refine Below.setCell ?_ (by simp) _ | refine Below.alloc ?_ (by simp [go_sem]; try omega) _)
  · simp [results, Try.f20, Frame.at, go_sem, hlt, k0, k1, kf0, kf1]


set_option maxRecDepth 100000 in
theorem recv_open_arr (b c cap s r : Nat) (w : World) (hbs : b < w.heap.size) (hcs : c < w.heap.size) (h0 : w.cell? ⟨b, 0, none⟩ = some (.chan (some c)))
    (hc : w.heap[c]? = some (.chan cap #[] false s r false)) :
    Calls Try.prog 20 #[.pointer (some ⟨b, 0, none⟩)] w fun e w' => e = .returned (.tuple #[.agg #[.int .i64 0, .int .i64 0], .bool false]) ∧ Below w.heap.size w w' := by
  refine calls_of_loneTo fun cs => ?_
  have e : Frame.enter Try.prog 20 #[.pointer (some ⟨b, 0, none⟩)] .normal = (base 20).at ⟨#[.pointer (some ⟨b, 0, none⟩), undef, undef, undef, undef, undef, undef, undef, undef, undef, undef, undef, undef, undef, undef, undef, undef, undef, undef], []⟩ [.code (Try.f20.body.getD .skip)] := by
    simp [Frame.enter, Frame.at, Try.func20, base, Try.f20]
    try rfl
  rw [e]
  clear e
  refine LoneTo.goes (n := 60) ?_
  simp only [Try.f20, Option.getD_some]
  repeat (first | s_c stepG_seq | s_reg | s_c stepG_region_end | s_c stepG_skip | s_c stepG_block | s_c stepG_inBlock | s_cond true | s_cond false | s_op)
  s_stop
  have hc' : (w.alloc (.cells #[.int .i64 0, .int .i64 0] 41)).heap[c]? = some (.chan cap #[] false s r false) := by rw [Below.heap_alloc _ _ _ hcs]; exact hc
  refine LoneTo.step (step_lone_select_default (c := c) (cap := cap) (s := s) (r := r) (tm := false) (stepG_comm (cases := #[rcase c (.agg #[.int .i64 0, .int .i64 0])]) (blocking := false) (shape := .select) (w' := (w.alloc (.cells #[.int .i64 0, .int .i64 0] 41))) rfl rfl (by decide) (by simp [go_sem, execOp, rcase, Act.eval, Try.underlying41])) hc') ?_
  rw [Frame.finish_at]
  walk_nrm
  refine LoneTo.goes (n := 60) ?_
  repeat (first | s_c stepG_seq | s_reg | s_c stepG_region_end | s_c stepG_skip | s_c stepG_block | s_c stepG_inBlock | s_cond true | s_cond false | s_op)
  s_c stepG_ret'
  s_stop
  refine LoneTo.done ⟨.returned (.tuple #[.agg #[.int .i64 0, .int .i64 0], .bool false]), _, rfl, ⟨rfl, ?_⟩, rfl, rfl, rfl, rfl, _, Try.func20, ?_⟩
  · skip
    repeat (first | exact Below.refl _ _ | refine Below.setCell ?_ (by simp) _ | refine Below.alloc ?_ (by simp [go_sem]; try omega) _)
  · simp [results, Try.f20, Frame.at, go_sem]


set_option maxRecDepth 100000 in
theorem recv_shut_arr (b c cap s r : Nat) (w : World) (hbs : b < w.heap.size) (hcs : c < w.heap.size) (h0 : w.cell? ⟨b, 0, none⟩ = some (.chan (some c)))
    (hc : w.heap[c]? = some (.chan cap #[] true s r false)) :
    Calls Try.prog 20 #[.pointer (some ⟨b, 0, none⟩)] w fun e w' => e = .returned (.tuple #[.agg #[.int .i64 0, .int .i64 0], .bool false]) ∧ Below w.heap.size w w' := by
  refine calls_of_loneTo fun cs => ?_
  have e : Frame.enter Try.prog 20 #[.pointer (some ⟨b, 0, none⟩)] .normal = (base 20).at ⟨#[.pointer (some ⟨b, 0, none⟩), undef, undef, undef, undef, undef, undef, undef, undef, undef, undef, undef, undef, undef, undef, undef, undef, undef, undef], []⟩ [.code (Try.f20.body.getD .skip)] := by
    simp [Frame.enter, Frame.at, Try.func20, base, Try.f20]
    try rfl
  rw [e]
  clear e
  refine LoneTo.goes (n := 60) ?_
  simp only [Try.f20, Option.getD_some]
  repeat (first | s_c stepG_seq | s_reg | s_c stepG_region_end | s_c stepG_skip | s_c stepG_block | s_c stepG_inBlock | s_cond true | s_cond false | s_op)
  s_stop
  have hc' : (w.alloc (.cells #[.int .i64 0, .int .i64 0] 41)).heap[c]? = some (.chan cap #[] true s r false) := by rw [Below.heap_alloc _ _ _ hcs]; exact hc
  refine LoneTo.step (step_lone_select_recv_shut (c := c) (cap := cap) (s := s) (r := r) (tm := false) (stepG_comm (cases := #[rcase c (.agg #[.int .i64 0, .int .i64 0])]) (blocking := false) (shape := .select) (w' := (w.alloc (.cells #[.int .i64 0, .int .i64 0] 41))) rfl rfl (by decide) (by simp [go_sem, execOp, rcase, Act.eval, Try.underlying41])) hc') ?_
  rw [Frame.finish_at]
  walk_nrm
  refine LoneTo.goes (n := 60) ?_
  repeat (first | s_c stepG_seq | s_reg | s_c stepG_region_end | s_c stepG_skip | s_c stepG_block | s_c stepG_inBlock | s_cond true | s_cond false | s_op)
  s_c stepG_ret'
  s_stop
  refine LoneTo.done ⟨.returned (.tuple #[.agg #[.int .i64 0, .int .i64 0], .bool false]), _, rfl, ⟨rfl, ?_⟩, rfl, rfl, rfl, rfl, _, Try.func20, ?_⟩
  · skip
    repeat (first | exact Below.refl _ _ | refine Below.setCell ?_ (by simp) _ | refine Below.alloc ?_ (by simp [go_sem]; try omega) _)
  · simp [results, Try.f20, Frame.at, go_sem]

end Go.Proofs.Ytaohnngadjhmjaa.mail

