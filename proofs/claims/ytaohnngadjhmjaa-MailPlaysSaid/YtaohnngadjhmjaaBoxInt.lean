/- The walks over mail.Box at one element type. -/
import Derived.Test.YtaohnngadjhmjaaChecked
import Derived.Conc.LoneSelect
import Derived.KernelRfl
import Derived.Laws.Rows
import Derived.WalkKit
namespace Go.Proofs.Ytaohnngadjhmjaa.mail
open Go.Conc Go.RowKit

theorem bytes_int : ∃ i, Try.prog.info? 3 = some i ∧ i.bytes = 8 := by
  have h : (Try.prog.info? 3).map (·.bytes) = some 8 := by kernel_rfl
  obtain ⟨i, hi, hb⟩ := Option.map_eq_some_iff.1 h
  exact ⟨i, hi, hb⟩
theorem mk_int (w : World) (n : Nat) (hn : n ≤ 4096) : (Instr.makeChan 60 (.int .i64 (n : Int))).run Try.prog w = .ok (.chan (some w.heap.size)) (w.alloc (.chan n #[] false 0 0 false)) := by
  obtain ⟨i, hi, hb⟩ := bytes_int
  exact run_makeChan (P := Try.prog) (w := w) Try.underlying60 hi .i64 n (by omega) (by rw [hb]; omega)


set_option maxRecDepth 100000 in
theorem send_shut_int (b : Nat) (x : Int) (w : World) (h1 : w.cell? ⟨b, 1, none⟩ = some (.bool true)) :
    Calls Try.prog 8 #[.pointer (some ⟨b, 0, none⟩), .int .i64 x] w fun e w' => e = .returned (.bool false) ∧ w' = w := by
  go_enter Try.func8, Try.ntmps8
  go_wp2
  go_ret
  exact ⟨rfl, rfl⟩


set_option maxRecDepth 100000 in
theorem send_room_int (b c cap s r : Nat) (buf : Array Value) (x : Int) (w : World) (h0 : w.cell? ⟨b, 0, none⟩ = some (.chan (some c))) (h1 : w.cell? ⟨b, 1, none⟩ = some (.bool false))
    (hc : w.heap[c]? = some (.chan cap buf false s r false)) (hr : buf.size < cap) :
    Calls Try.prog 8 #[.pointer (some ⟨b, 0, none⟩), .int .i64 x] w fun e w' => e = .returned (.bool true) ∧ w' = w.setChan c cap (buf.push (.int .i64 x)) false (s + 1) r false := by
  refine calls_of_loneTo fun cs => ?_
  have e : Frame.enter Try.prog 8 #[.pointer (some ⟨b, 0, none⟩), .int .i64 x] .normal = (base 8).at ⟨#[.pointer (some ⟨b, 0, none⟩), .int .i64 x, undef, undef, undef, undef, undef, undef, undef, undef, undef, undef, undef, undef, undef, undef, undef], []⟩ [.code (Try.f8.body.getD .skip)] := by
    simp [Frame.enter, Frame.at, Try.func8, base, Try.f8]
    try rfl
  rw [e]
  clear e
  refine LoneTo.goes (n := 60) ?_
  simp only [Try.f8, Option.getD_some]
  repeat (first | s_c stepG_seq | s_reg | s_c stepG_region_end | s_c stepG_skip | s_c stepG_block | s_c stepG_inBlock | s_cond true | s_cond false | s_op)
  s_stop
  refine LoneTo.step (step_lone_select_send_room (c := c) (cap := cap) (buf := buf) (s := s) (r := r) (tm := false) (stepG_comm (cases := #[scase c (.int .i64 x) (.int .i64 0)]) (blocking := false) (shape := .select) (w' := w) rfl rfl (by decide) (by simp [go_sem, execOp, scase, Act.eval, Try.underlying3])) hc hr) ?_
  rw [Frame.finish_at]
  walk_nrm
  refine LoneTo.goes (n := 60) ?_
  repeat (first | s_c stepG_seq | s_reg | s_c stepG_region_end | s_c stepG_skip | s_c stepG_block | s_c stepG_inBlock | s_cond true | s_cond false | s_op)
  s_c stepG_ret'
  s_stop
  exact LoneTo.done ⟨.returned (.bool true), _, rfl, ⟨rfl, rfl⟩, rfl, rfl, rfl, rfl, _, Try.func8, by simp [results, Try.f8, Frame.at]⟩


set_option maxRecDepth 100000 in
theorem send_full_int (b c cap s r : Nat) (buf : Array Value) (x : Int) (w : World) (h0 : w.cell? ⟨b, 0, none⟩ = some (.chan (some c))) (h1 : w.cell? ⟨b, 1, none⟩ = some (.bool false))
    (hc : w.heap[c]? = some (.chan cap buf false s r false)) (hr : cap ≤ buf.size) :
    Calls Try.prog 8 #[.pointer (some ⟨b, 0, none⟩), .int .i64 x] w fun e w' => e = .returned (.bool false) ∧ w' = w := by
  refine calls_of_loneTo fun cs => ?_
  have e : Frame.enter Try.prog 8 #[.pointer (some ⟨b, 0, none⟩), .int .i64 x] .normal = (base 8).at ⟨#[.pointer (some ⟨b, 0, none⟩), .int .i64 x, undef, undef, undef, undef, undef, undef, undef, undef, undef, undef, undef, undef, undef, undef, undef], []⟩ [.code (Try.f8.body.getD .skip)] := by
    simp [Frame.enter, Frame.at, Try.func8, base, Try.f8]
    try rfl
  rw [e]
  clear e
  refine LoneTo.goes (n := 60) ?_
  simp only [Try.f8, Option.getD_some]
  repeat (first | s_c stepG_seq | s_reg | s_c stepG_region_end | s_c stepG_skip | s_c stepG_block | s_c stepG_inBlock | s_cond true | s_cond false | s_op)
  s_stop
  refine LoneTo.step (step_lone_select_send_full (c := c) (cap := cap) (buf := buf) (s := s) (r := r) (tm := false) (stepG_comm (cases := #[scase c (.int .i64 x) (.int .i64 0)]) (blocking := false) (shape := .select) (w' := w) rfl rfl (by decide) (by simp [go_sem, execOp, scase, Act.eval, Try.underlying3])) hc hr) ?_
  rw [Frame.finish_at]
  walk_nrm
  refine LoneTo.goes (n := 60) ?_
  repeat (first | s_c stepG_seq | s_reg | s_c stepG_region_end | s_c stepG_skip | s_c stepG_block | s_c stepG_inBlock | s_cond true | s_cond false | s_op)
  s_c stepG_ret'
  s_stop
  exact LoneTo.done ⟨.returned (.bool false), _, rfl, ⟨rfl, rfl⟩, rfl, rfl, rfl, rfl, _, Try.func8, by simp [results, Try.f8, Frame.at]⟩


set_option maxRecDepth 100000 in
theorem recv_buf_int (b c cap s r : Nat) (buf : Array Value) (closed : Bool) (v : Value) (w : World) (h0 : w.cell? ⟨b, 0, none⟩ = some (.chan (some c)))
    (hc : w.heap[c]? = some (.chan cap buf closed s r false)) (hv : buf.getD 0 undef = v) (hr : 0 < buf.size) :
    Calls Try.prog 9 #[.pointer (some ⟨b, 0, none⟩)] w fun e w' => e = .returned (.tuple #[v, .bool true]) ∧ w' = w.setChan c cap (buf.extract 1 buf.size) closed s (r + 1) false := by
  refine calls_of_loneTo fun cs => ?_
  have e : Frame.enter Try.prog 9 #[.pointer (some ⟨b, 0, none⟩)] .normal = (base 9).at ⟨#[.pointer (some ⟨b, 0, none⟩), undef, undef, undef, undef, undef, undef, undef, undef, undef, undef, undef, undef, undef, undef, undef, undef, undef, undef], []⟩ [.code (Try.f9.body.getD .skip)] := by
    simp [Frame.enter, Frame.at, Try.func9, base, Try.f9]
    try rfl
  rw [e]
  clear e
  refine LoneTo.goes (n := 60) ?_
  simp only [Try.f9, Option.getD_some]
  repeat (first | s_c stepG_seq | s_reg | s_c stepG_region_end | s_c stepG_skip | s_c stepG_block | s_c stepG_inBlock | s_cond true | s_cond false | s_op)
  s_stop
  refine LoneTo.step (step_lone_select_recv_buf (c := c) (cap := cap) (buf := buf) (closed := closed) (s := s) (r := r) (tm := false) (stepG_comm (cases := #[rcase c (.int .i64 0)]) (blocking := false) (shape := .select) (w' := w) rfl rfl (by decide) (by simp [go_sem, execOp, rcase, Act.eval, Try.underlying3])) hc hr) ?_
  rw [Frame.finish_at]
  walk_nrm
  refine LoneTo.goes (n := 60) ?_
  repeat (first | s_c stepG_seq | s_reg | s_c stepG_region_end | s_c stepG_skip | s_c stepG_block | s_c stepG_inBlock | s_cond true | s_cond false | s_op)
  s_c stepG_ret'
  s_stop
  exact LoneTo.done ⟨.returned (.tuple #[v, .bool true]), _, rfl, ⟨rfl, rfl⟩, rfl, rfl, rfl, rfl, _, Try.func9, by have hv' : buf[0] = v := (by simpa [hr] using hv); simp [results, Try.f9, Frame.at, hv']⟩


set_option maxRecDepth 100000 in
theorem recv_open_int (b c cap s r : Nat)  (w : World) (h0 : w.cell? ⟨b, 0, none⟩ = some (.chan (some c)))
    (hc : w.heap[c]? = some (.chan cap #[] false s r false))  :
    Calls Try.prog 9 #[.pointer (some ⟨b, 0, none⟩)] w fun e w' => e = .returned (.tuple #[(.int .i64 0), .bool false]) ∧ w' = w := by
  refine calls_of_loneTo fun cs => ?_
  have e : Frame.enter Try.prog 9 #[.pointer (some ⟨b, 0, none⟩)] .normal = (base 9).at ⟨#[.pointer (some ⟨b, 0, none⟩), undef, undef, undef, undef, undef, undef, undef, undef, undef, undef, undef, undef, undef, undef, undef, undef, undef, undef], []⟩ [.code (Try.f9.body.getD .skip)] := by
    simp [Frame.enter, Frame.at, Try.func9, base, Try.f9]
    try rfl
  rw [e]
  clear e
  refine LoneTo.goes (n := 60) ?_
  simp only [Try.f9, Option.getD_some]
  repeat (first | s_c stepG_seq | s_reg | s_c stepG_region_end | s_c stepG_skip | s_c stepG_block | s_c stepG_inBlock | s_cond true | s_cond false | s_op)
  s_stop
  refine LoneTo.step (step_lone_select_default (c := c) (cap := cap) (s := s) (r := r) (tm := false) (stepG_comm (cases := #[rcase c (.int .i64 0)]) (blocking := false) (shape := .select) (w' := w) rfl rfl (by decide) (by simp [go_sem, execOp, rcase, Act.eval, Try.underlying3])) hc) ?_
  rw [Frame.finish_at]
  walk_nrm
  refine LoneTo.goes (n := 60) ?_
  repeat (first | s_c stepG_seq | s_reg | s_c stepG_region_end | s_c stepG_skip | s_c stepG_block | s_c stepG_inBlock | s_cond true | s_cond false | s_op)
  s_c stepG_ret'
  s_stop
  exact LoneTo.done ⟨.returned (.tuple #[(.int .i64 0), .bool false]), _, rfl, ⟨rfl, rfl⟩, rfl, rfl, rfl, rfl, _, Try.func9, by skip; simp [results, Try.f9, Frame.at]⟩


set_option maxRecDepth 100000 in
theorem recv_shut_int (b c cap s r : Nat)  (w : World) (h0 : w.cell? ⟨b, 0, none⟩ = some (.chan (some c)))
    (hc : w.heap[c]? = some (.chan cap #[] true s r false))  :
    Calls Try.prog 9 #[.pointer (some ⟨b, 0, none⟩)] w fun e w' => e = .returned (.tuple #[(.int .i64 0), .bool false]) ∧ w' = w := by
  refine calls_of_loneTo fun cs => ?_
  have e : Frame.enter Try.prog 9 #[.pointer (some ⟨b, 0, none⟩)] .normal = (base 9).at ⟨#[.pointer (some ⟨b, 0, none⟩), undef, undef, undef, undef, undef, undef, undef, undef, undef, undef, undef, undef, undef, undef, undef, undef, undef, undef], []⟩ [.code (Try.f9.body.getD .skip)] := by
    simp [Frame.enter, Frame.at, Try.func9, base, Try.f9]
    try rfl
  rw [e]
  clear e
  refine LoneTo.goes (n := 60) ?_
  simp only [Try.f9, Option.getD_some]
  repeat (first | s_c stepG_seq | s_reg | s_c stepG_region_end | s_c stepG_skip | s_c stepG_block | s_c stepG_inBlock | s_cond true | s_cond false | s_op)
  s_stop
  refine LoneTo.step (step_lone_select_recv_shut (c := c) (cap := cap) (s := s) (r := r) (tm := false) (stepG_comm (cases := #[rcase c (.int .i64 0)]) (blocking := false) (shape := .select) (w' := w) rfl rfl (by decide) (by simp [go_sem, execOp, rcase, Act.eval, Try.underlying3])) hc) ?_
  rw [Frame.finish_at]
  walk_nrm
  refine LoneTo.goes (n := 60) ?_
  repeat (first | s_c stepG_seq | s_reg | s_c stepG_region_end | s_c stepG_skip | s_c stepG_block | s_c stepG_inBlock | s_cond true | s_cond false | s_op)
  s_c stepG_ret'
  s_stop
  exact LoneTo.done ⟨.returned (.tuple #[(.int .i64 0), .bool false]), _, rfl, ⟨rfl, rfl⟩, rfl, rfl, rfl, rfl, _, Try.func9, by skip; simp [results, Try.f9, Frame.at]⟩

end Go.Proofs.Ytaohnngadjhmjaa.mail

