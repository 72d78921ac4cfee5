/- StreamBytes: whatever the input of bulk at most 1048576, the call returns true and leaves what was there as it was. The bound is the only condition. -/
import Derived.Test.YtacolbfofamocaaGreatRows
import Derived.Test.YtacolbfofamocaaGreatSwN
import Derived.Test.YtacolbfofamocaaGreatEvSr
import Derived.Test.YtacolbfofamocaaGreatFactStreamBytes
import Derived.Test.YtacolbfofamocaaGreatFrame
import Derived.JoinedCond
namespace Go.Proofs.YtacolbfofamocaaGreat.sx
open Go Go.RowKit
theorem runsOk : Ok runsC := by
  refine ⟨⟨_, _, (by kernel_rfl : Tryz.prog.funcs[5]? = some Tryz.f5), rfl⟩, fun y _ M A w hA hS _ R hR => ?_⟩
  obtain ⟨l⟩ := A
  obtain rfl : l = [] := hA.nil_l
  refine (ev.streamRuns w).mono fun e w' ⟨he, hb⟩ => ?_
  subst he
  refine hR M _ w' (.lit true) ⟨⟨fun b o h => (nomatch h), fun b b' o o' mi mi' h => (nomatch h), fun b o v h => ?_, fun b o mi h => (nomatch h), fun b c xs e mi h => (nomatch h)⟩, fun _ _ => rfl, fun _ _ _ h => h, fun _ _ h => .inl h, hb.size, fun c hc _ => hb.block c hc, fun b o mi h => (nomatch h), fun b h => absurd rfl h, hb.os, hb.tape, hb.output, Nat.le_refl _⟩
  obtain ⟨h1, v', h2, h3⟩ := hS.seal_ b o v h
  refine ⟨h1, v', ?_, h3⟩
  have hlt : b < w.heap.size := by
    rcases Nat.lt_or_ge b w.heap.size with h | h
    · exact h
    · simp [World.cell?, Array.getElem?_eq_none h] at h2
  rw [hb.cell (p := ⟨b, o, none⟩) hlt]
  exact h2
end Go.Proofs.YtacolbfofamocaaGreat.sx
set_option maxRecDepth 100000
namespace Go.Proofs.YtacolbfofamocaaGreat.streamBytes
open Go.ChangeShapes Go.WideShapes Go.ChangeAt Go.RowKit
theorem own : ownKnob Tryz.prog.godebug = none := by kernel_rfl
theorem bulk_part {H : Type} {d : DataW H} {l : List (DataW H)} (h : d ∈ l) : Rows.uptoBulk d ≤ Rows.uptoBulkAll l := by
  induction l with
  | nil => cases h
  | cons x r ih =>
    simp only [Rows.uptoBulkAll]
    cases List.mem_cons.1 h with
    | inl e => subst e; omega
    | inr e => have := ih e; omega
theorem bulk_one {H : Type} (d : DataW H) : 1 ≤ Rows.uptoBulk d := by
  cases d with
  | lit l => cases l <;> simp [Rows.uptoBulk]
  | nil => simp [Rows.uptoBulk]
  | ptr d => simp [Rows.uptoBulk]
  | slice elems spare => simp [Rows.uptoBulk]
  | agg parts => simp [Rows.uptoBulk]
  | iface t d => simp [Rows.uptoBulk]
  | map entries => simp [Rows.uptoBulk]
  | held h => simp [Rows.uptoBulk]
theorem bulk_length {H : Type} (l : List (DataW H)) : l.length ≤ Rows.uptoBulkAll l := by
  induction l with
  | nil => simp [Rows.uptoBulkAll]
  | cons x r ih => have := bulk_one x; simp only [Rows.uptoBulkAll, List.length_cons]; omega
/-- a row of bytes that came in -/
theorem open_bytes {H : Type} {enc : TypeId × Value → H} {W : World} {base : Nat} {v : Value} {d : DataW H} {p : List MemPlace} (hv : Value.okWide Tryz.prog W .any base 23 v) (h : DataW.Trod enc Tryz.prog W 0 (fun _ => true) true 23 v d p) :
    ∃ xs : sx.By, sx.VR (sx.base1 1 W) (.list 0 (xs : List (sx.D.E 0))) v ∧ xs.length ≤ Rows.uptoBulk d := by
  have hu : Tryz.prog.underlying 23 = some (.slice 5) := by kernel_rfl
  obtain ⟨a0, len, cap, rfl⟩ := okWide_slice hu hv
  obtain ⟨fuel, hf⟩ := h
  have h0 := sx.lvs_ok 8 23 [.sl 5] _ _ _ (by kernel_rfl) hf
  obtain ⟨v, r, e, hs, _⟩ := h0.uncons
  obtain rfl : Value.slice a0 len cap = v := by simp [Value.cells] at e; exact e.1
  obtain ⟨xs, h1, a1, cap1, h2⟩ := sx.row_u8 hs
  refine ⟨xs, h1, ?_⟩
  simp only [Value.slice.injEq] at h2
  obtain ⟨_, hl, _⟩ := h2
  rw [← hl]
  rcases Go.Deep.open_slice hu hf with ⟨hcs, _⟩ | ⟨a, len', cap', m, n, Dd, Pl, hcs, _, _, _, _, hx, _⟩
  · simp only [Value.cells, Array.toList, List.cons.injEq, Value.slice.injEq, and_true] at hcs
    omega
  · simp only [Value.cells, Array.toList, List.cons.injEq, Value.slice.injEq, and_true] at hcs
    obtain ⟨_, rfl, _⟩ := hcs
    have hd : d = .slice ((List.range len).map Dd) ((List.range (m - len)).map fun j => Dd (len + j)) := congrArg Prod.fst hx
    rw [hd]
    have := bulk_length ((List.range len).map Dd)
    simp only [Rows.uptoBulk]
    simp at this
    omega
/-- a stream that came in -/
theorem open_stream {H : Type} {enc : TypeId × Value → H} {W : World} {base : Nat} {v : Value} {d : DataW H} {p : List MemPlace} (hv : Value.okWide Tryz.prog W .any base 29 v) (h : DataW.Trod enc Tryz.prog W 0 (fun _ => true) true 29 v d p) :
    ∃ y : sx.Strm, sx.VR (sx.base1 1 W) (.agg (sx.strmL y)) v := by
  have hu : Tryz.prog.underlying 29 = some (.struct (Tryz.prog.fieldsOf 29)) := by kernel_rfl
  obtain ⟨cs, rfl, _⟩ := okWide_struct hu hv
  obtain ⟨fuel, hf⟩ := h
  obtain ⟨y, hy⟩ := sx.open_strm hf
  exact ⟨y, sx.VR.aggL hy⟩
theorem contract (H : Type) (enc : TypeId × Value → H) (W : World) (base : Nat) (args : Array Value) (ds gs : List (DataW H)) (before : List MemPlace)
    (hval : ∀ (j : Nat) t v, Tryz.f3.params[j]? = some t → args[j]? = some v → Value.okWide Tryz.prog W .any base t v)
    (hW : DataW.Whole enc Tryz.prog Tryz.f3.params.toList Rows.streamBytesSpec.vars false W args.toList ds gs before) (hk : Rows.uptoSmall H (ds ++ gs) = true) :
    Calls Tryz.prog 3 args W fun e W' => ∃ v, e = .returned v ∧ Rows.streamBytesSpec.post enc Tryz.prog Tryz.f3 false true false false W args v W' := by
  have hW0 := hW
  obtain ⟨p, q, hA, hV, _, _, _⟩ := hW0
  have hA : DataW.TrodAll enc Tryz.prog W 0 (fun _ => true) true Tryz.f3.params.toList args.toList ds p := hA
  have hp : Tryz.f3.params = #[29, 23, 23] := by kernel_rfl
  rw [hp] at hA hval
  obtain ⟨v0, vs0, d0, ds0, p0, q0, hargs, rfl, rfl, h0, r0⟩ := trodAll_cons hA
  obtain ⟨v1, vs1, d1, ds1, p1, q1, rfl, rfl, rfl, h1, r1⟩ := trodAll_cons r0
  obtain ⟨v2, vs2, d2, ds2, p2, q2, rfl, rfl, rfl, h2, r2⟩ := trodAll_cons r1
  obtain ⟨rfl, rfl, rfl⟩ := trodAll_nil r2
  obtain ⟨rfl, rfl⟩ := trodVars_none hV
  obtain rfl : args = #[v0, v1, v2] := by cases args; simp_all
  have hb : Rows.uptoBulkAll ([d0, d1, d2] ++ []) ≤ 1048576 := of_decide_eq_true hk
  obtain ⟨y, e0⟩ := open_stream (hval 0 29 v0 rfl rfl) h0
  obtain ⟨xs, e1, b1⟩ := open_bytes (hval 1 23 v1 rfl rfl) h1
  obtain ⟨zs, e2, b2⟩ := open_bytes (hval 2 23 v2 rfl rfl) h2
  have b3 : Rows.uptoBulk d1 ≤ 1048576 := Nat.le_trans (bulk_part (by simp)) hb
  have b4 : Rows.uptoBulk d2 ≤ 1048576 := Nat.le_trans (bulk_part (by simp)) hb
  refine (sx.bytOk sx.runsOk).2 (y, xs, zs) ⟨Nat.le_trans b1 b3, Nat.le_trans b2 b4⟩ (sx.base1 1 W) #[v0, v1, v2] W (.cons e0 (.cons e1 (.cons e2 .nil))) (sx.base1_sim 1 W) (fun _ _ => rfl) _ fun M' v' W' hv hst => ?_
  have hv : sx.VR M' (.bool true) v' := hv
  cases hv
  refine ⟨_, rfl, frame.post_law (B := 4) hW rfl rfl (by kernel_rfl) (by decide +kernel) rfl (by kernel_rfl) ⟨hst.os, hst.tape, hst.output, hst.size, fun k hk => hst.keep k hk ?_⟩⟩
  rintro ⟨b, o, mi, h, _⟩
  cases h
set_option maxRecDepth 100000 in
theorem lifted (os : Os) (started : os.Started) (H : Type) (enc : TypeId × Value → H) (F : Stop.Interp) :
    ReturnsInHanded {} Tryz.checked os 3 .any ((Rows.OpenSpec.upto Rows.streamBytesSpec).pre6 enc Tryz.prog Tryz.f3 Rows.streamBytesUptoRow.domain false) (((Rows.OpenSpec.upto Rows.streamBytesSpec).at F).post enc Tryz.prog Tryz.f3 false true false false) := by
  refine returnsInHanded_of_cond (C := Tryz.checked) (s := Rows.OpenSpec.upto Rows.streamBytesSpec) (k := Rows.uptoSmall) rfl own started (by kernel_rfl) (by kernel_rfl : Tryz.prog.funcs[3]? = some Tryz.f3)
    (OpenSpec.witness (enc := enc) (C := Tryz.checked) (s := Rows.OpenSpec.upto Rows.streamBytesSpec) (k := Rows.uptoSmall) rfl false ⟨#[], #[.agg #[.int .i64 0, .int .i64 0, .bool false, .bool false, .int .i64 0, .int .i64 0, .slice none 0 0, .slice none 0 0, .int .i64 0, .slice none 0 0, .slice none 0 0, .int .i64 0, .slice none 0 0, .slice none 0 0, .int .i64 0, .slice none 0 0], .slice none 0 0, .slice none 0 0], []⟩ 8 (by kernel_rfl) (by kernel_rfl) (by kernel_rfl)
      (x := ([.agg [.lit (.int .i64 0), .lit (.int .i64 0), .lit (.bool false), .lit (.bool false), .lit (.int .i64 0), .lit (.int .i64 0), .nil, .agg [.nil, .agg [.lit (.int .i64 0), .nil]], .agg [.nil, .agg [.lit (.int .i64 0), .nil]], .agg [.nil, .agg [.lit (.int .i64 0), .nil]]], .nil, .nil], [], [])) (by kernel_rfl) rfl (by kernel_rfl)) ?_
  intro W base args ds gs before hval hW _ hk _
  exact contract H enc W base args ds gs before hval hW hk
theorem proved : Rows.StreamBytesUptoSaid :=
  OpenClaim.holds_of_cond 3 Tryz.f3 rfl rfl rfl rfl rfl rfl rfl ⟨rfl, rfl, rfl, rfl, rfl⟩ rfl rfl rfl rfl rfl name (by kernel_rfl : Tryz.prog.funcs[3]? = some Tryz.f3) facts
    (of_decide_eq_true (by kernel_rfl)) (by unfold Func.isWrapper; first | (rw [if_pos (by decide +kernel)]; kernel_rfl) | (rw [if_neg (by decide +kernel)]; exact ⟨rfl, rfl⟩))
    (fun os started H enc _ F => lifted os started H enc F)
#print axioms proved
end Go.Proofs.YtacolbfofamocaaGreat.streamBytes
