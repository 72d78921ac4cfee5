/- ShellShows: whatever the input of bulk at most 1048576, the call returns true and leaves what was there as it was. The bound is the only condition. -/
import Derived.Test.YtjdehneddakpnaaGreatDoorSSwC
import Derived.Test.YtjdehneddakpnaaGreatDoorSShC
import Derived.Test.YtjdehneddakpnaaGreatDoorCFactS
set_option linter.all false
set_option maxRecDepth 100000
namespace Go.Proofs.YtjdehneddakpnaaGreatDoor.shellShows
open Go Go.ChangeShapes Go.WideShapes Go.ChangeAt Go.RowKit
theorem params : Tryz.f5.params = #[3, 3, 40, 41] := by kernel_rfl
theorem reads (os : Os) {H : Type} (enc : TypeId × Value → H) : ∃ places, DataW.whole enc Tryz.prog ((shl.laidWorld os).forCall (fun _ _ => 0) ⟨#[], #[.int .i64 0, .int .i64 0, .slice none 0 0, .slice none 0 0], []⟩).memory Tryz.f5.params.toList Rows.shellShowsSpec.vars false (#[.int .i64 0, .int .i64 0, .slice none 0 0, .slice none 0 0] : Array Value).toList 8 = some ([.lit (.int .i64 0), .lit (.int .i64 0), .nil, .nil], [], places) :=
  ⟨[], by kernel_rfl⟩
theorem contract (H : Type) (enc : TypeId × Value → H) (W : World) (base : Nat) (args : Array Value) (ds gs : List (DataW H)) (before : List MemPlace)
    (hval : ∀ (j : Nat) t v, Tryz.f5.params[j]? = some t → args[j]? = some v → Value.okWide Tryz.prog W .any base t v)
    (hW : DataW.Whole enc Tryz.prog Tryz.f5.params.toList Rows.shellShowsSpec.vars false W args.toList ds gs before) (hk : Rows.uptoSmall H (ds ++ gs) = true) (hg : sx.D.ng ≤ W.heap.size ∧ sx.D.gw W) :
    Calls Tryz.prog 5 args W fun e W' => ∃ v, e = .returned v ∧ Rows.shellShowsSpec.post enc Tryz.prog Tryz.f5 false true false false W args v W' := by
  have hW0 := hW
  obtain ⟨p, q, hA, hV, _, _, _⟩ := hW0
  have hA : DataW.TrodAll enc Tryz.prog W 0 (fun _ => true) true Tryz.f5.params.toList args.toList ds p := hA
  rw [params] at hA hval
  obtain ⟨v0, vs0, d0, ds0, p0, q0, hargs, rfl, rfl, h0, r0⟩ := trodAll_cons hA
  obtain ⟨v1, vs1, d1, ds1, p1, q1, rfl, rfl, rfl, h1, r1⟩ := trodAll_cons r0
  obtain ⟨v2, vs2, d2, ds2, p2, q2, rfl, rfl, rfl, h2, r2⟩ := trodAll_cons r1
  obtain ⟨v3, vs3, d3, ds3, p3, q3, rfl, rfl, rfl, h3, r3⟩ := trodAll_cons r2
  obtain ⟨rfl, rfl, rfl⟩ := trodAll_nil r3
  obtain ⟨rfl, rfl⟩ := trodVars_none hV
  obtain rfl : args = #[v0, v1, v2, v3] := by cases args; simp_all
  have hb : Rows.uptoBulkAll ([d0, d1, d2, d3] ++ []) ≤ 1048576 := of_decide_eq_true hk
  have b0 : Rows.uptoBulk d0 ≤ 1048576 := Nat.le_trans (shl.bulk_part (by simp)) hb
  have b1 : Rows.uptoBulk d1 ≤ 1048576 := Nat.le_trans (shl.bulk_part (by simp)) hb
  have b2 : Rows.uptoBulk d2 ≤ 1048576 := Nat.le_trans (shl.bulk_part (by simp)) hb
  have b3 : Rows.uptoBulk d3 ≤ 1048576 := Nat.le_trans (shl.bulk_part (by simp)) hb
  obtain ⟨y0, e0, r0⟩ := shl.arg_int (hval 0 3 v0 rfl rfl) h0
  obtain ⟨y1, e1, r1⟩ := shl.arg_int (hval 1 3 v1 rfl rfl) h1
  have s2 := shl.arg_slice (e := 48) (by kernel_rfl) (by kernel_rfl) (hval 2 40 v2 rfl rfl) h2
  obtain ⟨y2, e2, l2, r2⟩ := sx.row_told s2
  have s3 := shl.arg_slice (e := 80) (by kernel_rfl) (by kernel_rfl) (hval 3 41 v3 rfl rfl) h3
  obtain ⟨y3, e3, l3, r3⟩ := sx.row_rec (by omega) s3
  refine (sx.lawSOk sx.runsOk).2 ⟨y0, y1, y2, y3⟩ ⟨r0, r1, by show y2.length ≤ _; omega, by show y3.length ≤ _; omega, r2, r3⟩ (sx.base0 W) #[v0, v1, v2, v3] W (.cons e0 (.cons e1 (.cons e2 (.cons e3 .nil)))) (sx.base0_sim W hg.1 hg.2) (fun _ _ => rfl) _ fun M' v' W' hv hst => ?_
  have hv : sx.VR M' (.bool true) v' := hv
  cases hv
  refine ⟨_, rfl, frame.post_law (B := 4) hW rfl rfl (by kernel_rfl) (by decide +kernel) rfl (by kernel_rfl) ⟨hst.os, hst.tape, hst.output, hst.size, fun k hk => hst.keep k hk ?_⟩⟩
  rintro ⟨b, o, mi, h, _⟩
  cases h
theorem lifted (os : Os) (started : os.Started) (H : Type) (enc : TypeId × Value → H) (F : Stop.Interp) :
    ReturnsInHanded {} Tryz.checked os 5 .any ((Rows.OpenSpec.upto Rows.shellShowsSpec).preRow enc Tryz.prog Tryz.f5 Rows.shellShowsUptoRow.domain false Rows.shellShowsUptoRow.laid) (((Rows.OpenSpec.upto Rows.shellShowsSpec).at F).post enc Tryz.prog Tryz.f5 false true false false) := by
  obtain ⟨places, hx⟩ := reads os enc
  refine returnsInHanded_of_row (C := Tryz.checked) (s := Rows.OpenSpec.upto Rows.shellShowsSpec) shl.own started (by kernel_rfl) Tryz.func5
    (witness_row_at (enc := enc) (C := Tryz.checked) false (shl.laidWorld os) #[.int .i64 0, .int .i64 0, .slice none 0 0, .slice none 0 0] rfl (by kernel_rfl) (by kernel_rfl) (by kernel_rfl)
      (OpenSpec.preRow_of_cond 8 hx (by kernel_rfl) (fun k hk => by cases hk; kernel_rfl) (by kernel_rfl) (shl.laid_met os _))) ?_
  intro W base args ds gs before hval hW _ hcd _ hL hsh _
  exact contract H enc W base args ds gs before hval hW (hcd _ rfl) (shl.gw_of hL hsh)
theorem wf : Rows.shellShowsUptoRow.wfByText (Rows.OpenSpec.upto Rows.shellShowsSpec) = true := by kernel_rfl
theorem inst : Tryz.f5.isInstance Tryz.pinned.checked.prog Rows.shellShowsUptoRow.origin Rows.shellShowsUptoRow.targs := of_decide_eq_true (by kernel_rfl)
theorem wrap : Tryz.f5.isWrapper Tryz.pinned.checked.prog Rows.shellShowsUptoRow.wrapper Rows.shellShowsUptoRow.mainSum := by unfold Func.isWrapper; first | (rw [if_pos (by decide +kernel)]; kernel_rfl) | (rw [if_neg (by decide +kernel)]; exact ⟨rfl, rfl⟩)
theorem said : Rows.ShellShowsUptoSaid :=
  OpenClaim.holds_of_cond 5 Tryz.f5 rfl rfl rfl rfl rfl rfl rfl ⟨rfl, rfl, rfl, rfl, rfl⟩ rfl rfl rfl rfl rfl name Tryz.func5 facts
    inst wrap
    (fun os started H enc _ F => by rw [OpenClaim.pre_eq_preRow]; exact lifted os started H enc F)
theorem plain (f : FuncId) (fn : Func) (hf : Tryz.pinned.checked.prog.funcNamed "spoor/spoorlaw30.ShellShows" = some f) (hfn : Tryz.pinned.checked.prog.funcs[f]? = some fn) :
    true = Tryz.pinned.checked.prog.looks [] ∧ ∀ (j : Nat) t, fn.params[j]? = some t → Tryz.pinned.checked.prog.wantsStandIn t = false := by
  obtain rfl : f = 5 := Option.some.inj ((show Tryz.prog.funcNamed "spoor/spoorlaw30.ShellShows" = some 5 by kernel_rfl).symm.trans hf) |>.symm
  obtain rfl : fn = Tryz.f5 := (Option.some.inj (Tryz.func5.symm.trans hfn)).symm
  refine ⟨shl.looks, fun j t ht => ?_⟩
  rw [params] at ht
  have hm : t ∈ [3, 3, 40, 41] := by simpa using Array.mem_of_getElem? ht
  have hall : ([3, 3, 40, 41].all fun u => !Tryz.prog.wantsStandIn u) = true := by kernel_rfl
  exact (show Tryz.prog.wantsStandIn t = false by simpa using List.all_eq_true.1 hall t hm)
theorem goes : false = Rows.shellShowsUptoRow.goesBy Tryz.pinned.checked.prog := (shl.goes_none shl.nogo Rows.shellShowsUptoRow rfl).symm
theorem proved : Rows.ShellShowsUptoCardSaid :=
  Claim7.holds_tied_plain_at .later [] _ _ _ _ said (fun _ h => by cases h) wf (fun _ h => by cases h) shellShowsUpto_row_tie rfl ⟨rfl, rfl⟩ shl.main rfl plain goes
#print axioms proved
end Go.Proofs.YtjdehneddakpnaaGreatDoor.shellShows
