/- ShellBytes: whatever the input, the call returns true and leaves what was there as it was. No conditions. -/
import Derived.Test.YtjdehneddakpnaaGreatDoorCSwC
import Derived.Test.YtjdehneddakpnaaGreatDoorCShC
import Derived.Test.YtjdehneddakpnaaGreatDoorCFactY
set_option linter.all false
set_option maxRecDepth 100000
namespace Go.Proofs.YtjdehneddakpnaaGreatDoor.shellBytes
open Go Go.ChangeShapes Go.WideShapes Go.ChangeAt Go.RowKit
theorem params : Tryz.f7.params = #[22] := by kernel_rfl
theorem reads (os : Os) {H : Type} (enc : TypeId × Value → H) : ∃ places, DataW.whole enc Tryz.prog ((shl.laidWorld os).forCall (fun _ _ => 0) ⟨#[], #[.slice none 0 0], []⟩).memory Tryz.f7.params.toList Rows.shellBytesSpec.vars false (#[.slice none 0 0] : Array Value).toList 8 = some ([.nil], [], places) :=
  ⟨[], by kernel_rfl⟩
theorem contract (H : Type) (enc : TypeId × Value → H) (W : World) (base : Nat) (args : Array Value) (ds gs : List (DataW H)) (before : List MemPlace)
    (hval : ∀ (j : Nat) t v, Tryz.f7.params[j]? = some t → args[j]? = some v → Value.okWide Tryz.prog W .any base t v)
    (hW : DataW.Whole enc Tryz.prog Tryz.f7.params.toList Rows.shellBytesSpec.vars false W args.toList ds gs before) (hg : sx.D.ng ≤ W.heap.size ∧ sx.D.gw W) :
    Calls Tryz.prog 7 args W fun e W' => ∃ v, e = .returned v ∧ Rows.shellBytesSpec.post enc Tryz.prog Tryz.f7 false true false false W args v W' := by
  have hW0 := hW
  obtain ⟨p, q, hA, hV, _, _, _⟩ := hW0
  have hA : DataW.TrodAll enc Tryz.prog W 0 (fun _ => true) true Tryz.f7.params.toList args.toList ds p := hA
  rw [params] at hA hval
  obtain ⟨v0, vs0, d0, ds0, p0, q0, hargs, rfl, rfl, h0, r0⟩ := trodAll_cons hA
  obtain ⟨rfl, rfl, rfl⟩ := trodAll_nil r0
  obtain ⟨rfl, rfl⟩ := trodVars_none hV
  obtain rfl : args = #[v0] := by cases args; simp_all
  have s0 := shl.arg_slice (e := 5) (by kernel_rfl) (by kernel_rfl) (hval 0 22 v0 rfl rfl) h0
  obtain ⟨y0, e0, l0⟩ := sx.row_u8 s0
  refine (sx.lawYOk sx.runsOk).2 y0 trivial (sx.base0 W) #[v0] W (.cons e0 .nil) (sx.base0_sim W hg.1 hg.2) (fun _ _ => rfl) _ fun M' v' W' hv hst => ?_
  have hv : sx.VR M' (.bool true) v' := hv
  cases hv
  refine ⟨_, rfl, frame.post_law (B := 4) hW rfl rfl (by kernel_rfl) (by decide +kernel) rfl (by kernel_rfl) ⟨hst.os, hst.tape, hst.output, hst.size, fun k hk => hst.keep k hk ?_⟩⟩
  rintro ⟨b, o, mi, h, _⟩
  cases h
theorem lifted (os : Os) (started : os.Started) (H : Type) (enc : TypeId × Value → H) (F : Stop.Interp) :
    ReturnsInHanded {} Tryz.checked os 7 .any ((OpenSpec.ofChange Rows.shellBytesSpec).preRow enc Tryz.prog Tryz.f7 Rows.shellBytesRow.domain false Rows.shellBytesRow.laid) (((OpenSpec.ofChange Rows.shellBytesSpec).at F).post enc Tryz.prog Tryz.f7 false true false false) := by
  obtain ⟨places, hx⟩ := reads os enc
  refine returnsInHanded_of_row (C := Tryz.checked) (s := OpenSpec.ofChange Rows.shellBytesSpec) shl.own started (by kernel_rfl) Tryz.func7
    (witness_row_at (enc := enc) (C := Tryz.checked) false (shl.laidWorld os) #[.slice none 0 0] rfl (by kernel_rfl) (by kernel_rfl) (by kernel_rfl)
      (OpenSpec.preRow_of_cond 8 hx (by kernel_rfl) (fun k hk => by cases hk) (by kernel_rfl) (shl.laid_met os _))) ?_
  intro W base args ds gs before hval hW _ hcd _ hL hsh _
  exact contract H enc W base args ds gs before hval hW (shl.gw_of hL hsh)
theorem wf : Rows.shellBytesRow.wfByText (OpenSpec.ofChange Rows.shellBytesSpec) = true := by kernel_rfl
theorem inst : Tryz.f7.isInstance Tryz.pinned.checked.prog Rows.shellBytesRow.origin Rows.shellBytesRow.targs := of_decide_eq_true (by kernel_rfl)
theorem wrap : Tryz.f7.isWrapper Tryz.pinned.checked.prog Rows.shellBytesRow.wrapper Rows.shellBytesRow.mainSum := by unfold Func.isWrapper; first | (rw [if_pos (by decide +kernel)]; kernel_rfl) | (rw [if_neg (by decide +kernel)]; exact ⟨rfl, rfl⟩)
theorem said : Rows.ShellBytesSaid :=
  OpenClaim.holds_of_cond 7 Tryz.f7 rfl rfl rfl rfl rfl rfl rfl ⟨rfl, rfl, rfl, rfl, rfl⟩ rfl rfl rfl rfl rfl name Tryz.func7 facts
    inst wrap
    (fun os started H enc _ F => by rw [OpenClaim.pre_eq_preRow]; exact lifted os started H enc F)
theorem plain (f : FuncId) (fn : Func) (hf : Tryz.pinned.checked.prog.funcNamed "spoor/spoorlaw30.ShellBytes" = some f) (hfn : Tryz.pinned.checked.prog.funcs[f]? = some fn) :
    true = Tryz.pinned.checked.prog.looks [] ∧ ∀ (j : Nat) t, fn.params[j]? = some t → Tryz.pinned.checked.prog.wantsStandIn t = false := by
  obtain rfl : f = 7 := Option.some.inj ((show Tryz.prog.funcNamed "spoor/spoorlaw30.ShellBytes" = some 7 by kernel_rfl).symm.trans hf) |>.symm
  obtain rfl : fn = Tryz.f7 := (Option.some.inj (Tryz.func7.symm.trans hfn)).symm
  refine ⟨shl.looks, fun j t ht => ?_⟩
  rw [params] at ht
  have hm : t ∈ [22] := by simpa using Array.mem_of_getElem? ht
  have hall : ([22].all fun u => !Tryz.prog.wantsStandIn u) = true := by kernel_rfl
  exact (show Tryz.prog.wantsStandIn t = false by simpa using List.all_eq_true.1 hall t hm)
theorem goes : false = Rows.shellBytesRow.goesBy Tryz.pinned.checked.prog := (shl.goes_none shl.nogo Rows.shellBytesRow rfl).symm
theorem proved : Rows.ShellBytesCardSaid :=
  Claim7.holds_tied_plain_at .later [] _ _ _ _ said (fun _ h => by cases h) wf (fun _ h => by cases h) shellBytes_row_tie rfl ⟨rfl, rfl⟩ shl.main rfl plain goes
#print axioms proved
end Go.Proofs.YtjdehneddakpnaaGreatDoor.shellBytes
