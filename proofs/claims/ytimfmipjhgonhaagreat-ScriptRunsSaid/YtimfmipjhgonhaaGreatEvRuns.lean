/- An evaluator of closed calls: a call that takes nothing and gives true. -/
import Derived.Test.YtimfmipjhgonhaaGreatEvExec
import Derived.Below
namespace Go.Proofs.YtimfmipjhgonhaaGreat.ev
open Go Go.RowKit
section
variable {P : Program}
def okRun (r : Option (Value × St)) : Bool := match r with
  | some (.bool b, _) => b
  | _ => false
theorem below_of {f : FuncId} {n g0 : Nat} (hg0 : Nat.ble P.globals.size g0 = true) {tab : List En} (ht : ∀ en ∈ tab, EnOk P en) (hmix : P.follows .mixedOrders = true) (hng : NoNG P) (h : okRun (callW P (exec P tab n) f [] ⟨.nil, g0⟩) = true) (W : World) :
    Calls P f #[] W fun e W' => e = .returned (.bool true) ∧ Below W.heap.size W W' := by
  obtain ⟨s', h1⟩ : ∃ s', callW P (exec P tab n) f [] ⟨.nil, g0⟩ = some (.bool true, s') := by
    unfold okRun at h
    split at h
    · rename_i b s' e; subst h; exact ⟨s', e⟩
    · cases h
  let M0 : Pm := fun g => if g < P.globals.size then some ⟨g, 0, 0, 0⟩ else none
  have hS : Sim P M0 (St.mk .nil g0).h.get W := ⟨fun b o hb => (nomatch (T.get_nil b).symm.trans hb), fun b b' o o' mi mi' hb => (nomatch (T.get_nil b).symm.trans hb)⟩
  have hfr : Fresh M0 (St.mk .nil g0).nx s'.nx := fun b h2 _ => by
    have h3 : g0 ≤ b := h2
    have h4 := ble_nat.1 hg0
    show (if b < P.globals.size then some _ else none) = none
    rw [if_neg (by omega)]
  obtain ⟨_, _, hcall⟩ := callW_ok (exec_ok ht hmix hng n).1 _ _ _ _ _ h1
  have hcall := hcall M0 #[] W .nil hS hfr fun g hg => ⟨⟨g, 0, 0, 0⟩, if_pos hg, rfl, rfl⟩
  refine hcall _ fun M' v' w' hv hst => ⟨?_, hst.os, hst.tape, hst.output, hst.size, fun c hc => hst.keep c hc fun b o mi hb => ?_⟩
  · cases hv; rfl
  · exact nomatch (T.get_nil b).symm.trans hb
/-- no function that counts goroutines has a body: as a computation -/
noncomputable def noNG (fs : List Func) : Bool := allL (fun fn => Bool.not (fn.name == "runtime.NumGoroutine" && fn.body.isSome)) fs
theorem noNG_spec (h : noNG P.funcs.toList = true) : NoNG P := fun f fn hf => by
  have := allL_iff.1 h fn (List.mem_of_getElem? (i := f) (by rw [Array.getElem?_toList]; exact hf))
  exact Bool.not_eq_true' _ |>.mp this
end
end Go.Proofs.YtimfmipjhgonhaaGreat.ev
