/- An evaluator of closed calls: a call that takes nothing and gives true. -/
import Derived.Test.YtgdlfecppecooaaGreatDoorEvExec
import Derived.Below
set_option linter.all false
namespace Go.Proofs.YtgdlfecppecooaaGreatDoor.ev
open Go Go.RowKit
section
variable {P : Program}
def okRun (r : Option (Value × St)) : Bool := match r with
  | some (.bool b, _) => b
  | _ => false
theorem below_of {f : FuncId} {n g0 : Nat} (hg0 : Nat.ble P.globals.size g0 = true) {tab : List En} (ht : ∀ en ∈ tab, EnOk P en) (hmix : P.follows .mixedOrders = true) (hng : NoNG P) (h : okRun (callW P (exec P tab n) f [] ⟨.nil, g0⟩) = true) (W : World) :
    Calls P f #[] W fun e W' => e = .returned (.bool true) ∧ Below W.heap.size W W' := by
  obtain ⟨s', h1⟩ : ∃ s', callW P (exec P tab n) f [] ⟨.nil, g0⟩ = some (.bool true, s') := by
    unfold okRun at h
    split at h
    · rename_i b s' e; subst h; exact ⟨s', e⟩
    · cases h
  let M0 : Pm := fun g => if g < P.globals.size then some ⟨g, 0, 0, 0⟩ else none
  have hS : Sim P M0 (St.mk .nil g0).h.get W := ⟨fun b o hb => (nomatch (T.get_nil b).symm.trans hb), fun b b' o o' mi mi' hb => (nomatch (T.get_nil b).symm.trans hb)⟩
  have hfr : Fresh M0 (St.mk .nil g0).nx s'.nx := fun b h2 _ => by
    have h3 : g0 ≤ b := h2
    have h4 := ble_nat.1 hg0
    show (if b < P.globals.size then some _ else none) = none
    rw [if_neg (by omega)]
  obtain ⟨_, _, hcall⟩ := callW_ok (exec_ok ht hmix hng n).1 _ _ _ _ _ h1
  have hcall := hcall M0 #[] W .nil hS hfr fun g hg => ⟨⟨g, 0, 0, 0⟩, if_pos hg, rfl, rfl⟩
  refine hcall _ fun M' v' w' hv hst => ⟨?_, hst.os, hst.tape, hst.output, hst.size, fun c hc => hst.keep c hc fun b o mi hb => ?_⟩
  · cases hv; rfl
  · exact nomatch (T.get_nil b).symm.trans hb
/-- likewise, from a world of which some cells are known, not to be written -/
theorem below_from {f : FuncId} {n : Nat} {s0 : St} {M0 : Pm} {tab : List En} (ht : ∀ en ∈ tab, EnOk P en) (hmix : P.follows .mixedOrders = true) (hng : NoNG P) (h : okRun (callW P (exec P tab n) f [] s0) = true) (W : World)
    (hS : Sim P M0 s0.h.get W) (hfr : ∀ b, s0.nx ≤ b → M0 b = none) (hg : ∀ g, g < P.globals.size → ∃ mi, M0 g = some mi ∧ mi.blk = g ∧ mi.sh = 0) (hro : ∀ b o, s0.h.get b = some o → o.wr = false) :
    Calls P f #[] W fun e W' => e = .returned (.bool true) ∧ Below W.heap.size W W' := by
  obtain ⟨s', h1⟩ : ∃ s', callW P (exec P tab n) f [] s0 = some (.bool true, s') := by
    unfold okRun at h
    split at h
    · rename_i b s' e; subst h; exact ⟨s', e⟩
    · cases h
  obtain ⟨_, _, hcall⟩ := callW_ok (exec_ok ht hmix hng n).1 _ _ _ _ _ h1
  have hcall := hcall M0 #[] W .nil hS (fun b h2 _ => hfr b h2) hg
  refine hcall _ fun M' v' w' hv hst => ⟨?_, hst.os, hst.tape, hst.output, hst.size, fun c hc => hst.keep c hc fun b o mi hb hw => ?_⟩
  · cases hv; rfl
  · rw [hro b o hb] at hw; cases hw
/-- likewise, where two package variables hold errors whose pointers are all that is known -/
theorem below_two {f : FuncId} {n g1 g2 : Nat} {TE TI : TypeId} {h1 h0 : T AO} {tab : List En}
    (e1 : T.put .nil g1 (some (.cells [.iface TE (.pointer (some ⟨998, 0, none⟩))] TI true)) = some h1) (e2 : T.put h1 g2 (some (.cells [.iface TE (.pointer (some ⟨999, 0, none⟩))] TI true)) = some h0)
    (hgs : Nat.ble P.globals.size 900 = true) (hl1 : Nat.ble (g1 + 1) P.globals.size = true) (hl2 : Nat.ble (g2 + 1) P.globals.size = true) (hne : Nat.beq g1 g2 = false) (hsz : szOf P TI = some 1) (hTB : Nat.beq TI TB = false)
    (ht : ∀ en ∈ tab, EnOk P en) (hmix : P.follows .mixedOrders = true) (hng : NoNG P) (h : okRun (callW P (exec P tab n) f [] ⟨h0, 1000⟩) = true) (W : World)
    {a1 a2 : Addr} {fz1 fz2 : Nat × Nat} (w1 : W.heap[g1]? = some (.cells #[.iface TE (.pointer (some a1))] TI fz1)) (w2 : W.heap[g2]? = some (.cells #[.iface TE (.pointer (some a2))] TI fz2)) (s1 : a1.spot = none) (s2 : a2.spot = none) :
    Calls P f #[] W fun e W' => e = .returned (.bool true) ∧ Below W.heap.size W W' := by
  have hgs' := ble_nat.1 hgs
  have hl1' := ble_nat.1 hl1
  have hl2' := ble_nat.1 hl2
  have hne' : g1 ≠ g2 := fun e => by rw [beq_nat.2 e] at hne; cases hne
  have hTB' : TI ≠ TB := fun e => by rw [beq_nat.2 e] at hTB; cases hTB
  let M0 : Pm := fun b => if b < P.globals.size then some ⟨b, 0, 1, 1⟩ else if b = 998 then some ⟨a1.block, a1.off, 0, 0⟩ else if b = 999 then some ⟨a2.block, a2.off, 0, 0⟩ else none
  have m1 : ∀ b, b < P.globals.size → M0 b = some ⟨b, 0, 1, 1⟩ := fun b hb => if_pos hb
  have m8 : M0 998 = some ⟨a1.block, a1.off, 0, 0⟩ := by
    show (if _ then _ else _) = _
    rw [if_neg (by omega), if_pos rfl]
  have m9 : M0 999 = some ⟨a2.block, a2.off, 0, 0⟩ := by
    show (if _ then _ else _) = _
    rw [if_neg (by omega), if_neg (by omega), if_pos rfl]
  have hget : ∀ b o, h0.get b = some o → (b = g1 ∧ o = .cells [.iface TE (.pointer (some ⟨998, 0, none⟩))] TI true) ∨ (b = g2 ∧ o = .cells [.iface TE (.pointer (some ⟨999, 0, none⟩))] TI true) := by
    intro b o hb
    rw [T.put_spec _ _ _ _ e2] at hb
    split at hb
    · rename_i q; cases hb; exact Or.inr ⟨q, rfl⟩
    · rw [T.put_spec _ _ _ _ e1] at hb
      split at hb
      · rename_i q; cases hb; exact Or.inl ⟨q, rfl⟩
      · exact nomatch (T.get_nil b).symm.trans hb
  have one : ∀ {g m : Nat} {a : Addr} {fz : Nat × Nat}, g < P.globals.size → M0 m = some ⟨a.block, a.off, 0, 0⟩ → a.spot = none → W.heap[g]? = some (.cells #[.iface TE (.pointer (some a))] TI fz) →
      OR P M0 (.cells [.iface TE (.pointer (some ⟨m, 0, none⟩))] TI true) ⟨g, 0, 1, 1⟩ W := by
    intro g m a fz _ hm hs hw
    refine ⟨_, _, hw, rfl, by simp, ?_, ?_, fun e => (nomatch e), fun e => absurd e hTB'⟩
    · intro i v hi
      cases i with
      | zero =>
        cases hi
        refine ⟨_, rfl, .iface TE ?_⟩
        have := VR.ptr (o := 0) hm
        rcases a with ⟨ab, ao, sp⟩
        cases (show sp = none from hs)
        exact this
      | succ i => cases hi
    · intro k hk
      rw [hsz] at hk
      cases hk
      rfl
  refine below_from ht hmix hng h W (M0 := M0) ⟨?_, ?_⟩ ?_ (fun g hg => ⟨_, m1 g hg, rfl, rfl⟩) ?_
  · intro b o hb
    rcases hget b o hb with ⟨rfl, rfl⟩ | ⟨rfl, rfl⟩
    · exact ⟨_, m1 _ hl1', one hl1' m8 s1 w1⟩
    · exact ⟨_, m1 _ hl2', one hl2' m9 s2 w2⟩
  · intro b b' o o' mi mi' hb hb' hm hm' he
    have q : ∀ b o, h0.get b = some o → b < P.globals.size := fun b o hb => by
      rcases hget b o hb with ⟨rfl, _⟩ | ⟨rfl, _⟩
      · exact hl1'
      · exact hl2'
    rw [m1 _ (q b o hb)] at hm
    rw [m1 _ (q b' o' hb')] at hm'
    cases hm
    cases hm'
    exact he
  · intro b hb
    have hb' : 1000 ≤ b := hb
    show (if _ then _ else _) = _
    rw [if_neg (by omega), if_neg (by omega), if_neg (by omega)]
  · intro b o hb
    rcases hget b o hb with ⟨_, rfl⟩ | ⟨_, rfl⟩ <;> rfl
/-- no function that counts goroutines has a body: as a computation -/
noncomputable def noNG (fs : List Func) : Bool := allL (fun fn => Bool.not (fn.name == "runtime.NumGoroutine" && fn.body.isSome)) fs
theorem noNG_spec (h : noNG P.funcs.toList = true) : ∀ (f : FuncId) (fn : Func), P.funcs[f]? = some fn → (fn.name == "runtime.NumGoroutine" && fn.body.isSome) = false := fun f fn hf => by
  have := allL_iff.1 h fn (List.mem_of_getElem? (i := f) (by rw [Array.getElem?_toList]; exact hf))
  exact Bool.not_eq_true' _ |>.mp this
end
end Go.Proofs.YtgdlfecppecooaaGreatDoor.ev
