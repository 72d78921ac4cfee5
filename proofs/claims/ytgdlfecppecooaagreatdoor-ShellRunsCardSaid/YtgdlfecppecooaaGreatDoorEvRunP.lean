/- An evaluator of closed calls: a row of operations in the text's order. -/
import Derived.Test.YtgdlfecppecooaaGreatDoorEvOpG
import Derived.Tactics
set_option linter.all false
namespace Go.Proofs.YtgdlfecppecooaaGreatDoor.ev
open Go Go.RowKit
section
variable {P : Program} {M M' : Pm} {φ φ' : T Value} {a : Act} {N : Nat} {w : World} {s s' : St}
theorem getD_put (a : Act) (d : Option Tmp) (v : Value) (t : Tmp) (h : ∀ x, d = some x → x < a.tmps.size) : (a.put d v).tmps.getD t undef = if d = some t then v else a.tmps.getD t undef := by
  cases d with
  | none => rw [if_neg (by simp)]; rfl
  | some x =>
    show (a.tmps.setIfInBounds x v).getD t undef = _
    rw [Array.getD_eq_getD_getElem?, Array.getD_eq_getD_getElem?]
    by_cases hx : x = t
    · subst hx
      rw [Array.getElem?_setIfInBounds_self_of_lt (h x rfl), if_pos rfl]
      rfl
    · rw [Array.getElem?_setIfInBounds_ne hx, if_neg (by simpa using hx)]
theorem putA_some {d : Option Tmp} {v : Value} (h : putA N φ d v = some φ') : (∀ x, d = some x → x < N) ∧ ∀ t, φ'.get t = if d = some t then some v else φ.get t := by
  cases d with
  | none => cases (show some φ = some φ' from h); exact ⟨fun x hx => (nomatch hx), fun t => by simp⟩
  | some x =>
    obtain ⟨h1, h2⟩ := bB_some.1 (show bB (Nat.ble (x + 1) N) (φ.put x (some v)) = some φ' from h)
    refine ⟨fun y hy => by cases hy; exact ble_nat.1 h1, fun t => ?_⟩
    rw [T.put_spec _ _ _ _ h2 t]
    by_cases e : t = x
    · subst e; simp
    · rw [if_neg e, if_neg (by simpa using fun e2 => e e2.symm)]
theorem size_put (a : Act) (d : Option Tmp) (v : Value) : (a.put d v).tmps.size = a.tmps.size := by cases d <;> simp [Act.put]
theorem defers_put (a : Act) (d : Option Tmp) (v : Value) : (a.put d v).defers = a.defers := by cases d <;> rfl
theorem putA_FR {d : Option Tmp} {v v' : Value} (h : putA N φ d v = some φ') (hf : FR P M φ a N) (hv : VR M v v') : FR P M φ' (a.put d v') N := by
  obtain ⟨h1, h2⟩ := putA_some h
  refine ⟨fun t => ?_, by rw [size_put, hf.size], by rw [defers_put, hf.defers], hf.glob⟩
  rw [h2, getD_put a d v' t (fun x hx => by rw [hf.size]; exact h1 x hx)]
  by_cases e : d = some t
  · rw [if_pos e, if_pos e]; exact hv
  · rw [if_neg e, if_neg e]; exact hf.at_ t
theorem yA_eq {ops : Array Oper} (hf : FR P M φ a N) (j : Nat) : yA ops.toList φ j = yielded ops a.tmps j := by
  unfold yA yielded
  rw [lGet_eq, Array.getElem?_toList]
  cases ops[j]? with
  | none => rfl
  | some o =>
    show bnd o.dst _ = _
    cases ht : o.dst with
    | none => rw [Option.bind_some, ht]; rfl
    | some t =>
      rw [Option.bind_some, ht, Option.bind_some]
      have h := hf.at_ t
      show bnd (φ.get t) (fun v => asBool v) = _
      rw [Array.getD_eq_getD_getElem?] at h
      cases hg : φ.get t with
      | none =>
        rw [hg] at h
        show none = _
        cases hv : a.tmps[t]? with
        | none => rfl
        | some u =>
          rw [hv] at h
          have h' : VR M undef u := h
          cases h'
          rfl
      | some v =>
        rw [hg] at h
        show asBool v = _
        cases hv : a.tmps[t]? with
        | none =>
          rw [hv] at h
          have h' : VR M v undef := h
          cases h'
          rfl
        | some u =>
          rw [hv] at h
          have h' : VR M v u := h
          cases h' <;> rfl
theorem wantA_eq {ops : Array Oper} {o : Oper} (hf : FR P M φ a N) : wantA ops.toList φ o = Region.wanted o (yielded ops a.tmps) := by
  unfold wantA Region.wanted
  cases o.guard with
  | none => rfl
  | some p =>
    obtain ⟨j, wt⟩ := p
    show Option.rec (motive := fun _ => Bool) false (fun b => Bool.rec (motive := fun _ => Bool) (Bool.not wt) wt b) (yA ops.toList φ j) = (yielded ops a.tmps j == some wt)
    rw [yA_eq hf j]
    cases yielded ops a.tmps j with
    | none => cases wt <;> rfl
    | some b => cases b <;> cases wt <;> rfl
theorem runOps_ok {ex : CaF} {ops : Array Oper} (hng : NoNG P) (hex : CaOk P ex) : ∀ (l : List Oper) (s : St) (φ : T Value) (s' : St) (φ' : T Value), runOps P ex ops.toList N l s φ = some (s', φ') → s.nx ≤ s'.nx ∧
    ∀ (M : Pm) (a : Act) (w : World), Sim P M s.h.get w → FR P M φ a N → Fresh M s.nx s'.nx → ∀ Q : Exit → Act → World → Prop,
      (∀ M' a' w', Stp P s.h.get M w s'.h.get M' w' s.nx s'.nx → FR P M' φ' a' N → Q .normal a' w') → wpList P ops Q l a w
  | [], s, φ, s', φ', h => by
    cases (show some (s, φ) = some (s', φ') from h)
    exact ⟨Nat.le_refl _, fun M a w hS hf _ Q hQ => hQ M a w (.refl hS _) hf⟩
  | o :: l, s, φ, s', φ', h => by
    rcases bE_some.1 (show bE (wantA ops.toList φ o) (bnd2 (opF o.op P ex s φ) fun v s1 => bnd (putA N φ o.dst v) fun φ => bB (Nat.ble s.nx s1.nx) (runOps P ex ops.toList N l s1 φ)) (bnd (putA N φ o.dst undef) fun φ => runOps P ex ops.toList N l s φ) = some (s', φ') from h) with ⟨hw, h1⟩ | ⟨hw, h1⟩
    · obtain ⟨v, s1, h2, h3⟩ := bnd2_some.1 h1
      obtain ⟨φ1, h4, h5⟩ := bnd_some.1 h3
      obtain ⟨h6, h7⟩ := bB_some.1 h5
      have hle1 : s.nx ≤ s1.nx := ble_nat.1 h6
      obtain ⟨hle2, hrest⟩ := runOps_ok hng hex l s1 φ1 s' φ' h7
      refine ⟨by omega, fun M a w hS hf hfr Q hQ => ?_⟩
      have hf1 : Fresh M s.nx s1.nx := fun b h8 h9 => hfr b h8 (by omega)
      have hop := opF_ok (o := o) hng hex h2 hS hf hf1
      unfold wpList
      rw [if_pos (by rw [← wantA_eq hf]; exact hw)]
      refine .inl (hop.wp rfl _ _ fun M1 v' w1 hv hst => ?_)
      have hLe := hst.Le hf1
      have hf2 : Fresh M1 s1.nx s'.nx := fun b h8 h9 => by rw [hst.ext b (by omega)]; exact hfr b (by omega) h9
      refine hrest M1 _ w1 hst.sim (putA_FR h4 (hf.mono hLe) hv) hf2 Q fun M' a' w' hst2 hf3 => hQ M' a' w' (hst.trans hst2) hf3
    · obtain ⟨φ1, h4, h5⟩ := bnd_some.1 h1
      obtain ⟨hle2, hrest⟩ := runOps_ok hng hex l s φ1 s' φ' h5
      refine ⟨hle2, fun M a w hS hf hfr Q hQ => ?_⟩
      unfold wpList
      rw [if_neg (by rw [← wantA_eq hf, hw]; simp)]
      exact hrest M _ w hS (putA_FR h4 hf .undef) hfr Q hQ
end
end Go.Proofs.YtgdlfecppecooaaGreatDoor.ev
