/- An evaluator of closed calls: one operation. -/
import Derived.Test.YtgdlfecppecooaaGreatDoorEvOp9
set_option linter.all false
namespace Go.Proofs.YtgdlfecppecooaaGreatDoor.ev
open Go Go.RowKit
section
variable {P : Program} {M M' : Pm} {φ φ' : T Value} {a : Act} {N : Nat} {w : World} {s s' : St}
def exOf (e : Ex) : Exit := match e with
  | .normal => .normal
  | .exit id => .exit id
  | .ret => .ret
/-- an evaluator of code is right -/
def ExOk (P : Program) (ex : ExF) : Prop := ∀ (c : Code) (s : St) (φ : T Value) (N : Nat) (e : Ex) (s' : St) (φ' : T Value), ex c s φ N = some (.mk e s' φ') → s.nx ≤ s'.nx ∧
  ∀ (M : Pm) (a : Act) (w : World), Sim P M s.h.get w → FR P M φ a N → Fresh M s.nx s'.nx → ∀ Q : Exit → Act → World → Prop,
    (∀ M' a' w', Stp P s.h.get M w s'.h.get M' w' s.nx s'.nx → FR P M' φ' a' N → Q (exOf e) a' w') → c.wp P Q a w
/-- what is said of calls is right -/
def CallOk (P : Program) (f : FuncId) (args : List Value) (s : St) (v : Value) (s' : St) : Prop := s.nx ≤ s'.nx ∧ (∃ fn c, P.funcs[f]? = some fn ∧ fn.body = some c) ∧
  ∀ (M : Pm) (A : Array Value) (w : World), LR M args A.toList → Sim P M s.h.get w → Fresh M s.nx s'.nx → (∀ g, g < P.globals.size → ∃ mi, M g = some mi ∧ mi.blk = g ∧ mi.sh = 0) →
    ∀ R : Ending → World → Prop, (∀ M' v' w', VR M' v v' → Stp P s.h.get M w s'.h.get M' w' s.nx s'.nx → R (.returned v') w') → Calls P f A w R
def CaOk (P : Program) (ca : CaF) : Prop := ∀ (f : FuncId) (args : List Value) (s : St) (v : Value) (s' : St), ca f args s = some (v, s') → CallOk P f args s v s'
/-- an operation does what was computed -/
def OpOk (P : Program) (o : Oper) (a : Act) (s : St) (M : Pm) (w : World) (v : Value) (s' : St) : Prop :=
  (∃ M' v' w', ((execOp a.eval o).run P w = .ok (.value v') w' ∨ ((execOp a.eval o).run P w = .ok .skip w' ∧ v' = undef)) ∧ VR M' v v' ∧ Stp P s.h.get M w s'.h.get M' w' s.nx s'.nx) ∨
  (∃ f A, (execOp a.eval o).run P w = .ok (.enter f A) w ∧ ∀ R : Ending → World → Prop, (∀ M' v' w', VR M' v v' → Stp P s.h.get M w s'.h.get M' w' s.nx s'.nx → R (.returned v') w') → Calls P f A w R)
theorem OpOk.wp {o : Oper} {v : Value} {a2 : Act} (h : OpOk P o a s M w v s') (he : execOp a2.eval o = execOp a.eval o) (K : Act → World → Prop) (Q : Exit → Act → World → Prop)
    (hK : ∀ M' v' w', VR M' v v' → Stp P s.h.get M w s'.h.get M' w' s.nx s'.nx → K (a2.put o.dst v') w') : o.wp P a2 w K Q := by
  unfold Oper.wp
  rw [he]
  rcases h with ⟨M', v', w', h1 | ⟨h1, rfl⟩, hv, hs⟩ | ⟨f, A, h1, h2⟩
  · rw [h1]; exact hK M' v' w' hv hs
  · rw [h1]; exact hK M' undef w' hv hs
  · rw [h1]; exact h2 _ fun M' v' w' hv hs => hK M' v' w' hv hs
theorem OpOk.value {o : Oper} {v v' : Value} {w' : World} (h : (execOp a.eval o).run P w = .ok (.value v') w') (hv : VR M' v v') (hs : Stp P s.h.get M w s'.h.get M' w' s.nx s'.nx) : OpOk P o a s M w v s' :=
  .inl ⟨M', v', w', .inl h, hv, hs⟩
theorem OpOk.res {o : Oper} {v : Value} {r : Result Value} (hr : Res P s M w r v s') (h : ∀ v' w', r = .ok v' w' → (execOp a.eval o).run P w = .ok (.value v') w') : OpOk P o a s M w v s' := by
  obtain ⟨M', v', w', e, hv, hs⟩ := hr
  exact .value (h v' w' e) hv hs
theorem OpOk.pure {o : Oper} {v v' : Value} (hS : Sim P M s.h.get w) (h : (execOp a.eval o).run P w = .ok (.value v') w) (hv : VR M v v') : OpOk P o a s M w v s := .value h hv (.refl hS _)
theorem OpOk.skip {o : Oper} {r : Result Unit} (hr : ResU P s M w r s') (h : ∀ w', r = .ok () w' → (execOp a.eval o).run P w = .ok .skip w') : OpOk P o a s M w undef s' := by
  obtain ⟨M', w', e, hs⟩ := hr
  exact .inl ⟨M', undef, w', .inr ⟨h w' e, rfl⟩, .undef, hs⟩
theorem pureS_some {x : Option Value} {v : Value} (h : pureS s x = some (v, s')) : x = some v ∧ s' = s := by
  obtain ⟨u, hu, h1⟩ := bnd_some.1 h
  cases h1
  exact ⟨hu, rfl⟩
theorem undS_some {x : Option St} {v : Value} (h : undS x = some (v, s')) : x = some s' ∧ v = undef := by
  obtain ⟨u, hu, h1⟩ := bnd_some.1 h
  cases h1
  exact ⟨hu, rfl⟩
theorem run_v {α : Type} {x : Sem α} {f : α → Next} {v : α} {w w' : World} (h : x.run P w = .ok v w') : (do Pure.pure (f (← x)) : Sem Next).run P w = .ok (f v) w' := by
  simp only [Sem.run_bind, h, Result.andThen_ok, Sem.run_pure]
theorem evs_arr {xs : Array Operand} {vs : List Value} (h : evs P φ xs.toList = some vs) (hf : FR P M φ a N) : LR M vs (xs.map a.eval).toList := by
  rw [Array.toList_map]
  exact evs_LR h hf
theorem frame0_get : ∀ {vs : List Value} {i : Nat} {φ φ' : T Value}, frame0 vs i φ = some φ' → ∀ t, φ'.get t = if i ≤ t ∧ t < i + vs.length then vs[t - i]? else φ.get t
  | [], i, φ, φ', h, t => by cases (show some φ = some φ' from h); simp; omega
  | v :: vs, i, φ, φ', h, t => by
    obtain ⟨φ1, h1, h2⟩ := bnd_some.1 (show bnd (φ.put i (some v)) (fun φ => frame0 vs (i + 1) φ) = some φ' from h)
    rw [frame0_get h2 t, T.put_spec _ _ _ _ h1 t]
    simp only [List.length_cons]
    by_cases ht : t = i
    · subst ht
      rw [if_neg (by omega), if_pos rfl, if_pos (by omega)]
      simp
    · by_cases hc : i + 1 ≤ t ∧ t < i + 1 + vs.length
      · rw [if_pos hc, if_pos (by omega), show t - i = (t - (i + 1)) + 1 by omega]
        rfl
      · rw [if_neg hc, if_neg ht, if_neg (by omega)]
theorem frame0_FR {vs : List Value} {A : Array Value} {n : Nat} (h : frame0 vs 0 .nil = some φ) (hl : LR M vs A.toList) (hg : ∀ g, g < P.globals.size → ∃ mi, M g = some mi ∧ mi.blk = g ∧ mi.sh = 0) :
    FR P M φ { tmps := A ++ Array.replicate (n - A.size) undef, defers := [] } (Nat.add (lLen vs) (Nat.sub n (lLen vs))) := by
  have hlen : vs.length = A.size := by rw [hl.1, Array.length_toList]
  refine ⟨fun t => ?_, ?_, rfl, hg⟩
  · rw [frame0_get h t]
    simp only [Nat.zero_le, true_and, Nat.zero_add, Nat.sub_zero]
    by_cases ht : t < vs.length
    · rw [if_pos ht]
      have h1 := List.getElem?_eq_getElem ht
      obtain ⟨v', h2, h3⟩ := hl.get h1
      rw [h1]
      have h4 : (A ++ Array.replicate (n - A.size) undef).getD t undef = v' := by
        rw [Array.getElem?_toList] at h2
        rw [Array.getD_eq_getD_getElem?, Array.getElem?_append_left (by omega), h2]
        rfl
      show VR M _ ((A ++ Array.replicate (n - A.size) undef).getD t undef)
      rw [h4]
      exact h3
    · rw [if_neg ht, T.get_nil]
      have h4 : (A ++ Array.replicate (n - A.size) undef).getD t undef = undef := by
        rw [Array.getD_eq_getD_getElem?, Array.getElem?_append_right (by omega), Array.getElem?_replicate]
        split <;> rfl
      show VR M undef ((A ++ Array.replicate (n - A.size) undef).getD t undef)
      rw [h4]
      exact .undef
  · show (A ++ Array.replicate (n - A.size) undef).size = lLen vs + (n - lLen vs)
    rw [lLen_eq, hlen]
    simp
theorem resA_run {C : Nat} : ∀ {rs : List ResultVar} {vs : List Value}, resA P s φ rs = some vs → FR P M φ a C → Sim P M s.h.get w → ∃ vs', LR M vs vs' ∧ (rs.mapM fun r => (match r with
      | .tmp t => Pure.pure (a.tmps.getD t undef)
      | .cell b t => do loadVar t (← Go.asAddr (a.tmps.getD b undef)) : Sem Value)).run P w = .ok vs' w
  | [], vs, h, _, _ => by cases (show some [] = some vs from h); exact ⟨[], .nil, by simp⟩
  | r :: rs, vs, h, hf, hS => by
    obtain ⟨v, hv, h1⟩ := bnd_some.1 (show bnd (resOne P s φ r) (fun v => bnd (resA P s φ rs) fun vs => some (v :: vs)) = some vs from h)
    obtain ⟨us, hus, h2⟩ := bnd_some.1 h1
    cases h2
    obtain ⟨us', hl, hr⟩ := resA_run hus hf hS
    cases r with
    | tmp t =>
      have h3 : Option.rec (motive := fun _ => Option Value) (some undef) (fun v => some v) (φ.get t) = some v := hv
      have ht := hf.at_ t
      have hv' : VR M v (a.tmps.getD t undef) := by
        cases hg : φ.get t with
        | none => rw [hg] at h3 ht; cases h3; exact ht
        | some u => rw [hg] at h3 ht; cases h3; exact ht
      refine ⟨a.tmps.getD t undef :: us', .cons hv' hl, ?_⟩
      rw [List.mapM_cons]
      simp only [Sem.run_bind, Sem.run_pure, Result.andThen_ok, hr]
    | cell b t =>
      obtain ⟨u, hu, h3⟩ := bnd_some.1 (show bnd (φ.get b) (fun v => bnd2 (asPtr v) fun b o => loadA P s t b o) = some v from hv)
      obtain ⟨b', o, hp, h4⟩ := bnd2_some.1 h3
      have ht := hf.at_ b
      rw [hu] at ht
      obtain ⟨mi, hm, _, e⟩ := asPtr_VR hp ht
      obtain ⟨v', _, h5, h6⟩ := loadA_run h4 hm hS
      have h8 : (do loadVar t (← Go.asAddr (a.tmps.getD b undef)) : Sem Value).run P w = .ok v' w := by
        simp only [Sem.run_bind, e, Go.asAddr, Sem.run_pure, Result.andThen_ok, h5]
      refine ⟨v' :: us', .cons h6 hl, ?_⟩
      rw [List.mapM_cons, Sem.run_bind]
      refine (congrArg (fun r : Result Value => r.andThen _) h8).trans ?_
      simp only [Result.andThen_ok, Sem.run_bind, hr, Sem.run_pure]
theorem resV_run {fn : Func} {vs : List Value} (h : resA P s φ fn.results.toList = some vs) (hf : FR P M φ a N) (hS : Sim P M s.h.get w) : ∃ v', (results fn a.tmps).run P w = .ok v' w ∧ VR M (resV vs) v' := by
  obtain ⟨vs', hl, hr⟩ := resA_run h hf hS
  have hm : (fn.results.mapM fun r => (match r with
      | .tmp t => Pure.pure (a.tmps.getD t undef)
      | .cell b t => do loadVar t (← Go.asAddr (a.tmps.getD b undef)) : Sem Value)).run P w = .ok vs'.toArray w := by
    rw [Array.mapM_eq_mapM_toList]
    simp only [Sem.run_map, hr, Result.andThen_ok]
  refine ⟨if h : vs'.toArray.size = 1 then vs'.toArray[0] else .tuple vs'.toArray, ?_, ?_⟩
  · unfold results
    simp only [Sem.run_bind]
    exact (congrArg (fun r : Result (Array Value) => r.andThen fun vs w' => Sem.run P (Pure.pure (if h : vs.size = 1 then vs[0] else .tuple vs)) w') hm).trans rfl
  · cases vs with
    | nil =>
      obtain rfl := hl.nil_l
      exact .tuple rfl fun i v v' e => by simp at e
    | cons v vs =>
      obtain ⟨v', r, rfl, h1, h2⟩ := hl.uncons
      cases vs with
      | nil =>
        obtain rfl := h2.nil_l
        exact h1
      | cons u us =>
        obtain ⟨u', r', rfl, h3, h4⟩ := h2.uncons
        rw [dif_neg (by simp)]
        exact .tupL (.cons h1 (.cons h3 h4))
theorem callW_ok {ex : ExF} (hex : ExOk P ex) : CaOk P (callW P ex) := by
  intro f args s v s' h
  obtain ⟨fn, hfn, h1⟩ := bnd_some.1 h
  obtain ⟨c, hc, h2⟩ := bnd_some.1 h1
  obtain ⟨φ, hφ, h3⟩ := bnd_some.1 h2
  obtain ⟨⟨e, s2, φ2⟩, hr, h4⟩ := bnd_some.1 h3
  obtain ⟨he, h5⟩ := bB_some.1 (show bB (outOk e) (bnd (resA P s2 φ2 fn.results.toList) fun vs => some (resV vs, s2)) = some (v, s') from h4)
  obtain ⟨vs, hvs, h6⟩ := bnd_some.1 h5
  cases h6
  obtain ⟨hle, hex2⟩ := hex c s φ _ e s' φ2 hr
  refine ⟨hle, ⟨fn, c, hfn, hc⟩, fun M A w hl hS hf hg R hR => calls_of_wp hfn hc ?_⟩
  refine hex2 M _ w hS (frame0_FR hφ hl hg) hf _ fun M' a' w' hst hfr => ?_
  obtain ⟨v', hr1, hr2⟩ := resV_run hvs hfr hst.sim
  cases e with
  | normal => exact ⟨hfr.defers, v', hr1, hR M' v' w' hr2 hst⟩
  | ret => exact ⟨hfr.defers, v', hr1, hR M' v' w' hr2 hst⟩
  | exit id => cases he
theorem evsAt {xs : Array Operand} {vs : List Value} {i : Nat} {v : Value} (h : evs P φ xs.toList = some vs) (hf : FR P M φ a N) (hv : lGet vs i = some v) : ∃ v', (xs.map a.eval)[i]? = some v' ∧ VR M v v' := by
  rw [lGet_eq] at hv
  obtain ⟨v', h1, h2⟩ := (evs_arr h hf).get hv
  exact ⟨v', by rw [← Array.getElem?_toList]; exact h1, h2⟩
theorem tsAt {ts : Array TypeId} {i : Nat} {t : TypeId} (h : lGet ts.toList i = some t) : ts[i]? = some t := by
  rw [lGet_eq, Array.getElem?_toList] at h
  exact h
theorem opBuiltin_ok {b : Builtin} {o : Oper} {c : Call} {vs : List Value} {v : Value} (ho : o.op = .call c) (hc : c.callee = .builtin b) (hvs : evs P φ c.args.toList = some vs) (h : opBuiltin b P s c.argTypes.toList vs = some (v, s')) (hS : Sim P M s.h.get w) (hf : FR P M φ a N) (hfr : Fresh M s.nx s'.nx) :
    OpOk P o a s M w v s' := by
  have hx : ∀ (x : Sem Next), (do let d ← resolve a.eval c o.type; invoke d.target d.args : Sem Next) = x → (execOp a.eval o) = x := fun x hx => by
    unfold execOp; rw [ho]; exact hx
  have he : (execOp a.eval o) = builtin b c.argTypes o.type (c.args.map fun | .const _ => true | _ => false) (c.args.map a.eval) := hx _ (by
    unfold resolve
    rw [hc]
    rfl)
  cases b <;> simp only [opBuiltin] at h <;> (try cases h)
  case append =>
    obtain ⟨t, ht, h1⟩ := bnd_some.1 h
    obtain ⟨u, hu, h2⟩ := bnd_some.1 h1
    obtain ⟨d, hd, h3⟩ := bnd_some.1 h2
    obtain ⟨x, hx2, h4⟩ := bnd_some.1 h3
    obtain ⟨d', hd1, hd2⟩ := evsAt hvs hf hd
    obtain ⟨x', hx1, hx3⟩ := evsAt hvs hf hx2
    have hr := appendA_run (ty := o.type) h4 hd2 hx3 hS hfr
    refine OpOk.res hr fun v' w' e => ?_
    rw [he]
    have e2 : (Builtin.append_ c.argTypes o.type (c.args.map a.eval)) = Builtin.append_ #[t, u] o.type #[d', x'] := by
      unfold Builtin.append_
      rw [tsAt ht, tsAt hu, hd1, hx1]
      rfl
    exact run_v (by rw [e2]; exact e)
  case copy =>
    obtain ⟨t, ht, h1⟩ := bnd_some.1 h
    obtain ⟨d, hd, h3⟩ := bnd_some.1 h1
    obtain ⟨x, hx2, h4⟩ := bnd_some.1 h3
    obtain ⟨d', hd1, hd2⟩ := evsAt hvs hf hd
    obtain ⟨x', hx1, hx3⟩ := evsAt hvs hf hx2
    exact OpOk.res (copyA_run (ty := o.type) h4 hd2 hx3 hS (tsAt ht) hd1 hx1) fun v' w' e => by rw [he]; exact run_v e
  case len =>
    obtain ⟨t, ht, h1⟩ := bnd_some.1 h
    obtain ⟨x, hx2, h4⟩ := bnd_some.1 h1
    obtain ⟨x', hx1, hx3⟩ := evsAt hvs hf hx2
    obtain ⟨h5, rfl⟩ := pureS_some h4
    obtain ⟨h6, h7⟩ := lenA_run (ty := o.type) h5 hx3 hS c.argTypes (c.args.map a.eval) (tsAt ht) hx1
    exact OpOk.pure hS (by rw [he]; exact run_v h6) h7
  case min =>
    obtain ⟨x, hx2, h4⟩ := bnd_some.1 h
    obtain ⟨h5, rfl⟩ := pureS_some h4
    obtain ⟨v', h6, h7⟩ := min_run (P := P) (ts := c.argTypes) (ty := o.type) h5 hx2 (evs_arr hvs hf)
    exact OpOk.pure hS (by rw [he]; exact run_v (h6 w)) h7
  case max =>
    obtain ⟨x, hx2, h4⟩ := bnd_some.1 h
    obtain ⟨h5, rfl⟩ := pureS_some h4
    obtain ⟨v', h6, h7⟩ := max_run (P := P) (ts := c.argTypes) (ty := o.type) h5 hx2 (evs_arr hvs hf)
    exact OpOk.pure hS (by rw [he]; exact run_v (h6 w)) h7
  case clear =>
    obtain ⟨t, ht, h1⟩ := bnd_some.1 h
    obtain ⟨x, hx2, h4⟩ := bnd_some.1 h1
    obtain ⟨x', hx1, hx3⟩ := evsAt hvs hf hx2
    exact OpOk.res (opClear_run (ty := o.type) h4 hx3 hS (tsAt ht) hx1) fun v' w' e => by rw [he]; exact run_v e
  case cap =>
    obtain ⟨t, ht, h1⟩ := bnd_some.1 h
    obtain ⟨x, hx2, h2⟩ := bnd_some.1 h1
    obtain ⟨d, hd, h3⟩ := bnd_some.1 h2
    obtain ⟨e, hde, h4⟩ := bnd_some.1 h3
    obtain ⟨x', hx1, hx3⟩ := evsAt hvs hf hx2
    obtain ⟨h5, rfl⟩ := pureS_some h4
    have hd' : P.underlying t = some (.slice e) := by cases d <;> first | (cases hde; exact hd) | cases hde
    obtain ⟨h6, h7⟩ := capA_run (P := P) (w := w) (ty := o.type) h5 hx3 hd' c.argTypes (c.args.map a.eval) (tsAt ht) hx1
    exact OpOk.pure hS (by rw [he]; exact run_v h6) h7
  case unsafeSliceData =>
    obtain ⟨x, hx2, h1⟩ := bnd_some.1 h
    obtain ⟨hlen, h2⟩ := bB_some.1 h1
    obtain ⟨h5, rfl⟩ := pureS_some h2
    have hlen : vs.length = 1 := by rw [← lLen_eq]; exact beq_nat.1 hlen
    obtain ⟨y, rfl⟩ : ∃ y, vs = [y] := by
      match vs, hlen with
      | [y], _ => exact ⟨y, rfl⟩
    cases (show some y = some x from hx2)
    obtain ⟨x', r, e, hx, hr⟩ := (evs_arr hvs hf).uncons
    obtain rfl := hr.nil_l
    have ea : c.args.map a.eval = #[x'] := by rw [← Array.toList_inj]; exact e
    obtain ⟨v', h6, h7⟩ := opSlData_run (P := P) (w := w) (ts := c.argTypes) (ty := o.type) h5 hx
    exact OpOk.pure hS (by rw [he, ea]; exact run_v h6) h7
  case unsafeString =>
    obtain ⟨t, ht, h1⟩ := bnd_some.1 h
    obtain ⟨p, hp, h2⟩ := bnd_some.1 h1
    obtain ⟨n, hn, h3⟩ := bnd_some.1 h2
    obtain ⟨hlen, h4⟩ := bB_some.1 h3
    have hlen : vs.length = 2 := by rw [← lLen_eq]; exact beq_nat.1 hlen
    obtain ⟨y, z, rfl⟩ : ∃ y z, vs = [y, z] := by
      match vs, hlen with
      | [y, z], _ => exact ⟨y, z, rfl⟩
    cases (show some y = some p from hp)
    cases (show some z = some n from hn)
    obtain ⟨y', r, e, hy, hr⟩ := (evs_arr hvs hf).uncons
    obtain ⟨z', r2, e2, hz, hr2⟩ := hr.uncons
    obtain rfl := hr2.nil_l
    subst e2
    have ea : c.args.map a.eval = #[y', z'] := by rw [← Array.toList_inj]; exact e
    have e3 : Builtin.unsafeString_ c.argTypes o.type #[y', z'] = Builtin.unsafeString_ #[t, t] o.type #[y', z'] := by
      unfold Builtin.unsafeString_
      rw [tsAt ht]
      rfl
    refine OpOk.res (opUStr_run (it := t) (ty := o.type) h4 hy hz hS) fun v' w' e4 => ?_
    rw [he, ea]
    refine run_v ?_
    rw [e3]
    exact e4
end
end Go.Proofs.YtgdlfecppecooaaGreatDoor.ev
