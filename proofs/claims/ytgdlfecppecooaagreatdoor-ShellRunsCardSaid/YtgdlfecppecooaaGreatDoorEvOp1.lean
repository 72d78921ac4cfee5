/- An evaluator of closed calls: operands, loads, stores, parts. -/
import Derived.Test.YtgdlfecppecooaaGreatDoorEvNum
import Derived.Laws.Tables
set_option linter.all false
namespace Go.Proofs.YtgdlfecppecooaaGreatDoor.ev
open Go Go.RowKit
structure FR (P : Program) (M : Pm) (φ : T Value) (a : Act) (N : Nat) : Prop where
  at_ : ∀ t, VR M ((φ.get t).getD undef) (a.tmps.getD t undef)
  size : a.tmps.size = N
  defers : a.defers = []
  glob : ∀ g, g < P.globals.size → ∃ mi, M g = some mi ∧ mi.blk = g ∧ mi.sh = 0
section
variable {P : Program} {M M' : Pm} {φ : T Value} {a : Act} {N : Nat} {w : World} {H : Hp} {s s' : St}
theorem FR.mono (h : FR P M φ a N) (hM : Le M M') : FR P M' φ a N :=
  ⟨fun t => (h.at_ t).mono hM, h.size, h.defers, fun g hg => let ⟨mi, a, b⟩ := h.glob g hg; ⟨mi, hM _ _ a, b⟩⟩
theorem ev_VR {x : Operand} {v : Value} (h : ev P φ x = some v) (hf : FR P M φ a N) : VR M v (a.eval x) := by
  cases x with
  | tmp t =>
    have ht := hf.at_ t
    have h' : Option.rec (motive := fun _ => Option Value) (some undef) (fun v => some v) (φ.get t) = some v := h
    cases hg : φ.get t with
    | none => rw [hg] at h' ht; cases h'; exact ht
    | some u => rw [hg] at h' ht; cases h'; exact ht
  | const u =>
    obtain ⟨h1, h2⟩ := bB_some.1 (show bB (clean u) (some u) = some v from h)
    cases h2
    exact clean_VR h1
  | global g =>
    obtain ⟨h1, h2⟩ := bB_some.1 (show bB (Nat.ble (g + 1) P.globals.size) (some (ptrV g 0)) = some v from h)
    cases h2
    obtain ⟨mi, hm, hb, hs⟩ := hf.glob g (ble_nat.1 h1)
    have := VR.ptr (o := 0) hm
    rw [hb, hs] at this
    exact this
  | func f =>
    cases (show some (Value.func (.func f) ⟨[]⟩ ⟨[]⟩) = some v from h)
    exact .func _ rfl (fun i v v' e => by simp at e) rfl (fun i v v' e => by simp at e)
theorem evs_LR : ∀ {xs : List Operand} {vs : List Value}, evs P φ xs = some vs → FR P M φ a N → LR M vs (xs.map a.eval)
  | [], vs, h, _ => by cases (show some [] = some vs from h); exact .nil
  | x :: xs, vs, h, hf => by
    obtain ⟨v, hv, h1⟩ := bnd_some.1 (show bnd (ev P φ x) _ = some vs from h)
    obtain ⟨us, hus, h2⟩ := bnd_some.1 h1
    cases h2
    exact .cons (ev_VR hv hf) (evs_LR hus hf)
theorem evO_VR {x : Option Operand} {v : Option Value} (h : evO P φ x = some v) (hf : FR P M φ a N) : (x = none ∧ v = none) ∨ ∃ y u, x = some y ∧ v = some u ∧ VR M u (a.eval y) := by
  cases x with
  | none => cases (show some none = some v from h); exact .inl ⟨rfl, rfl⟩
  | some y =>
    obtain ⟨u, hu, h1⟩ := bnd_some.1 (show bnd (ev P φ y) _ = some v from h)
    cases h1
    exact .inr ⟨y, u, rfl, rfl, ev_VR hu hf⟩
/-! ### Types -/
theorem szOf_some {t : TypeId} {k : Nat} (h : szOf P t = some k) : ∃ i, P.info? t = some i ∧ i.size = k := by
  unfold szOf at h
  cases hi : P.info? t with
  | none => rw [hi] at h; cases h
  | some i => rw [hi] at h; cases h; exact ⟨i, rfl, rfl⟩
theorem byOf_some {t : TypeId} {k : Nat} (h : byOf P t = some k) : ∃ i, P.info? t = some i ∧ i.bytes = k := by
  unfold byOf at h
  cases hi : P.info? t with
  | none => rw [hi] at h; cases h
  | some i => rw [hi] at h; cases h; exact ⟨i, rfl, rfl⟩
theorem zeroOf_some {t : TypeId} {z : Value} (h : zeroOf P t = some z) : ∃ i, P.info? t = some i ∧ i.zero = some z ∧ clean z = true := by
  obtain ⟨i, hi, h1⟩ := bnd_some.1 h
  obtain ⟨z', hz, h2⟩ := bnd_some.1 h1
  obtain ⟨hc, h3⟩ := bB_some.1 h2
  cases h3
  exact ⟨i, hi, hz, hc⟩
theorem run_size {t : TypeId} {k : Nat} (h : szOf P t = some k) (w : World) : (sizeOf t).run P w = .ok k w := by
  obtain ⟨i, hi, hk⟩ := szOf_some h
  simp [sizeOf, typeInfo, hi, hk]
theorem run_zero {t : TypeId} {z : Value} (h : zeroOf P t = some z) (w : World) : (zeroValue t).run P w = .ok z w := by
  obtain ⟨i, hi, hz, _⟩ := zeroOf_some h
  simp [zeroValue, typeInfo, hi, hz]
theorem run_agg {t : TypeId} {d : TypeDesc} (h : P.underlying t = some d) (w : World) : (isAgg t).run P w = .ok (dAgg d) w := by
  cases d <;> simp [isAgg, run_underlying h, dAgg]
/-! ### Parts, loads, stores -/
theorem partC_run {t : TypeId} {cs : List Value} {C : Array Value} {o : Nat} {v : Value} (h : partC P t cs o = some v) (hl : LR M cs C.toList) : ∃ v', (∀ w, (part t C o).run P w = .ok v' w) ∧ VR M v v' := by
  obtain ⟨d, hd, h1⟩ := bnd_some.1 h
  rcases bE_some.1 h1 with ⟨ha, h2⟩ | ⟨ha, h2⟩
  · obtain ⟨k, hk, h3⟩ := bnd_some.1 h2
    obtain ⟨l, hl2, h4⟩ := bnd_some.1 h3
    cases h4
    obtain ⟨h5, rfl⟩ := sTake_some hl2
    rw [sDrop_eq] at *
    refine ⟨.agg (C.extract o (o + k)), fun w => by simp [part, run_agg hd, ha, run_size hk], ?_⟩
    have e : (C.extract o (o + k)).toList = (C.toList.drop o).take k := by
      rw [Array.toList_extract, List.extract_eq_take_drop]
      congr 1; omega
    exact .agg (by rw [e]; exact ((hl.drop o).take k).1) (by rw [e]; exact ((hl.drop o).take k).2)
  · rw [lGet_eq] at h2
    obtain ⟨v', hv, hr⟩ := hl.get h2
    rw [Array.getElem?_toList] at hv
    exact ⟨v', fun w => by simp [part, run_agg hd, ha, hv], hr⟩
theorem cellsAt_some {b : Nat} {cs : List Value} (h : cellsAt s b = some cs) : ∃ e ro, s.h.get b = some (.cells cs e ro) := by
  obtain ⟨o, ho, h1⟩ := bnd_some.1 h
  cases o <;> cases h1
  exact ⟨_, _, ho⟩
theorem wrAt_some {b : Nat} {cs : List Value} {e : TypeId} (h : wrAt s b = some (cs, e)) : s.h.get b = some (.cells cs e false) := by
  obtain ⟨o, ho, h1⟩ := bnd_some.1 h
  cases o with
  | cells cs' e' ro =>
    cases ro
    · cases (show some (cs', e') = some (cs, e) from h1); exact ho
    · cases h1
  | map _ _ => cases h1
  | chan _ => cases h1
theorem mapAt_some {b : Nat} {es : List MapEntry} {c : Nat} (h : mapAt s b = some (es, c)) : s.h.get b = some (.map es c) := by
  obtain ⟨o, ho, h1⟩ := bnd_some.1 h
  cases o <;> cases h1
  exact ho
theorem loadN_run {b o k : Nat} {l : List Value} {mi : MI} (h : loadN s b o k = some l) (hm : M b = some mi) (hS : Sim P M s.h.get w) :
    ∃ l', LR M l l' ∧ l.length = k ∧ ∀ w2 : World, w2.heap = w.heap → ((loadCells ⟨mi.blk, mi.sh + o, none⟩ k).run P w2 = .ok l'.toArray w2 ∧ ∀ j v, l'[j]? = some v → w2.cell? ⟨mi.blk, mi.sh + o + j, none⟩ = some v) := by
  obtain ⟨cs, hc, h1⟩ := bnd_some.1 h
  obtain ⟨e, ro, hb⟩ := cellsAt_some hc
  obtain ⟨h2, rfl⟩ := sTake_some h1
  rw [sDrop_eq] at *
  obtain ⟨mi', hm', hor⟩ := hS.obj b _ hb
  rw [hm] at hm'; cases hm'
  obtain ⟨l', hl, hc1, hc2⟩ := hor.cellsL (o := o) h2
  have hlen : l'.length = k := by rw [← hl.1]; simp only [List.length_take, List.length_drop] at h2 ⊢; omega
  refine ⟨l', hl, by rw [hl.1, hlen], fun w2 hw => ⟨?_, hc2 w2 hw⟩⟩
  have := run_loadCells_list (P := P) (w := w2) ⟨mi.blk, mi.sh + o, none⟩ l' (fun j v hj => by rw [Addr.add_lit]; exact hc2 w2 hw j v hj)
  rw [hlen] at this
  exact this
theorem loadA_run {t : TypeId} {b o : Nat} {v : Value} {mi : MI} (h : loadA P s t b o = some v) (hm : M b = some mi) (hS : Sim P M s.h.get w) :
    ∃ v', (Instr.loadAt t (.pointer (some ⟨mi.blk, mi.sh + o, none⟩))).run P w = .ok v' w ∧ (loadVar t ⟨mi.blk, mi.sh + o, none⟩).run P w = .ok v' w ∧ VR M v v' := by
  obtain ⟨cs, hc, h1⟩ := bnd_some.1 h
  obtain ⟨d, hd, h2⟩ := bnd_some.1 h1
  have hx : ∀ x : Value, (loadVar t ⟨mi.blk, mi.sh + o, none⟩).run P w = .ok x w → (Instr.loadAt t (.pointer (some ⟨mi.blk, mi.sh + o, none⟩))).run P w = .ok x w := fun x hx => by
    simp only [Instr.loadAt, Instr.sureAddr, Sem.run_bind, Sem.run_pure, Result.andThen_ok]
    exact hx
  rcases bE_some.1 h2 with ⟨ha, h3⟩ | ⟨ha, h3⟩
  · obtain ⟨k, hk, h4⟩ := bnd_some.1 h3
    obtain ⟨l, hl, h5⟩ := bnd_some.1 h4
    cases h5
    obtain ⟨l', hlr, _, hrun⟩ := loadN_run (s := s) (b := b) (o := o) (k := k) (l := l) (bnd_some.2 ⟨cs, hc, hl⟩) hm hS
    have e : (loadVar t ⟨mi.blk, mi.sh + o, none⟩).run P w = .ok (.agg l'.toArray) w := by
      simp [loadVar, run_agg hd, ha, run_size hk, (hrun w rfl).1]
    exact ⟨_, hx _ e, e, .aggL hlr⟩
  · rw [lGet_eq] at h3
    obtain ⟨e, ro, hb⟩ := cellsAt_some hc
    obtain ⟨mi', hm', hor⟩ := hS.obj b _ hb
    rw [hm] at hm'; cases hm'
    obtain ⟨v', hv, hr⟩ := hor.cell h3
    have e : (loadVar t ⟨mi.blk, mi.sh + o, none⟩).run P w = .ok v' w := by
      simp [loadVar, run_agg hd, ha, load, Sem.run, hv]
    exact ⟨v', hx _ e, e, hr⟩
theorem set_some {b : Nat} {o : Option AO} (h : s.set b o = some s') : s'.h.get = upd s.h.get b o ∧ s'.nx = s.nx := by
  obtain ⟨t, ht, h1⟩ := bnd_some.1 h
  cases h1
  exact ⟨funext fun c => T.put_spec _ _ _ _ ht c, rfl⟩
theorem new_some {o : AO} {b : Nat} (h : s.new o = some (b, s')) : b = s.nx ∧ s'.nx = s.nx + 1 ∧ s'.h.get = upd s.h.get s.nx (some o) := by
  unfold St.new at h
  cases hn : s.nx with
  | zero => rw [hn] at h; cases h
  | succ n =>
    rw [hn] at h
    obtain ⟨t, ht, h1⟩ := bnd_some.1 (show bnd (s.h.put (n + 1) (some o)) _ = some (b, s') from h)
    cases h1
    exact ⟨rfl, rfl, funext fun c => T.put_spec _ _ _ _ ht c⟩
theorem storeN_run {b o : Nat} {vs vs' : List Value} {mi : MI} (h : storeN s b o vs = some s') (hm : M b = some mi) (hS : Sim P M s.h.get w) (hv : LR M vs vs') (h1 : allL one vs = true) :
    (∀ i, mi.sh + o = mi.sh + o → i = 0 → (storeCells ⟨mi.blk, mi.sh + o, none⟩ vs' i).run P w = .ok () (w.setCells mi.blk (mi.sh + o) vs')) ∧ (∀ j, j < vs'.length → (w.cell? ⟨mi.blk, mi.sh + o + j, none⟩).isSome = true) ∧ (∀ j, j < vs'.length → w.frozen? ⟨mi.blk, mi.sh + o + j, none⟩ = false) ∧
    Stp P s.h.get M w s'.h.get M (w.setCells mi.blk (mi.sh + o) vs') s.nx s'.nx := by
  obtain ⟨cs, e, hw, h2⟩ := bnd2_some.1 h
  obtain ⟨cs', hp, h3⟩ := bnd_some.1 h2
  obtain ⟨q1, q2⟩ := set_some h3
  obtain ⟨c1, c2, c3⟩ := store_stp hS (wrAt_some hw) hm hp hv s.nx
  refine ⟨fun i _ hi => ?_, c1, c2, by rw [q1, q2]; exact c3⟩
  subst hi
  exact run_storeCells_cells (P := P) mi.blk (mi.sh + o) vs' 0 w (by simpa using c1) (by simpa using c2) (one_LR hv h1)
/-- A step of a call: what came of it. -/
def Res (P : Program) (s : St) (M : Pm) (w : World) (r : Result Value) (v : Value) (s' : St) : Prop :=
  ∃ M' v' w', r = .ok v' w' ∧ VR M' v v' ∧ Stp P s.h.get M w s'.h.get M' w' s.nx s'.nx
theorem Res.pure (hS : Sim P M s.h.get w) {r : Result Value} {v v' : Value} (hr : r = .ok v' w) (hv : VR M v v') : Res P s M w r v s := ⟨M, v', w, hr, hv, .refl hS _⟩
def ResU (P : Program) (s : St) (M : Pm) (w : World) (r : Result Unit) (s' : St) : Prop :=
  ∃ M' w', r = .ok () w' ∧ Stp P s.h.get M w s'.h.get M' w' s.nx s'.nx
theorem opStore_run {t : TypeId} {x y x' y' : Value} (h : opStore P s t x y = some s') (hx : VR M x x') (hy : VR M y y') (hS : Sim P M s.h.get w) : ResU P s M w ((Instr.storeAt t x' y').run P w) s' := by
  obtain ⟨b, o, hp, h1⟩ := bnd2_some.1 h
  obtain ⟨k, hk, h2⟩ := bnd_some.1 h1
  obtain ⟨hl, h3⟩ := bB_some.1 h2
  obtain ⟨ho, h4⟩ := bB_some.1 h3
  obtain ⟨mi, hm, rfl, rfl⟩ := asPtr_VR hp hx
  have hlr := cellsV_LR hy
  obtain ⟨r1, _, _, r2⟩ := storeN_run h4 hm hS hlr ho
  have hlen : y'.cells.size = k := by
    have := hlr.1
    rw [beq_nat, lLen_eq] at hl
    rw [← hl, this, Array.length_toList]
  refine ⟨M, _, ?_, r2⟩
  simp only [Instr.storeAt, Instr.sureAddr, Sem.run_bind, Sem.run_pure, Result.andThen_ok, storeVar, run_size hk, hlen, ne_eq, not_true_eq_false, if_false]
  exact r1 0 rfl rfl
theorem newRow_run {e : TypeId} {cs : List Value} {C : Array Value} {b : Nat} (h : s.new (.cells cs e false) = some (b, s')) (hS : Sim P M s.h.get w) (hf : Fresh M s.nx s'.nx) (hl : LR M cs C.toList) :
    ∃ M' mi, M' b = some mi ∧ mi.sh = 0 ∧ Le M M' ∧ (newRow e C).run P w = .ok ⟨mi.blk, 0, none⟩ (w.alloc (.cells C e)) ∧ Stp P s.h.get M w s'.h.get M' (w.alloc (.cells C e)) s.nx s'.nx := by
  obtain ⟨rfl, h1, h2⟩ := new_some h
  have hf' : M s.nx = none := hf _ (Nat.le_refl _) (by omega)
  obtain ⟨M', mi, e1, e2, e3, _, _, e4, e5⟩ := alloc_stp (C := C) hS hf' e (by rw [hl.1, Array.length_toList]; exact Nat.le_refl _) (fun _ => by rw [hl.1, Array.length_toList]) (fun i v hi => by
    obtain ⟨v', a, b⟩ := hl.get hi
    exact ⟨v', by rw [← Array.getElem?_toList]; exact a, b⟩)
  refine ⟨M', mi, e1, e3, e4, ?_, by rw [h1, h2]; exact e5⟩
  rw [e2]
  simp [newRow, newObj, Sem.run]
theorem opNew_run {e : TypeId} {cs : List Value} {C : Array Value} {v : Value} (h : opNew s e cs = some (v, s')) (hS : Sim P M s.h.get w) (hf : Fresh M s.nx s'.nx) (hl : LR M cs C.toList) :
    Res P s M w ((do pure (Value.pointer (some (← newRow e C))) : Sem Value).run P w) v s' := by
  obtain ⟨b, s2, h1, h2⟩ := bnd2_some.1 h
  cases h2
  obtain ⟨M', mi, e1, e2, e3, e4, e5⟩ := newRow_run h1 hS hf hl
  refine ⟨M', .pointer (some ⟨mi.blk, 0, none⟩), _, by simp only [Sem.run_bind, e4, Result.andThen_ok, Sem.run_pure], ?_, e5⟩
  have := VR.ptr (o := 0) e1
  rw [e2] at this
  exact this
theorem opNewSl_run {e : TypeId} {cs : List Value} {C : Array Value} {v : Value} {l c : Nat} (h : opNewSl s e cs l c = some (v, s')) (hc : c < OPEN) (hS : Sim P M s.h.get w) (hf : Fresh M s.nx s'.nx) (hl : LR M cs C.toList) :
    Res P s M w ((do pure (Value.slice (some (← newRow e C)) l c) : Sem Value).run P w) v s' := by
  obtain ⟨b, s2, h1, h2⟩ := bnd2_some.1 h
  cases h2
  obtain ⟨M', mi, e1, e2, e3, e4, e5⟩ := newRow_run h1 hS hf hl
  refine ⟨M', .slice (some ⟨mi.blk, 0, none⟩) l c, _, by simp only [Sem.run_bind, e4, Result.andThen_ok, Sem.run_pure], ?_, e5⟩
  have := VR.sl (o := 0) (l := l) e1 hc
  rw [e2] at this
  exact this
/-! ### Parts laid over zeros -/
theorem foldl_set (off : Nat) : ∀ (vs : List Value) (k : Nat) (C : Array Value), off + k + vs.length ≤ C.size →
    ((vs.zipIdx k).foldl (fun cs (p : Value × Nat) => cs.setIfInBounds (off + p.2) p.1) C).size = C.size ∧
    ∀ i, ((vs.zipIdx k).foldl (fun cs (p : Value × Nat) => cs.setIfInBounds (off + p.2) p.1) C)[i]? = if off + k ≤ i ∧ i < off + k + vs.length then vs[i - (off + k)]? else C[i]?
  | [], k, C, h => ⟨rfl, fun i => by simp; omega⟩
  | v :: vs, k, C, h => by
    simp only [List.length_cons] at h
    obtain ⟨h1, h2⟩ := foldl_set off vs (k + 1) (C.setIfInBounds (off + k) v) (by simp; omega)
    rw [List.zipIdx_cons, List.foldl_cons]
    refine ⟨by rw [h1]; simp, fun i => ?_⟩
    rw [h2 i]
    simp only [List.length_cons]
    by_cases hi : i = off + k
    · subst hi
      rw [if_neg (by omega), if_pos (by omega), Nat.sub_self, Array.getElem?_setIfInBounds_self_of_lt (by omega)]
      rfl
    · rw [Array.getElem?_setIfInBounds_ne (fun e => hi e.symm)]
      by_cases hc : off + (k + 1) ≤ i ∧ i < off + (k + 1) + vs.length
      · rw [if_pos hc, if_pos (by omega), show i - (off + k) = (i - (off + (k + 1))) + 1 by omega]
        rfl
      · rw [if_neg hc, if_neg (by omega)]
theorem fillA_cons (place : Nat → Option (Nat × Nat)) (i : Nat) (x : Operand) (ps : List (Nat × Operand)) (cs : List Value) : fillA P place φ ((i, x) :: ps) cs =
    bnd2 (place i) fun off size => bnd (ev P φ x) fun v => bB (Nat.beq (lLen (cellsV v)) size) (bnd (sPut off (cellsV v) cs) fun cs => fillA P place φ ps cs) := rfl
theorem OPEN_eq : OPEN = 1180591620717411303424 := rfl
theorem fill_run {place place' : Nat → Option (Nat × Nat)} (hp : ∀ i p, place i = some p → place' i = some p) (hf : FR P M φ a N) : ∀ {ps : List (Nat × Operand)} {cs r : List Value} {C : Array Value}, fillA P place φ ps cs = some r → LR M cs C.toList →
    ∃ C', Instr.fill place' C (ps.map fun p => (p.1, a.eval p.2)) = some C' ∧ LR M r C'.toList
  | [], cs, r, C, h, hl => by cases (show some cs = some r from h); exact ⟨C, rfl, hl⟩
  | (i, x) :: ps, cs, r, C, h, hl => by
    rw [fillA_cons] at h
    obtain ⟨off, size, hpl, h2⟩ := bnd2_some.1 h
    obtain ⟨v, hv, h3⟩ := bnd_some.1 h2
    obtain ⟨hs, h4⟩ := bB_some.1 h3
    obtain ⟨cs2, hput, h5⟩ := bnd_some.1 h4
    have hvr := ev_VR hv hf
    have hlr := cellsV_LR hvr
    obtain ⟨p1, p2, p3⟩ := sPut_some hput
    rw [beq_nat, lLen_eq] at hs
    have hsz : (a.eval x).cells.size = size := by rw [← hs, hlr.1, Array.length_toList]
    have hC : cs.length = C.size := by rw [hl.1, Array.length_toList]
    have hoff : off + (a.eval x).cells.size ≤ C.size := by rw [hsz, ← hs, ← hC]; exact p1
    obtain ⟨f1, f2⟩ := foldl_set off (a.eval x).cells.toList 0 C (by rw [Array.length_toList]; omega)
    have hl2 : LR M cs2 (((a.eval x).cells.toList.zipIdx 0).foldl (fun cs (p : Value × Nat) => cs.setIfInBounds (off + p.2) p.1) C).toList := by
      refine ⟨p2.trans (hC.trans (f1.symm.trans Array.length_toList.symm)), fun j u u' e e' => ?_⟩
      rw [p3] at e
      rw [Array.getElem?_toList, f2] at e'
      by_cases hc : off ≤ j ∧ j < off + (cellsV v).length
      · rw [if_pos hc] at e
        rw [if_pos (by rw [← hlr.1]; omega)] at e'
        exact hlr.2 _ u u' e (by simpa using e')
      · rw [if_neg hc] at e
        rw [if_neg (by rw [← hlr.1]; omega)] at e'
        exact hl.2 j u u' e (by rw [Array.getElem?_toList]; exact e')
    obtain ⟨C', g1, g2⟩ := fill_run hp hf h5 hl2
    refine ⟨C', ?_, g2⟩
    rw [List.map_cons, Instr.fill]
    simp only [hp i _ hpl]
    rw [if_neg (by simp; omega), ← Array.foldl_toList, Array.toList_zipIdx]
    exact g1
theorem cells_zero {z : Value} (hc : clean z = true) : LR M (cellsV z) z.cells.toList := cellsV_LR (clean_VR hc)
theorem allSz_places : ∀ {fs : List Field}, allSz P fs = true → ∃ places, fs.mapM (fun f => (P.info? f.type).map fun i => (f.offset, i.size)) = some places ∧ ∀ i p, placeS P fs i = some p → places[i]? = some p
  | [], _ => ⟨[], rfl, fun i p h => by
    obtain ⟨f, hf, _⟩ := bnd_some.1 h
    rw [lGet_eq] at hf
    simp at hf⟩
  | f :: fs, h => by
    have h' := allL_iff.1 h
    have hf := h' f (by simp)
    have hi : ∃ k, szOf P f.type = some k := by
      cases hs : szOf P f.type with
      | none => rw [hs] at hf; cases hf
      | some k => exact ⟨k, rfl⟩
    obtain ⟨k, hk⟩ := hi
    obtain ⟨i, hi, hik⟩ := szOf_some hk
    obtain ⟨places, hp, hpl⟩ := allSz_places (fs := fs) (allL_iff.2 fun x hx => h' x (by simp [hx]))
    refine ⟨(f.offset, i.size) :: places, by simp [List.mapM_cons, hi, hp], fun j p hj => ?_⟩
    cases j with
    | zero =>
      obtain ⟨f', hf', h2⟩ := bnd_some.1 hj
      cases (show some f = some f' from hf')
      obtain ⟨k', hk', h3⟩ := bnd_some.1 h2
      cases h3
      rw [hk] at hk'; cases hk'
      simp [hik]
    | succ j => exact hpl j p hj
theorem opBuild_run {t : TypeId} {parts : Array (Nat × Operand)} {v : Value} (h : opBuild P φ t parts.toList = some v) (hf : FR P M φ a N) :
    ∃ v', (∀ w, (Instr.build t (parts.map fun (i, x) => (i, a.eval x))).run P w = .ok v' w) ∧ VR M v v' := by
  obtain ⟨z, hz, h1⟩ := bnd_some.1 h
  obtain ⟨d, hd, h2⟩ := bnd_some.1 h1
  obtain ⟨it, hit, hzz, hcl⟩ := zeroOf_some hz
  have e : (parts.map fun (i, x) => (i, a.eval x)).toList = parts.toList.map fun p => (p.1, a.eval p.2) := by simp
  cases d <;> simp only at h2 <;> (try cases h2)
  case struct fs =>
    obtain ⟨ha, h3⟩ := bB_some.1 h2
    obtain ⟨cs, hfl, h4⟩ := bnd_some.1 h3
    cases h4
    obtain ⟨places, hp, hpl⟩ := allSz_places ha
    obtain ⟨C', g1, g2⟩ := fill_run (place' := (places.toArray[·]?)) (fun i p hip => by simpa using hpl i p hip) hf hfl (cells_zero hcl)
    refine ⟨.agg C', fun w => run_build w t _ C' ?_, .agg g2.1 g2.2⟩
    simp only [Program.built, hit, hd, hzz, hp]
    rw [e]
    exact g1
  case array n el =>
    obtain ⟨k, hk, h3⟩ := bnd_some.1 h2
    obtain ⟨cs, hfl, h4⟩ := bnd_some.1 h3
    cases h4
    obtain ⟨ie, hie, hik⟩ := szOf_some hk
    obtain ⟨C', g1, g2⟩ := fill_run (place' := fun i => some (i * k, k)) (fun i p hip => hip) hf hfl (cells_zero hcl)
    refine ⟨.agg C', fun w => run_build w t _ C' ?_, .agg g2.1 g2.2⟩
    simp only [Program.built, hit, hd, hzz, hie, hik]
    rw [e]
    exact g1
theorem zeros_LR {z : Value} {n k : Nat} {zs : List Value} (hc : clean z = true) (hz : (cellsV z).length = k) (hk : 1 ≤ k) (h : sRep n (cellsV z) = some zs) :
    LR M zs ((Array.range (n * k)).map fun i => z.cells[i % z.cells.size]!).toList := by
  obtain ⟨h1, h2⟩ := sRep_some h
  have hlr := cells_zero (M := M) hc
  have hsz : z.cells.size = k := by rw [← hz, hlr.1, Array.length_toList]
  refine ⟨by rw [h1, hz]; simp, fun i v v' e e' => ?_⟩
  have hi : i < n * k := by
    have := (List.getElem?_eq_some_iff.1 e).1
    rw [h1, hz] at this; exact this
  rw [h2 i (by rw [hz]; exact hi), hz] at e
  simp [hi] at e'
  rw [hsz] at e'
  have hm : i % k < z.cells.size := by rw [hsz]; exact Nat.mod_lt _ (by omega)
  rw [getElem!_pos z.cells (i % k) hm] at e'
  refine hlr.2 (i % k) v v' e ?_
  rw [Array.getElem?_toList, Array.getElem?_eq_getElem hm, e']
theorem opBuildSl_run {t : TypeId} {len : Nat} {parts : Array (Nat × Operand)} {v : Value} (h : opBuildSl P s φ t len parts.toList = some (v, s')) (hf : FR P M φ a N) (hS : Sim P M s.h.get w) (hfr : Fresh M s.nx s'.nx) :
    Res P s M w ((Instr.buildSlice t len (parts.map fun (i, x) => (i, a.eval x))).run P w) v s' := by
  obtain ⟨d, hd, h1⟩ := bnd_some.1 h
  obtain ⟨e, he, h2⟩ := bnd_some.1 h1
  obtain ⟨k, hk, h3⟩ := bnd_some.1 h2
  obtain ⟨z, hz, h4⟩ := bnd_some.1 h3
  obtain ⟨hzk, h5⟩ := bB_some.1 h4
  obtain ⟨hlk, h6⟩ := bB_some.1 h5
  obtain ⟨hk1, h6⟩ := bB_some.1 h6
  obtain ⟨zs, hzs, h7⟩ := bnd_some.1 h6
  obtain ⟨cs, hfl, h8⟩ := bnd_some.1 h7
  obtain ⟨it, hit, hzz, hcl⟩ := zeroOf_some hz
  rw [beq_nat, lLen_eq] at hzk
  rw [ble_nat] at hlk hk1
  have hlk' : len * k ≤ 100000 := hlk
  have hd' : d = .slice e := by cases d <;> first | cases he; rfl | cases he
  subst hd'
  have eparts : (parts.map fun (i, x) => (i, a.eval x)).toList = parts.toList.map fun p => (p.1, a.eval p.2) := by simp
  have hzl := zeros_LR (M := M) (n := len) hcl hzk hk1 hzs
  obtain ⟨C', g1, g2⟩ := fill_run (place' := fun i => some (i * k, k)) (fun i p hip => hip) hf hfl hzl
  have hr := opNewSl_run (C := C') h8 (by
    have hk1' : 1 ≤ k := hk1
    have : len ≤ len * k := Nat.le_mul_of_pos_right _ hk1'
    rw [OPEN_eq]; omega) hS hfr g2
  obtain ⟨M', v', w', hr1, hr2⟩ := hr
  refine ⟨M', v', w', ?_, hr2⟩
  rw [← hr1]
  have hbig : ¬ (len * k > 2 ^ 24) := by omega
  by_cases h0 : len * k = 0
  · rw [h0] at g1
    simp only [Instr.buildSlice, Sem.run_bind, run_underlying hd, Result.andThen_ok, run_size hk, if_neg hbig, if_pos h0, Sem.run_pure, eparts]
    rw [h0]
    simp only [Array.range_zero', List.map_toArray, List.map_nil] at g1 ⊢
    rw [g1]
    simp only [Sem.run_bind, Sem.run_pure]
  · simp only [Instr.buildSlice, Sem.run_bind, run_underlying hd, Result.andThen_ok, run_size hk, if_neg hbig, if_neg h0, Sem.run_pure, run_zero hz, eparts, g1]
end
end Go.Proofs.YtgdlfecppecooaaGreatDoor.ev
