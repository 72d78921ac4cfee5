/- An evaluator of closed calls: a region whose order is drawn: every order. -/
import Derived.Test.YtgdlfecppecooaaGreatDoorEvDraw2
set_option linter.all false
namespace Go.Proofs.YtgdlfecppecooaaGreatDoor.ev
open Go Go.RowKit
section
variable {P : Program} {ex : CaF} {ops : Array Oper} {N : Nat} {ms : List Nat} {φ0 : T Value} {s : St} {d : Ds} {M0 : Pm} {w0 : World}
theorem Stp.widen {H H' : Hp} {M M' : Pm} {w w' : World} {lo hi lo' hi' : Nat} (h : Stp P H M w H' M' w' lo hi) (h1 : lo' ≤ lo ∨ lo = hi) (h2 : hi ≤ hi' ∨ lo = hi) (h3 : lo' ≤ hi') : Stp P H M w H' M' w' lo' hi' :=
  ⟨h.sim, fun b hb => h.ext b (by omega), h.size, h.keep, h.born, fun b hb => by
    rcases h.dom b hb with h4 | h4
    · exact .inl h4
    · exact .inr (by omega), h.os, h.tape, h.output, h3⟩
theorem Stp.trans2 {H H' H'' : Hp} {M M' M'' : Pm} {w w' w'' : World} {lo hi : Nat} (h : Stp P H M w H' M' w' lo hi) (k : Stp P H' M' w' H'' M'' w'' lo hi) : Stp P H M w H'' M'' w'' lo hi := by
  refine ⟨k.sim, fun b hb => by rw [k.ext b hb, h.ext b hb], Nat.le_trans h.size k.size, fun c hc hn => ?_, fun b o mi hb hm => ?_, fun b hb => ?_, k.os.trans h.os, k.tape.trans h.tape, k.output.trans h.output, h.le⟩
  · rw [k.keep c (Nat.lt_of_lt_of_le hc h.size) fun b o mi hb ho hm e => ?_, h.keep c hc hn]
    rcases h.born b o mi hb hm with hs | ⟨b0, o0, mi0, hb0, hm0, he, hw⟩
    · omega
    · exact hn b0 o0 mi0 hb0 (hw ho) hm0 (he.trans e)
  · rcases k.born b o mi hb hm with hs | ⟨b1, o1, mi1, hb1, hm1, he1, hw1⟩
    · exact .inl (Nat.le_trans h.size hs)
    · rcases h.born b1 o1 mi1 hb1 hm1 with hs | ⟨b0, o0, mi0, hb0, hm0, he, hw⟩
      · exact .inl (he1 ▸ hs)
      · exact .inr ⟨b0, o0, mi0, hb0, hm0, he.trans he1, fun hx => hw (hw1 hx)⟩
  · rcases k.dom b hb with hb1 | hb1
    · exact h.dom b hb1
    · exact .inr hb1
/-- the memory when the operations E are done, k effects among them -/
noncomputable def SG (d : Ds) (ms : List Nat) (E : Nat → Bool) (k : Nat) : Hp := fun b => match (d.hs.getD k .nil).get b with
  | some o => some o
  | none => pcsG (fun j => E j && notBefore ms (lastOf d.es k) j) d.rs 0 b
structure Inv (P : Program) (ops : Array Oper) (N : Nat) (ms : List Nat) (φ0 : T Value) (s : St) (d : Ds) (M0 : Pm) (w0 : World) (E : Nat → Bool) (a : Act) (w : World) (k : Nat) (M : Pm) : Prop where
  kle : k ≤ d.es.length
  ek : ∀ (l e : Nat), d.es[l]? = some e → (E e = true ↔ l < k)
  stp : Stp P s.h.get M0 w0 (SG d ms E k) M w s.nx d.nx
  fresh : ∀ (i : Nat) (r : Rc), d.rs[i]? = some r → E i = false → Fresh M r.lo r.hi
  fr1 : ∀ (i : Nat) (o : Oper) (r : Rc) (t : Tmp), ops.toList[i]? = some o → d.rs[i]? = some r → o.dst = some t → E i = true → VR M r.v (a.tmps.getD t undef)
  fr2 : ∀ t : Tmp, (∀ (i : Nat) (o : Oper), ops.toList[i]? = some o → E i = true → o.dst ≠ some t) → VR M ((φ0.get t).getD undef) (a.tmps.getD t undef)
  size : a.tmps.size = N
  defers : a.defers = []
  glob : ∀ g, g < P.globals.size → ∃ mi, M g = some mi ∧ mi.blk = g ∧ mi.sh = 0
  i1 : ∀ (j : Nat) (r : Rc), E j = true → d.rs[j]? = some r → piece r = true → notBefore ms (lastOf d.es k) j = true → (d.hs.getD k .nil).get r.lo = none
  down : ∀ i j, inM ms i j = true → E j = true → E i = true
theorem nb_iff {ms : List Nat} {es : List Nat} {k j : Nat} : notBefore ms (lastOf es k) j = true ↔ (k = 0 ∨ inM ms j (es.getD (k - 1) 0) = false) := by
  cases k with
  | zero => exact ⟨fun _ => .inl rfl, fun _ => rfl⟩
  | succ k =>
    show Bool.not (inM ms j (es.getD k 0)) = true ↔ _
    simp
theorem SG_iff (hA : Apart d.rs) {E : Nat → Bool} {k b : Nat} {o : AO} : SG d ms E k b = some o ↔ (d.hs.getD k .nil).get b = some o ∨ ((d.hs.getD k .nil).get b = none ∧ ∃ (j : Nat) (r : Rc), d.rs[j]? = some r ∧ piece r = true ∧ E j = true ∧ notBefore ms (lastOf d.es k) j = true ∧ r.lo = b ∧ r.pc.get b = some o) := by
  unfold SG
  cases hg : (d.hs.getD k .nil).get b with
  | some q => simp
  | none =>
    simp only [true_and]
    rw [pcsG_iff hA]
    constructor
    · rintro ⟨j, r, h1, h2, h3, h4⟩
      rw [Nat.zero_add, Bool.and_eq_true] at h3
      exact .inr ⟨j, r, h1, h2, h3.1, h3.2, h4⟩
    · rintro (h | ⟨j, r, h1, h2, h3, h4, h5⟩)
      · cases h
      · exact ⟨j, r, h1, h2, by rw [Nat.zero_add, h3, h4]; rfl, h5⟩
def ins (E : Nat → Bool) (i : Nat) : Nat → Bool := fun j => decide (j = i) || E j
theorem ins_self (E : Nat → Bool) (i : Nat) : ins E i i = true := by simp [ins]
theorem ins_ne {E : Nat → Bool} {i j : Nat} (h : j ≠ i) : ins E i j = E j := by simp [ins, h]
theorem ins_of {E : Nat → Bool} {i j : Nat} (h : E j = true) : ins E i j = true := by simp [ins, h]
theorem hs_at {k : Nat} {h : T AO} (e : d.hs[k]? = some h) : d.hs.getD k .nil = h := by rw [List.getD_eq_getElem?_getD, e]; rfl
/-- the facts at one operation that may be done next -/
structure Nx (P : Program) (ops : Array Oper) (ms : List Nat) (E : Nat → Bool) (i : Nat) (o : Oper) (r : Rc) (d : Ds) : Prop where
  o : ops.toList[i]? = some o
  r : d.rs[i]? = some r
  no : E i = false
  pre : ∀ j, inM ms j i = true → E j = true
theorem Nx.eff {E : Nat → Bool} {i k : Nat} {o : Oper} {r : Rc} {a : Act} {w : World} {M : Pm} (n : Nx P ops ms E i o r d) (h : Inv P ops N ms φ0 s d M0 w0 E a w k M) : notBefore ms (lastOf d.es k) i = true := by
  rw [nb_iff]
  cases k with
  | zero => exact .inl rfl
  | succ k =>
    right
    cases hq : inM ms i (d.es.getD k 0) with
    | false => simpa using hq
    | true =>
      have hk : k < d.es.length := by have := h.kle; omega
      have e1 := List.getElem?_eq_getElem hk
      have e2 : d.es.getD k 0 = d.es[k] := by rw [List.getD_eq_getElem?_getD, e1]; rfl
      have hE := (h.ek k d.es[k] e1).2 (by omega)
      rw [e2] at hq
      have := h.down i _ hq hE
      rw [n.no] at this; cases this
/-- operands and the guard are what they were in the text's order -/
theorem Inv.frame {E : Nat → Bool} {i k : Nat} {o : Oper} {r : Rc} {a : Act} {w : World} {M : Pm} (hd : DsOk P ex ops.toList N ms φ0 s ops.toList.length d) (hL : StOk P ops.toList ms) (h : Inv P ops N ms φ0 s d M0 w0 E a w k M) (n : Nx P ops ms E i o r d) :
    ∃ a2 : Act, FR P M r.φ a2 N ∧ execOp a2.eval o = execOp a.eval o ∧ wantA ops.toList r.φ o = Region.wanted o (yielded ops a.tmps) := by
  have rc := hd.rc i o r n.o n.r
  obtain ⟨φ, ⟨p1, p2⟩, p3⟩ := rc.fr
  have hrd : ∀ t, Reads ops.toList o t → VR M ((r.φ.get t).getD undef) (a.tmps.getD t undef) := by
    intro t ht
    rw [(p3 t).1 ht]
    by_cases hex : ∃ (j : Nat) (oj : Oper), ops.toList[j]? = some oj ∧ oj.dst = some t ∧ j < i
    · obtain ⟨j, oj, h1, h2, h3⟩ := hex
      have hjl : j < d.rs.length := by rw [hd.len]; exact (List.getElem?_eq_some_iff.1 h1).1
      have h4 := List.getElem?_eq_getElem hjl
      rw [p1 j d.rs[j] oj t (by rw [List.getElem?_take, if_pos h3]; exact h4) h1 h2]
      rcases hL.rd i j o oj t n.o h1 (by omega) h2 ht with h5 | h5
      · have := hL.toMaskOk.lt h5; omega
      · exact h.fr1 j oj d.rs[j] t h1 h4 h2 (n.pre j h5)
    · rw [p2 t (fun j q oj hq hoj e => hex ⟨j, oj, hoj, e, by
        rw [List.getElem?_take] at hq
        split at hq
        · assumption
        · cases hq⟩)]
      refine h.fr2 t fun j oj hoj hj e => ?_
      by_cases hji : j = i
      · subst hji; rw [n.no] at hj; cases hj
      · have hlt : ¬ j < i := fun hlt => hex ⟨j, oj, hoj, e, hlt⟩
        rcases hL.rd i j o oj t n.o hoj (by omega) e ht with h5 | h5
        · have := h.down i j h5 hj
          rw [n.no] at this; cases this
        · have := hL.toMaskOk.lt h5; omega
  let tm : Array Value := (Array.range N).map fun t => if reads ops.toList o t then a.tmps.getD t undef else undef
  have htm : ∀ t, tm.getD t undef = if t < N ∧ reads ops.toList o t = true then a.tmps.getD t undef else undef := by
    intro t
    rw [Array.getD_eq_getD_getElem?]
    by_cases ht : t < N
    · have : tm[t]? = some (if reads ops.toList o t then a.tmps.getD t undef else undef) := by
        show ((Array.range N).map _)[t]? = _
        rw [Array.getElem?_map, Array.getElem?_range, if_pos ht]
        rfl
      rw [this]
      by_cases hr : reads ops.toList o t = true
      · rw [if_pos hr, if_pos ⟨ht, hr⟩]; rfl
      · rw [if_neg hr, if_neg (fun e => hr e.2)]; rfl
    · have : tm[t]? = none := by
        show ((Array.range N).map _)[t]? = _
        rw [Array.getElem?_map, Array.getElem?_range, if_neg ht]
        rfl
      rw [this, if_neg (fun e => ht e.1)]
      rfl
  have hout : ∀ t, ¬ t < N → a.tmps.getD t undef = undef := fun t ht => by
    rw [Array.getD_eq_getD_getElem?, Array.getElem?_eq_none (by rw [h.size]; exact Nat.le_of_not_lt (by assumption))]; rfl
  have hread : ∀ t, Reads ops.toList o t → tm.getD t undef = a.tmps.getD t undef := fun t ht => by
    rw [htm t]
    by_cases hn : t < N
    · rw [if_pos ⟨hn, reads_iff.1 ht⟩]
    · rw [if_neg (fun e => hn e.1), hout t hn]
  have hfr : FR P M r.φ { tmps := tm, defers := [] } N := by
    refine ⟨fun t => ?_, by show tm.size = N; simp [tm], rfl, h.glob⟩
    show VR M ((r.φ.get t).getD undef) (tm.getD t undef)
    by_cases ht : Reads ops.toList o t
    · rw [hread t ht]; exact hrd t ht
    · rw [(p3 t).2 ht, htm t, if_neg (fun e => ht (reads_iff.2 e.2))]
      exact .undef
  have hop : ∀ x ∈ o.op.operands, (Act.eval { tmps := tm, defers := [] } x) = a.eval x := by
    intro x hx
    cases x with
    | tmp t => exact hread t (by unfold Reads readsOf; rw [mapL_eq]; exact List.mem_cons_of_mem _ (List.mem_map.2 ⟨.tmp t, by simpa using hx, rfl⟩))
    | const v => rfl
    | global g => rfl
    | func f => rfl
  refine ⟨{ tmps := tm, defers := [] }, hfr, execOp_congr o (hL.sel i o n.o) hop, ?_⟩
  rw [wantA_eq hfr]
  unfold Region.wanted
  cases hg : o.guard with
  | none => rfl
  | some p =>
    obtain ⟨g, b⟩ := p
    simp only
    congr 1
    unfold yielded
    cases hog : ops[g]? with
    | none => rfl
    | some og =>
      rw [Option.bind_some]
      cases hdst : og.dst with
      | none => rfl
      | some t =>
        rw [Option.bind_some, Option.bind_some]
        have ht : Reads ops.toList o t := by
          unfold Reads readsOf guardT
          rw [hg]
          refine List.mem_cons.2 (.inl ?_)
          show some t = bnd (lGet ops.toList g) fun x => x.dst
          rw [lGet_eq, Array.getElem?_toList, hog]
          exact hdst.symm
        have e := hread t ht
        by_cases hn : t < N
        · have e1 : tm[t]? = some (tm.getD t undef) := by
            rw [Array.getD_eq_getD_getElem?, Array.getElem?_eq_getElem (by show t < tm.size; simp [tm]; exact hn)]; rfl
          have e2 : a.tmps[t]? = some (a.tmps.getD t undef) := by
            rw [Array.getD_eq_getD_getElem?, Array.getElem?_eq_getElem (by rw [h.size]; exact hn)]; rfl
          show (match tm[t]? with | some (.bool b) => some b | _ => none) = _
          rw [e1, e2, e]
          cases a.tmps.getD t undef <;> rfl
        · have e1 : tm[t]? = none := Array.getElem?_eq_none (by show tm.size ≤ t; rw [show tm.size = N by simp [tm]]; exact Nat.le_of_not_lt hn)
          have e2 : a.tmps[t]? = none := Array.getElem?_eq_none (by rw [h.size]; exact Nat.le_of_not_lt (by assumption))
          show (match tm[t]? with | some (.bool b) => some b | _ => none) = _
          rw [e1, e2]
/-- one operation more is done -/
theorem Inv.put {E : Nat → Bool} {i k k' : Nat} {o : Oper} {r : Rc} {a : Act} {w w' : World} {M M' : Pm} {v' : Value} (hd : DsOk P ex ops.toList N ms φ0 s ops.toList.length d) (hL : StOk P ops.toList ms) (h : Inv P ops N ms φ0 s d M0 w0 E a w k M) (n : Nx P ops ms E i o r d)
    (hv : VR M' r.v v') (hst : Stp P (SG d ms E k) M w (SG d ms (ins E i) k') M' w' r.lo r.hi) (hk : (k' = k ∧ r.cls ≠ 3) ∨ (k' = k + 1 ∧ d.es[k]? = some i))
    (hi1 : ∀ (j : Nat) (q : Rc), ins E i j = true → d.rs[j]? = some q → piece q = true → notBefore ms (lastOf d.es k') j = true → (d.hs.getD k' .nil).get q.lo = none) : Inv P ops N ms φ0 s d M0 w0 (ins E i) (a.put o.dst v') w' k' M' := by
  have hlo := hd.lo0.2 i r n.r
  have hLe := hst.Le (h.fresh i r n.r n.no)
  have hN : ∀ x, o.dst = some x → x < a.tmps.size := fun x hx => by rw [h.size]; exact hd.dst i o x (List.getElem?_eq_some_iff.1 n.o).1 n.o hx
  refine ⟨?_, fun l e he => ?_, h.stp.trans2 (hst.widen (.inl hlo.1) (.inl hlo.2) (by have := hd.lo0.1; omega)), fun j q hq hj => ?_, fun j oj q t hoj hq ht hj => ?_, fun t ht => ?_, by rw [size_put, h.size], by rw [defers_put, h.defers], fun g hg => ?_, hi1, fun x y hxy hy => ?_⟩
  · rcases hk with ⟨e, _⟩ | ⟨e, e2⟩
    · rw [e]; exact h.kle
    · have := (List.getElem?_eq_some_iff.1 e2).1; omega
  · by_cases hei : e = i
    · subst hei
      rw [ins_self]
      rcases hk with ⟨_, e3⟩ | ⟨e1, e2⟩
      · obtain ⟨_, q, h1, h2⟩ := hd.esr l e he
        rw [n.r] at h1; cases h1
        exact absurd h2 e3
      · have : l = k := by
          rcases Nat.lt_trichotomy l k with h1 | h1 | h1
          · have := hd.inc l k e e h1 he e2; omega
          · exact h1
          · have := hd.inc k l e e h1 e2 he; omega
        simp; omega
    · rw [ins_ne hei, h.ek l e he]
      rcases hk with ⟨e1, _⟩ | ⟨e1, e2⟩
      · rw [e1]
      · have : l ≠ k := fun e3 => by rw [e3] at he; rw [he] at e2; cases e2; exact hei rfl
        omega
  · have hji : j ≠ i := fun e => by rw [e, ins_self] at hj; cases hj
    rw [ins_ne hji] at hj
    have hf := h.fresh j q hq hj
    have hap : q.hi ≤ r.lo ∨ r.hi ≤ q.lo := by
      rcases Nat.lt_or_gt_of_ne hji with h1 | h1
      · exact .inl (hd.apart j i q r h1 hq n.r)
      · exact .inr (hd.apart i j r q h1 n.r hq)
    intro b h1 h2
    rw [hst.ext b (by omega)]
    exact hf b h1 h2
  · rw [getD_put a o.dst v' t hN]
    by_cases hji : j = i
    · subst hji
      rw [n.o] at hoj; cases hoj
      rw [n.r] at hq; cases hq
      rw [if_pos ht]; exact hv
    · rw [if_neg (hL.wr i j o oj t n.o hoj (fun e => hji e.symm) ht)]
      rw [ins_ne hji] at hj
      exact (h.fr1 j oj q t hoj hq ht hj).mono hLe
  · rw [getD_put a o.dst v' t hN, if_neg (ht i o n.o (ins_self E i))]
    exact (h.fr2 t fun j oj hoj hj => ht j oj hoj (ins_of hj)).mono hLe
  · obtain ⟨mi, h1, h2⟩ := h.glob g hg
    exact ⟨mi, hLe _ _ h1, h2⟩
  · by_cases hyi : y = i
    · subst hyi
      exact ins_of (n.pre x hxy)
    · rw [ins_ne hyi] at hy
      exact ins_of (h.down x y hxy hy)
end
end Go.Proofs.YtgdlfecppecooaaGreatDoor.ev
