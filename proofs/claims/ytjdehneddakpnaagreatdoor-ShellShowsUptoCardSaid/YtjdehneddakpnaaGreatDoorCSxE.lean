/- Symbolic runs of Go functions: a body does what its contract says. -/
import Derived.Test.YtjdehneddakpnaaGreatDoorCSxB
import Derived.Orders
import Derived.LoopN
set_option linter.all false
namespace Go.Proofs.YtjdehneddakpnaaGreatDoor.sx
open Go Go.RowKit
section
variable {P : Program} {D : Data} {cd : TypeId → Option Nat} {M M' : Pm D} {φ φ' : T (AV D.E)} {a : Act} {N : Nat} {w : World} {s s' : St D.E}
theorem getD_put (a : Act) (d : Option Tmp) (v : Value) (t : Tmp) (h : ∀ x, d = some x → x < a.tmps.size) : (a.put d v).tmps.getD t Go.undef = if d = some t then v else a.tmps.getD t Go.undef := by
  cases d with
  | none => rw [if_neg (by simp)]; rfl
  | some x =>
    show (a.tmps.setIfInBounds x v).getD t Go.undef = _
    rw [Array.getD_eq_getD_getElem?, Array.getD_eq_getD_getElem?]
    by_cases hx : x = t
    · subst hx
      rw [Array.getElem?_setIfInBounds_self_of_lt (h x rfl), if_pos rfl]
      rfl
    · rw [Array.getElem?_setIfInBounds_ne hx, if_neg (by simpa using hx)]
theorem putA_some {d : Option Tmp} {v : AV D.E} (h : (putA D N φ d v).H φ') : (∀ x, d = some x → x < N) ∧ ∀ t, φ'.get t = if d = some t then some v else φ.get t := by
  cases d with
  | none => cases ret_H.1 (show (C.ret φ).H φ' from h); exact ⟨fun x hx => (nomatch hx), fun t => by simp⟩
  | some x =>
    obtain ⟨h1, h2⟩ := bB_H.1 (show (bB (Nat.ble (x + 1) N) (ofO (φ.put x (some v)))).H φ' from h)
    rw [ofO_H] at h2
    refine ⟨fun y hy => by cases hy; exact ble_nat.1 h1, fun t => ?_⟩
    rw [T.put_spec _ _ _ _ h2 t]
    by_cases e : t = x
    · subst e; simp
    · rw [if_neg e, if_neg (by simpa using fun e2 => e e2.symm)]
theorem size_put (a : Act) (d : Option Tmp) (v : Value) : (a.put d v).tmps.size = a.tmps.size := by cases d <;> simp [Act.put]
theorem defers_put (a : Act) (d : Option Tmp) (v : Value) : (a.put d v).defers = a.defers := by cases d <;> rfl
theorem putA_FR {d : Option Tmp} {v : AV D.E} {v' : Value} (h : (putA D N φ d v).H φ') (hf : FR M φ a N) (hv : VR M v v') : FR M φ' (a.put d v') N := by
  obtain ⟨h1, h2⟩ := putA_some h
  refine ⟨fun t u hu => ?_, by rw [size_put, hf.size], by rw [defers_put, hf.defers]⟩
  rw [getD_put a d v' t (fun x hx => by rw [hf.size]; exact h1 x hx)]
  rw [h2] at hu
  by_cases e : d = some t
  · rw [if_pos e] at hu; rw [if_pos e]; cases hu; exact hv
  · rw [if_neg e] at hu; rw [if_neg e]; exact hf.at_ t u hu
def vB (v : Value) : Option Bool := match v with
  | .bool b => some b
  | _ => none
theorem wantV_H {wt b : Bool} {v : AV D.E} {v' : Value} (h : (wantV D wt v).H b) (hv : VR M v v') : (vB v' == some wt) = b := by
  cases hv <;> simp only [wantV] at h
  case bool c =>
    rcases split_H.1 h with ⟨rfl, h1⟩ | ⟨rfl, h1⟩ <;> cases ret_H.1 h1 <;> cases wt <;> rfl
  case lit c =>
    have h := ret_H.1 h
    cases c <;> cases wt <;> cases b <;> first | rfl | cases h
  all_goals (cases ret_H.1 h; rfl)
theorem wantA_H {ops : Array Oper} {o : Oper} {b : Bool} (h : (wantA D ops.toList φ o).H b) (hf : FR M φ a N) : Region.wanted o (yielded ops a.tmps) = b := by
  unfold wantA at h
  unfold Region.wanted
  cases hg : o.guard with
  | none => rw [hg] at h; exact ret_H.1 h
  | some p =>
    rw [hg] at h
    obtain ⟨j, wt⟩ := p
    show (yielded ops a.tmps j == some wt) = b
    obtain ⟨v, hy, hv⟩ := bnd_H.1 (show (bnd (ofO (yA D ops.toList φ j)) fun v => wantV D wt v).H b from h)
    obtain ⟨oj, h1, h2⟩ := oB_some.1 (show oB (lGet ops.toList j) (fun o => oB o.dst fun t => φ.get t) = some v from ofO_H.1 hy)
    obtain ⟨t, h3, h4⟩ := oB_some.1 h2
    rw [lGet_eq, Array.getElem?_toList] at h1
    have hr := hf.at_ t v h4
    rw [Array.getD_eq_getD_getElem?] at hr
    unfold yielded
    rw [h1, Option.bind_some, h3, Option.bind_some]
    cases hx : a.tmps[t]? with
    | none => rw [hx] at hr; exact wantV_H hv hr
    | some u =>
      rw [hx] at hr
      have h5 := wantV_H hv (show VR M v u from hr)
      cases u <;> exact h5
theorem settle_H {v v2 : AV D.E} (h : (settle D v).H v2) : ∀ M' v', VR M' v v' → VR M' v2 v' := by
  intro M' v' hv
  cases v <;> simp only [settle] at h <;> try (cases ret_H.1 h; exact hv)
  rcases split_H.1 h with ⟨hb, h1⟩ | ⟨hb, h1⟩ <;> subst hb <;> cases ret_H.1 h1 <;> cases hv
  · exact .lit true
  · exact .lit false
theorem opG_ok (hD : DataOk D) {mu g : Bool} {ex : CaF D.E} {o : Oper} {v : AV D.E} (hng : NoNG P) (hex : CaOk P D ex) (h : (opG P D cd mu g o.op ex s φ).H (v, s')) (hS : Sim M s.h.get w) (hf : FR M φ a N) (hfr : Fresh M s.nx s'.nx) : OpOk P o a s M w v s' := by
  unfold opG at h
  cases g with
  | false => exact opF_ok hD hng hex h hS hf hfr
  | true =>
    obtain ⟨v1, s1, h1, h2⟩ := bnd2_H.1 (show (bnd2 (opF P D cd mu o.op ex s φ) fun v s => bnd (settle D v) fun v => .ret (v, s)).H (v, s') from h)
    obtain ⟨v2, h3, h4⟩ := bnd_H.1 h2
    cases ret_H.1 h4
    exact (opF_ok hD hng hex h1 hS hf hfr).same (settle_H h3)
theorem runOps_ok (hD : DataOk D) {mu : Bool} {ex : CaF D.E} {ops : Array Oper} (hng : NoNG P) (hex : CaOk P D ex) : ∀ (l : List Oper) (i : Nat) (s : St D.E) (φ : T (AV D.E)) (s' : St D.E) (φ' : T (AV D.E)), (runOps P D cd mu ex ops.toList N l i s φ).H (s', φ') → s.nx ≤ s'.nx ∧
    ∀ (M : Pm D) (a : Act) (w : World), Sim M s.h.get w → FR M φ a N → Fresh M s.nx s'.nx → ∀ Q : Exit → Act → World → Prop,
      (∀ M' a' w', Stp s.h.get M w s'.h.get M' w' s.nx s'.nx → FR M' φ' a' N → Q .normal a' w') → wpList P ops Q l a w
  | [], i, s, φ, s', φ', h => by
    cases ret_H.1 (show (C.ret (s, φ)).H (s', φ') from h)
    exact ⟨Nat.le_refl _, fun M a w hS hf _ Q hQ => hQ M a w (.refl hS _) hf⟩
  | o :: l, i, s, φ, s', φ', h => by
    obtain ⟨b, hw, h0⟩ := bnd_H.1 (show (bnd (wantA D ops.toList φ o) fun b => bE b
      (bnd2 (opG P D cd mu (guards ops.toList i) o.op ex s φ) fun v s1 => bnd (putA D N φ o.dst v) fun φ => bB (Nat.ble s.nx s1.nx) (runOps P D cd mu ex ops.toList N l (Nat.succ i) s1 φ))
      (bnd (putA D N φ o.dst undef) fun φ => runOps P D cd mu ex ops.toList N l (Nat.succ i) s φ)).H (s', φ') from h)
    rcases bE_H.1 h0 with ⟨rfl, h1⟩ | ⟨rfl, h1⟩
    · obtain ⟨v, s1, h2, h3⟩ := bnd2_H.1 h1
      obtain ⟨φ1, h4, h5⟩ := bnd_H.1 h3
      obtain ⟨h6, h7⟩ := bB_H.1 h5
      have hle1 : s.nx ≤ s1.nx := ble_nat.1 h6
      obtain ⟨hle2, hrest⟩ := runOps_ok hD hng hex l _ s1 φ1 s' φ' h7
      refine ⟨by omega, fun M a w hS hf hfr Q hQ => ?_⟩
      have hf1 : Fresh M s.nx s1.nx := fun b h8 h9 => hfr b h8 (by omega)
      have hop := opG_ok (o := o) hD hng hex h2 hS hf hf1
      unfold wpList
      rw [if_pos (wantA_H hw hf)]
      refine .inl (hop.wp rfl _ _ fun M1 v' w1 hv hst => ?_)
      have hLe := hst.Le hf1
      have hf2 : Fresh M1 s1.nx s'.nx := fun b h8 h9 => by rw [hst.ext b (by omega)]; exact hfr b (by omega) h9
      refine hrest M1 _ w1 hst.sim (putA_FR h4 (hf.mono hLe) hv) hf2 Q fun M' a' w' hst2 hf3 => hQ M' a' w' (hst.trans hst2) hf3
    · obtain ⟨φ1, h4, h5⟩ := bnd_H.1 h1
      obtain ⟨hle2, hrest⟩ := runOps_ok hD hng hex l _ s φ1 s' φ' h5
      refine ⟨hle2, fun M a w hS hf hfr Q hQ => ?_⟩
      unfold wpList
      rw [if_neg (by rw [wantA_H hw hf]; simp)]
      exact hrest M _ w hS (putA_FR h4 hf .undef) hfr Q hQ
end
end Go.Proofs.YtjdehneddakpnaaGreatDoor.sx
namespace Go.Proofs.YtjdehneddakpnaaGreatDoor.sx
open Go Go.RowKit
theorem bit_eq (m i : Nat) : Nat.beq (Nat.mod (Nat.div m (Nat.pow 2 i)) 2) 1 = m.testBit i := by
  rw [Nat.testBit_eq_decide_div_mod_eq, Bool.eq_iff_iff, beq_nat, decide_eq_true_iff]
  exact Iff.rfl
theorem inM_some {ms : List Nat} {i j m : Nat} (h : ms[j]? = some m) : inM ms i j = m.testBit i := by
  unfold inM
  rw [lGet_eq, h]
  exact bit_eq m i
theorem inM_none {ms : List Nat} {i j : Nat} (h : ms[j]? = none) : inM ms i j = false := by
  unfold inM
  rw [lGet_eq, h]
theorem maskOf_spec : ∀ {es : List Edge} {ms : List Nat} {m0 m : Nat}, maskOf ms es m0 = some m →
    (∀ e ∈ es, Region.binds .any e = true → e.on < ms.length) ∧ ∀ i, m.testBit i = true ↔ (m0.testBit i = true ∨ ∃ e ∈ es, Region.binds .any e = true ∧ (e.on = i ∨ inM ms i e.on = true))
  | [], ms, m0, m, h => by cases (show some m0 = some m from h); simp
  | e :: es, ms, m0, m, h => by
    rcases oE_some.1 (show oE (Region.binds .any e) (oB (lGet ms e.on) fun k => maskOf ms es (Nat.lor (Nat.lor m0 (Nat.pow 2 e.on)) k)) (maskOf ms es m0) = some m from h) with ⟨hb, h1⟩ | ⟨hb, h1⟩
    · obtain ⟨k, hk, h2⟩ := oB_some.1 h1
      rw [lGet_eq] at hk
      obtain ⟨q1, q2⟩ := maskOf_spec h2
      have hlt : e.on < ms.length := (List.getElem?_eq_some_iff.1 hk).1
      refine ⟨fun e' he' hb' => ?_, fun i => ?_⟩
      · rcases List.mem_cons.1 he' with rfl | he'
        · exact hlt
        · exact q1 e' he' hb'
      · rw [q2 i]
        have hbits : (Nat.lor (Nat.lor m0 (Nat.pow 2 e.on)) k).testBit i = (m0.testBit i || decide (e.on = i) || inM ms i e.on) := by
          show ((m0 ||| 2 ^ e.on) ||| k).testBit i = _
          rw [Nat.testBit_or, Nat.testBit_or, Nat.testBit_two_pow, inM_some hk]
        rw [hbits]
        simp only [Bool.or_eq_true, decide_eq_true_eq, List.mem_cons]
        constructor
        · rintro (((h3 | h3) | h3) | ⟨e', he', hb', h3⟩)
          · exact .inl h3
          · exact .inr ⟨e, .inl rfl, hb, .inl h3⟩
          · exact .inr ⟨e, .inl rfl, hb, .inr h3⟩
          · exact .inr ⟨e', .inr he', hb', h3⟩
        · rintro (h3 | ⟨e', rfl | he', hb', h3⟩)
          · exact .inl (.inl (.inl h3))
          · rcases h3 with h3 | h3
            · exact .inl (.inl (.inr h3))
            · exact .inl (.inr h3)
          · exact .inr ⟨e', he', hb', h3⟩
    · obtain ⟨q1, q2⟩ := maskOf_spec h1
      refine ⟨fun e' he' hb' => ?_, fun i => ?_⟩
      · rcases List.mem_cons.1 he' with rfl | he'
        · rw [hb] at hb'; cases hb'
        · exact q1 e' he' hb'
      · rw [q2 i]
        constructor
        · rintro (h3 | ⟨e', he', hb', h3⟩)
          · exact .inl h3
          · exact .inr ⟨e', List.mem_cons_of_mem _ he', hb', h3⟩
        · rintro (h3 | ⟨e', he', hb', h3⟩)
          · exact .inl h3
          · rcases List.mem_cons.1 he' with rfl | he'
            · rw [hb] at hb'; cases hb'
            · exact .inr ⟨e', he', hb', h3⟩
structure MaskOk (L : List Oper) (ms : List Nat) : Prop where
  len : ms.length = L.length
  edge : ∀ (j : Nat) (o : Oper) (e : Edge), L[j]? = some o → e ∈ o.after.toList → Region.binds .any e = true → e.on < j ∧ inM ms e.on j = true ∧ ∀ i, inM ms i e.on = true → inM ms i j = true
  back : ∀ i j, inM ms i j = true → ∃ (o : Oper) (e : Edge), L[j]? = some o ∧ e ∈ o.after.toList ∧ Region.binds .any e = true ∧ e.on < j ∧ (e.on = i ∨ inM ms i e.on = true)
theorem inM_app {ms : List Nat} {m i j : Nat} (h : j < ms.length) : inM (ms ++ [m]) i j = inM ms i j := by
  have h1 : ms[j]? = some ms[j] := List.getElem?_eq_getElem h
  rw [inM_some h1, inM_some (by rw [List.getElem?_append_left h]; exact h1)]
theorem masks_spec : ∀ {os pre : List Oper} {ms ms' : List Nat}, masks os ms = some ms' → MaskOk pre ms → MaskOk (pre ++ os) ms'
  | [], pre, ms, ms', h, hp => by cases (show some ms = some ms' from h); rw [List.append_nil]; exact hp
  | o :: os, pre, ms, ms', h, hp => by
    obtain ⟨m, hm, h1⟩ := oB_some.1 (show oB (maskOf ms o.after.toList 0) (fun m => masks os (sApp ms [m])) = some ms' from h)
    rw [sApp_eq] at h1
    obtain ⟨q1, q2⟩ := maskOf_spec hm
    have hnew : ∀ i, inM (ms ++ [m]) i ms.length = true ↔ ∃ e ∈ o.after.toList, Region.binds .any e = true ∧ (e.on = i ∨ inM ms i e.on = true) := fun i => by
      rw [inM_some (m := m) (by simp), q2 i]
      simp
    have hlen := hp.len
    have key : MaskOk (pre ++ [o]) (ms ++ [m]) := by
      refine ⟨by simp [hlen], fun j o' e ho he hb => ?_, fun i j hij => ?_⟩
      · by_cases hj : j < pre.length
        · rw [List.getElem?_append_left hj] at ho
          obtain ⟨a, b, c⟩ := hp.edge j o' e ho he hb
          refine ⟨a, by rw [inM_app (by omega)]; exact b, fun i hi => ?_⟩
          rw [inM_app (by omega)] at hi ⊢
          exact c i hi
        · have hj2 : j = pre.length := by
            have := (List.getElem?_eq_some_iff.1 ho).1
            simp at this; omega
          subst hj2
          simp at ho
          subst ho
          have hlt := q1 e he hb
          refine ⟨by omega, by rw [← hlen, hnew]; exact ⟨e, he, hb, .inl rfl⟩, fun i hi => ?_⟩
          rw [inM_app (by omega)] at hi
          rw [← hlen, hnew]
          exact ⟨e, he, hb, .inr hi⟩
      · by_cases hj : j < pre.length
        · rw [inM_app (by omega)] at hij
          obtain ⟨o', e, a, b, c, d, f⟩ := hp.back i j hij
          refine ⟨o', e, by rw [List.getElem?_append_left hj]; exact a, b, c, d, ?_⟩
          rcases f with f | f
          · exact .inl f
          · exact .inr (by rw [inM_app (by omega)]; exact f)
        · by_cases hj2 : j = ms.length
          · subst hj2
            rw [hnew] at hij
            obtain ⟨e, a, b, c⟩ := hij
            have hlt := q1 e a b
            refine ⟨o, e, by simp [hlen], a, b, hlt, ?_⟩
            rcases c with c | c
            · exact .inl c
            · exact .inr (by rw [inM_app hlt]; exact c)
          · rw [inM_none (List.getElem?_eq_none (by simp; omega))] at hij
            cases hij
    have := masks_spec (pre := pre ++ [o]) h1 key
    rw [List.append_assoc] at this
    exact this
theorem masks_ok {L : List Oper} {ms : List Nat} (h : masks L [] = some ms) : MaskOk L ms := by
  have := masks_spec (pre := []) h ⟨rfl, fun j o e ho => by simp at ho, fun i j hij => by rw [inM_none (by simp)] at hij; cases hij⟩
  simpa using this
theorem MaskOk.lt {L : List Oper} {ms : List Nat} (h : MaskOk L ms) : ∀ {j i : Nat}, inM ms i j = true → i < j := by
  intro j
  induction j using Nat.strongRecOn with
  | _ j ih =>
    intro i hij
    obtain ⟨o, e, _, _, _, hlt, hc⟩ := h.back i j hij
    rcases hc with rfl | hc
    · exact hlt
    · exact Nat.lt_trans (ih _ hlt hc) hlt
theorem MaskOk.trans {L : List Oper} {ms : List Nat} (h : MaskOk L ms) : ∀ {j k i : Nat}, inM ms i k = true → inM ms k j = true → inM ms i j = true := by
  intro j
  induction j using Nat.strongRecOn with
  | _ j ih =>
    intro k i hik hkj
    obtain ⟨o, e, ho, he, hb, hlt, hc⟩ := h.back k j hkj
    obtain ⟨_, _, h3⟩ := h.edge j o e ho he hb
    rcases hc with rfl | hc
    · exact h3 i hik
    · exact h3 i (ih _ hlt hik hc)
theorem allIx_spec {α : Type} {f : Nat → α → Bool} : ∀ {l : List α} {i : Nat}, allIx f l i = true → ∀ j x, l[j]? = some x → f (i + j) x = true
  | [], i, h, j, x, hx => by simp at hx
  | a :: l, i, h, j, x, hx => by
    have h' : Bool.rec (motive := fun _ => Bool) false (allIx f l (i + 1)) (f i a) = true := h
    cases hf : f i a with
    | false => rw [hf] at h'; cases h'
    | true =>
      rw [hf] at h'
      cases j with
      | zero => simp at hx; subst hx; exact hf
      | succ j =>
        have := allIx_spec (f := f) h' j x (by simpa using hx)
        rw [show i + (j + 1) = i + 1 + j by omega]
        exact this
/-- what is read by an operation -/
theorem anyL_iff {α : Type} {f : α → Bool} : ∀ {l : List α}, anyL f l = true ↔ ∃ x ∈ l, f x = true
  | [] => by simp [anyL]
  | a :: l => by
    show Bool.rec (motive := fun _ => Bool) (anyL f l) true (f a) = true ↔ _
    have := anyL_iff (f := f) (l := l)
    cases h : f a <;> simp [h, this]
def Reads (L : List Oper) (o : Oper) (t : Tmp) : Prop := some t ∈ readsOf L o
theorem reads_iff {L : List Oper} {o : Oper} {t : Tmp} : Reads L o t ↔ reads L o t = true := by
  unfold Reads readsOf reads
  rw [mapL_eq, List.mem_cons, List.mem_map]
  have h1 : (anyL (readsT t) o.op.operands.toList = true) ↔ ∃ x ∈ o.op.operands.toList, tmpOf x = some t := by
    rw [anyL_iff]
    constructor
    · rintro ⟨x, hx, h⟩
      refine ⟨x, hx, ?_⟩
      cases x <;> simp only [readsT] at h <;> (try cases h)
      rw [beq_nat.1 h]; rfl
    · rintro ⟨x, hx, h⟩
      refine ⟨x, hx, ?_⟩
      cases x <;> simp only [tmpOf] at h <;> cases h
      exact Nat.beq_refl _
  rw [← h1]
  generalize anyL (readsT t) o.op.operands.toList = b
  cases guardT L o with
  | none => cases b <;> simp
  | some g =>
    show _ ↔ Bool.or b (Nat.beq g t) = true
    constructor
    · rintro (h | h)
      · cases h; cases b <;> simp
      · rw [h]; rfl
    · intro h
      cases b
      · exact .inl (by rw [beq_nat.1 h])
      · exact .inr rfl
/-- what holds of two operations of a region -/
structure StOk (P : Program) (L : List Oper) (ms : List Nat) : Prop extends MaskOk L ms where
  rd : ∀ (i j : Nat) (oi oj : Oper) (d : Tmp), L[i]? = some oi → L[j]? = some oj → i ≠ j → oj.dst = some d → Reads L oi d → inM ms i j = true ∨ inM ms j i = true
  wr : ∀ (i j : Nat) (oi oj : Oper) (d : Tmp), L[i]? = some oi → L[j]? = some oj → i ≠ j → oj.dst = some d → oi.dst ≠ some d
  eff : ∀ (i j : Nat) (oi oj : Oper), L[i]? = some oi → L[j]? = some oj → i ≠ j → clsOf P oi = 3 → clsOf P oj = 3 → inM ms i j = true ∨ inM ms j i = true
  sel : ∀ (i : Nat) (oi : Oper), L[i]? = some oi → ∀ cs b, oi.op ≠ .select cs b
  gd : ∀ (i : Nat) (oi : Oper) (g : Nat) (b : Bool), L[i]? = some oi → oi.guard = some (g, b) → inM ms g i = true
theorem staticOk_spec {P : Program} {L : List Oper} {ms : List Nat} (h : staticOk P L = some ms) : StOk P L ms := by
  obtain ⟨ms', hm, h1⟩ := oB_some.1 h
  obtain ⟨h2, h3⟩ := oI_some.1 h1
  cases h3
  have hmo := masks_ok hm
  have hi : ∀ i oi, L[i]? = some oi → noSel oi = true ∧ guardOk ms i oi = true ∧ ∀ j oj, L[j]? = some oj → pairOk P L ms i j oi oj = true := fun i oi ho => by
    have := allIx_spec h2 i oi ho
    rw [Nat.zero_add] at this
    obtain ⟨h4, h5⟩ := and2 this
    obtain ⟨h6, h7⟩ := and2 h4
    refine ⟨h6, h7, fun j oj hj => ?_⟩
    have := allIx_spec h5 j oj hj
    rw [Nat.zero_add] at this
    exact this
  have pr : ∀ i j oi oj, L[i]? = some oi → L[j]? = some oj → i ≠ j → (∀ d, oj.dst = some d → (ordered ms i j = true ∨ reads L oi d = false) ∧ oi.dst ≠ some d) ∧ ((clsOf P oi = 3 ∧ clsOf P oj = 3) → ordered ms i j = true) := by
    intro i j oi oj ho hj hne
    rcases or2 ((hi i oi ho).2.2 j oj hj) with h4 | h4
    · exact absurd (beq_nat.1 h4) hne
    · obtain ⟨h5, h6⟩ := and2 h4
      refine ⟨fun d hd => ?_, fun ⟨e1, e2⟩ => ?_⟩
      · rw [hd] at h5
        obtain ⟨h7, h8⟩ := and2 h5
        refine ⟨?_, fun e => ?_⟩
        · rcases or2 h7 with h9 | h9
          · exact .inl h9
          · exact .inr (by simpa using h9)
        · rw [e] at h8
          have h10 : Bool.not (Nat.beq d d) = true := h8
          rw [Nat.beq_refl] at h10; cases h10
      · rcases or2 h6 with h7 | h7
        · rw [e1, e2] at h7; cases h7
        · exact h7
  refine ⟨hmo, fun i j oi oj d ho hj hne hd hr => ?_, fun i j oi oj d ho hj hne hd => ((pr i j oi oj ho hj hne).1 d hd).2, fun i j oi oj ho hj hne e1 e2 => or2 ((pr i j oi oj ho hj hne).2 ⟨e1, e2⟩), fun i oi ho cs b e => ?_, fun i oi g b ho hg => ?_⟩
  · rcases ((pr i j oi oj ho hj hne).1 d hd).1 with h4 | h4
    · exact or2 h4
    · rw [reads_iff.1 hr] at h4; cases h4
  · have := (hi i oi ho).1
    unfold noSel at this
    rw [e] at this; cases this
  · have := (hi i oi ho).2.1
    unfold guardOk at this
    rw [hg] at this
    exact this
end Go.Proofs.YtjdehneddakpnaaGreatDoor.sx
namespace Go.Proofs.YtjdehneddakpnaaGreatDoor.sx
open Go Go.RowKit
section
variable {P : Program} {D : Data} {cd : TypeId → Option Nat} {mu : Bool} {ex : CaF D.E} {L : List Oper} {N : Nat} {ms : List Nat}
theorem restr_spec {φ : T (AV D.E)} : ∀ {ts : List (Option Tmp)} {ψ ψ' : T (AV D.E)}, (restr D φ ts ψ).H ψ' → ∀ t, ψ'.get t = if some t ∈ ts ∧ φ.get t ≠ none then φ.get t else ψ.get t
  | [], ψ, ψ', h, t => by cases ret_H.1 (show (C.ret ψ).H ψ' from h); simp
  | none :: ts, ψ, ψ', h, t => by
    rw [restr_spec (show (restr D φ ts ψ).H ψ' from h) t]
    simp
  | some x :: ts, ψ, ψ', h, t => by
    have h' : (Option.rec (motive := fun _ => C (T (AV D.E))) (restr D φ ts ψ) (fun v => bnd (ofO (ψ.put x (some v))) fun ψ => restr D φ ts ψ) (φ.get x) : C (T (AV D.E))).H ψ' := h
    cases hx : φ.get x with
    | none =>
      rw [hx] at h'
      rw [restr_spec h' t]
      by_cases e : t = x
      · subst e; simp [hx]
      · simp [e]
    | some v =>
      rw [hx] at h'
      obtain ⟨ψ1, h1, h2⟩ := bnd_H.1 h'
      rw [ofO_H] at h1
      rw [restr_spec h2 t, T.put_spec _ _ _ _ h1 t]
      by_cases e : t = x
      · subst e; simp [hx]
      · simp [e]
/-- The frame ahead of operation i: what was written by the operations ahead of it. -/
def PHI (L : List Oper) (φ0 : T (AV D.E)) (rs : List (Rc D)) (φ : T (AV D.E)) : Prop :=
  (∀ (j : Nat) (r : Rc D) (o : Oper) (d : Tmp), rs[j]? = some r → L[j]? = some o → o.dst = some d → φ.get d = some r.v) ∧ ∀ t, (∀ (j : Nat) (r : Rc D) (o : Oper), rs[j]? = some r → L[j]? = some o → o.dst ≠ some t) → φ.get t = φ0.get t
/-- the last effect's place, one more -/
def lastOf (es : List Nat) (k : Nat) : Nat := match k with
  | 0 => 0
  | k + 1 => es.getD k 0 + 1
/-- What is recorded of an operation. hs: the heaps so far, es: the effects' places so far. -/
structure RcOk (P : Program) (D : Data) (cd : TypeId → Option Nat) (mu : Bool) (ex : CaF D.E) (L : List Oper) (ms : List Nat) (φ0 : T (AV D.E)) (rs : List (Rc D)) (hs : List (T (AO D.E))) (es : List Nat) (i : Nat) (o : Oper) (r : Rc D) : Prop where
  op : r.o = o
  le : r.lo ≤ r.hi
  fr : ∃ φ, PHI L φ0 (rs.take i) φ ∧ ∀ t, (Reads L o t → r.φ.get t = φ.get t) ∧ (¬ Reads L o t → r.φ.get t = none)
  kind : (r.cls = 0 ∧ (wantA D L r.φ o).H false ∧ r.v = undef ∧ r.hi = r.lo) ∨
    (r.cls = 1 ∧ (wantA D L r.φ o).H true ∧ clsOf P o = 1 ∧ (opG P D cd mu r.g o.op ca0 ⟨.nil, r.lo⟩ r.φ).H (r.v, ⟨r.pc, r.hi⟩) ∧ r.hi ≤ r.lo + 1) ∨
    (r.cls = 2 ∧ (wantA D L r.φ o).H true ∧ clsOf P o = 2 ∧ r.hi = r.lo) ∨
    (r.cls = 3 ∧ (wantA D L r.φ o).H true ∧ clsOf P o = 3 ∧ ∃ (k : Nat) (h h' K : T (AO D.E)) (last : Nat), es[k]? = some i ∧ hs[k]? = some h ∧ hs[k + 1]? = some h' ∧ last = lastOf es k ∧
      (addPcs D (fun j => Bool.and (inM ms j i) (notBefore ms last j)) (rs.take i) 0 h).H K ∧ (opG P D cd mu r.g o.op ex ⟨K, r.lo⟩ r.φ).H (r.v, ⟨h', r.hi⟩))
structure DsOk (P : Program) (D : Data) (cd : TypeId → Option Nat) (mu : Bool) (ex : CaF D.E) (L : List Oper) (N : Nat) (ms : List Nat) (φ0 : T (AV D.E)) (s : St D.E) (i : Nat) (d : Ds D) : Prop where
  len : d.rs.length = i
  phi : PHI L φ0 d.rs d.φ
  rc : ∀ (j : Nat) (o : Oper) (r : Rc D), L[j]? = some o → d.rs[j]? = some r → RcOk P D cd mu ex L ms φ0 d.rs d.hs d.es j o r
  hsl : d.hs.length = d.es.length + 1
  cur : d.hs[d.es.length]? = some d.h
  h0 : d.hs[0]? = some s.h
  last : d.last = lastOf d.es d.es.length
  esr : ∀ (k e : Nat), d.es[k]? = some e → e < i ∧ ∃ r, d.rs[e]? = some r ∧ r.cls = 3
  ese : ∀ (e : Nat) (r : Rc D), d.rs[e]? = some r → r.cls = 3 → ∃ k : Nat, d.es[k]? = some e
  inc : ∀ k l e f : Nat, k < l → d.es[k]? = some e → d.es[l]? = some f → e < f
  lo0 : s.nx ≤ d.nx ∧ ∀ (j : Nat) (r : Rc D), d.rs[j]? = some r → s.nx ≤ r.lo ∧ r.hi ≤ d.nx
  apart : ∀ (j k : Nat) (r q : Rc D), j < k → d.rs[j]? = some r → d.rs[k]? = some q → r.hi ≤ q.lo
  dst : ∀ (j : Nat) (o : Oper) (d' : Tmp), j < i → L[j]? = some o → o.dst = some d' → d' < N
theorem RcOk.grow {φ0 : T (AV D.E)} {rs rs' : List (Rc D)} {hs hs' : List (T (AO D.E))} {es es' : List Nat} {i : Nat} {o : Oper} {r : Rc D} (h : RcOk P D cd mu ex L ms φ0 rs hs es i o r) (h1 : rs'.take i = rs.take i) (h2 : ∀ (k : Nat) (x : T (AO D.E)), hs[k]? = some x → hs'[k]? = some x) (h3 : ∀ (k x : Nat), es[k]? = some x → es'[k]? = some x) : RcOk P D cd mu ex L ms φ0 rs' hs' es' i o r := by
  refine ⟨h.op, h.le, by rw [h1]; exact h.fr, ?_⟩
  rcases h.kind with k | k | k | ⟨k1, k2, k3, k, a, b, K, last, e1, e2, e3, e4, e5, e6⟩
  · exact .inl k
  · exact .inr (.inl k)
  · exact .inr (.inr (.inl k))
  · refine .inr (.inr (.inr ⟨k1, k2, k3, k, a, b, K, last, h3 _ _ e1, h2 _ _ e2, h2 _ _ e3, ?_, by rw [h1]; exact e5, e6⟩))
    cases k with
    | zero => exact e4
    | succ k =>
      have hk : k < es.length := by
        have := (List.getElem?_eq_some_iff.1 e1).1
        omega
      have := h3 k _ (List.getElem?_eq_getElem hk)
      rw [e4]
      simp only [lastOf, List.getD_eq_getElem?_getD]
      rw [this, List.getElem?_eq_getElem hk]
theorem get_snoc {α : Type} {l : List α} {a : α} {k : Nat} {x : α} (h : (l ++ [a])[k]? = some x) : (l[k]? = some x) ∨ (k = l.length ∧ x = a) := by
  by_cases hk : k < l.length
  · rw [List.getElem?_append_left hk] at h; exact .inl h
  · rw [List.getElem?_append_right (by omega)] at h
    have := (List.getElem?_eq_some_iff.1 h).1
    simp at this
    have hk2 : k = l.length := by omega
    subst hk2
    simp at h
    exact .inr ⟨rfl, h.symm⟩
theorem snoc_get {α : Type} {l : List α} {a : α} {k : Nat} {x : α} (h : l[k]? = some x) : (l ++ [a])[k]? = some x := by
  rw [List.getElem?_append_left (List.getElem?_eq_some_iff.1 h).1]; exact h
/-- one operation more is recorded -/
theorem DsOk.step {φ0 : T (AV D.E)} {s : St D.E} {i : Nat} {d : Ds D} {o : Oper} {r : Rc D} {φ' ψ : T (AV D.E)} (hd : DsOk P D cd mu ex L N ms φ0 s i d) (hL : StOk P L ms) (ho : L[i]? = some o) (hψ : (restr D d.φ (readsOf L o) .nil).H ψ)
    (hφ : (putA D N d.φ o.dst r.v).H φ') (hr1 : r.o = o) (hr2 : r.φ = ψ) (hr3 : r.lo = d.nx) (hr4 : r.lo ≤ r.hi) {h' : T (AO D.E)} {hs' : List (T (AO D.E))} {es' : List Nat} {last' : Nat}
    (hh : (r.cls ≠ 3 ∧ h' = d.h ∧ hs' = d.hs ∧ es' = d.es ∧ last' = d.last) ∨ (r.cls = 3 ∧ hs' = d.hs ++ [h'] ∧ es' = d.es ++ [i] ∧ last' = i + 1))
    (kind : (r.cls = 0 ∧ (wantA D L ψ o).H false ∧ r.v = undef ∧ r.hi = r.lo) ∨
      (r.cls = 1 ∧ (wantA D L ψ o).H true ∧ clsOf P o = 1 ∧ (opG P D cd mu r.g o.op ca0 ⟨.nil, r.lo⟩ ψ).H (r.v, ⟨r.pc, r.hi⟩) ∧ r.hi ≤ r.lo + 1) ∨
      (r.cls = 2 ∧ (wantA D L ψ o).H true ∧ clsOf P o = 2 ∧ r.hi = r.lo) ∨
      (r.cls = 3 ∧ (wantA D L ψ o).H true ∧ clsOf P o = 3 ∧ ∃ K, (addPcs D (fun j => Bool.and (inM ms j i) (notBefore ms d.last j)) d.rs 0 d.h).H K ∧ (opG P D cd mu r.g o.op ex ⟨K, r.lo⟩ ψ).H (r.v, ⟨h', r.hi⟩))) :
    DsOk P D cd mu ex L N ms φ0 s (i + 1) ⟨φ', h', hs', r.hi, last', es', d.rs ++ [r]⟩ := by
  obtain ⟨p1, p2⟩ := putA_some hφ
  have hlen := hd.len
  have hsg : ∀ (k : Nat) (x : T (AO D.E)), d.hs[k]? = some x → hs'[k]? = some x := fun k x hx => by
    rcases hh with ⟨_, _, e, _⟩ | ⟨_, e, _⟩
    · rw [e]; exact hx
    · rw [e]; exact snoc_get hx
  have heg : ∀ (k x : Nat), d.es[k]? = some x → es'[k]? = some x := fun k x hx => by
    rcases hh with ⟨_, _, _, e, _⟩ | ⟨_, _, e, _⟩
    · rw [e]; exact hx
    · rw [e]; exact snoc_get hx
  have htake : ∀ j, j ≤ i → (d.rs ++ [r]).take j = d.rs.take j := fun j hj => by rw [List.take_append_of_le_length (by omega)]
  have htl : d.rs.take i = d.rs := List.take_of_length_le (by omega)
  refine ⟨by simp [hlen], ⟨fun j q oj dj hq hoj hdj => ?_, fun t ht => ?_⟩, fun j oj q hoj hq => ?_, ?_, ?_, ?_, ?_, fun k e he => ?_, fun e q hq hc => ?_, fun k l e f hkl he hf => ?_, ⟨by have := hd.lo0.1; simp only; omega, fun j q hq => ?_⟩, fun j k q p hjk hq hp => ?_, fun j oj dj hj hoj hdj => ?_⟩
  · rw [p2]
    rcases get_snoc hq with hq | ⟨rfl, rfl⟩
    · have hj : j < i := by rw [← hlen]; exact (List.getElem?_eq_some_iff.1 hq).1
      rw [if_neg (fun e => hL.wr i j o oj dj ho hoj (by omega) hdj e)]
      exact hd.phi.1 j q oj dj hq hoj hdj
    · rw [hlen, ho] at hoj
      cases hoj
      rw [if_pos hdj]
  · rw [p2]
    rw [if_neg (ht i r o (by simp [hlen]) ho)]
    exact hd.phi.2 t fun j q oj hq hoj => ht j q oj (snoc_get hq) hoj
  · rcases get_snoc hq with hq | ⟨rfl, rfl⟩
    · have hj : j < i := by rw [← hlen]; exact (List.getElem?_eq_some_iff.1 hq).1
      exact (hd.rc j oj q hoj hq).grow (htake j (by omega)) hsg heg
    · rw [hlen] at hoj ⊢
      rw [ho] at hoj
      cases hoj
      refine ⟨hr1, hr4, ⟨d.φ, by rw [htake i (Nat.le_refl _), htl]; exact hd.phi, fun t => ?_⟩, ?_⟩
      · rw [hr2, restr_spec hψ t, T.get_nil]
        unfold Reads
        by_cases h1 : some t ∈ readsOf L o
        · by_cases h2 : d.φ.get t = none
          · simp [h1, h2]
          · simp [h1, h2]
        · simp [h1]
      · rw [hr2]
        rcases kind with k | k | k | ⟨k1, k2, k3, K, k4, k5⟩
        · exact .inl k
        · exact .inr (.inl k)
        · exact .inr (.inr (.inl k))
        · rcases hh with ⟨e, _⟩ | ⟨_, e1, e2, e3⟩
          · exact absurd k1 e
          · refine .inr (.inr (.inr ⟨k1, k2, k3, d.es.length, d.h, h', K, d.last, by rw [e2]; simp, hsg _ _ hd.cur, by rw [e1, ← hd.hsl]; simp, ?_, by rw [htake i (Nat.le_refl _), htl]; exact k4, k5⟩))
            rw [hd.last]
            cases hk : d.es.length with
            | zero => rfl
            | succ k =>
              simp only [lastOf, List.getD_eq_getElem?_getD]
              have hkl : k < d.es.length := by omega
              rw [heg k _ (List.getElem?_eq_getElem hkl), List.getElem?_eq_getElem hkl]
  · rcases hh with ⟨_, _, e1, e2, _⟩ | ⟨_, e1, e2, _⟩
    · rw [e1, e2]; exact hd.hsl
    · rw [e1, e2]; simp [hd.hsl]
  · rcases hh with ⟨_, e0, e1, e2, _⟩ | ⟨_, e1, e2, _⟩
    · rw [e1, e2, e0]; exact hd.cur
    · rw [e1, e2]; simp [← hd.hsl]
  · exact hsg _ _ hd.h0
  · rcases hh with ⟨_, _, _, e2, e3⟩ | ⟨_, _, e2, e3⟩
    · rw [e2, e3]; exact hd.last
    · rw [e2, e3]; simp [lastOf]
  · rcases hh with ⟨_, _, _, e2, _⟩ | ⟨e0, _, e2, _⟩
    · rw [e2] at he
      obtain ⟨h1, q, h2, h3⟩ := hd.esr k e he
      exact ⟨by omega, q, snoc_get h2, h3⟩
    · rw [e2] at he
      rcases get_snoc he with he | ⟨_, rfl⟩
      · obtain ⟨h1, q, h2, h3⟩ := hd.esr k e he
        exact ⟨by omega, q, snoc_get h2, h3⟩
      · exact ⟨by omega, r, by simp [← hlen], e0⟩
  · rcases get_snoc hq with hq | ⟨rfl, rfl⟩
    · obtain ⟨k, hk⟩ := hd.ese e q hq hc
      exact ⟨k, heg k e hk⟩
    · rcases hh with ⟨e0, _⟩ | ⟨_, _, e2, _⟩
      · exact absurd hc e0
      · exact ⟨d.es.length, by rw [e2, hlen]; simp⟩
  · rcases hh with ⟨_, _, _, e2, _⟩ | ⟨_, _, e2, _⟩
    · rw [e2] at he hf; exact hd.inc k l e f hkl he hf
    · rw [e2] at he hf
      rcases get_snoc hf with hf2 | ⟨hl, rfl⟩
      · rcases get_snoc he with he2 | ⟨hk, rfl⟩
        · exact hd.inc k l e f hkl he2 hf2
        · have h9 : l < d.es.length := (List.getElem?_eq_some_iff.1 hf2).1
          omega
      · rcases get_snoc he with he2 | ⟨hk, rfl⟩
        · exact (hd.esr k e he2).1
        · omega
  · rcases get_snoc hq with hq | ⟨rfl, rfl⟩
    · obtain ⟨h1, h2⟩ := hd.lo0.2 j q hq
      exact ⟨h1, by simp only; omega⟩
    · have := hd.lo0.1
      exact ⟨by omega, Nat.le_refl _⟩
  · rcases get_snoc hp with hp2 | ⟨hk, rfl⟩
    · rcases get_snoc hq with hq2 | ⟨hj, rfl⟩
      · exact hd.apart j k q p hjk hq2 hp2
      · have h9 : k < d.rs.length := (List.getElem?_eq_some_iff.1 hp2).1
        omega
    · rcases get_snoc hq with hq2 | ⟨hj, rfl⟩
      · have := (hd.lo0.2 j q hq2).2; omega
      · omega
  · by_cases hji : j < i
    · exact hd.dst j oj dj hji hoj hdj
    · have : j = i := by omega
      subst this
      rw [ho] at hoj
      cases hoj
      exact p1 dj hdj
theorem drawOne_ok {φ0 : T (AV D.E)} {s : St D.E} {i : Nat} {d d' : Ds D} {o : Oper} (hd : DsOk P D cd mu ex L N ms φ0 s i d) (hL : StOk P L ms) (ho : L[i]? = some o) (h : (drawOne P D cd mu ex L N ms i o d).H d') : DsOk P D cd mu ex L N ms φ0 s (i + 1) d' := by
  obtain ⟨ψ, hψ, h1⟩ := bnd_H.1 h
  obtain ⟨b, hw, h0⟩ := bnd_H.1 h1
  rcases bE_H.1 h0 with ⟨rfl, h2⟩ | ⟨rfl, h2⟩
  · rcases bE_H.1 h2 with ⟨hc, h3⟩ | ⟨hc, h3⟩
    · obtain ⟨v, s2, h4, h5⟩ := bnd2_H.1 h3
      obtain ⟨φ', h6, h7⟩ := bnd_H.1 h5
      obtain ⟨h8, h9⟩ := bB_H.1 h7
      obtain ⟨q1, q2⟩ := and2 h8
      cases ret_H.1 h9
      rw [sApp_eq]
      exact hd.step (r := ⟨o, guards L i, 1, v, ψ, d.nx, s2.nx, s2.h⟩) hL ho hψ h6 rfl rfl rfl (ble_nat.1 q1) (.inl ⟨by simp, rfl, rfl, rfl, rfl⟩) (.inr (.inl ⟨rfl, hw, beq_nat.1 hc, h4, ble_nat.1 q2⟩))
    · rcases bE_H.1 h3 with ⟨hc2, h4⟩ | ⟨hc2, h4⟩
      · obtain ⟨v, h5, h6⟩ := bnd_H.1 h4
        obtain ⟨φ', h7, h8⟩ := bnd_H.1 h6
        cases ret_H.1 h8
        rw [sApp_eq]
        exact hd.step (r := ⟨o, guards L i, 2, v, ψ, d.nx, d.nx, .nil⟩) hL ho hψ h7 rfl rfl rfl (Nat.le_refl _) (.inl ⟨by simp, rfl, rfl, rfl, rfl⟩) (.inr (.inr (.inl ⟨rfl, hw, beq_nat.1 hc2, rfl⟩)))
      · obtain ⟨hc3, h5⟩ := bB_H.1 h4
        obtain ⟨K, h6, h7⟩ := bnd_H.1 h5
        obtain ⟨v, s2, h8, h9⟩ := bnd2_H.1 h7
        obtain ⟨φ', h10, h11⟩ := bnd_H.1 h9
        obtain ⟨h12, h13⟩ := bB_H.1 h11
        cases ret_H.1 h13
        rw [sApp_eq, sApp_eq, sApp_eq]
        exact hd.step (r := ⟨o, guards L i, 3, v, ψ, d.nx, s2.nx, .nil⟩) hL ho hψ h10 rfl rfl rfl (ble_nat.1 h12) (.inr ⟨rfl, rfl, rfl, rfl⟩) (.inr (.inr (.inr ⟨rfl, hw, beq_nat.1 hc3, K, h6, h8⟩)))
  · obtain ⟨φ', h3, h4⟩ := bnd_H.1 h2
    cases ret_H.1 h4
    rw [sApp_eq]
    exact hd.step (r := ⟨o, guards L i, 0, undef, ψ, d.nx, d.nx, .nil⟩) hL ho hψ h3 rfl rfl rfl (Nat.le_refl _) (.inl ⟨by simp, rfl, rfl, rfl, rfl⟩) (.inl ⟨rfl, hw, rfl, rfl⟩)
theorem drawAll_ok {φ0 : T (AV D.E)} {s : St D.E} (hL : StOk P L ms) : ∀ {l pre : List Oper} {d d' : Ds D}, pre ++ l = L → DsOk P D cd mu ex L N ms φ0 s pre.length d → (drawAll P D cd mu ex L N ms l pre.length d).H d' → DsOk P D cd mu ex L N ms φ0 s L.length d'
  | [], pre, d, d', hl, hd, h => by
    cases ret_H.1 (show (C.ret d).H d' from h)
    have e : L.length = pre.length := by rw [← hl, List.append_nil]
    rw [e]; exact hd
  | o :: l, pre, d, d', hl, hd, h => by
    obtain ⟨d1, h1, h2⟩ := bnd_H.1 (show (bnd (drawOne P D cd mu ex L N ms pre.length o d) (fun d => drawAll P D cd mu ex L N ms l (pre.length + 1) d)).H d' from h)
    have ho : L[pre.length]? = some o := by rw [← hl]; simp
    have hd1 := drawOne_ok hd hL ho h1
    have e : (pre ++ [o]).length = pre.length + 1 := by simp
    rw [← e] at hd1 h2
    exact drawAll_ok hL (by rw [List.append_assoc]; exact hl) hd1 h2
theorem DsOk.start (s : St D.E) (φ : T (AV D.E)) : DsOk P D cd mu ex L N ms φ s 0 ⟨φ, s.h, [s.h], s.nx, 0, [], []⟩ :=
  ⟨rfl, ⟨fun j r o d h => by simp at h, fun t _ => rfl⟩, fun j o r _ h => by simp at h, rfl, rfl, rfl, rfl, fun k e h => by simp at h, fun e r h => by simp at h, fun k l e f _ h => by simp at h, ⟨Nat.le_refl _, fun j r h => by simp at h⟩, fun j k r q _ h => by simp at h, fun j o d h => by omega⟩
end
end Go.Proofs.YtjdehneddakpnaaGreatDoor.sx
namespace Go.Proofs.YtjdehneddakpnaaGreatDoor.sx
open Go Go.RowKit
section
variable {D : Data}
noncomputable def pcsG (sel : Nat → Bool) : List (Rc D) → Nat → Nat → Option (AO D.E)
  | [], _, _ => none
  | r :: rs, j, b => if piece D r = true ∧ sel j = true ∧ r.lo = b then r.pc.get b else pcsG sel rs (j + 1) b
theorem pcsG_cons (sel : Nat → Bool) (r : Rc D) (rs : List (Rc D)) (j b : Nat) : pcsG sel (r :: rs) j b = if piece D r = true ∧ sel j = true ∧ r.lo = b then r.pc.get b else pcsG sel rs (j + 1) b := rfl
def Apart (rs : List (Rc D)) : Prop := ∀ (j k : Nat) (r q : Rc D), j < k → rs[j]? = some r → rs[k]? = some q → r.hi ≤ q.lo
theorem Apart.tail {r : Rc D} {rs : List (Rc D)} (h : Apart (r :: rs)) : Apart rs := fun j k r q hjk hr hq => h (j + 1) (k + 1) r q (by omega) (by simpa using hr) (by simpa using hq)
theorem piece_lt {r : Rc D} (h : piece D r = true) : r.cls = 1 ∧ r.lo < r.hi := by
  obtain ⟨h1, h2⟩ := and2 h
  exact ⟨beq_nat.1 h1, ble_nat.1 h2⟩
theorem Apart.head {r q : Rc D} {rs : List (Rc D)} {k : Nat} (h : Apart (r :: rs)) (hr : piece D r = true) (hq : rs[k]? = some q) : r.lo ≠ q.lo := by
  have := h 0 (k + 1) r q (by omega) rfl (by simpa using hq)
  have := (piece_lt hr).2
  omega
theorem Apart.uniq {rs : List (Rc D)} {j k : Nat} {r q : Rc D} (h : Apart rs) (hr : rs[j]? = some r) (hq : rs[k]? = some q) (p : piece D r = true) (p2 : piece D q = true) (e : r.lo = q.lo) : j = k := by
  rcases Nat.lt_trichotomy j k with hlt | rfl | hlt
  · have := h j k r q hlt hr hq; have := (piece_lt p).2; omega
  · rfl
  · have := h k j q r hlt hq hr; have := (piece_lt p2).2; omega
theorem pcsG_iff {sel : Nat → Bool} : ∀ {rs : List (Rc D)} {j0 b : Nat} {o : AO D.E}, Apart rs → (pcsG sel rs j0 b = some o ↔ ∃ (j : Nat) (r : Rc D), rs[j]? = some r ∧ piece D r = true ∧ sel (j0 + j) = true ∧ r.lo = b ∧ r.pc.get b = some o)
  | [], j0, b, o, _ => by simp [pcsG]
  | r :: rs, j0, b, o, hA => by
    have ih := pcsG_iff (sel := sel) (j0 := j0 + 1) (b := b) (o := o) hA.tail
    rw [pcsG_cons]
    by_cases hc : piece D r = true ∧ sel j0 = true ∧ r.lo = b
    · rw [if_pos hc]
      constructor
      · intro h; exact ⟨0, r, rfl, hc.1, hc.2.1, hc.2.2, h⟩
      · rintro ⟨j, q, h1, h2, h3, h4, h5⟩
        cases j with
        | zero => cases (show some r = some q from h1); exact h5
        | succ j => exact absurd (hc.2.2.trans h4.symm) (hA.head hc.1 (by simpa using h1))
    · rw [if_neg hc, ih]
      constructor
      · rintro ⟨j, q, h1, h2, h3, h4, h5⟩
        exact ⟨j + 1, q, by simpa using h1, h2, by rw [show j0 + (j + 1) = j0 + 1 + j by omega]; exact h3, h4, h5⟩
      · rintro ⟨j, q, h1, h2, h3, h4, h5⟩
        cases j with
        | zero => cases (show some r = some q from h1); exact absurd ⟨h2, h3, h4⟩ hc
        | succ j => exact ⟨j, q, by simpa using h1, h2, by rw [show j0 + 1 + j = j0 + (j + 1) by omega]; exact h3, h4, h5⟩
theorem addPcs_iff {sel : Nat → Bool} : ∀ {rs : List (Rc D)} {j0 : Nat} {h h' : T (AO D.E)}, (addPcs D sel rs j0 h).H h' → Apart rs → ∀ b, h'.get b = match pcsG sel rs j0 b with
    | some o => some o
    | none => h.get b
  | [], j0, h, h', hh, _, b => by cases ret_H.1 (show (C.ret h).H h' from hh); rfl
  | r :: rs, j0, h, h', hh, hA, b => by
    rcases bE_H.1 (show (bE (Bool.and (piece D r) (sel j0)) (bnd (ofO (r.pc.get r.lo)) fun o => bnd (ofO (h.put r.lo (some o))) fun h => addPcs D sel rs (j0 + 1) h) (addPcs D sel rs (j0 + 1) h)).H h' from hh) with ⟨hc, h1⟩ | ⟨hc, h1⟩
    · obtain ⟨hp, hs⟩ := and2 hc
      obtain ⟨o, ho, h2⟩ := bnd_H.1 h1
      obtain ⟨h3, hput, h4⟩ := bnd_H.1 h2
      rw [ofO_H] at ho hput
      rw [addPcs_iff h4 hA.tail b, T.put_spec _ _ _ _ hput b]
      rw [pcsG_cons]
      by_cases hb : b = r.lo
      · subst hb
        rw [if_pos (show piece D r = true ∧ sel j0 = true ∧ r.lo = r.lo from ⟨hp, hs, rfl⟩), ho, if_pos rfl]
        cases hq : pcsG sel rs (j0 + 1) r.lo with
        | none => rfl
        | some q =>
          obtain ⟨j, x, h5, _, _, h6, _⟩ := (pcsG_iff hA.tail).1 hq
          exact absurd h6.symm (hA.head hp h5)
      · rw [if_neg hb, if_neg (fun (e : piece D r = true ∧ sel j0 = true ∧ r.lo = b) => hb e.2.2.symm)]
    · have hn : ¬ (piece D r = true ∧ sel j0 = true ∧ r.lo = b) := fun ⟨h2, h3, _⟩ => by rw [h2, h3] at hc; cases hc
      rw [addPcs_iff h1 hA.tail b]
      rw [pcsG_cons, if_neg hn]
end
section
variable {D : Data} {M : Pm D}
theorem sameB_H {b : Bool} {u : Unit} (h : (sameB b).H u) : b = true := (bB_H.1 h).1
theorem same0_VR {x y : AV D.E} {u : Unit} {v : Value} (h : (same0 x y).H u) (hx : VR M x v) : VR M y v := by
  cases x <;> simp only [same0] at h <;> (try exact h.elim)
  case bool a =>
    obtain ⟨b, p, h1, h2⟩ := bnd2_H.1 h
    obtain ⟨rfl, _⟩ := need_H.1 h2
    cases y <;> simp only [asT] at h1 <;> (try exact h1.elim)
    · cases ret_H.1 h1; exact hx
    · cases ret_H.1 h1; cases hx; exact .lit _
  case lit a =>
    cases y <;> simp only at h <;> (try exact h.elim)
    · obtain ⟨rfl, _⟩ := need_H.1 h; cases hx; exact .bool _
    · have h1 := sameB_H h
      rename_i b
      cases a <;> cases b <;> first | exact hx | cases h1
  case int k a =>
    obtain ⟨k', b, h1, h2⟩ := bnd2_H.1 h
    obtain ⟨h3, h4⟩ := bB_H.1 h2
    obtain ⟨rfl, _⟩ := need_H.1 h4
    obtain rfl := kEq_iff.1 h3
    cases y <;> simp only [asI] at h1 <;> (try exact h1.elim)
    · cases ret_H.1 h1; exact hx
    · cases ret_H.1 h1; cases hx; exact .num (by assumption)
  case num k a =>
    cases y <;> simp only at h <;> (try exact h.elim)
    · obtain ⟨h3, h4⟩ := bB_H.1 h
      obtain ⟨rfl, _⟩ := need_H.1 h4
      obtain rfl := kEq_iff.1 h3
      cases hx; exact .int (by assumption)
    · obtain ⟨h3, h4⟩ := bB_H.1 h
      obtain rfl := kEq_iff.1 h3
      have h5 := sameB_H h4
      rw [iEq_eq, beq_iff_eq] at h5
      subst h5
      exact hx
  case str a =>
    obtain ⟨b, h1, h2⟩ := bnd_H.1 h
    obtain ⟨rfl, _⟩ := need_H.1 h2
    cases y <;> simp only [asStr] at h1 <;> (try exact h1.elim)
    cases ret_H.1 h1; exact hx
  case pnil => cases y <;> simp only at h <;> first | exact h.elim | exact hx
  case ptr b o =>
    cases y <;> simp only at h <;> (try exact h.elim)
    obtain ⟨h1, h2⟩ := and2 (sameB_H h)
    obtain rfl := beq_nat.1 h1
    obtain rfl := beq_nat.1 h2
    exact hx
  case glob b o =>
    cases y <;> simp only at h <;> (try exact h.elim)
    obtain ⟨h1, h2⟩ := and2 (sameB_H h)
    obtain rfl := beq_nat.1 h1
    obtain rfl := beq_nat.1 h2
    exact hx
  case pix b k i j =>
    cases y <;> simp only at h <;> (try exact h.elim)
    obtain ⟨h0, h3⟩ := bB_H.1 h
    obtain ⟨h1, h2⟩ := and2 h0
    obtain ⟨h4, h5⟩ := and2 h2
    obtain ⟨rfl, _⟩ := need_H.1 h3
    obtain rfl := beq_nat.1 h1
    obtain rfl := beq_nat.1 h4
    obtain rfl := beq_nat.1 h5
    exact hx
  case pel c x j =>
    cases y <;> simp only at h <;> (try exact h.elim)
    obtain ⟨h0, h3⟩ := bB_H.1 h
    obtain ⟨x', h4, h5⟩ := bnd_H.1 h3
    obtain ⟨rfl, e⟩ := castX_H h4
    obtain ⟨rfl, _⟩ := need_H.1 h5
    obtain rfl := beq_nat.1 h0
    cases e
    exact hx
  case snil => cases y <;> simp only at h <;> first | exact h.elim | exact hx
  case own b k n =>
    cases y <;> simp only at h <;> (try exact h.elim)
    obtain ⟨h0, h3⟩ := bB_H.1 h
    obtain ⟨h1, h2⟩ := and2 h0
    obtain ⟨rfl, _⟩ := need_H.1 h3
    obtain rfl := beq_nat.1 h1
    obtain rfl := beq_nat.1 h2
    exact hx
  case pre b k n =>
    cases y <;> simp only at h <;> (try exact h.elim)
    obtain ⟨h0, h3⟩ := bB_H.1 h
    obtain ⟨h1, h2⟩ := and2 h0
    obtain ⟨rfl, _⟩ := need_H.1 h3
    obtain rfl := beq_nat.1 h1
    obtain rfl := beq_nat.1 h2
    exact hx
  case part b k o n =>
    cases y <;> simp only at h <;> (try exact h.elim)
    obtain ⟨h0, h3⟩ := bB_H.1 h
    obtain ⟨h1, h2⟩ := and2 h0
    obtain ⟨rfl, h4⟩ := need_H.1 h3
    obtain ⟨rfl, _⟩ := need_H.1 h4
    obtain rfl := beq_nat.1 h1
    obtain rfl := beq_nat.1 h2
    exact hx
  case grow c xs b =>
    cases y <;> simp only at h <;> (try exact h.elim)
    obtain ⟨h0, h3⟩ := bB_H.1 h
    obtain ⟨x', h4, h5⟩ := bnd_H.1 h3
    obtain ⟨rfl, e⟩ := castL_H h4
    obtain ⟨rfl, _⟩ := need_H.1 h5
    obtain rfl := beq_nat.1 h0
    cases e
    exact hx
  case sub b o n =>
    cases y <;> simp only at h <;> (try exact h.elim)
    obtain ⟨h1, h2⟩ := and2 (sameB_H h)
    obtain ⟨h3, h4⟩ := and2 h2
    obtain rfl := beq_nat.1 h1
    obtain rfl := beq_nat.1 h3
    obtain rfl := beq_nat.1 h4
    exact hx
  case list c xs =>
    cases y <;> simp only at h <;> (try exact h.elim)
    obtain ⟨x', h4, h5⟩ := bnd_H.1 h
    obtain ⟨rfl, e⟩ := castL_H h4
    obtain ⟨rfl, _⟩ := need_H.1 h5
    cases e
    exact hx
  case mnil => cases y <;> simp only at h <;> first | exact h.elim | exact hx
  case map b =>
    cases y <;> simp only at h <;> (try exact h.elim)
    obtain rfl := beq_nat.1 (sameB_H h)
    exact hx
  case nilFunc => cases y <;> simp only at h <;> first | exact h.elim | exact hx
  case nilIface => cases y <;> simp only at h <;> first | exact h.elim | exact hx
theorem sameL_LR : ∀ {xs ys : List (AV D.E)} {u : Unit} {vs : List Value}, (sameL xs ys).H u → LR M xs vs → LR M ys vs
  | [], [], _, _, _, h => h
  | [], _ :: _, _, _, h, _ => (h : False).elim
  | _ :: _, [], _, _, h, _ => (h : False).elim
  | x :: xs, y :: ys, u, vs, h, hl => by
    obtain ⟨_, h1, h2⟩ := bnd_H.1 (show (bnd (same0 x y) fun _ => sameL xs ys).H u from h)
    obtain ⟨v', r, rfl, hv, hr⟩ := hl.uncons
    exact .cons (same0_VR h1 hv) (sameL_LR h2 hr)
theorem fnEq_eq {f g : Fn} (h : fnEq f g = true) : f = g := by
  cases f <;> simp only [fnEq] at h <;> (try cases h)
  cases g <;> simp only at h <;> (try cases h)
  rw [beq_nat.1 h]
theorem sameV_VR {x y : AV D.E} {u : Unit} {v : Value} (h : (sameV x y).H u) (hx : VR M x v) : VR M y v := by
  cases x <;> simp only [sameV] at h <;> (try exact same0_VR h hx)
  case agg xs =>
    cases y <;> simp only at h <;> (try exact h.elim)
    cases hx with
    | agg hl hh => exact (VR.aggL (sameL_LR h ⟨hl, hh⟩) :)
  case tuple xs =>
    cases y <;> simp only at h <;> (try exact h.elim)
    cases hx with
    | tuple hl hh => exact (VR.tupL (sameL_LR h ⟨hl, hh⟩) :)
  case func f xs ys =>
    cases y <;> simp only at h <;> (try exact h.elim)
    obtain ⟨h0, h1⟩ := bB_H.1 h
    obtain ⟨_, h2, h3⟩ := bnd_H.1 h1
    obtain rfl := fnEq_eq h0
    cases hx with
    | func _ hl hh hl2 hh2 =>
      have l1 := sameL_LR h2 ⟨hl, hh⟩
      have l2 := sameL_LR h3 ⟨hl2, hh2⟩
      exact .func _ l1.1 l1.2 l2.1 l2.2
end
section
variable {P : Program} {D : Data} {cd : TypeId → Option Nat} {ex : CaF D.E} {φ : T (AV D.E)}
theorem ca0_ok : CaOk P D ca0 := fun _f _args _s _v _s' h => h.elim
/-- a load leaves the memory as it is -/
theorem load_same {mu g : Bool} {o : Oper} {s : St D.E} {v : AV D.E} {s' : St D.E} (hc : clsOf P o = 2) (hr0 : (opG P D cd mu g o.op ca0 s φ).H (v, s')) : s' = s := by
  have hr : ∃ v, (opF P D cd mu o.op ca0 s φ).H (v, s') := by
    unfold opG at hr0
    cases g with
    | false => exact ⟨v, hr0⟩
    | true =>
      obtain ⟨v1, s1, h1, h2⟩ := bnd2_H.1 (show (bnd2 (opF P D cd mu o.op ca0 s φ) fun v s => bnd (settle D v) fun v => .ret (v, s)).H (v, s') from hr0)
      obtain ⟨v2, h3, h4⟩ := bnd_H.1 h2
      cases ret_H.1 h4
      exact ⟨v1, h1⟩
  clear hr0
  obtain ⟨v, hr⟩ := hr
  unfold clsOf at hc
  cases ho : o.op <;> rw [ho] at hc hr <;> simp only at hc <;> (try cases hc)
  case load t a =>
    obtain ⟨_, _, h1⟩ := bnd_H.1 hr
    exact (pureS_H h1).2
  case lookup t x i ok => exact (hr : False).elim
  case convert src dst x =>
    obtain ⟨u, _, h1⟩ := bnd_H.1 hr
    obtain ⟨ds, hds, h2⟩ := bnd_H.1 h1
    obtain ⟨dd, _, h3⟩ := bnd_H.1 h2
    rw [und_H] at hds
    have hstr : dStr ds = false := by
      rw [hds] at hc
      cases ds <;> first | rfl | cases hc
    cases u <;> simp only at h3 <;> (try exact h3.elim)
    case int => obtain ⟨_, _, h4⟩ := bnd_H.1 h3; cases ret_H.1 h4; rfl
    case num => obtain ⟨_, _, h4⟩ := bnd_H.1 h3; cases ret_H.1 h4; rfl
    case str => rw [hstr] at h3; exact (h3 : False).elim
    all_goals
      obtain ⟨e, _, h4⟩ := bnd_H.1 h3
      cases dd <;> simp only at h4 <;> (try exact h4.elim)
      obtain ⟨_, _, h5⟩ := bnd_H.1 h4
      obtain ⟨_, h6⟩ := bB_H.1 h5
      obtain ⟨_, _, h7⟩ := bnd_H.1 h6
      obtain ⟨_, h8⟩ := bB_H.1 h7
      obtain ⟨_, _, h9⟩ := bnd_H.1 h8
      cases ret_H.1 h9
      rfl
  case call c =>
    cases hcc : c.callee with
    | value x => rw [hcc] at hc; cases hc
    | invoke r m => rw [hcc] at hc; cases hc
    | builtin b =>
      rw [hcc] at hc
      simp only at hc
      obtain ⟨vs, _, h1⟩ := bnd_H.1 (show (bnd (evs P D φ c.args.toList) fun vs => opBuiltin P D cd mu b s c.argTypes.toList vs).H (v, s') from (by simp only [opF] at hr; rw [hcc] at hr; exact hr))
      cases b <;> simp only [clsB] at hc <;> (try cases hc)
      simp only [opBuiltin] at h1
      obtain ⟨_, _, h2⟩ := bnd_H.1 h1
      obtain ⟨_, _, h3⟩ := bnd_H.1 h2
      exact (pureS_H h3).2
theorem loadAt_H {g : Bool} {o : Oper} {sel : Nat → Bool} {rs : List (Rc D)} {h : T (AO D.E)} {v : AV D.E} (hc : clsOf P o = 2) (hr : (loadAt P D cd g φ o sel rs h).H v) :
    ∃ k, (addPcs D sel rs 0 h).H k ∧ (opG P D cd false g o.op ca0 ⟨k, 0⟩ φ).H (v, ⟨k, 0⟩) := by
  obtain ⟨k, h1, h2⟩ := bnd_H.1 hr
  obtain ⟨v1, s1, h3, h4⟩ := bnd2_H.1 h2
  cases ret_H.1 h4
  have := load_same hc h3
  subst this
  exact ⟨k, h1, h3⟩
theorem loadChk_spec {ms : List Nat} {rs : List (Rc D)} {i : Nat} {r : Rc D} : ∀ {hs : List (T (AO D.E))} {last : Nat} {es : List Nat} {u : Unit}, (loadChk P D cd ms rs i r hs last es).H u → ∀ (k : Nat) (h : T (AO D.E)), hs[k]? = some h → k ≤ es.length →
    mayStand ms i (match k with | 0 => last | k + 1 => es.getD k 0 + 1) (es.drop k) = true → ∃ u, (hereOk P D cd ms rs i (match k with | 0 => last | k + 1 => es.getD k 0 + 1) r h).H u
  | [], last, es, _, _, k, h, hk, _, _ => by simp at hk
  | h0 :: hs, last, es, u, hc, k, h, hk, hle, hm => by
    obtain ⟨_, h1, h2⟩ := bnd_H.1 (show (bnd (bE (mayStand ms i last es) (hereOk P D cd ms rs i last r h0) unit1) fun _ => (List.rec (motive := fun _ => C Unit) unit1 (fun e es _ => loadChk P D cd ms rs i r hs (e + 1) es) es : C Unit)).H u from hc)
    cases k with
    | zero =>
      cases (show some h0 = some h from hk)
      rcases bE_H.1 h1 with ⟨_, h3⟩ | ⟨h3, _⟩
      · exact ⟨_, h3⟩
      · have hm' : mayStand ms i last es = true := by simpa using hm
        rw [hm'] at h3; cases h3
    | succ k =>
      cases es with
      | nil => simp at hle
      | cons e es =>
        have h3 : (loadChk P D cd ms rs i r hs (e + 1) es).H u := h2
        have hk' : hs[k]? = some h := by simpa using hk
        have := loadChk_spec h3 k h hk' (by simpa using hle)
        cases k with
        | zero => exact this (by simpa using hm)
        | succ k => exact this (by simpa using hm)
theorem chkAll_spec {ms : List Nat} {all : List (Rc D)} {hs : List (T (AO D.E))} {es : List Nat} : ∀ {l : List (Rc D)} {i : Nat} {u : Unit}, (chkAll P D cd ms all hs es l i).H u → ∀ (j : Nat) (r : Rc D), l[j]? = some r → r.cls = 2 → ∃ u, (loadChk P D cd ms all (i + j) r hs 0 es).H u
  | [], i, u, _, j, r, hj, _ => by simp at hj
  | r0 :: l, i, u, h, j, r, hj, hc => by
    obtain ⟨_, h1, h2⟩ := bnd_H.1 (show (bnd (bE (Nat.beq r0.cls 2) (loadChk P D cd ms all i r0 hs 0 es) unit1) fun _ => chkAll P D cd ms all hs es l (i + 1)).H u from h)
    cases j with
    | zero =>
      cases (show some r0 = some r from hj)
      rcases bE_H.1 h1 with ⟨_, h3⟩ | ⟨h3, _⟩
      · exact ⟨_, h3⟩
      · rw [hc] at h3; cases h3
    | succ j =>
      have := chkAll_spec h2 j r (by simpa using hj) hc
      rw [show i + (j + 1) = i + 1 + j by omega]
      exact this
end
end Go.Proofs.YtjdehneddakpnaaGreatDoor.sx
namespace Go.Proofs.YtjdehneddakpnaaGreatDoor.sx
open Go Go.RowKit
section
variable {P : Program} {D : Data} {cd : TypeId → Option Nat} {mu : Bool} {ex : CaF D.E} {ops : Array Oper} {N : Nat} {ms : List Nat} {φ0 : T (AV D.E)} {s : St D.E} {d : Ds D} {M0 : Pm D} {w0 : World}
theorem Stp.widen {H H' : Hp D} {M M' : Pm D} {w w' : World} {lo hi lo' hi' : Nat} (h : Stp H M w H' M' w' lo hi) (h1 : lo' ≤ lo ∨ lo = hi) (h2 : hi ≤ hi' ∨ lo = hi) (h3 : lo' ≤ hi') : Stp H M w H' M' w' lo' hi' :=
  ⟨h.sim, fun b hb => h.ext b (by omega), h.sgm, h.sborn, h.size, h.keep, h.born, fun b hb => by
    rcases h.dom b hb with h4 | h4
    · exact .inl h4
    · exact .inr (by omega), h.os, h.tape, h.output, h3⟩
theorem Stp.trans2 {H H' H'' : Hp D} {M M' M'' : Pm D} {w w' w'' : World} {lo hi : Nat} (h : Stp H M w H' M' w' lo hi) (k : Stp H' M' w' H'' M'' w'' lo hi) : Stp H M w H'' M'' w'' lo hi := by
  refine ⟨k.sim, fun b hb => by rw [k.ext b hb, h.ext b hb], fun b o v e => k.sgm _ _ _ (h.sgm _ _ _ e), fun b o hb => ?_, Nat.le_trans h.size k.size, fun c hc hn => ?_, fun b o mi hb hm hr => ?_, fun b hb => ?_, k.os.trans h.os, k.tape.trans h.tape, k.output.trans h.output, h.le⟩
  · rcases k.sborn b o hb with h3 | h3 | h3
    · exact h.sborn b o h3
    · exact .inr (.inl (Nat.le_trans h.size h3))
    · exact .inr (h.wrt h3)
  · rw [k.keep c (Nat.lt_of_lt_of_le hc h.size) fun hw => ?_, h.keep c hc hn]
    rcases h.wrt hw with h3 | h3
    · omega
    · exact hn h3
  · rcases k.born b o mi hb hm hr with hs | ⟨b1, o1, mi1, hb1, hm1, hr1, he1, hw1⟩
    · exact .inl (Nat.le_trans h.size hs)
    · rcases h.born b1 o1 mi1 hb1 hm1 hr1 with hs | ⟨b0, o0, mi0, hb0, hm0, hr0, he, hw⟩
      · exact .inl (he1 ▸ hs)
      · exact .inr ⟨b0, o0, mi0, hb0, hm0, hr0, he.trans he1, fun hx => hw (hw1 hx)⟩
  · rcases k.dom b hb with hb1 | hb1
    · exact h.dom b hb1
    · exact .inr hb1
/-- the memory when the operations E are done, k effects among them -/
noncomputable def SG (d : Ds D) (ms : List Nat) (E : Nat → Bool) (k : Nat) : Hp D := fun b => match (d.hs.getD k .nil).get b with
  | some o => some o
  | none => pcsG (fun j => E j && notBefore ms (lastOf d.es k) j) d.rs 0 b
structure Inv (ops : Array Oper) (N : Nat) (ms : List Nat) (φ0 : T (AV D.E)) (s : St D.E) (d : Ds D) (M0 : Pm D) (w0 : World) (E : Nat → Bool) (a : Act) (w : World) (k : Nat) (M : Pm D) : Prop where
  kle : k ≤ d.es.length
  ek : ∀ (l e : Nat), d.es[l]? = some e → (E e = true ↔ l < k)
  stp : Stp s.h.get M0 w0 (SG d ms E k) M w s.nx d.nx
  fresh : ∀ (i : Nat) (r : Rc D), d.rs[i]? = some r → E i = false → Fresh M r.lo r.hi
  fr1 : ∀ (i : Nat) (o : Oper) (r : Rc D) (t : Tmp), ops.toList[i]? = some o → d.rs[i]? = some r → o.dst = some t → E i = true → VR M r.v (a.tmps.getD t Go.undef)
  fr2 : ∀ t : Tmp, (∀ (i : Nat) (o : Oper), ops.toList[i]? = some o → E i = true → o.dst ≠ some t) → ∀ v, φ0.get t = some v → VR M v (a.tmps.getD t Go.undef)
  size : a.tmps.size = N
  defers : a.defers = []
  i1 : ∀ (j : Nat) (r : Rc D), E j = true → d.rs[j]? = some r → piece D r = true → notBefore ms (lastOf d.es k) j = true → (d.hs.getD k .nil).get r.lo = none
  down : ∀ i j, inM ms i j = true → E j = true → E i = true
theorem nb_iff {ms : List Nat} {es : List Nat} {k j : Nat} : notBefore ms (lastOf es k) j = true ↔ (k = 0 ∨ inM ms j (es.getD (k - 1) 0) = false) := by
  cases k with
  | zero => exact ⟨fun _ => .inl rfl, fun _ => rfl⟩
  | succ k =>
    show Bool.not (inM ms j (es.getD k 0)) = true ↔ _
    simp
theorem SG_iff (hA : Apart d.rs) {E : Nat → Bool} {k b : Nat} {o : AO D.E} : SG d ms E k b = some o ↔ (d.hs.getD k .nil).get b = some o ∨ ((d.hs.getD k .nil).get b = none ∧ ∃ (j : Nat) (r : Rc D), d.rs[j]? = some r ∧ piece D r = true ∧ E j = true ∧ notBefore ms (lastOf d.es k) j = true ∧ r.lo = b ∧ r.pc.get b = some o) := by
  unfold SG
  cases hg : (d.hs.getD k .nil).get b with
  | some q => simp
  | none =>
    simp only [true_and]
    rw [pcsG_iff hA]
    constructor
    · rintro ⟨j, r, h1, h2, h3, h4⟩
      rw [Nat.zero_add, Bool.and_eq_true] at h3
      exact .inr ⟨j, r, h1, h2, h3.1, h3.2, h4⟩
    · rintro (h | ⟨j, r, h1, h2, h3, h4, h5⟩)
      · cases h
      · exact ⟨j, r, h1, h2, by rw [Nat.zero_add, h3, h4]; rfl, h5⟩
def ins (E : Nat → Bool) (i : Nat) : Nat → Bool := fun j => decide (j = i) || E j
theorem ins_self (E : Nat → Bool) (i : Nat) : ins E i i = true := by simp [ins]
theorem ins_ne {E : Nat → Bool} {i j : Nat} (h : j ≠ i) : ins E i j = E j := by simp [ins, h]
theorem ins_of {E : Nat → Bool} {i j : Nat} (h : E j = true) : ins E i j = true := by simp [ins, h]
theorem hs_at {k : Nat} {h : T (AO D.E)} (e : d.hs[k]? = some h) : d.hs.getD k .nil = h := by rw [List.getD_eq_getElem?_getD, e]; rfl
/-- the facts at one operation that may be done next -/
structure Nx (ops : Array Oper) (ms : List Nat) (E : Nat → Bool) (i : Nat) (o : Oper) (r : Rc D) (d : Ds D) : Prop where
  o : ops.toList[i]? = some o
  r : d.rs[i]? = some r
  no : E i = false
  pre : ∀ j, inM ms j i = true → E j = true
theorem Nx.eff {E : Nat → Bool} {i k : Nat} {o : Oper} {r : Rc D} {a : Act} {w : World} {M : Pm D} (n : Nx ops ms E i o r d) (h : Inv ops N ms φ0 s d M0 w0 E a w k M) : notBefore ms (lastOf d.es k) i = true := by
  rw [nb_iff]
  cases k with
  | zero => exact .inl rfl
  | succ k =>
    right
    cases hq : inM ms i (d.es.getD k 0) with
    | false => simpa using hq
    | true =>
      have hk : k < d.es.length := by have := h.kle; omega
      have e1 := List.getElem?_eq_getElem hk
      have e2 : d.es.getD k 0 = d.es[k] := by rw [List.getD_eq_getElem?_getD, e1]; rfl
      have hE := (h.ek k d.es[k] e1).2 (by omega)
      rw [e2] at hq
      have := h.down i _ hq hE
      rw [n.no] at this; cases this
/-- operands and the guard are what they were in the text's order -/
theorem Inv.frame {E : Nat → Bool} {i k : Nat} {o : Oper} {r : Rc D} {a : Act} {w : World} {M : Pm D} (hd : DsOk P D cd mu ex ops.toList N ms φ0 s ops.toList.length d) (hL : StOk P ops.toList ms) (h : Inv ops N ms φ0 s d M0 w0 E a w k M) (n : Nx ops ms E i o r d) :
    ∃ a2 : Act, FR M r.φ a2 N ∧ execOp a2.eval o = execOp a.eval o ∧ Region.wanted o (yielded ops a2.tmps) = Region.wanted o (yielded ops a.tmps) := by
  have rc := hd.rc i o r n.o n.r
  obtain ⟨φ, ⟨p1, p2⟩, p3⟩ := rc.fr
  have hrd : ∀ t, Reads ops.toList o t → ∀ v, r.φ.get t = some v → VR M v (a.tmps.getD t Go.undef) := by
    intro t ht v hv
    rw [(p3 t).1 ht] at hv
    by_cases hex : ∃ (j : Nat) (oj : Oper), ops.toList[j]? = some oj ∧ oj.dst = some t ∧ j < i
    · obtain ⟨j, oj, h1, h2, h3⟩ := hex
      have hjl : j < d.rs.length := by rw [hd.len]; exact (List.getElem?_eq_some_iff.1 h1).1
      have h4 := List.getElem?_eq_getElem hjl
      rw [p1 j d.rs[j] oj t (by rw [List.getElem?_take, if_pos h3]; exact h4) h1 h2] at hv
      cases hv
      rcases hL.rd i j o oj t n.o h1 (by omega) h2 ht with h5 | h5
      · have := hL.toMaskOk.lt h5; omega
      · exact h.fr1 j oj d.rs[j] t h1 h4 h2 (n.pre j h5)
    · rw [p2 t (fun j q oj hq hoj e => hex ⟨j, oj, hoj, e, by
        rw [List.getElem?_take] at hq
        split at hq
        · assumption
        · cases hq⟩)] at hv
      refine h.fr2 t (fun j oj hoj hj e => ?_) v hv
      by_cases hji : j = i
      · subst hji; rw [n.no] at hj; cases hj
      · have hlt : ¬ j < i := fun hlt => hex ⟨j, oj, hoj, e, hlt⟩
        rcases hL.rd i j o oj t n.o hoj (by omega) e ht with h5 | h5
        · have := h.down i j h5 hj
          rw [n.no] at this; cases this
        · have := hL.toMaskOk.lt h5; omega
  let tm : Array Value := (Array.range N).map fun t => if reads ops.toList o t then a.tmps.getD t Go.undef else Go.undef
  have htm : ∀ t, tm.getD t Go.undef = if t < N ∧ reads ops.toList o t = true then a.tmps.getD t Go.undef else Go.undef := by
    intro t
    rw [Array.getD_eq_getD_getElem?]
    by_cases ht : t < N
    · have : tm[t]? = some (if reads ops.toList o t then a.tmps.getD t Go.undef else Go.undef) := by
        show ((Array.range N).map _)[t]? = _
        rw [Array.getElem?_map, Array.getElem?_range, if_pos ht]
        rfl
      rw [this]
      by_cases hr : reads ops.toList o t = true
      · rw [if_pos hr, if_pos ⟨ht, hr⟩]; rfl
      · rw [if_neg hr, if_neg (fun e => hr e.2)]; rfl
    · have : tm[t]? = none := by
        show ((Array.range N).map _)[t]? = _
        rw [Array.getElem?_map, Array.getElem?_range, if_neg ht]
        rfl
      rw [this, if_neg (fun e => ht e.1)]
      rfl
  have hout : ∀ t, ¬ t < N → a.tmps.getD t Go.undef = Go.undef := fun t ht => by
    rw [Array.getD_eq_getD_getElem?, Array.getElem?_eq_none (by rw [h.size]; exact Nat.le_of_not_lt (by assumption))]; rfl
  have hread : ∀ t, Reads ops.toList o t → tm.getD t Go.undef = a.tmps.getD t Go.undef := fun t ht => by
    rw [htm t]
    by_cases hn : t < N
    · rw [if_pos ⟨hn, reads_iff.1 ht⟩]
    · rw [if_neg (fun e => hn e.1), hout t hn]
  have hfr : FR M r.φ { tmps := tm, defers := [] } N := by
    refine ⟨fun t v hv => ?_, by show tm.size = N; simp [tm], rfl⟩
    show VR M v (tm.getD t Go.undef)
    by_cases ht : Reads ops.toList o t
    · rw [hread t ht]; exact hrd t ht v hv
    · rw [(p3 t).2 ht] at hv; cases hv
  have hop : ∀ x ∈ o.op.operands, (Act.eval { tmps := tm, defers := [] } x) = a.eval x := by
    intro x hx
    cases x with
    | tmp t => exact hread t (by unfold Reads readsOf; rw [mapL_eq]; exact List.mem_cons_of_mem _ (List.mem_map.2 ⟨.tmp t, by simpa using hx, rfl⟩))
    | const v => rfl
    | global g => rfl
    | func f => rfl
  refine ⟨{ tmps := tm, defers := [] }, hfr, execOp_congr o (hL.sel i o n.o) hop, ?_⟩
  unfold Region.wanted
  cases hg : o.guard with
  | none => rfl
  | some p =>
    obtain ⟨g, b⟩ := p
    simp only
    congr 1
    unfold yielded
    cases hog : ops[g]? with
    | none => rfl
    | some og =>
      rw [Option.bind_some]
      cases hdst : og.dst with
      | none => rfl
      | some t =>
        rw [Option.bind_some, Option.bind_some]
        have ht : Reads ops.toList o t := by
          unfold Reads readsOf guardT
          rw [hg]
          refine List.mem_cons.2 (.inl ?_)
          show some t = oB (lGet ops.toList g) fun x => x.dst
          rw [lGet_eq, Array.getElem?_toList, hog]
          exact hdst.symm
        have e := hread t ht
        by_cases hn : t < N
        · have e1 : tm[t]? = some (tm.getD t Go.undef) := by
            rw [Array.getD_eq_getD_getElem?, Array.getElem?_eq_getElem (by show t < tm.size; simp [tm]; exact hn)]; rfl
          have e2 : a.tmps[t]? = some (a.tmps.getD t Go.undef) := by
            rw [Array.getD_eq_getD_getElem?, Array.getElem?_eq_getElem (by rw [h.size]; exact hn)]; rfl
          show (match tm[t]? with | some (.bool b) => some b | _ => none) = _
          rw [e1, e2, e]
          cases a.tmps.getD t Go.undef <;> rfl
        · have e1 : tm[t]? = none := Array.getElem?_eq_none (by show tm.size ≤ t; rw [show tm.size = N by simp [tm]]; exact Nat.le_of_not_lt hn)
          have e2 : a.tmps[t]? = none := Array.getElem?_eq_none (by rw [h.size]; exact Nat.le_of_not_lt (by assumption))
          show (match tm[t]? with | some (.bool b) => some b | _ => none) = _
          rw [e1, e2]
/-- one operation more is done -/
theorem Inv.put {E : Nat → Bool} {i k k' : Nat} {o : Oper} {r : Rc D} {a : Act} {w w' : World} {M M' : Pm D} {v' : Value} (hd : DsOk P D cd mu ex ops.toList N ms φ0 s ops.toList.length d) (hL : StOk P ops.toList ms) (h : Inv ops N ms φ0 s d M0 w0 E a w k M) (n : Nx ops ms E i o r d)
    (hv : VR M' r.v v') (hst : Stp (SG d ms E k) M w (SG d ms (ins E i) k') M' w' r.lo r.hi) (hk : (k' = k ∧ r.cls ≠ 3) ∨ (k' = k + 1 ∧ d.es[k]? = some i))
    (hi1 : ∀ (j : Nat) (q : Rc D), ins E i j = true → d.rs[j]? = some q → piece D q = true → notBefore ms (lastOf d.es k') j = true → (d.hs.getD k' .nil).get q.lo = none) : Inv ops N ms φ0 s d M0 w0 (ins E i) (a.put o.dst v') w' k' M' := by
  have hlo := hd.lo0.2 i r n.r
  have hLe := hst.Le (h.fresh i r n.r n.no)
  have hN : ∀ x, o.dst = some x → x < a.tmps.size := fun x hx => by rw [h.size]; exact hd.dst i o x (List.getElem?_eq_some_iff.1 n.o).1 n.o hx
  refine ⟨?_, fun l e he => ?_, h.stp.trans2 (hst.widen (.inl hlo.1) (.inl hlo.2) (by have := hd.lo0.1; omega)), fun j q hq hj => ?_, fun j oj q t hoj hq ht hj => ?_, fun t ht => ?_, by rw [size_put, h.size], by rw [defers_put, h.defers], hi1, fun x y hxy hy => ?_⟩
  · rcases hk with ⟨e, _⟩ | ⟨e, e2⟩
    · rw [e]; exact h.kle
    · have := (List.getElem?_eq_some_iff.1 e2).1; omega
  · by_cases hei : e = i
    · subst hei
      rw [ins_self]
      rcases hk with ⟨_, e3⟩ | ⟨e1, e2⟩
      · obtain ⟨_, q, h1, h2⟩ := hd.esr l e he
        rw [n.r] at h1; cases h1
        exact absurd h2 e3
      · have : l = k := by
          rcases Nat.lt_trichotomy l k with h1 | h1 | h1
          · have := hd.inc l k e e h1 he e2; omega
          · exact h1
          · have := hd.inc k l e e h1 e2 he; omega
        simp; omega
    · rw [ins_ne hei, h.ek l e he]
      rcases hk with ⟨e1, _⟩ | ⟨e1, e2⟩
      · rw [e1]
      · have : l ≠ k := fun e3 => by rw [e3] at he; rw [he] at e2; cases e2; exact hei rfl
        omega
  · have hji : j ≠ i := fun e => by rw [e, ins_self] at hj; cases hj
    rw [ins_ne hji] at hj
    have hf := h.fresh j q hq hj
    have hap : q.hi ≤ r.lo ∨ r.hi ≤ q.lo := by
      rcases Nat.lt_or_gt_of_ne hji with h1 | h1
      · exact .inl (hd.apart j i q r h1 hq n.r)
      · exact .inr (hd.apart i j r q h1 n.r hq)
    intro b h1 h2
    rw [hst.ext b (by omega)]
    exact hf b h1 h2
  · rw [getD_put a o.dst v' t hN]
    by_cases hji : j = i
    · subst hji
      rw [n.o] at hoj; cases hoj
      rw [n.r] at hq; cases hq
      rw [if_pos ht]; exact hv
    · rw [if_neg (hL.wr i j o oj t n.o hoj (fun e => hji e.symm) ht)]
      rw [ins_ne hji] at hj
      exact (h.fr1 j oj q t hoj hq ht hj).mono hLe
  · rw [getD_put a o.dst v' t hN, if_neg (ht i o n.o (ins_self E i))]
    exact fun v hv => (h.fr2 t (fun j oj hoj hj => ht j oj hoj (ins_of hj)) v hv).mono hLe
  · by_cases hyi : y = i
    · subst hyi
      exact ins_of (n.pre x hxy)
    · rw [ins_ne hyi] at hy
      exact ins_of (h.down x y hxy hy)
end
end Go.Proofs.YtjdehneddakpnaaGreatDoor.sx
namespace Go.Proofs.YtjdehneddakpnaaGreatDoor.sx
open Go Go.RowKit
section
variable {P : Program} {D : Data} {cd : TypeId → Option Nat} {mu : Bool} {ex : CaF D.E} {ops : Array Oper} {N : Nat} {ms : List Nat} {φ0 : T (AV D.E)} {s : St D.E} {d : Ds D} {M0 : Pm D} {w0 : World}
theorem SG_ins_ne {E : Nat → Bool} {i k : Nat} {r : Rc D} (hA : Apart d.rs) (hr : d.rs[i]? = some r) (hp : piece D r = false) : SG d ms (ins E i) k = SG d ms E k := by
  funext b
  refine Option.ext fun o => ?_
  rw [SG_iff hA, SG_iff hA]
  refine or_congr Iff.rfl (and_congr Iff.rfl ⟨?_, ?_⟩)
  · rintro ⟨j, q, h1, h2, h3, h4⟩
    by_cases e : j = i
    · subst e; rw [hr] at h1; cases h1; rw [hp] at h2; cases h2
    · rw [ins_ne e] at h3; exact ⟨j, q, h1, h2, h3, h4⟩
  · rintro ⟨j, q, h1, h2, h3, h4⟩
    exact ⟨j, q, h1, h2, ins_of h3, h4⟩
theorem SG_ins_pc {E : Nat → Bool} {i k : Nat} {r : Rc D} (hA : Apart d.rs) (hr : d.rs[i]? = some r) (hp : piece D r = true) (hnb : notBefore ms (lastOf d.es k) i = true) (hz : SG d ms E k r.lo = none) (b : Nat) :
    SG d ms (ins E i) k b = if b = r.lo then r.pc.get r.lo else SG d ms E k b := by
  have hz1 : (d.hs.getD k .nil).get r.lo = none := by
    cases hg : (d.hs.getD k .nil).get r.lo with
    | none => rfl
    | some o => rw [(SG_iff hA).2 (.inl hg)] at hz; cases hz
  refine Option.ext fun o => ?_
  rw [SG_iff hA]
  by_cases hb : b = r.lo
  · subst hb
    rw [if_pos rfl]
    constructor
    · rintro (h | ⟨_, j, q, h1, h2, h3, h4, h5, h6⟩)
      · rw [hz1] at h; cases h
      · have := hA.uniq h1 hr h2 hp h5
        subst this
        rw [hr] at h1; cases h1
        exact h6
    · intro h
      exact .inr ⟨hz1, i, r, hr, hp, ins_self E i, hnb, rfl, h⟩
  · rw [if_neg hb, SG_iff hA]
    refine or_congr Iff.rfl (and_congr Iff.rfl ⟨?_, ?_⟩)
    · rintro ⟨j, q, h1, h2, h3, h4, h5, h6⟩
      by_cases e : j = i
      · subst e; rw [hr] at h1; cases h1; exact absurd h5.symm hb
      · rw [ins_ne e] at h3; exact ⟨j, q, h1, h2, h3, h4, h5, h6⟩
    · rintro ⟨j, q, h1, h2, h3, h4⟩
      exact ⟨j, q, h1, h2, ins_of h3, h4⟩
theorem nbs {es : List Nat} {k i j : Nat} (e : es[k]? = some i) : notBefore ms (lastOf es (k + 1)) j = true ↔ inM ms j i = false := by
  rw [nb_iff]
  have : es.getD (k + 1 - 1) 0 = i := by rw [Nat.add_sub_cancel, List.getD_eq_getElem?_getD, e]; rfl
  rw [this]
  exact ⟨fun h => h.resolve_left (by omega), .inr⟩
theorem cls_of_rc {i : Nat} {o : Oper} {r : Rc D} {rs : List (Rc D)} {hs : List (T (AO D.E))} {es : List Nat} (h : RcOk P D cd mu ex ops.toList ms φ0 rs hs es i o r) (hc : r.cls = 3) : clsOf P o = 3 := by
  rcases h.kind with ⟨e, _⟩ | ⟨e, _⟩ | ⟨e, _⟩ | ⟨_, _, e, _⟩
  · rw [e] at hc; cases hc
  · rw [e] at hc; cases hc
  · rw [e] at hc; cases hc
  · exact e
/-- effects stand in the order of the text -/
theorem eff_lt (hd : DsOk P D cd mu ex ops.toList N ms φ0 s ops.toList.length d) (hL : StOk P ops.toList ms) {k l e f : Nat} (hkl : k < l) (he : d.es[k]? = some e) (hf : d.es[l]? = some f) : inM ms e f = true := by
  have hlt := hd.inc k l e f hkl he hf
  obtain ⟨h1, r, h2, h3⟩ := hd.esr k e he
  obtain ⟨h4, q, h5, h6⟩ := hd.esr l f hf
  have o1 := List.getElem?_eq_getElem h1
  have o2 := List.getElem?_eq_getElem h4
  have c1 := cls_of_rc (hd.rc e _ r o1 h2) h3
  have c2 := cls_of_rc (hd.rc f _ q o2 h5) h6
  rcases hL.eff e f _ _ o1 o2 (by omega) c1 c2 with h | h
  · exact h
  · have := hL.toMaskOk.lt h; omega
theorem nbk (hd : DsOk P D cd mu ex ops.toList N ms φ0 s ops.toList.length d) (hL : StOk P ops.toList ms) {k i j : Nat} (e : d.es[k]? = some i) (hj : inM ms j i = false) : notBefore ms (lastOf d.es k) j = true := by
  rw [nb_iff]
  cases k with
  | zero => exact .inl rfl
  | succ k =>
    right
    have hk : k < d.es.length := by have := (List.getElem?_eq_some_iff.1 e).1; omega
    have e1 := List.getElem?_eq_getElem hk
    have e2 : d.es.getD (k + 1 - 1) 0 = d.es[k] := by rw [Nat.add_sub_cancel, List.getD_eq_getElem?_getD, e1]; rfl
    rw [e2]
    cases hq : inM ms j d.es[k] with
    | false => rfl
    | true =>
      have := hL.toMaskOk.trans hq (eff_lt hd hL (Nat.lt_succ_self k) e1 e)
      rw [hj] at this; cases this
theorem Inv.step (hD : DataOk D) {E : Nat → Bool} {i k : Nat} {o : Oper} {r : Rc D} {a : Act} {w : World} {M : Pm D} {K : Act → World → Prop} {Q : Exit → Act → World → Prop} (hng : NoNG P) (hex : CaOk P D ex)
    (hd : DsOk P D cd mu ex ops.toList N ms φ0 s ops.toList.length d) (hL : StOk P ops.toList ms) (hlc : ∀ (i : Nat) (r : Rc D), d.rs[i]? = some r → r.cls = 2 → ∃ u, (loadChk P D cd ms d.rs i r d.hs 0 d.es).H u)
    (h : Inv ops N ms φ0 s d M0 w0 E a w k M) (n : Nx ops ms E i o r d) (hK : ∀ a' w' k' M', Inv ops N ms φ0 s d M0 w0 (ins E i) a' w' k' M' → K a' w') : wpOp P ops Q i K a w := by
  obtain ⟨a2, hf, he, hw⟩ := h.frame hd hL n
  have rc := hd.rc i o r n.o n.r
  have hA : Apart d.rs := hd.apart
  have hS := h.stp.sim
  have hnb := n.eff h
  unfold wpOp
  rw [show ops[i]? = some o by rw [← Array.getElem?_toList]; exact n.o]
  simp only
  rcases rc.kind with ⟨c, hwant, hv, hhi⟩ | ⟨c, hwant, _, hop, hhi⟩ | ⟨c, hwant, hcls, hhi⟩ | ⟨c, hwant, hcls, k', h0, h1, H, last, he1, hh0, hh1, _, hadd, hop⟩
  · rw [if_neg (by rw [← hw, wantA_H hwant hf]; simp)]
    have hp : piece D r = false := by unfold piece; rw [c]; rfl
    refine hK _ _ k M (h.put hd hL n (by rw [hv]; exact .undef) ?_ (.inl ⟨rfl, by rw [c]; simp⟩) fun j q hj hq hpq hnq => ?_)
    · rw [SG_ins_ne hA n.r hp, hhi]
      exact .refl hS _
    · by_cases e : j = i
      · subst e; rw [n.r] at hq; cases hq; rw [hp] at hpq; cases hpq
      · rw [ins_ne e] at hj; exact h.i1 j q hj hq hpq hnq
  · rw [if_pos (by rw [← hw, wantA_H hwant hf])]
    have hfr := h.fresh i r n.r n.no
    have hz : r.lo < r.hi → SG d ms E k r.lo = none := fun hlt => by
      cases hg : SG d ms E k r.lo with
      | none => rfl
      | some ob =>
        obtain ⟨mi, hm, _⟩ := hS.obj _ _ hg
        rw [hfr r.lo (Nat.le_refl _) hlt] at hm; cases hm
    have hok := opG_ok (s := ⟨.nil, r.lo⟩) (s' := ⟨r.pc, r.hi⟩) hD hng ca0_ok hop (hS.sub (K := (T.nil : T (AO D.E)).get) fun b ob hb => by rw [T.get_nil] at hb; cases hb) hf hfr
    refine .inl (hok.wp he.symm _ _ fun M' v' w' hv hst => hK _ _ k M' (h.put hd hL n hv ?_ (.inl ⟨rfl, by rw [c]; simp⟩) fun j q hj hq hpq hnq => ?_))
    · refine hst.frame hS hfr (fun b ob hb => by rw [T.get_nil] at hb; cases hb) fun b => ?_
      have hdom : r.pc.get b ≠ none → b = r.lo ∧ r.lo < r.hi := fun hb => by
        rcases hst.dom b hb with h2 | h2
        · exact absurd (T.get_nil b) h2
        · have h3 : r.lo ≤ b := h2.1
          have h4 : b < r.hi := h2.2
          omega
      show SG d ms (ins E i) k b = if (T.nil : T (AO D.E)).get b = none ∧ r.pc.get b = none then SG d ms E k b else r.pc.get b
      by_cases hp : piece D r = true
      · rw [SG_ins_pc hA n.r hp hnb (hz (piece_lt hp).2)]
        by_cases hb : b = r.lo
        · subst hb
          rw [if_pos rfl]
          cases hg : r.pc.get r.lo with
          | none => rw [if_pos ⟨T.get_nil _, rfl⟩, hz (piece_lt hp).2]
          | some ob => rw [if_neg (by simp)]
        · rw [if_neg hb]
          cases hg : r.pc.get b with
          | none => rw [if_pos ⟨T.get_nil _, rfl⟩]
          | some ob => exact absurd (hdom (by rw [hg]; simp)).1 hb
      · have hp' : piece D r = false := by simpa using hp
        rw [SG_ins_ne hA n.r hp']
        cases hg : r.pc.get b with
        | none => rw [if_pos ⟨T.get_nil _, rfl⟩]
        | some ob =>
          have h5 := (hdom (by rw [hg]; simp)).2
          exact absurd (show piece D r = true by unfold piece; rw [c, ble_nat.2 h5]; rfl) hp
    · by_cases e : j = i
      · subst e; rw [n.r] at hq; cases hq
        cases hg : (d.hs.getD k .nil).get r.lo with
        | none => rfl
        | some ob => have := hz (piece_lt hpq).2; rw [(SG_iff hA).2 (.inl hg)] at this; cases this
      · rw [ins_ne e] at hj; exact h.i1 j q hj hq hpq hnq
  · rw [if_pos (by rw [← hw, wantA_H hwant hf])]
    have hp : piece D r = false := by unfold piece; rw [c]; rfl
    have hkl : k < d.hs.length := by rw [hd.hsl]; have := h.kle; omega
    have hh := List.getElem?_eq_getElem hkl
    have hms : mayStand ms i (lastOf d.es k) (d.es.drop k) = true := by
      unfold mayStand
      rw [hnb]
      cases hdr : d.es.drop k with
      | nil => rfl
      | cons e es =>
        have he1 : d.es[k]? = some e := by
          have := List.getElem?_drop (xs := d.es) (i := k) (j := 0)
          rw [hdr] at this
          simpa using this.symm
        show Bool.not (inM ms e i) = true
        cases hq : inM ms e i with
        | false => rfl
        | true =>
          have := (h.ek k e he1).1 (n.pre e hq)
          omega
    have hhere : ∃ u, (hereOk P D cd ms d.rs i (lastOf d.es k) r d.hs[k]).H u := by
      obtain ⟨u, hu⟩ := hlc i r n.r c
      have := loadChk_spec hu k _ hh h.kle
      cases k with
      | zero => exact this hms
      | succ k => exact this hms
    obtain ⟨u, hu⟩ := hhere
    obtain ⟨v, hld, hsame⟩ := bnd_H.1 hu
    rw [rc.op] at hld
    obtain ⟨H, hadd, hop⟩ := loadAt_H hcls hld
    have hKiff := addPcs_iff hadd hA
    have hsub : ∀ b ob, H.get b = some ob → SG d ms E k b = some ob := by
      intro b ob hb
      rw [hKiff b] at hb
      cases hg : pcsG (fun j => Bool.and (inM ms j i) (notBefore ms (lastOf d.es k) j)) d.rs 0 b with
      | none => rw [hg] at hb; exact (SG_iff hA).2 (.inl (by rw [hs_at hh]; exact hb))
      | some ob2 =>
        rw [hg] at hb
        cases hb
        obtain ⟨j, q, g1, g2, g3, g4, g5⟩ := (pcsG_iff hA).1 hg
        rw [Nat.zero_add] at g3
        obtain ⟨g6, g7⟩ := and2 g3
        have hE := n.pre j g6
        refine (SG_iff hA).2 (.inr ⟨?_, j, q, g1, g2, hE, g7, g4, g5⟩)
        rw [← g4]; exact h.i1 j q hE g1 g2 g7
    have hok := (opG_ok (s := ⟨H, 0⟩) (s' := ⟨H, 0⟩) hD hng ca0_ok hop (hS.sub hsub) hf (fun b _ hb => by cases hb)).same fun M' v' hv => sameV_VR hsame hv
    refine .inl (hok.wp he.symm _ _ fun M' v' w' hv hst => hK _ _ k M' (h.put hd hL n hv ?_ (.inl ⟨rfl, by rw [c]; simp⟩) fun j q hj hq hpq hnq => ?_))
    · have := hst.frame hS (fun b _ hb => by cases hb) hsub (H' := SG d ms (ins E i) k) fun b => by
        rw [SG_ins_ne hA n.r hp]
        show _ = if H.get b = none ∧ H.get b = none then _ else H.get b
        cases hg : H.get b with
        | none => rw [if_pos ⟨rfl, rfl⟩]
        | some ob => rw [if_neg (by simp), hsub b ob hg]
      exact this.widen (.inr rfl) (.inr rfl) rc.le
    · by_cases e : j = i
      · subst e; rw [n.r] at hq; cases hq; rw [hp] at hpq; cases hpq
      · rw [ins_ne e] at hj; exact h.i1 j q hj hq hpq hnq
  · rw [if_pos (by rw [← hw, wantA_H hwant hf])]
    have hkk : k' = k := by
      have e1 : ¬ k' < k := fun hlt => by
        have := (h.ek k' i he1).2 hlt
        rw [n.no] at this; cases this
      by_cases e2 : k < k'
      · have hk : k < d.es.length := by have := (List.getElem?_eq_some_iff.1 he1).1; omega
        have e3 := List.getElem?_eq_getElem hk
        have := (h.ek k _ e3).1 (n.pre _ (eff_lt hd hL e2 e3 he1))
        omega
      · omega
    subst hkk
    have hp : piece D r = false := by unfold piece; rw [c]; rfl
    have hfr := h.fresh i r n.r n.no
    have hg0 := hs_at hh0
    have hg1 := hs_at hh1
    have hAt : Apart (d.rs.take i) := fun x y q q2 hxy hq hq2 => by
      rw [List.getElem?_take] at hq hq2
      split at hq
      · split at hq2
        · exact hA x y q q2 hxy hq hq2
        · cases hq2
      · cases hq
    have hKiff := addPcs_iff hadd hAt
    have hKsome : ∀ b ob, H.get b = some ob → (h0.get b = some ob ∧ True) ∨ ∃ (j : Nat) (q : Rc D), d.rs[j]? = some q ∧ piece D q = true ∧ inM ms j i = true ∧ notBefore ms (lastOf d.es k') j = true ∧ q.lo = b ∧ q.pc.get b = some ob := by
      intro b ob hb
      rw [hKiff b] at hb
      cases hg : pcsG (fun j => Bool.and (inM ms j i) (notBefore ms last j)) (d.rs.take i) 0 b with
      | none => rw [hg] at hb; exact .inl ⟨hb, trivial⟩
      | some ob2 =>
        rw [hg] at hb
        cases hb
        obtain ⟨j, q, g1, g2, g3, g4, g5⟩ := (pcsG_iff hAt).1 hg
        rw [Nat.zero_add] at g3
        obtain ⟨g6, g7⟩ := and2 g3
        rw [List.getElem?_take] at g1
        split at g1
        · exact .inr ⟨j, q, g1, g2, g6, by subst_vars; exact g7, g4, g5⟩
        · cases g1
    have hsub : ∀ b ob, H.get b = some ob → SG d ms E k' b = some ob := by
      intro b ob hb
      rcases hKsome b ob hb with ⟨hb, _⟩ | ⟨j, q, g1, g2, g3, g4, g5, g6⟩
      · exact (SG_iff hA).2 (.inl (by rw [hg0]; exact hb))
      · have hE := n.pre j g3
        refine (SG_iff hA).2 (.inr ⟨?_, j, q, g1, g2, hE, g4, g5, g6⟩)
        rw [← g5]; exact h.i1 j q hE g1 g2 g4
    have hnone : ∀ (j : Nat) (q : Rc D), d.rs[j]? = some q → piece D q = true → E j = true → inM ms j i = false → H.get q.lo = none := by
      intro j q hq hpq hE hj
      cases hg : H.get q.lo with
      | none => rfl
      | some ob =>
        exfalso
        rcases hKsome _ _ hg with ⟨hb, _⟩ | ⟨j2, q2, g1, g2, g3, g4, g5, g6⟩
        · have := h.i1 j q hE hq hpq (nbk hd hL he1 hj)
          rw [hg0, hb] at this; cases this
        · have := hA.uniq g1 hq g2 hpq g5
          subst this
          rw [hj] at g3; cases g3
    have hok := opG_ok (s := ⟨H, r.lo⟩) (s' := ⟨h1, r.hi⟩) hD hng hex hop (hS.sub hsub) hf hfr
    refine .inl (hok.wp he.symm _ _ fun M' v' w' hv hst => hK _ _ (k' + 1) M' (h.put hd hL n hv ?_ (.inr ⟨rfl, he1⟩) fun j q hj hq hpq hnq => ?_))
    · refine hst.frame hS hfr hsub fun b => ?_
      show SG d ms (ins E i) (k' + 1) b = if H.get b = none ∧ h1.get b = none then SG d ms E k' b else h1.get b
      have hins : ∀ (j : Nat) (q : Rc D), d.rs[j]? = some q → piece D q = true → ins E i j = true → E j = true := fun j q hq hpq hj => by
        by_cases e : j = i
        · subst e; rw [n.r] at hq; cases hq; rw [hp] at hpq; cases hpq
        · rw [ins_ne e] at hj; exact hj
      cases hg : h1.get b with
      | some ob => rw [if_neg (by simp)]; exact (SG_iff hA).2 (.inl (by rw [hg1]; exact hg))
      | none =>
        cases hgK : H.get b with
        | some ob =>
          rw [if_neg (by simp)]
          cases hgS : SG d ms (ins E i) (k' + 1) b with
          | none => rfl
          | some ob2 =>
            rcases (SG_iff hA).1 hgS with g | ⟨_, j, q, g1, g2, g3, g4, g5, g6⟩
            · rw [hg1, hg] at g; cases g
            · have := hnone j q g1 g2 (hins j q g1 g2 g3) ((nbs he1).1 g4)
              rw [g5, hgK] at this; cases this
        | none =>
          rw [if_pos ⟨rfl, rfl⟩]
          have hz := hKiff b
          rw [hgK] at hz
          have hz1 : pcsG (fun j => Bool.and (inM ms j i) (notBefore ms last j)) (d.rs.take i) 0 b = none ∧ h0.get b = none := by
            cases hq : pcsG (fun j => Bool.and (inM ms j i) (notBefore ms last j)) (d.rs.take i) 0 b with
            | none => rw [hq] at hz; exact ⟨rfl, hz.symm⟩
            | some _ => rw [hq] at hz; cases hz
          refine Option.ext fun ob => ?_
          rw [SG_iff hA, SG_iff hA, hg0, hg1, hg, hz1.2]
          constructor
          · rintro (g | ⟨_, j, q, g1, g2, g3, g4, g5⟩)
            · cases g
            · exact .inr ⟨rfl, j, q, g1, g2, hins j q g1 g2 g3, nbk hd hL he1 ((nbs he1).1 g4), g5⟩
          · rintro (g | ⟨_, j, q, g1, g2, g3, g4, g5, g6⟩)
            · cases g
            · refine .inr ⟨rfl, j, q, g1, g2, ins_of g3, (nbs he1).2 ?_, g5, g6⟩
              cases hm : inM ms j i with
              | false => rfl
              | true =>
                have hlt := hL.toMaskOk.lt hm
                have : pcsG (fun j => Bool.and (inM ms j i) (notBefore ms last j)) (d.rs.take i) 0 b = some ob :=
                  (pcsG_iff hAt).2 ⟨j, q, by rw [List.getElem?_take, if_pos hlt]; exact g1, g2, by rw [Nat.zero_add]; subst_vars; rw [hm, g4]; rfl, g5, g6⟩
                rw [hz1.1] at this; cases this
    · have e : j ≠ i := fun e => by subst e; rw [n.r] at hq; cases hq; rw [hp] at hpq; cases hpq
      rw [ins_ne e] at hj
      have hm := (nbs he1).1 hnq
      rw [hg1]
      cases hg : h1.get q.lo with
      | none => rfl
      | some ob =>
        exfalso
        rcases hst.dom q.lo (show h1.get q.lo ≠ none by rw [hg]; simp) with g | g
        · exact g (hnone j q hq hpq hj hm)
        · have g1 : r.lo ≤ q.lo := g.1
          have g2 : q.lo < r.hi := g.2
          have g3 := (piece_lt hpq).2
          rcases Nat.lt_or_gt_of_ne e with g4 | g4
          · have := hA j i q r g4 hq n.r; omega
          · have := hA i j r q g4 n.r hq; omega
end
end Go.Proofs.YtjdehneddakpnaaGreatDoor.sx
namespace Go.Proofs.YtjdehneddakpnaaGreatDoor.sx
open Go Go.RowKit
section
variable {P : Program} {D : Data} {cd : TypeId → Option Nat} {mu : Bool} {ex : CaF D.E} {ops : Array Oper} {N : Nat} {ms : List Nat} {φ0 : T (AV D.E)} {s : St D.E} {d : Ds D} {M0 : Pm D} {w0 : World}
theorem ready_nil {listed : Array Bool} (hL : StOk P ops.toList ms) (hsz : listed.size = ops.size) (h : Region.ready .any ops listed = []) : ∀ j, j < ops.size → listed.getD j false = true := by
  intro j
  induction j using Nat.strongRecOn with
  | _ j ih =>
    intro hj
    cases hq : listed.getD j false with
    | true => rfl
    | false =>
      have hlt : j < listed.size := by omega
      have : j ∈ Region.ready .any ops listed := mem_ready.2 ⟨by
        rw [Array.getD_eq_getD_getElem?, Array.getElem?_eq_getElem hlt] at hq ⊢
        exact hq, ops[j], Array.getElem?_eq_getElem hj, fun e he hb => by
          have ho : ops.toList[j]? = some ops[j] := by rw [Array.getElem?_toList]; exact Array.getElem?_eq_getElem hj
          obtain ⟨h1, _, _⟩ := hL.edge j _ e ho (by simpa using he) hb
          exact ih e.on h1 (by omega)⟩
      rw [h] at this; cases this
theorem count_set {l : Array Bool} {i : Nat} (h : i < l.size) (hf : l.getD i true = false) : (l.setIfInBounds i true).toList.count false + 1 = l.toList.count false := by
  rw [Array.toList_setIfInBounds]
  have h1 : l.toList[i]'(by simpa using h) = false := by
    rw [Array.getD_eq_getD_getElem?, Array.getElem?_eq_getElem h] at hf
    simpa using hf
  have h2 := List.count_set (l := l.toList) (i := i) (a := true) (b := false) (by simpa using h)
  have e1 : (if (l.toList[i]'(by simpa using h) == false) = true then 1 else 0) = 1 := by rw [h1]; rfl
  have e2 : (if ((true : Bool) == false) = true then 1 else 0) = 0 := rfl
  have h3 : 0 < l.toList.count false := List.count_pos_iff.2 (by rw [← h1]; exact List.getElem_mem _)
  omega
theorem count_zero {l : Array Bool} (h : l.toList.count false = 0) : ∀ j, j < l.size → l.getD j false = true := by
  intro j hj
  have h1 : l.toList[j]'(by simpa using hj) ≠ false := fun e => by
    have := List.count_eq_zero.1 h
    exact this (by rw [← e]; exact List.getElem_mem _)
  rw [Array.getD_eq_getD_getElem?, Array.getElem?_eq_getElem hj]
  simpa using h1
theorem Inv.done (hd : DsOk P D cd mu ex ops.toList N ms φ0 s ops.toList.length d) {h' : T (AO D.E)} (hadd : (addPcs D (notBefore ms d.last) d.rs 0 d.h).H h') {E : Nat → Bool} {a : Act} {w : World} {k : Nat} {M : Pm D} (h : Inv ops N ms φ0 s d M0 w0 E a w k M) (hall : ∀ j, j < ops.size → E j = true) :
    Stp s.h.get M0 w0 h'.get M w s.nx d.nx ∧ FR M d.φ a N := by
  have hA : Apart d.rs := hd.apart
  have hk : k = d.es.length := by
    have := h.kle
    by_cases hlt : k < d.es.length
    · have e1 := List.getElem?_eq_getElem hlt
      have h2 := (hd.esr k _ e1).1
      have := (h.ek k _ e1).1 (hall _ (by simpa using h2))
      omega
    · omega
  subst hk
  have hcur : d.hs.getD d.es.length .nil = d.h := hs_at hd.cur
  have hE : ∀ (j : Nat) (q : Rc D), d.rs[j]? = some q → E j = true := fun j q hq => hall j (by
    have := (List.getElem?_eq_some_iff.1 hq).1
    rw [hd.len] at this
    simpa using this)
  refine ⟨?_, fun t v hv => ?_, h.size, h.defers⟩
  · have : h'.get = SG d ms E d.es.length := by
      funext b
      rw [addPcs_iff hadd hA b]
      refine Option.ext fun ob => ?_
      rw [SG_iff hA, hcur]
      cases hg : pcsG (notBefore ms d.last) d.rs 0 b with
      | some ob2 =>
        obtain ⟨j, q, g1, g2, g3, g4, g5⟩ := (pcsG_iff hA).1 hg
        rw [Nat.zero_add, hd.last] at g3
        have hz := h.i1 j q (hE j q g1) g1 g2 g3
        rw [hcur, g4] at hz
        constructor
        · intro e
          cases e
          exact .inr ⟨hz, j, q, g1, g2, hE j q g1, g3, g4, g5⟩
        · rintro (g | ⟨_, j2, q2, k1, k2, k3, k4, k5, k6⟩)
          · rw [hz] at g; cases g
          · have := hA.uniq k1 g1 k2 g2 (k5.trans g4.symm)
            subst this
            rw [g1] at k1; cases k1
            rw [g5] at k6; exact k6
      | none =>
        constructor
        · exact fun e => .inl e
        · rintro (g | ⟨_, j2, q2, k1, k2, k3, k4, k5, k6⟩)
          · exact g
          · have : pcsG (notBefore ms d.last) d.rs 0 b = some ob := (pcsG_iff hA).2 ⟨j2, q2, k1, k2, by rw [Nat.zero_add, hd.last]; exact k4, k5, k6⟩
            rw [hg] at this; cases this
    rw [this]
    exact h.stp
  · by_cases hex : ∃ (j : Nat) (oj : Oper), ops.toList[j]? = some oj ∧ oj.dst = some t
    · obtain ⟨j, oj, h1, h2⟩ := hex
      have hjl : j < d.rs.length := by rw [hd.len]; exact (List.getElem?_eq_some_iff.1 h1).1
      have h4 := List.getElem?_eq_getElem hjl
      rw [hd.phi.1 j _ oj t h4 h1 h2] at hv
      cases hv
      exact h.fr1 j oj _ t h1 h4 h2 (hE j _ h4)
    · rw [hd.phi.2 t fun j q oj hq hoj e => hex ⟨j, oj, hoj, e⟩] at hv
      exact h.fr2 t (fun j oj hoj _ e => hex ⟨j, oj, hoj, e⟩) v hv
theorem any_ok (hD : DataOk D) {Q : Exit → Act → World → Prop} {h' : T (AO D.E)} (hng : NoNG P) (hex : CaOk P D ex) (hd : DsOk P D cd mu ex ops.toList N ms φ0 s ops.toList.length d) (hL : StOk P ops.toList ms) (hlc : ∀ (i : Nat) (r : Rc D), d.rs[i]? = some r → r.cls = 2 → ∃ u, (loadChk P D cd ms d.rs i r d.hs 0 d.es).H u)
    (hadd : (addPcs D (notBefore ms d.last) d.rs 0 d.h).H h') (hQ : ∀ M' a' w', Stp s.h.get M0 w0 h'.get M' w' s.nx d.nx → FR M' d.φ a' N → Q .normal a' w') :
    ∀ (fuel : Nat) (listed : Array Bool) (a : Act) (w : World) (k : Nat) (M : Pm D), listed.size = ops.size → listed.toList.count false ≤ fuel → Inv ops N ms φ0 s d M0 w0 (fun j => listed.getD j false) a w k M → wpAny P .any ops Q fuel listed a w := by
  intro fuel
  induction fuel with
  | zero =>
    intro listed a w k M hsz hc h
    have hall := count_zero (Nat.le_zero.1 hc)
    have hdone := h.done hd hadd (fun j hj => hall j (by omega))
    refine ⟨?_, hQ M a w hdone.1 hdone.2⟩
    refine List.eq_nil_iff_forall_not_mem.2 fun j hj => ?_
    obtain ⟨h1, o, h2, _⟩ := mem_ready.1 hj
    have hlt : j < listed.size := by rw [hsz]; exact (Array.getElem?_eq_some_iff.1 h2).1
    have := hall j hlt
    rw [Array.getD_eq_getD_getElem?, Array.getElem?_eq_getElem hlt] at h1 this
    simp at h1 this
    rw [this] at h1; cases h1
  | succ fuel ih =>
    intro listed a w k M hsz hc h
    refine ⟨fun hr => ?_, fun i hi => ?_⟩
    · have hdone := h.done hd hadd (ready_nil hL hsz hr)
      exact hQ M a w hdone.1 hdone.2
    · obtain ⟨h1, o, h2, h3⟩ := mem_ready.1 hi
      have hlt0 : i < ops.size := (Array.getElem?_eq_some_iff.1 h2).1
      have hlt : i < listed.size := by omega
      have ho : ops.toList[i]? = some o := by rw [Array.getElem?_toList]; exact h2
      have hrl : i < d.rs.length := by rw [hd.len]; simpa using hlt0
      have hno : listed.getD i false = false := by
        rw [Array.getD_eq_getD_getElem?, Array.getElem?_eq_getElem hlt] at h1 ⊢
        exact h1
      have n : Nx ops ms (fun j => listed.getD j false) i o d.rs[i] d := ⟨ho, List.getElem?_eq_getElem hrl, hno, fun j hj => by
        obtain ⟨o2, e, g1, g2, g3, _, g4⟩ := hL.back j i hj
        rw [ho] at g1; cases g1
        have g5 := h3 e (by simpa using g2) g3
        rcases g4 with rfl | g4
        · exact g5
        · exact h.down j e.on g4 g5⟩
      refine h.step hD hng hex hd hL hlc n fun a' w' k' M' h' => ?_
      have hE : ins (fun j => listed.getD j false) i = fun j => (listed.setIfInBounds i true).getD j false := by
        funext j
        unfold ins
        by_cases e : j = i
        · subst e
          have e3 : (listed.setIfInBounds j true).getD j false = true := by
            rw [Array.getD_eq_getD_getElem?, Array.getElem?_setIfInBounds_self_of_lt hlt]; rfl
          rw [e3]
          simp
        · rw [getD_set_ne false (Ne.symm e)]
          simp [e]
      rw [hE] at h'
      refine ih _ a' w' k' M' (by simpa using hsz) ?_ h'
      have := count_set hlt h1
      omega
theorem drawW_ok (hD : DataOk D) {id : Nat} {s' : St D.E} {φ φ' : T (AV D.E)} (hmix : P.follows .mixedOrders = true) (hng : NoNG P) (hex : CaOk P D ex) (h : (drawW P D cd mu ex ops.toList N s φ).H (s', φ')) : s.nx ≤ s'.nx ∧
    ∀ (M : Pm D) (a : Act) (w : World), Sim M s.h.get w → FR M φ a N → Fresh M s.nx s'.nx → ∀ Q : Exit → Act → World → Prop,
      (∀ M' a' w', Stp s.h.get M w s'.h.get M' w' s.nx s'.nx → FR M' φ' a' N → Q .normal a' w') → (Code.region id ops true).wp P Q a w := by
  obtain ⟨ms, hst, h1⟩ := bnd_H.1 h
  obtain ⟨d, hdr, h2⟩ := bnd_H.1 h1
  obtain ⟨u, hck, h3⟩ := bnd_H.1 h2
  obtain ⟨h', hadd, h4⟩ := bnd_H.1 h3
  cases ret_H.1 h4
  rw [ofO_H] at hst
  have hL := staticOk_spec hst
  have hd := drawAll_ok (pre := []) hL rfl (DsOk.start s φ) hdr
  have hlc : ∀ (i : Nat) (r : Rc D), d.rs[i]? = some r → r.cls = 2 → ∃ u, (loadChk P D cd ms d.rs i r d.hs 0 d.es).H u := fun i r hr hc => by
    have := chkAll_spec hck i r hr hc
    rw [Nat.zero_add] at this
    exact this
  refine ⟨hd.lo0.1, fun M a w hS hf hfr Q hQ => ?_⟩
  have hE : (fun j => (Array.replicate ops.size false).getD j false) = fun _ => false := by
    funext j
    rw [Array.getD_eq_getD_getElem?, Array.getElem?_replicate]
    split <;> rfl
  refine wp_region_any hmix (any_ok (M0 := M) (w0 := w.drew) hD hng hex hd hL hlc hadd (fun M' a' w' hs hf' => hQ M' a' w' ((Stp.drewStp hS s.nx).trans hs) hf') _ _ _ _ 0 M (by simp) (by simp) ?_)
  rw [hE]
  have h0 : d.hs.getD 0 .nil = s.h := hs_at hd.h0
  refine ⟨Nat.zero_le _, fun l e _ => ⟨fun h => (by cases h), fun h => (by omega)⟩, ?_, fun i r hr _ b h5 h6 => ?_, fun i o r t _ _ _ h => (by cases h), fun t _ => hf.at_ t, hf.size, hf.defers, fun j r h => (by cases h), fun i j _ h => (by cases h)⟩
  · have : SG d ms (fun _ => false) 0 = s.h.get := by
      funext b
      refine Option.ext fun ob => ?_
      rw [SG_iff hd.apart, h0]
      exact ⟨fun h => h.elim (fun h => h) fun ⟨_, j, r, _, _, h, _⟩ => (by cases h), .inl⟩
    rw [this]
    exact (Stp.refl (Stp.drewStp hS s.nx).sim s.nx).widen (.inr rfl) (.inr rfl) hd.lo0.1
  · have := hd.lo0.2 i r hr
    exact hfr b (by omega) (by show b < d.nx; omega)
end
end Go.Proofs.YtjdehneddakpnaaGreatDoor.sx
namespace Go.Proofs.YtjdehneddakpnaaGreatDoor.sx
open Go Go.RowKit
section
variable {P : Program} {D : Data} {M M' : Pm D} {w w' : World} {H : Hp D} {s s' : St D.E} {lo : Nat}
/-- no name from one on is placed -/
def TF (M : Pm D) (n : Nat) : Prop := ∀ b, n ≤ b → M.pl b = none
theorem TF.fresh {lo hi : Nat} (h : TF M lo) : Fresh M lo hi := fun b h1 _ => h b h1
theorem TF.stp {H' : Hp D} {lo hi : Nat} (h : TF M lo) (hs : Stp H M w H' M' w' lo hi) : TF M' hi := fun b hb => by
  have := hs.le
  rw [hs.ext b (by omega)]; exact h b (by omega)
/-- what is left is free -/
theorem Fresh.next {H' : Hp D} {lo mid hi : Nat} (h : Fresh M lo hi) (hs : Stp H M w H' M' w' lo mid) : Fresh M' mid hi := fun b h1 h2 => by
  have := hs.le
  rw [hs.ext b (by omega)]; exact h b (by omega) h2
theorem Fresh.fst {lo mid hi : Nat} (h : Fresh M lo hi) (hm : mid ≤ hi) : Fresh M lo mid := fun b h1 h2 => h b h1 (by omega)
theorem TF.lt {n b : Nat} {mi : MI} (h : TF M n) (hb : M.pl b = some mi) : b < n := by
  refine Nat.lt_of_not_le fun hle => ?_
  rw [h b hle] at hb; cases hb
/-- placed through a renaming -/
noncomputable def rl (r : Ren) (M : Pm D) : Pm D := ⟨fun t => (rGet r t).bind M.pl, M.sg⟩
def Ext (r r' : Ren) : Prop := ∀ t b, rGet r t = some b → rGet r' t = some b
def Inj (r : Ren) : Prop := ∀ t t' b, rGet r t = some b → rGet r t' = some b → t = t'
theorem rl_at {r : Ren} {t b : Nat} {mi : MI} (h : rGet r t = some b) (hm : M.pl b = some mi) : (rl r M).pl t = some mi := by
  show (rGet r t).bind M.pl = some mi
  rw [h]; exact hm
theorem rl_some {r : Ren} {t : Nat} {mi : MI} (h : (rl r M).pl t = some mi) : ∃ b, rGet r t = some b ∧ M.pl b = some mi := by
  have h' : (rGet r t).bind M.pl = some mi := h
  cases hr : rGet r t with
  | none => rw [hr] at h'; cases h'
  | some b => rw [hr] at h'; exact ⟨b, rfl, h'⟩
theorem rl_le {r r' : Ren} (hM : Le M M') (hr : Ext r r') : Le (rl r M) (rl r' M') := ⟨fun t mi h => by
  obtain ⟨b, h1, h2⟩ := rl_some h
  exact rl_at (hr _ _ h1) (hM.1 _ _ h2), hM.2⟩
theorem Ext.refl (r : Ren) : Ext r r := fun _ _ h => h
theorem Ext.trans {r r' r'' : Ren} (h : Ext r r') (k : Ext r' r'') : Ext r r'' := fun t b e => k t b (h t b e)
theorem rGet_cons (t b : Nat) (r : Ren) (x : Nat) : rGet ((t, b) :: r) x = if t = x then some b else rGet r x := by
  show cond (Nat.beq t x) (some b) (rGet r x) = _
  by_cases h : t = x
  · rw [if_pos h, beq_nat.2 h]; rfl
  · rw [if_neg h, beq_natF.2 h]; rfl
theorem rGet_mem {r : Ren} {t b : Nat} (h : rGet r t = some b) : (t, b) ∈ r := by
  induction r with
  | nil => cases (show none = some b from h)
  | cons p r ih =>
    obtain ⟨x, y⟩ := p
    rw [rGet_cons] at h
    by_cases e : x = t
    · rw [if_pos e] at h; cases h; subst e; exact List.mem_cons_self
    · rw [if_neg e] at h; exact List.mem_cons_of_mem _ (ih h)
theorem rHas_not {r : Ren} {b : Nat} (h : rHas r b = false) : ∀ t, rGet r t ≠ some b := fun t e => by
  have : rHas r b = true := anyL_iff.2 ⟨(t, b), rGet_mem e, beq_nat.2 rfl⟩
  rw [h] at this; cases this
theorem aGet_cons {α : Type} (t : Nat) (a : α) (l : List (Nat × α)) (x : Nat) : aGet ((t, a) :: l) x = if t = x then some a else aGet l x := by
  show cond (Nat.beq t x) (some a) (aGet l x) = _
  by_cases h : t = x
  · rw [if_pos h, beq_nat.2 h]; rfl
  · rw [if_neg h, beq_natF.2 h]; rfl
theorem aGet_mem {α : Type} {l : List (Nat × α)} {t : Nat} {a : α} (h : aGet l t = some a) : (t, a) ∈ l := by
  induction l with
  | nil => cases (show none = some a from h)
  | cons p l ih =>
    obtain ⟨x, y⟩ := p
    rw [aGet_cons] at h
    by_cases e : x = t
    · rw [if_pos e] at h; cases h; subst e; exact List.mem_cons_self
    · rw [if_neg e] at h; exact List.mem_cons_of_mem _ (ih h)
structure Mv (m m' : Mt D.E) : Prop where
  inj : Inj m.r → Inj m'.r
  ext : Ext m.r m'.r
  stab : ∀ t b, rGet m.r t = some b → m'.s.h.get b = m.s.h.get b
  td : ∀ p ∈ m.todo, p ∈ m'.todo
  new : ∀ t b, rGet m'.r t = some b → rGet m.r t = some b ∨ (t, b) ∈ m'.todo
  le : m.s.nx ≤ m'.s.nx
theorem Mv.refl (m : Mt D.E) : Mv m m := ⟨id, .refl _, fun _ _ _ => rfl, fun _ h => h, fun _ _ h => .inl h, Nat.le_refl _⟩
theorem Mv.trans {m m' m'' : Mt D.E} (h : Mv m m') (k : Mv m' m'') : Mv m m'' :=
  ⟨fun i => k.inj (h.inj i), h.ext.trans k.ext, fun t b e => (k.stab t b (h.ext t b e)).trans (h.stab t b e), fun p hp => k.td p (h.td p hp), fun t b e => by
    rcases k.new t b e with h1 | h1
    · rcases h.new t b h1 with h2 | h2
      · exact .inl h2
      · exact .inr (k.td _ h2)
    · exact .inr h1, Nat.le_trans h.le k.le⟩
/-- the memory's part: nothing turns but what is known -/
abbrev Sm (m m' : Mt D.E) (M : Pm D) (w : World) (M' : Pm D) : Prop := Stp m.s.h.get M w m'.s.h.get M' w m.s.nx m'.s.nx
theorem pair_ok {m m' : Mt D.E} {t b : Nat} (h : (pair D m t b).H m') : Mv m m' ∧ m'.s = m.s ∧ rGet m'.r t = some b := by
  unfold pair at h
  cases hr : rGet m.r t with
  | some b' =>
    rw [hr] at h
    obtain ⟨h1, h2⟩ := bB_H.1 (show (bB (Nat.beq b' b) (.ret m)).H m' from h)
    cases ret_H.1 h2
    exact ⟨.refl _, rfl, by rw [hr, beq_nat.1 h1]⟩
  | none =>
    rw [hr] at h
    rcases bE_H.1 (show (bE (rHas m.r b) .fail (.ret ⟨m.s, (t, b) :: m.r, (t, b) :: m.todo⟩)).H m' from h) with ⟨_, h2⟩ | ⟨h1, h2⟩
    · exact h2.elim
    · cases ret_H.1 h2
      have hno := rHas_not h1
      refine ⟨⟨fun hi x x' c e e' => ?_, fun x c e => ?_, fun _ _ _ => rfl, fun p hp => List.mem_cons_of_mem _ hp, fun x c e => ?_, Nat.le_refl _⟩, rfl, by rw [rGet_cons, if_pos rfl]⟩
      · rw [rGet_cons] at e e'
        by_cases q : t = x <;> by_cases q' : t = x'
        · rw [← q, ← q']
        · rw [if_pos q] at e; rw [if_neg q'] at e'; cases e; exact absurd e' (hno _)
        · rw [if_neg q] at e; rw [if_pos q'] at e'; cases e'; exact absurd e (hno _)
        · rw [if_neg q] at e; rw [if_neg q'] at e'; exact hi x x' c e e'
      · rw [rGet_cons]
        by_cases q : t = x
        · subst q; rw [hr] at e; cases e
        · rw [if_neg q]; exact e
      · rw [rGet_cons] at e
        by_cases q : t = x
        · rw [if_pos q] at e; cases e; subst q; exact .inr List.mem_cons_self
        · rw [if_neg q] at e; exact .inl e
/-- a piece in no block turns -/
theorem Stp.void {b : Nat} {o0 o1 : AO D.E} {mi : MI} (hS : Sim M H w) (hb : H b = some o0) (hm : M.pl b = some mi) (hr : mi.real = false) (ho : OR M o1 mi w) (lo : Nat) : Stp H M w (upd H b (some o1)) M w lo lo := by
  have hin : ∀ c o, c ≠ b → upd H b (some o1) c = some o → H c = some o := fun c o e h => by simpa [upd, e] using h
  refine ⟨⟨fun c o h => ?_, fun c c' o o' m m' h h' e e' r r' he => ?_, hS.seal_, fun c o m h hw e hr' j hj => ?_, fun c k xs e m h hm' hr' => ?_, ⟨hS.glo.1, fun c o m h hw e hr' => ?_⟩⟩, fun _ _ => rfl, fun _ _ _ h => h, fun _ _ h => .inl h, Nat.le_refl _, fun _ _ _ => rfl, fun c o m h e hr' => ?_, fun c h => ?_, rfl, rfl, rfl, Nat.le_refl _⟩
  · by_cases q : c = b
    · subst q
      simp only [upd, if_pos] at h
      cases h
      exact ⟨mi, hm, ho⟩
    · exact hS.obj c o (hin c o q h)
  · have q : c ≠ b := fun q => by subst q; rw [hm] at e; cases e; rw [hr] at r; cases r
    have q' : c' ≠ b := fun q => by subst q; rw [hm] at e'; cases e'; rw [hr] at r'; cases r'
    exact hS.inj c c' o o' m m' (hin _ _ q h) (hin _ _ q' h') e e' r r' he
  · have q : c ≠ b := fun q => by subst q; rw [hm] at e; cases e; rw [hr] at hr'; cases hr'
    exact hS.sep c o m (hin _ _ q h) hw e hr' j hj
  · have q : c ≠ b := fun q => by subst q; rw [hm] at hm'; cases hm'; rw [hr] at hr'; cases hr'
    exact hS.roS c k xs e m (hin _ _ q h) hm' hr'
  · have q : c ≠ b := fun q => by subst q; rw [hm] at e; cases e; rw [hr] at hr'; cases hr'
    exact hS.glo.2 c o m (hin _ _ q h) hw e hr'
  · have q : c ≠ b := fun q => by subst q; rw [hm] at e; cases e; rw [hr] at hr'; cases hr'
    exact .inr ⟨c, o, m, hin _ _ q h, e, hr', rfl, id⟩
  · by_cases q : c = b
    · subst q; exact .inl (by rw [hb]; simp)
    · obtain ⟨o, ho⟩ := Option.ne_none_iff_exists'.1 h
      exact .inl (by rw [hin c o q ho]; simp)
/-- A piece that may be written is written no more; cells that it has are sealed. cs: what is said of the cells from its first on. -/
theorem Stp.lock {b : Nat} {o0 o1 : AO D.E} {mi : MI} {cs : List (AV D.E)} (hS : Sim M H w) (hb : H b = some o0) (hw : o0.wr = true) (hmine : ∀ j, o0.mine mi j) (hm : M.pl b = some mi) (hr : mi.real = true) (hw1 : o1.wr = false)
    (hp : ∀ v ∈ cs, pure0 v = true) (hc : ∀ (i : Nat) (v : AV D.E), cs[i]? = some v → ∃ v', w.cell? ⟨mi.blk, mi.sh + i, none⟩ = some v' ∧ VR M v v')
    (ho : ∀ M2, sx.Le M M2 → OR M2 o1 mi w) (hro : ∀ c xs e, o1 = .arr c xs e true → Sealed (⟨M.pl, sgAdd M.sg mi.blk mi.sh cs⟩ : Pm D) mi.blk mi.sh c xs) (lo : Nat) :
    Stp H M w (upd H b (some o1)) ⟨M.pl, sgAdd M.sg mi.blk mi.sh cs⟩ w lo lo := by
  have hnone : ∀ j, M.sg mi.blk j = none := fun j => hS.sep b o0 mi hb hw hm hr j (hmine j)
  have hsg : ∀ b o v, M.sg b o = some v → sgAdd M.sg mi.blk mi.sh cs b o = some v := sgAdd_le fun o _ _ => hnone o
  have hle : sx.Le M ⟨M.pl, sgAdd M.sg mi.blk mi.sh cs⟩ := ⟨fun _ _ h => h, hsg⟩
  have := Stp.upon (M1 := ⟨M.pl, sgAdd M.sg mi.blk mi.sh cs⟩) (sg1 := sgAdd M.sg mi.blk mi.sh cs) (b0 := b) (b1 := b) (o1 := o1) (mi1 := mi) (lo := lo) (hi := lo) (w' := w) hS hb hw hm hr hr rfl (by
      congr 1
      funext c
      by_cases e : c = b
      · rw [if_pos e, e]; exact hm
      · rw [if_neg e]) (.inl ⟨rfl, rfl, rfl⟩) hsg (fun b o h => sgAdd_new h) rfl (fun _ _ => rfl) rfl rfl rfl (ho _ hle)
    (fun o v hv => by
      unfold sgAdd at hv
      split at hv
      · rename_i hin
        obtain ⟨v', h1, h2⟩ := hc _ v hv
        refine ⟨hp v (List.mem_of_getElem? hv), v', ?_, h2.mono hle⟩
        rw [show mi.sh + (o - mi.sh) = o by omega] at h1
        exact h1
      · rw [hnone] at hv; cases hv) (fun h => by rw [hw1] at h; cases h) hro
  have e2 : (fun c => if c = b then some o1 else if c = b then none else H c) = upd H b (some o1) := by
    funext c
    simp only [upd]
    split <;> rfl
  rw [e2] at this
  exact this
theorem upd_self {b : Nat} {o : AO D.E} (h : H b = some o) : upd H b (some o) = H := by
  funext c
  simp only [upd]
  split
  · rename_i e; rw [e, h]
  · rfl
theorem sealB_ok (hD : DataOk D) {m m' : Mt D.E} {b : Nat} {a : Ar D.E} (h : (sealB D m b).H (a, m')) : Mv m m' ∧ m'.r = m.r ∧ ∀ M w, Sim M m.s.h.get w → ∃ M', Sm m m' M w M' ∧ M'.pl = M.pl ∧
    ∃ mi, M.pl b = some mi ∧ mi.len = a.xs.length ∧ mi.esz = D.size a.c ∧ (mi.real = true → Sealed M' mi.blk mi.sh a.c a.xs) := by
  unfold sealB at h
  rcases bE_H.1 h with ⟨_, h0⟩ | ⟨h0, h1⟩
  · exact h0.elim
  obtain ⟨a', ha, h2⟩ := bnd_H.1 h1
  obtain ⟨s1, hs, h3⟩ := bnd_H.1 h2
  have h3 := ret_H.1 h3
  simp only [Prod.mk.injEq] at h3
  obtain ⟨rfl, rfl⟩ := h3
  have hb := arrAt_H ha
  obtain ⟨q1, q2⟩ := set_H hs
  have hno := rHas_not h0
  refine ⟨⟨id, .refl _, fun t c e => ?_, fun _ h => h, fun _ _ h => .inl h, Nat.le_of_eq q2.symm⟩, rfl, fun M w hS => ?_⟩
  · show s1.h.get c = m.s.h.get c
    rw [q1]
    have : c ≠ b := fun q => by subst q; exact hno t e
    simp [upd, this]
  · obtain ⟨mi, hm, h5, h6, hcl⟩ := hS.obj b _ hb
    obtain ⟨c, xs, e, ro⟩ := a'
    simp only at hb q1 h5 h6 hcl ⊢
    unfold Sm
    show ∃ M', Stp m.s.h.get M w s1.h.get M' w m.s.nx s1.nx ∧ _
    rw [q1, q2]
    cases ro with
    | true =>
      refine ⟨M, by rw [upd_self hb]; exact .refl hS _, rfl, mi, hm, h5, h6, fun hr => hS.roS b c xs e mi hb hm hr⟩
    | false =>
      by_cases hr : mi.real = true
      · obtain ⟨C, fz, k1, k2, k3, k4, k5⟩ := hcl hr
        refine ⟨_, Stp.lock (o1 := .arr c xs e true) (cs := rowsC c xs) hS hb rfl (fun _ => trivial) hm hr rfl (fun v hv => (rowsC_pure hD hv).2) (fun i v hv => ?_) (fun M2 hM => ⟨h5, h6, fun _ => ⟨C, fz, k1, k2, k3, fun i v hv => let ⟨v', a, b⟩ := k4 i v hv; ⟨v', a, b.mono hM⟩, fun h => by cases h⟩⟩) (fun c2 xs2 e2 he => ?_) _, rfl, mi, hm, h5, h6, fun _ => Sealed.add hD⟩
        · obtain ⟨v', a, b⟩ := k4 i v hv
          exact ⟨v', by simp [World.cell?, k1, a], b⟩
        · cases he; exact Sealed.add hD
      · have hr' : mi.real = false := by simpa using hr
        exact ⟨M, Stp.void (o1 := .arr c xs e true) hS hb hm hr' ⟨h5, h6, fun h => absurd h hr⟩ _, rfl, mi, hm, h5, h6, fun h => absurd h hr⟩
end
end Go.Proofs.YtjdehneddakpnaaGreatDoor.sx
namespace Go.Proofs.YtjdehneddakpnaaGreatDoor.sx
open Go Go.RowKit
section
variable {P : Program} {D : Data} {M M' : Pm D} {w w' : World} {H : Hp D} {s s' : St D.E} {lo : Nat} {m m' : Mt D.E}
def MOk (m m' : Mt D.E) (a t : AV D.E) : Prop := Mv m m' ∧ ∀ M w, Sim M m.s.h.get w → Fresh M m.s.nx m'.s.nx → ∃ M', Sm m m' M w M' ∧ ∀ v, VR M a v → VR (rl m'.r M') t v
theorem Sealed.take {b o c : Nat} {xs : List (D.E c)} (h : Sealed M b o c xs) (n : Nat) : Sealed M b o c (xs.take n) := fun i hi j v e => by
  have hi2 : i < xs.length := by simp at hi; omega
  rw [List.getElem_take] at e
  exact h i hi2 j v e
theorem Sealed.drop {b o c : Nat} {xs : List (D.E c)} (h : Sealed M b o c xs) (n : Nat) : Sealed M b (o + n * D.size c) c (xs.drop n) := fun i hi j v e => by
  have hi2 : n + i < xs.length := by simp at hi; omega
  rw [List.getElem_drop] at e
  have := h (n + i) hi2 j v e
  rw [← this]
  congr 1
  rw [Nat.add_mul]; omega
theorem rl_pure {r : Ren} {t : AV D.E} {v : Value} (h : VR M t v) (hp : pure0 t = true) : VR (rl r M) t v := h.pure hp fun _ _ _ e => e
theorem MOk.same {a t : AV D.E} (hp : pure0 t = true) (h : ∀ M v, VR M a v → VR M t v) (m : Mt D.E) : MOk m m a t :=
  ⟨.refl m, fun M _w hS _ => ⟨M, .refl hS _, fun v hv => rl_pure (h M v hv) hp⟩⟩
/-- a sealed array as a row -/
theorem listOf {c : Nat} {xs : List (D.E c)} {b k : Nat} {n : Int} {v : Value} {mi : MI} (_hpl : M'.pl = M.pl) (hm : M.pl b = some mi) (hl : mi.len = xs.length) (hz : mi.esz = D.size c) (hs : mi.real = true → Sealed M' mi.blk mi.sh c xs) :
    (VR M (.own b k n) v → VR M' (.list c xs) v) ∧ (VR M (.pre b k n) v → VR M' (.list c (ltake xs n)) v) ∧ (∀ o, VR M (.part b k o n) v → VR M' (.list c (lpart xs o n)) v) := by
  refine ⟨fun h => ?_, fun h => ?_, fun o h => ?_⟩
  · cases h with
    | own h hk hr hn hmx hc ht =>
      rw [hm] at h; cases h
      rw [hl] at hmx hc ⊢
      exact .list (hs hr) hmx hc
    | ownV h hk hr hn h0 =>
      rw [hm] at h; cases h
      have : xs = [] := List.eq_nil_of_length_eq_zero (by omega)
      subst this
      exact .listZ
  · cases h with
    | pre h hk hr hn hmx hle hc ht =>
      rename_i l cap mi'
      rw [hm] at h; cases h
      subst hn
      have e : (ltake xs (l : Int)).length = l := by simp [ltake]; omega
      have := VR.list (M := M') (c := c) (xs := ltake xs (l : Int)) (b := mi.blk) (o := mi.sh) (cap := cap) ((hs hr).take _) (by omega) (by omega)
      rw [e] at this
      exact this
    | preV h hk hr hn h0 =>
      rw [hm] at h; cases h
      have : xs = [] := List.eq_nil_of_length_eq_zero (by omega)
      subst this
      have e : ltake ([] : List (D.E c)) n = [] := by simp [ltake]
      rw [e]
      exact .listZ
  · cases h with
    | part h hk hr hn ho hle hmx hc =>
      rename_i l cap mi'
      rw [hm] at h; cases h
      subst hn
      have e : (lpart xs o (l : Int)).length = l := by simp [lpart]; omega
      have := VR.list (M := M') (c := c) (xs := lpart xs o (l : Int)) (b := mi.blk) (o := mi.sh + o.toNat * D.size c) (cap := cap) (((hs hr).drop _).take _) (by omega) (by omega)
      rw [e, ← hz] at this
      exact this
    | partZ h hk hn ho =>
      subst hn
      have e : lpart xs o 0 = [] := by simp [lpart]
      rw [e]
      exact .listZ
theorem mList_ok (hD : DataOk D) {a : AV D.E} {c : Nat} {ys : List (D.E c)} (h : (mList D m a c ys).H m') : MOk m m' a (.list c ys) := by
  cases a <;> simp only [mList] at h <;> (try exact h.elim)
  case list c' xs =>
    obtain ⟨zs, h1, h2⟩ := bnd_H.1 h
    obtain ⟨rfl, e⟩ := castL_H h1
    cases e
    obtain ⟨rfl, h3⟩ := need_H.1 h2
    cases ret_H.1 h3
    exact .same rfl (fun M v hv => hv) m
  case grow c' xs b =>
    obtain ⟨zs, h1, h2⟩ := bnd_H.1 h
    obtain ⟨rfl, e⟩ := castL_H h1
    cases e
    obtain ⟨rfl, h3⟩ := need_H.1 h2
    cases ret_H.1 h3
    refine .same rfl (fun M v hv => ?_) m
    cases hv with
    | grow h hr hl hz hs hm hc ht => exact .list hs hm hc
    | growV h hr => exact .listZ
  case snil =>
    obtain ⟨rfl, h3⟩ := need_H.1 h
    cases ret_H.1 h3
    refine .same rfl (fun M v hv => ?_) m
    cases hv
    exact .listZ
  case own b k n =>
    obtain ⟨a, m1, h1, h2⟩ := bnd2_H.1 h
    obtain ⟨zs, h3, h4⟩ := bnd_H.1 h2
    obtain ⟨c', xs, e, ro⟩ := a
    obtain ⟨rfl, e⟩ := castL_H h3
    cases e
    obtain ⟨rfl, h5⟩ := need_H.1 h4
    cases ret_H.1 h5
    obtain ⟨q1, q2, q3⟩ := sealB_ok hD h1
    refine ⟨q1, fun M w hS _ => ?_⟩
    obtain ⟨M', g1, g2, mi, g3, g4, g5, g6⟩ := q3 M w hS
    exact ⟨M', g1, fun v hv => rl_pure ((listOf g2 g3 g4 g5 g6).1 hv) rfl⟩
  case pre b k n =>
    obtain ⟨a, m1, h1, h2⟩ := bnd2_H.1 h
    obtain ⟨zs, h3, h4⟩ := bnd_H.1 h2
    obtain ⟨c', xs, e, ro⟩ := a
    obtain ⟨rfl, e⟩ := castL_H h3
    cases e
    obtain ⟨rfl, h5⟩ := need_H.1 h4
    cases ret_H.1 h5
    obtain ⟨q1, q2, q3⟩ := sealB_ok hD h1
    refine ⟨q1, fun M w hS _ => ?_⟩
    obtain ⟨M', g1, g2, mi, g3, g4, g5, g6⟩ := q3 M w hS
    exact ⟨M', g1, fun v hv => rl_pure ((listOf g2 g3 g4 g5 g6).2.1 hv) rfl⟩
  case part b k o n =>
    obtain ⟨a, m1, h1, h2⟩ := bnd2_H.1 h
    obtain ⟨zs, h3, h4⟩ := bnd_H.1 h2
    obtain ⟨c', xs, e, ro⟩ := a
    obtain ⟨rfl, e⟩ := castL_H h3
    cases e
    obtain ⟨rfl, h5⟩ := need_H.1 h4
    cases ret_H.1 h5
    obtain ⟨q1, q2, q3⟩ := sealB_ok hD h1
    refine ⟨q1, fun M w hS _ => ?_⟩
    obtain ⟨M', g1, g2, mi, g3, g4, g5, g6⟩ := q3 M w hS
    exact ⟨M', g1, fun v hv => rl_pure ((listOf g2 g3 g4 g5 g6).2.2 o hv) rfl⟩
theorem newMv {o : AO D.E} {b : Nat} {s1 : St D.E} (hn : (m.s.new o).H (b, s1)) (h : rHas m.r b = false) : Mv m ⟨s1, m.r, m.todo⟩ := by
  obtain ⟨rfl, q2, q3⟩ := new_H hn
  refine ⟨id, .refl _, fun t c e => ?_, fun _ h => h, fun _ _ h => .inl h, by show m.s.nx ≤ s1.nx; omega⟩
  show s1.h.get c = m.s.h.get c
  rw [q3]
  have : c ≠ m.s.nx := fun q => by subst q; exact rHas_not h t e
  simp [upd, this]
/-- a new piece in no block -/
theorem pair_new {o : AO D.E} {mi : MI} {tb b : Nat} {s1 : St D.E} {a t : AV D.E} (hn : (m.s.new o).H (b, s1)) (h : (pairN D ⟨s1, m.r, m.todo⟩ tb b).H m') (hro : ∀ c xs e, o ≠ .arr c xs e true) (hr : mi.real = false) (ho : ∀ M w, OR M o mi w)
    (hv : ∀ M M', M'.pl b = some mi → rGet m'.r tb = some b → ∀ v, VR M a v → VR (rl m'.r M') t v) : MOk m m' a t := by
  rcases bE_H.1 h with ⟨_, h0⟩ | ⟨h0, h⟩
  · exact h0.elim
  have h1 := newMv hn h0
  obtain ⟨p1, p2, p3⟩ := pair_ok h
  obtain ⟨rfl, q2, q3⟩ := new_H hn
  refine ⟨h1.trans p1, fun M w hS hT => ⟨M.add m.s.nx mi, ?_, fun v hva => hv M _ (by simp [Pm.add]) p3 v hva⟩⟩
  rw [p2] at hT
  have hT : Fresh M m.s.nx s1.nx := hT
  unfold Sm
  rw [p2]
  show Stp m.s.h.get M w s1.h.get _ w m.s.nx s1.nx
  rw [q2] at hT
  rw [q2, q3]
  exact Stp.allocW (o := o) (mi := mi) hS (hT _ (Nat.le_refl _) (Nat.lt_succ_self _)) (fun h => by rw [hr] at h; cases h) (Nat.le_refl _) (fun _ _ => rfl) rfl rfl rfl (ho _ _) (fun c xs e he => absurd he (hro c xs e))
theorem mSnil_ok {th : List (Nat × AO D.E)} {tb k : Nat} {n : Int} (h : (mSnil D th m tb k n).H m') : MOk m m' .snil (.own tb k n) := by
  obtain ⟨o, ho0, h1⟩ := bnd_H.1 h
  clear ho0
  cases o <;> simp only at h1 <;> (try exact h1.elim)
  rename_i c _ e _
  obtain ⟨hk, h2⟩ := bB_H.1 h1
  obtain ⟨b, s1, h3, h4⟩ := bnd2_H.1 h2
  obtain ⟨hn, h5⟩ := need_H.1 h4
  refine pair_new (mi := ⟨0, 0, 0, D.size c, 0, false⟩) h3 h5 (fun _ _ _ h => by cases h) rfl (fun M w => ⟨rfl, rfl, fun h => by cases h⟩) fun M M' hm hg v hv => ?_
  cases hv
  exact .ownV (rl_at hg hm) (beq_nat.1 hk) rfl hn.symm rfl
theorem mGnil_ok {th : List (Nat × AO D.E)} {tb c : Nat} {ys : List (D.E c)} (h : (mGnil D th m tb c ys).H m') : MOk m m' .snil (.grow c ys tb) := by
  obtain ⟨o, ho0, h1⟩ := bnd_H.1 h
  clear ho0
  cases o <;> simp only at h1 <;> (try exact h1.elim)
  rename_i c2 e
  obtain ⟨b, s1, h3, h4⟩ := bnd2_H.1 h1
  obtain ⟨rfl, h5⟩ := need_H.1 h4
  refine pair_new (mi := ⟨0, 0, 0, D.size c2, 0, false⟩) h3 h5 (fun _ _ _ h => by cases h) rfl (fun M w => ⟨rfl, fun h => by cases h⟩) fun M M' hm hg v hv => ?_
  cases hv
  exact .growV (rl_at hg hm) rfl
theorem mPre_ok (hD : DataOk D) {b k' : Nat} {n' : Int} {tb k : Nat} {n : Int} (h : (mPre D m b k' n' tb k n).H m') : MOk m m' (.pre b k' n') (.own tb k n) := by
  unfold mPre at h
  rcases bE_H.1 h with ⟨_, h0⟩ | ⟨h0, h1⟩
  · exact h0.elim
  obtain ⟨hk, h2⟩ := bB_H.1 h1
  obtain rfl := beq_nat.1 hk
  obtain ⟨a, ha, h3⟩ := bnd_H.1 h2
  rcases bE_H.1 h3 with ⟨_, h4⟩ | ⟨hro, h4⟩
  · exact h4.elim
  obtain ⟨s1, hs, h5⟩ := bnd_H.1 h4
  obtain ⟨b2, s2, hn, h6⟩ := bnd2_H.1 h5
  obtain ⟨rfl, h7⟩ := need_H.1 h6
  rcases bE_H.1 h7 with ⟨_, h8⟩ | ⟨h8, h9⟩
  · exact h8.elim
  have h8 : rHas m.r b2 = false := h8
  have hb := arrAt_H ha
  obtain ⟨c, xs, e, ro⟩ := a
  simp only at hro hb hn
  subst hro
  obtain ⟨q1, q2⟩ := set_H hs
  obtain ⟨p1, p2, p3⟩ := pair_ok h9
  obtain ⟨rfl, g1, g2⟩ := new_H hn
  rw [q2] at g1 h8 p3
  rw [q2, q1] at g2
  have hno := rHas_not h0
  have hno2 := rHas_not h8
  have hmv : Mv m ⟨s2, m.r, m.todo⟩ := by
    refine ⟨id, .refl _, fun t c e => ?_, fun _ h => h, fun _ _ h => .inl h, by show m.s.nx ≤ s2.nx; omega⟩
    show s2.h.get c = m.s.h.get c
    rw [g2]
    have e1 : c ≠ m.s.nx := fun q => by subst q; exact hno2 t e
    have e2 : c ≠ b := fun q => by subst q; exact hno t e
    simp [upd, e1, e2]
  refine ⟨hmv.trans p1, fun M w hS hT => ?_⟩
  obtain ⟨mi, hm, h5, h6, hcl⟩ := hS.obj b _ hb
  rw [p2] at hT
  have hT0 : Fresh M m.s.nx s2.nx := hT
  rw [g1] at hT0
  have hT : M.pl m.s.nx = none := hT0 _ (Nat.le_refl _) (Nat.lt_succ_self _)
  unfold Sm
  rw [p2]
  show ∃ M', Stp m.s.h.get M w s2.h.get M' w m.s.nx s2.nx ∧ _
  rw [g1, g2]
  -- how many
  by_cases hle : 0 ≤ n' ∧ n'.toNat ≤ mi.len
  · let mi2 : MI := ⟨mi.blk, mi.sh, mi.tot, mi.esz, n'.toNat, mi.real⟩
    have hl2 : mi2.len = (ltake xs n').length := by simp [ltake, mi2]; omega
    have hvr : ∀ M' : Pm D, M'.pl m.s.nx = some mi2 → ∀ v, VR M (.pre b k' n') v → VR (rl m'.r M') (.own tb k' n') v := fun M' hm2 v hv => by
      cases hv with
      | pre h hk hr hn hmx hl hc ht =>
        rename_i l cap mi'
        rw [hm] at h; cases h
        subst hn
        exact VR.own (mi := mi2) (rl_at p3 hm2) hk hr rfl (by show l ≤ _; omega) (by show l ≤ cap; omega) ht
      | preV h hk hr hn h0 =>
        rw [hm] at h; cases h
        exact VR.ownV (mi := mi2) (rl_at p3 hm2) hk hr hn (by show n'.toNat = 0; omega)
    by_cases hr : mi.real = true
    · obtain ⟨C, fz, k1, k2, k3, k4, k5⟩ := hcl hr
      have hM1 : Le M (M.add m.s.nx mi2) := Pm.add_le hT
      have := Stp.upon (b0 := b) (b1 := m.s.nx) (o0 := .arr c xs e false) (o1 := .arr c (ltake xs n') e false) (mi0 := mi) (mi1 := mi2) (M1 := M.add m.s.nx mi2) (sg1 := M.sg) (lo := m.s.nx) (hi := m.s.nx + 1) (w' := w) hS hb rfl hm hr hr rfl rfl (.inr ⟨rfl, hT, rfl⟩) (fun _ _ _ h => h) (fun _ _ h => .inl h) rfl (fun _ _ => rfl) rfl rfl rfl
        ⟨hl2, h6, fun _ => ⟨C, fz, k1, k2, by
          have : (rowsC c (ltake xs n')).length ≤ (rowsC c xs).length := by
            rw [rowsC_len hD, rowsC_len hD]
            exact Nat.mul_le_mul_right _ (by simp [ltake]; omega)
          show mi.sh + _ ≤ mi.tot
          omega, fun i v hv => by
          have hv' : (rowsC c xs)[i]? = some v := by
            rw [show ltake xs n' = xs.take n'.toNat from rfl, rowsC_take hD] at hv
            rw [List.getElem?_take] at hv
            split at hv
            · exact hv
            · cases hv
          obtain ⟨v', a1, a2⟩ := k4 i v hv'
          exact ⟨v', a1, a2.mono hM1⟩, k5⟩⟩
        (fun o v hv => by
          rw [hS.sep b _ mi hb rfl hm hr o trivial] at hv; cases hv) (fun _ j _ => hS.sep b _ mi hb rfl hm hr j trivial)
      refine ⟨M.add m.s.nx mi2, ?_, hvr _ (by simp [Pm.add])⟩
      have e2 : (fun x => if x = m.s.nx then some (AO.arr c (ltake xs n') e false) else if x = b then none else m.s.h.get x) = upd (upd m.s.h.get b none) m.s.nx (some (.arr c (ltake xs n') e false)) := by
        funext x
        simp only [upd]
      rw [e2] at this
      exact this
    · have hr' : mi.real = false := by simpa using hr
      have s1 := Stp.drop (b := b) hS m.s.nx
      have s2 := Stp.allocW (o := .arr c (ltake xs n') e false) (mi := mi2) s1.sim hT (fun h => absurd h hr) (Nat.le_refl _) (fun _ _ => rfl) rfl rfl rfl (w' := w) ⟨hl2, h6, fun h => absurd h hr⟩
      exact ⟨M.add m.s.nx mi2, s1.trans s2, hvr _ (by simp [Pm.add])⟩
  · -- there is no such value
    let mi2 : MI := ⟨0, 0, 0, D.size c, (ltake xs n').length, false⟩
    have s1 := Stp.drop (b := b) hS m.s.nx
    have s2 := Stp.allocW (o := .arr c (ltake xs n') e false) (mi := mi2) s1.sim hT (fun h => by cases h) (Nat.le_refl _) (fun _ _ => rfl) rfl rfl rfl (w' := w) ⟨rfl, rfl, fun h => by cases h⟩
    refine ⟨M.add m.s.nx mi2, s1.trans s2, fun v hv => ?_⟩
    exfalso
    cases hv with
    | pre h hk hr hn hmx hl hc ht =>
      rw [hm] at h; cases h
      exact hle ⟨by omega, by omega⟩
    | preV h hk hr hn h0 =>
      rw [hm] at h; cases h
      exact hle ⟨by omega, by omega⟩
end
end Go.Proofs.YtjdehneddakpnaaGreatDoor.sx
namespace Go.Proofs.YtjdehneddakpnaaGreatDoor.sx
open Go Go.RowKit
section
variable {P : Program} {D : Data} {M M' : Pm D} {w w' : World} {H : Hp D} {s s' : St D.E} {lo : Nat} {m m' : Mt D.E} {th : List (Nat × AO D.E)}
theorem mPel_ok (hD : DataOk D) {a : AV D.E} {c : Nat} {y : D.E c} {j : Nat} (h : (mPel D m a c y j).H m') : MOk m m' a (.pel c y j) := by
  cases a <;> simp only [mPel] at h <;> (try exact h.elim)
  case pel c' x j' =>
    obtain ⟨h1, h2⟩ := bB_H.1 h
    obtain ⟨x', h3, h4⟩ := bnd_H.1 h2
    obtain ⟨rfl, e⟩ := castX_H h3
    cases e
    obtain ⟨rfl, h5⟩ := need_H.1 h4
    cases ret_H.1 h5
    obtain rfl := beq_nat.1 h1
    exact .same rfl (fun M v hv => hv) m
  case pix b k i j' =>
    obtain ⟨h1, h2⟩ := bB_H.1 h
    obtain rfl := beq_nat.1 h1
    obtain ⟨a, m1, h3, h4⟩ := bnd2_H.1 h2
    obtain ⟨zs, h5, h6⟩ := bnd_H.1 h4
    obtain ⟨c', xs, e, ro⟩ := a
    obtain ⟨rfl, e⟩ := castL_H h5
    cases e
    obtain ⟨rfl, h7⟩ := need_H.1 h6
    cases ret_H.1 h7
    obtain ⟨q1, q2, q3⟩ := sealB_ok hD h3
    refine ⟨q1, fun M w hS _ => ?_⟩
    obtain ⟨M', g1, g2, mi, g3, g4, g5, g6⟩ := q3 M w hS
    refine ⟨M', g1, fun v hv => rl_pure (M := M') ?_ rfl⟩
    cases hv with
    | pix hm hr hk hi =>
      rw [g3] at hm; cases hm
      simp only at g4
      have hi2 : i < xs.length := by omega
      rw [gt_get hi2]
      refine .pel (b := mi.blk) (o := mi.sh + i * k) fun i' v e => ?_
      have := g6 hr i hi2 i' v e
      rw [← hk, g5]
      exact this
  case ptr b o =>
    obtain ⟨h1, h2⟩ := bB_H.1 h
    obtain ⟨h3, h4⟩ := and2 h1
    obtain rfl := beq_nat.1 h3
    obtain rfl := beq_nat.1 h4
    rcases bE_H.1 h2 with ⟨_, h5⟩ | ⟨h5, h6⟩
    · exact h5.elim
    obtain ⟨cs, e, h7, h8⟩ := bnd2_H.1 h6
    obtain ⟨x, h9, h10⟩ := bnd_H.1 h8
    obtain ⟨s1, hs, h11⟩ := bnd_H.1 h10
    obtain ⟨rfl, h12⟩ := need_H.1 h11
    cases ret_H.1 h12
    have hb := wrAt_H h7
    obtain ⟨q1, q2⟩ := set_H hs
    have hno := rHas_not h5
    refine ⟨⟨id, .refl _, fun t c e => ?_, fun _ h => h, fun _ _ h => .inl h, Nat.le_of_eq q2.symm⟩, fun M w hS _ => ?_⟩
    · show s1.h.get c = m.s.h.get c
      rw [q1]
      have : c ≠ b := fun q => by subst q; exact hno t e
      simp [upd, this]
    · obtain ⟨mi, hm, hr, C, fz, k1, k2, k3, k4, k5⟩ := hS.obj b _ hb
      unfold Sm
      show ∃ M', Stp m.s.h.get M w s1.h.get M' w m.s.nx s1.nx ∧ _
      rw [q1, q2]
      have hrd : Rd M w mi.blk mi.sh cs := Cls.rd (e := e) (ro := false) ⟨C, fz, k1, k2, k3, k4, k5⟩
      obtain ⟨l, hl, hc⟩ := hrd.list
      have hl2 := decR_LR hD h9 hl
      refine ⟨_, Stp.lock (o1 := .cells cs e true) (cs := D.enc c x) hS hb rfl (fun _ => trivial) hm hr rfl (fun v hv => (hD.one c x v hv).2) (fun i v hv => ?_) (fun M2 hM => ⟨hr, C, fz, k1, k2, k3, fun i v hv => let ⟨v', a, b⟩ := k4 i v hv; ⟨v', a, b.mono hM⟩, fun h => by cases h⟩) (fun _ _ _ h => by cases h) _, fun v hv => rl_pure ?_ rfl⟩
      · obtain ⟨v', g1, g2⟩ := hl2.get hv
        exact ⟨v', hc i v' g1, g2⟩
      · cases hv with
        | ptr hm2 _ =>
          rw [hm] at hm2; cases hm2
          refine .pel (b := mi.blk) (o := mi.sh) fun i v e => ?_
          show sgAdd M.sg mi.blk mi.sh (D.enc c x) mi.blk (mi.sh + i) = some v
          unfold sgAdd
          rw [if_pos ⟨rfl, by omega, by have := (List.getElem?_eq_some_iff.1 e).1; omega⟩, show mi.sh + i - mi.sh = i by omega]
          exact e
theorem MOk.pair {a t : AV D.E} {tb b : Nat} (h : (pair D m tb b).H m') (hv : ∀ M v, VR M a v → ∀ M' : Pm D, SLe M M' → (∀ mi, M.pl b = some mi → M'.pl tb = some mi) → VR M' t v) : MOk m m' a t := by
  obtain ⟨p1, p2, p3⟩ := pair_ok h
  refine ⟨p1, fun M w hS _ => ⟨M, ?_, fun v hva => hv M v hva _ (fun _ _ _ e => e) fun mi hm => rl_at p3 hm⟩⟩
  unfold Sm
  rw [p2]
  exact .refl hS _
theorem m0_ok (hD : DataOk D) {a t : AV D.E} (h : (m0 D th m a t).H m') : MOk m m' a t := by
  cases t <;> simp only [m0] at h
  case list c ys => exact mList_ok hD h
  case pel c y j => exact mPel_ok hD h
  case map => exact h.elim
  case grow c ys tb =>
    cases a <;> simp only at h <;> (try exact h.elim)
    · exact mGnil_ok h
    · obtain ⟨zs, h1, h2⟩ := bnd_H.1 h
      obtain ⟨rfl, e⟩ := castL_H h1
      cases e
      obtain ⟨rfl, h3⟩ := need_H.1 h2
      refine MOk.pair h3 fun M v hv M' hsg hm => ?_
      cases hv with
      | grow h hr hl hz hs hmx hc ht => exact .grow (hm _ h) hr hl hz (hs.mono hsg) hmx hc ht
      | growV h hr => exact .growV (hm _ h) hr
  case own tb k n =>
    cases a <;> simp only at h <;> (try exact h.elim)
    · exact mSnil_ok h
    · obtain ⟨h1, h2⟩ := bB_H.1 h
      obtain rfl := beq_nat.1 h1
      obtain ⟨rfl, h3⟩ := need_H.1 h2
      refine MOk.pair h3 fun M v hv M' hsg hm => ?_
      cases hv with
      | own h hk hr hn hmx hc ht => exact .own (hm _ h) hk hr hn hmx hc ht
      | ownV h hk hr hn h0 => exact .ownV (hm _ h) hk hr hn h0
    · exact mPre_ok hD h
  case pre tb k n =>
    cases a <;> simp only at h <;> (try exact h.elim)
    · obtain ⟨h1, h2⟩ := bB_H.1 h
      obtain rfl := beq_nat.1 h1
      obtain ⟨rfl, h3⟩ := need_H.1 h2
      refine MOk.pair h3 fun M v hv M' hsg hm => ?_
      cases hv with
      | own h hk hr hn hmx hc ht => exact .pre (hm _ h) hk hr hn hmx (Nat.le_refl _) hc ht
      | ownV h hk hr hn h0 => exact .preV (hm _ h) hk hr hn h0
    · obtain ⟨h1, h2⟩ := bB_H.1 h
      obtain rfl := beq_nat.1 h1
      obtain ⟨rfl, h3⟩ := need_H.1 h2
      refine MOk.pair h3 fun M v hv M' hsg hm => ?_
      cases hv with
      | pre h hk hr hn hmx hl hc ht => exact .pre (hm _ h) hk hr hn hmx hl hc ht
      | preV h hk hr hn h0 => exact .preV (hm _ h) hk hr hn h0
  case part tb k o n =>
    cases a <;> simp only at h <;> (try exact h.elim)
    obtain ⟨h1, h2⟩ := bB_H.1 h
    obtain rfl := beq_nat.1 h1
    obtain ⟨rfl, h3⟩ := need_H.1 h2
    obtain ⟨rfl, h4⟩ := need_H.1 h3
    refine MOk.pair h4 fun M v hv M' hsg hm => ?_
    cases hv with
    | part h hk hr hn ho hl hmx hc => exact .part (hm _ h) hk hr hn ho hl hmx hc
    | partZ h hk hn ho => exact .partZ (hm _ h) hk hn ho
  case ptr tb o =>
    cases a <;> simp only at h <;> (try exact h.elim)
    obtain ⟨h1, h2⟩ := bB_H.1 h
    obtain rfl := beq_nat.1 h1
    refine MOk.pair h2 fun M v hv M' hsg hm => ?_
    cases hv with
    | ptr h hr => exact .ptr (hm _ h) hr
  case pix tb k i j =>
    cases a <;> simp only at h <;> (try exact h.elim)
    obtain ⟨h1, h2⟩ := bB_H.1 h
    obtain ⟨h3, h4⟩ := and2 h1
    obtain rfl := beq_nat.1 h3
    obtain rfl := beq_nat.1 h4
    obtain ⟨rfl, h5⟩ := need_H.1 h2
    refine MOk.pair h5 fun M v hv M' hsg hm => ?_
    cases hv with
    | pix h hr hk hi => exact .pix (hm _ h) hr hk hi
  case sub tb o n =>
    cases a <;> simp only at h <;> (try exact h.elim)
    obtain ⟨h1, h2⟩ := bB_H.1 h
    obtain ⟨h3, h4⟩ := and2 h1
    obtain rfl := beq_nat.1 h3
    obtain rfl := beq_nat.1 h4
    refine MOk.pair h2 fun M v hv M' hsg hm => ?_
    cases hv with
    | sub h hr hc hmx => exact .sub (hm _ h) hr hc hmx
    | subZ => exact .subZ
  all_goals
    obtain ⟨u, h1, h2⟩ := bnd_H.1 h
    cases ret_H.1 h2
    first
      | exact .same rfl (fun M v hv => same0_VR h1 hv) m
      | (exfalso; cases a <;> simp only [same0] at h1 <;> first | exact h1 | (obtain ⟨_, _, h3, h4⟩ := bnd2_H.1 h1; cases h3) | skip)
theorem Sm.le {m m' : Mt D.E} (h : Sm m m' M w M') (hT : Fresh M m.s.nx m'.s.nx) : Le M M' := Stp.Le h hT
theorem MOk.trans_l {m m1 m' : Mt D.E} {a t : AV D.E} {as ts : List (AV D.E)} (h : MOk m m1 a t) (k : Mv m1 m' ∧ ∀ M w, Sim M m1.s.h.get w → Fresh M m1.s.nx m'.s.nx → ∃ M', Sm m1 m' M w M' ∧ ∀ l, LR M as l → LR (rl m'.r M') ts l) :
    Mv m m' ∧ ∀ M w, Sim M m.s.h.get w → Fresh M m.s.nx m'.s.nx → ∃ M', Sm m m' M w M' ∧ ∀ l, LR M (a :: as) l → LR (rl m'.r M') (t :: ts) l := by
  refine ⟨h.1.trans k.1, fun M w hS hT => ?_⟩
  have hT0 := hT.fst k.1.le
  obtain ⟨M1, g1, g2⟩ := h.2 M w hS hT0
  have hT1 := Fresh.next hT g1
  obtain ⟨M2, g3, g4⟩ := k.2 M1 w g1.sim hT1
  refine ⟨M2, Stp.trans g1 g3, fun l hl => ?_⟩
  obtain ⟨v, r, rfl, hv, hr⟩ := hl.uncons
  exact .cons ((g2 v hv).mono (rl_le (Sm.le g3 hT1) k.1.ext)) (g4 r (hr.mono (Sm.le g1 hT0)))
theorem mNil (m : Mt D.E) : Mv m m ∧ ∀ M w, Sim M m.s.h.get w → Fresh M m.s.nx m'.s.nx → ∃ M', Sm m m M w M' ∧ ∀ l, LR M ([] : List (AV D.E)) l → LR (rl m.r M') ([] : List (AV D.E)) l :=
  ⟨.refl m, fun M w hS _ => ⟨M, .refl hS _, fun l hl => by rw [hl.nil_l]; exact .nil⟩⟩
theorem mL_ok (hD : DataOk D) : ∀ {as ts : List (AV D.E)} {m m' : Mt D.E}, (mL D th as ts m).H m' → Mv m m' ∧ ∀ M w, Sim M m.s.h.get w → Fresh M m.s.nx m'.s.nx → ∃ M', Sm m m' M w M' ∧ ∀ l, LR M as l → LR (rl m'.r M') ts l
  | [], [], m, m', h => by cases ret_H.1 (show (C.ret m).H m' from h); exact mNil m
  | [], _ :: _, _, _, h => (h : False).elim
  | _ :: _, [], _, _, h => (h : False).elim
  | a :: as, t :: ts, m, m', h => by
    obtain ⟨m1, h1, h2⟩ := bnd_H.1 (show (bnd (m0 D th m a t) fun m => mL D th as ts m).H m' from h)
    exact (m0_ok hD h1).trans_l (mL_ok hD h2)
theorem mV_ok (hD : DataOk D) {a t : AV D.E} (h : (mV D th m a t).H m') : MOk m m' a t := by
  cases t <;> simp only [mV] at h <;> (try exact m0_ok hD h)
  case agg ts =>
    cases a <;> simp only at h <;> (try exact h.elim)
    obtain ⟨q1, q2⟩ := mL_ok hD h
    refine ⟨q1, fun M w hS hT => ?_⟩
    obtain ⟨M', g1, g2⟩ := q2 M w hS hT
    refine ⟨M', g1, fun v hv => ?_⟩
    cases hv with
    | agg hl hh => exact (VR.aggL (g2 _ ⟨hl, hh⟩) :)
  case tuple ts =>
    cases a <;> simp only at h <;> (try exact h.elim)
    obtain ⟨q1, q2⟩ := mL_ok hD h
    refine ⟨q1, fun M w hS hT => ?_⟩
    obtain ⟨M', g1, g2⟩ := q2 M w hS hT
    refine ⟨M', g1, fun v hv => ?_⟩
    cases hv with
    | tuple hl hh => exact (VR.tupL (g2 _ ⟨hl, hh⟩) :)
  case func g xs ys =>
    cases a <;> simp only at h <;> (try exact h.elim)
    obtain ⟨h1, h2⟩ := bB_H.1 h
    obtain rfl := fnEq_eq h1
    obtain ⟨m1, h3, h4⟩ := bnd_H.1 h2
    obtain ⟨q1, q2⟩ := mL_ok hD h3
    obtain ⟨q3, q4⟩ := mL_ok hD h4
    refine ⟨q1.trans q3, fun M w hS hT => ?_⟩
    have hT0 := hT.fst q3.le
    obtain ⟨M1, g1, g2⟩ := q2 M w hS hT0
    have hT1 := Fresh.next hT g1
    obtain ⟨M2, g3, g4⟩ := q4 M1 w g1.sim hT1
    refine ⟨M2, Stp.trans g1 g3, fun v hv => ?_⟩
    cases hv with
    | func _ hl hh hl2 hh2 =>
      have l1 := (g2 _ ⟨hl, hh⟩).mono (rl_le (Sm.le g3 hT1) q3.ext)
      have l2 := g4 _ (LR.mono (Sm.le g1 hT0) ⟨hl2, hh2⟩)
      exact .func _ l1.1 l1.2 l2.1 l2.2
  case iface u x =>
    cases a <;> simp only at h <;> (try exact h.elim)
    obtain ⟨h1, h2⟩ := bB_H.1 h
    obtain rfl := beq_nat.1 h1
    obtain ⟨q1, q2⟩ := m0_ok hD h2
    refine ⟨q1, fun M w hS hT => ?_⟩
    obtain ⟨M', g1, g2⟩ := q2 M w hS hT
    refine ⟨M', g1, fun v hv => ?_⟩
    cases hv with
    | iface _ hx => exact .iface _ (g2 _ hx)
theorem mVs_ok (hD : DataOk D) : ∀ {as ts : List (AV D.E)} {m m' : Mt D.E}, (mVs D th as ts m).H m' → Mv m m' ∧ ∀ M w, Sim M m.s.h.get w → Fresh M m.s.nx m'.s.nx → ∃ M', Sm m m' M w M' ∧ ∀ l, LR M as l → LR (rl m'.r M') ts l
  | [], [], m, m', h => by cases ret_H.1 (show (C.ret m).H m' from h); exact mNil m
  | [], _ :: _, _, _, h => (h : False).elim
  | _ :: _, [], _, _, h => (h : False).elim
  | a :: as, t :: ts, m, m', h => by
    obtain ⟨m1, h1, h2⟩ := bnd_H.1 (show (bnd (mV D th m a t) fun m => mVs D th as ts m).H m' from h)
    exact (mV_ok hD h1).trans_l (mVs_ok hD h2)
def Flag (a t : AO D.E) : Prop := t.wr = a.wr ∧ (∀ mi j, t.mine mi j → a.mine mi j) ∧ ∀ c ys e, t = .arr c ys e true → a = .arr c ys e true
theorem Cls.map {mi : MI} {as ts : List (AV D.E)} {e : TypeId} {ro : Bool} (hl : ∀ l, LR M as l → LR M' ts l) (h : Cls M mi w as e ro) : Cls M' mi w ts e ro := by
  have hrd := h.rd
  obtain ⟨l, hlr, hc⟩ := hrd.list
  have h2 := hl l hlr
  obtain ⟨C, fz, k1, k2, k3, k4, k5⟩ := h
  refine ⟨C, fz, k1, k2, by rw [h2.1, ← hlr.1]; exact k3, fun i v hv => ?_, k5⟩
  obtain ⟨v', a1, a2⟩ := h2.get hv
  refine ⟨v', ?_, a2⟩
  have := hc i v' a1
  simp only [World.cell?, k1] at this
  exact this
theorem roEq {a b : Bool} (h : (Bool.rec (motive := fun _ => Bool) (Bool.not a) a b : Bool) = true) : a = b := by cases a <;> cases b <;> first | rfl | cases h
theorem mO_ok (hD : DataOk D) {a t : AO D.E} (h : (mO D th m a t).H m') : Mv m m' ∧ Flag a t ∧ ∀ M w, Sim M m.s.h.get w → Fresh M m.s.nx m'.s.nx → ∃ M', Sm m m' M w M' ∧ ∀ mi, OR M a mi w → OR (rl m'.r M') t mi w := by
  cases t with
  | cells ts e ro =>
    cases a <;> simp only [mO] at h <;> (try exact h.elim)
    obtain ⟨h1, h2⟩ := bB_H.1 h
    obtain ⟨h3, h4⟩ := and2 h1
    obtain rfl := beq_nat.1 h3
    obtain rfl := roEq h4
    obtain ⟨q1, q2⟩ := mVs_ok hD h2
    refine ⟨q1, ⟨rfl, fun _ _ _ => trivial, fun _ _ _ h => by cases h⟩, fun M w hS hT => ?_⟩
    obtain ⟨M', g1, g2⟩ := q2 M w hS hT
    exact ⟨M', g1, fun mi ho => ⟨ho.1, ho.2.map g2⟩⟩
  | arr c ys e ro =>
    cases a <;> simp only [mO] at h <;> (try exact h.elim)
    obtain ⟨h1, h2⟩ := bB_H.1 h
    obtain ⟨h3, h4⟩ := and2 h1
    obtain rfl := beq_nat.1 h3
    obtain rfl := roEq h4
    obtain ⟨zs, h5, h6⟩ := bnd_H.1 h2
    obtain ⟨rfl, e⟩ := castL_H h5
    cases e
    obtain ⟨rfl, h7⟩ := need_H.1 h6
    cases ret_H.1 h7
    refine ⟨.refl m, ⟨rfl, fun _ _ _ => trivial, fun _ _ _ h => h⟩, fun M w hS hT => ⟨M, .refl hS _, fun mi ho => ⟨ho.1, ho.2.1, fun hr => (ho.2.2 hr).map fun l hl => ⟨hl.1, fun i v v' e1 e2 => rl_pure (hl.2 i v v' e1 e2) (rowsC_pure hD (List.mem_of_getElem? e1)).2⟩⟩⟩⟩
  | tok c e =>
    cases a <;> simp only [mO] at h <;> (try exact h.elim)
    obtain ⟨h1, h2⟩ := bB_H.1 h
    obtain ⟨h3, h4⟩ := and2 h1
    obtain rfl := beq_nat.1 h3
    obtain rfl := beq_nat.1 h4
    cases ret_H.1 h2
    exact ⟨.refl m, ⟨rfl, fun _ _ h => h, fun _ _ _ h => by cases h⟩, fun M w hS hT => ⟨M, .refl hS _, fun mi ho => ho⟩⟩
/-- a name's piece has been looked at -/
def Dn (th : List (Nat × AO D.E)) (M : Pm D) (w : World) (m : Mt D.E) (t b : Nat) : Prop := ∃ ot oa mi, aGet th t = some ot ∧ m.s.h.get b = some oa ∧ M.pl b = some mi ∧ OR (rl m.r M) ot mi w ∧ Flag oa ot
theorem mWork_ok (hD : DataOk D) : ∀ {n : Nat} {m m' : Mt D.E}, (mWork D th n m).H m' → Ext m.r m'.r ∧ (Inj m.r → Inj m'.r) ∧ m.s.nx ≤ m'.s.nx ∧ ∀ M w, Sim M m.s.h.get w → Fresh M m.s.nx m'.s.nx → (∀ t b, rGet m.r t = some b → (t, b) ∈ m.todo ∨ Dn th M w m t b) →
    ∃ M', Sm m m' M w M' ∧ ∀ t b, rGet m'.r t = some b → Dn th M' w m' t b
  | 0, _, _, h => (h : False).elim
  | n + 1, m, m', h => by
    obtain ⟨s, r, td⟩ := m
    cases td with
    | nil =>
      cases ret_H.1 (show (C.ret ⟨s, r, []⟩).H m' from h)
      exact ⟨.refl _, id, Nat.le_refl _, fun M w hS hT hall => ⟨M, .refl hS _, fun t b e => by
        rcases hall t b e with h1 | h1
        · cases h1
        · exact h1⟩⟩
    | cons p td =>
      obtain ⟨ot, h1, h2⟩ := bnd_H.1 (show (bnd (ofO (aGet th p.1)) fun t => bnd (ofO (s.h.get p.2)) fun a => bnd (mO D th ⟨s, r, td⟩ a t) (mWork D th n)).H m' from h)
      obtain ⟨oa, h3, h4⟩ := bnd_H.1 h2
      obtain ⟨m2, h5, h6⟩ := bnd_H.1 h4
      rw [ofO_H] at h1 h3
      obtain ⟨q1, q2, q3⟩ := mO_ok hD h5
      obtain ⟨k1, k2, k0, k3⟩ := mWork_ok hD h6
      refine ⟨q1.ext.trans k1, fun hi => k2 (q1.inj hi), Nat.le_trans q1.le k0, fun M w hS hT hall => ?_⟩
      have hT0 : Fresh M s.nx m2.s.nx := hT.fst k0
      obtain ⟨M1, g1, g2⟩ := q3 M w hS hT0
      have hle := Sm.le g1 hT0
      have hT1 := Fresh.next hT g1
      have hdn : ∀ t b, Dn th M w ⟨s, r, p :: td⟩ t b → rGet r t = some b → Dn th M1 w m2 t b := fun t b ⟨x, y, mi, e1, e2, e3, e4, e5⟩ e => ⟨x, y, mi, e1, (q1.stab t b e).trans e2, hle.1 _ _ e3, e4.mono (rl_le hle q1.ext) fun _ => rfl, e5⟩
      obtain ⟨M2, g3, g4⟩ := k3 M1 w g1.sim hT1 (fun t b e => by
        rcases q1.new t b e with e1 | e1
        · rcases hall t b e1 with e2 | e2
          · rcases List.mem_cons.1 e2 with e3 | e3
            · right
              obtain ⟨mi, hm, ho⟩ := hS.obj p.2 oa h3
              subst e3
              exact ⟨ot, oa, mi, h1, (q1.stab _ _ e1).trans h3, hle.1 _ _ hm, g2 mi ho, q2⟩
            · exact .inl (q1.td _ e3)
          · exact .inr (hdn t b e2 e1)
        · exact .inl e1)
      exact ⟨M2, Stp.trans g1 g3, g4⟩
/-- What a match says. -/
structure Mtd (th : List (Nat × AO D.E)) (r0 r : Ren) (s : St D.E) (as ts : List (AV D.E)) (s' : St D.E) : Prop where
  ext : Ext r0 r
  inj : Inj r
  all : ∀ t o, aGet th t = some o → ∃ b, rGet r t = some b
  le : s.nx ≤ s'.nx
  sem : ∀ M w, Sim M s.h.get w → Fresh M s.nx s'.nx → ∃ M', Stp s.h.get M w s'.h.get M' w s.nx s'.nx ∧ (∀ l, LR M as l → LR (rl r M') ts l) ∧ Sim (rl r M') (fun t => aGet th t) w ∧
    ∀ t b, rGet r t = some b → ∃ ot oa mi, aGet th t = some ot ∧ s'.h.get b = some oa ∧ M'.pl b = some mi ∧ Flag oa ot
theorem mtch_ok (hD : DataOk D) {r0 r : Ren} {as ts : List (AV D.E)} (hi : Inj r0) (h : (mtch D s r0 th as ts).H (s', r)) : Mtd th r0 r s as ts s' := by
  obtain ⟨m1, h1, h2⟩ := bnd_H.1 h
  obtain ⟨m2, h3, h4⟩ := bnd_H.1 h2
  obtain ⟨h5, h6⟩ := bB_H.1 h4
  have h6 := ret_H.1 h6
  simp only [Prod.mk.injEq] at h6
  obtain ⟨rfl, rfl⟩ := h6
  obtain ⟨q1, q2⟩ := mVs_ok hD h1
  obtain ⟨k1, k2, k0, k3⟩ := mWork_ok hD h3
  have hall : ∀ t o, aGet th t = some o → ∃ b, rGet m2.r t = some b := fun t o ht => by
    have := allL_iff.1 h5 _ (aGet_mem ht)
    exact Option.isSome_iff_exists.1 this
  refine ⟨q1.ext.trans k1, k2 (q1.inj hi), hall, Nat.le_trans q1.le k0, fun M w hS hT => ?_⟩
  obtain ⟨M1, g1, g2⟩ := q2 M w hS (hT.fst k0)
  have hT1 := Fresh.next hT g1
  obtain ⟨M2, g3, g4⟩ := k3 M1 w g1.sim hT1 fun t b e => by
    rcases q1.new t b e with e1 | e1
    · exact .inl (q1.td _ (rGet_mem e1))
    · exact .inl e1
  have hle := Sm.le g3 hT1
  have hS2 := g3.sim
  refine ⟨M2, Stp.trans g1 g3, fun l hl => (g2 l hl).mono (rl_le hle k1), ⟨fun t o ht => ?_, fun t t' o o' mi mi' ht ht' hm hm' hr hr' he => ?_, fun b o v e => ?_, fun t o mi ht hw hm hr j hj => ?_, fun t c xs e mi ht hm hr => ?_, ⟨hS2.glo.1, fun t o mi ht hw hm hr => ?_⟩⟩, fun t b e => ?_⟩
  · obtain ⟨b, hb⟩ := hall t o ht
    obtain ⟨ot, oa, mi, e1, e2, e3, e4, e5⟩ := g4 t b hb
    rw [ht] at e1; cases e1
    exact ⟨mi, rl_at hb e3, e4⟩
  · obtain ⟨b, hb, hm⟩ := rl_some hm
    obtain ⟨b', hb', hm'⟩ := rl_some hm'
    obtain ⟨_, oa, _, _, e2, _⟩ := g4 t b hb
    obtain ⟨_, oa', _, _, e2', _⟩ := g4 t' b' hb'
    have := hS2.inj b b' oa oa' mi mi' e2 e2' hm hm' hr hr' he
    subst this
    exact k2 (q1.inj hi) t t' b hb hb'
  · obtain ⟨hp, v', hc, hv⟩ := hS2.seal_ b o v e
    exact ⟨hp, v', hc, rl_pure hv hp⟩
  · obtain ⟨b, hb, hm⟩ := rl_some hm
    obtain ⟨ot, oa, mi', e1, e2, e3, e4, e5, e6, _⟩ := g4 t b hb
    rw [ht] at e1; cases e1
    exact hS2.sep b oa mi e2 (e5 ▸ hw) hm hr j (e6 mi j hj)
  · obtain ⟨b, hb, hm⟩ := rl_some hm
    obtain ⟨ot, oa, mi', e1, e2, e3, e4, _, _, e7⟩ := g4 t b hb
    rw [ht] at e1; cases e1
    have := e7 c xs e rfl
    subst this
    exact (hS2.roS b c xs e mi e2 hm hr).mono fun _ _ _ h => h
  · obtain ⟨b, hb, hm⟩ := rl_some hm
    obtain ⟨ot, oa, mi', e1, e2, e3, e4, e5, e6, _⟩ := g4 t b hb
    rw [ht] at e1; cases e1
    exact hS2.glo.2 b oa mi e2 (e5 ▸ hw) hm hr
  · obtain ⟨ot, oa, mi, e1, e2, e3, e4, e5⟩ := g4 t b e
    exact ⟨ot, oa, mi, e1, e2, e3, e5⟩
end
end Go.Proofs.YtjdehneddakpnaaGreatDoor.sx
namespace Go.Proofs.YtjdehneddakpnaaGreatDoor.sx
open Go Go.RowKit
section
variable {P : Program} {D : Data} {M M' : Pm D} {w w' : World} {H : Hp D} {s s' : St D.E} {lo : Nat} {m m' : Mt D.E} {th : List (Nat × AO D.E)}
section
variable {f : Nat → Nat}
theorem ren0_VR (hf : ∀ t mi, M.pl t = some mi → M'.pl (f t) = some mi) (hsg : SLe M M') {v : AV D.E} {v' : Value} (h : VR M v v') (ho : ok0 D v = true) : VR M' (ren0 D f v) v' := by
  cases h <;> simp only [ren0] <;> first | (cases ho; done) | skip
  case bool b => exact .bool b
  case lit b => exact .lit b
  case int h => exact .int h
  case num h => exact .num h
  case str h => exact .str h
  case pnil => exact .pnil
  case ptr h hr => exact .ptr (hf _ _ h) hr
  case glob g o => exact .glob g o
  case pix h hr hk hi => exact .pix (hf _ _ h) hr hk hi
  case pel h => exact .pel fun i v e => hsg _ _ _ (h i v e)
  case snil => exact .snil
  case own h hk hr hn hm hc ht => exact .own (hf _ _ h) hk hr hn hm hc ht
  case ownV h hk hr hn hl => exact .ownV (hf _ _ h) hk hr hn hl
  case pre h hk hr hn hm hl hc ht => exact .pre (hf _ _ h) hk hr hn hm hl hc ht
  case preV h hk hr hn hl => exact .preV (hf _ _ h) hk hr hn hl
  case part h hk hr hn h0 hl hm hc => exact .part (hf _ _ h) hk hr hn h0 hl hm hc
  case partZ h hk hn h0 => exact .partZ (hf _ _ h) hk hn h0
  case grow h hr hl hz hs hm hc ht => exact .grow (hf _ _ h) hr hl hz (hs.mono hsg) hm hc ht
  case growV h hr => exact .growV (hf _ _ h) hr
  case sub h hr hc hm => exact .sub (hf _ _ h) hr hc hm
  case subZ => exact .subZ
  case list hs hm hc => exact .list (hs.mono hsg) hm hc
  case listZ => exact .listZ
  case mnil => exact .mnil
  case map h => exact .map (hf _ _ h)
  case nilFunc => exact .nilFunc
  case nilIface => exact .nilIface
theorem ren0_LR (hf : ∀ t mi, M.pl t = some mi → M'.pl (f t) = some mi) (hsg : SLe M M') {l : List (AV D.E)} {l' : List Value} (h : LR M l l') (ho : allL (ok0 D) l = true) : LR M' (mapL (ren0 D f) l) l' := by
  rw [mapL_eq]
  refine ⟨by simp [h.1], fun i v v' e e' => ?_⟩
  rw [List.getElem?_map] at e
  cases hq : l[i]? with
  | none => rw [hq] at e; cases e
  | some u =>
    rw [hq] at e; cases e
    exact ren0_VR hf hsg (h.2 i u v' hq e') (allL_iff.1 ho u (List.mem_of_getElem? hq))
theorem renV_VR (hf : ∀ t mi, M.pl t = some mi → M'.pl (f t) = some mi) (hsg : SLe M M') {v : AV D.E} {v' : Value} (h : VR M v v') (ho : okV D v = true) : VR M' (renV D f v) v' := by
  cases v <;> simp only [renV] <;> (try exact ren0_VR hf hsg h rfl)
  case agg cs => cases h with
    | agg hl hh => exact (VR.aggL (ren0_LR hf hsg ⟨hl, hh⟩ ho) :)
  case tuple cs => cases h with
    | tuple hl hh => exact (VR.tupL (ren0_LR hf hsg ⟨hl, hh⟩ ho) :)
  case func g xs ys =>
    obtain ⟨o1, o2⟩ := and2 ho
    cases h with
    | func _ hl hh hl2 hh2 =>
      have l1 := ren0_LR hf hsg ⟨hl, hh⟩ o1
      have l2 := ren0_LR hf hsg ⟨hl2, hh2⟩ o2
      exact .func _ l1.1 l1.2 l2.1 l2.2
  case iface t x => cases h with
    | iface _ hx => exact .iface _ (ren0_VR hf hsg hx ho)
theorem renV_LR (hf : ∀ t mi, M.pl t = some mi → M'.pl (f t) = some mi) (hsg : SLe M M') {l : List (AV D.E)} {l' : List Value} (h : LR M l l') (ho : allL (okV D) l = true) : LR M' (mapL (renV D f) l) l' := by
  rw [mapL_eq]
  refine ⟨by simp [h.1], fun i v v' e e' => ?_⟩
  rw [List.getElem?_map] at e
  cases hq : l[i]? with
  | none => rw [hq] at e; cases e
  | some u =>
    rw [hq] at e; cases e
    exact renV_VR hf hsg (h.2 i u v' hq e') (allL_iff.1 ho u (List.mem_of_getElem? hq))
theorem renVV_VR (hf : ∀ t mi, M.pl t = some mi → M'.pl (f t) = some mi) (hsg : SLe M M') {v : AV D.E} {v' : Value} (h : VR M v v') (ho : okVV D v = true) : VR M' (renVV D f v) v' := by
  cases v <;> simp only [renVV] <;> (try exact renV_VR hf hsg h ho)
  case tuple cs => cases h with
    | tuple hl hh => exact (VR.tupL (renV_LR hf hsg ⟨hl, hh⟩ ho) :)
theorem renO_OR (hf : ∀ t mi, M.pl t = some mi → M'.pl (f t) = some mi) (hsg : SLe M M') {o : AO D.E} {mi : MI} (hD : DataOk D) (h : OR M o mi w) (ho : okO D o = true) : OR M' (renO D f o) mi w := by
  cases o with
  | cells cs e ro => exact ⟨h.1, h.2.map fun l hl => renV_LR hf hsg hl ho⟩
  | arr c xs e ro => exact ⟨h.1, h.2.1, fun hr => (h.2.2 hr).map fun l hl => ⟨hl.1, fun i v v' e1 e2 => (hl.2 i v v' e1 e2).pure (rowsC_pure hD (List.mem_of_getElem? e1)).2 hsg⟩⟩
  | tok c e => exact h
end
theorem renO_wr {f : Nat → Nat} (o : AO D.E) : (renO D f o).wr = o.wr := by cases o <;> rfl
theorem renO_mine {f : Nat → Nat} (o : AO D.E) (mi : MI) (j : Nat) : (renO D f o).mine mi j ↔ o.mine mi j := by cases o <;> exact Iff.rfl
theorem renO_arr {f : Nat → Nat} {o : AO D.E} {c : Nat} {xs : List (D.E c)} {e : TypeId} {ro : Bool} (h : renO D f o = .arr c xs e ro) : o = .arr c xs e ro := by cases o <;> first | exact h | cases h
/-- a contract holds -/
def ConOk (P : Program) (D : Data) (k : Con D) : Prop := (∃ fn c, P.funcs[k.f]? = some fn ∧ fn.body = some c) ∧ ∀ y, k.pre y → ∀ (M : Pm D) (A : Array Value) (w : World), LR M (k.args y) A.toList → Sim M (fun t => aGet (k.heap y) t) w → TF M k.nx0 →
  ∀ R : Ending → World → Prop, (∀ M' v' w', VR M' (k.res y) v' → Stp (fun t => aGet (k.heap y) t) M w (fun t => aGet (k.heap' y) t) M' w' k.nx0 k.nx1 → R (.returned v') w') → Calls P k.f A w R
/-- the first piece that comes to a name -/
noncomputable def fstP (f : Nat → Nat) (b : Nat) : List (Nat × AO D.E) → Option (AO D.E)
  | [] => none
  | p :: l => if f p.1 = b then some (renO D f p.2) else fstP f b l
theorem fstP_some {f : Nat → Nat} {b : Nat} {o' : AO D.E} : ∀ {l : List (Nat × AO D.E)}, fstP f b l = some o' → ∃ t o, aGet l t = some o ∧ f t = b ∧ o' = renO D f o
  | [], h => by cases h
  | (t, o) :: l, h => by
    unfold fstP at h
    by_cases e : f t = b
    · rw [if_pos e] at h; cases h
      exact ⟨t, o, by rw [aGet_cons, if_pos rfl], e, rfl⟩
    · rw [if_neg e] at h
      obtain ⟨t2, o2, h1, h2, h3⟩ := fstP_some h
      refine ⟨t2, o2, ?_, h2, h3⟩
      rw [aGet_cons, if_neg (fun q => by subst q; exact e h2)]
      exact h1
theorem inP_get {f : Nat → Nat} : ∀ {l : List (Nat × AO D.E)} {h h' : T (AO D.E)}, (inP D f l h).H h' → ∀ b, h'.get b = match fstP f b l with
    | some o => some o
    | none => h.get b
  | [], h, h', hh, b => by cases ret_H.1 (show (C.ret h).H h' from hh); rfl
  | p :: l, h, h', hh, b => by
    obtain ⟨h1, g1, g2⟩ := bnd_H.1 (show (bnd (inP D f l h) fun h => ofO (h.put (f p.1) (some (renO D f p.2)))).H h' from hh)
    have ih := inP_get g1 b
    rw [T.put_spec _ _ _ _ (ofO_H.1 g2) b]
    show _ = match (if f p.1 = b then some (renO D f p.2) else fstP f b l) with | some o => some o | none => h.get b
    by_cases e : b = f p.1
    · rw [if_pos e, if_pos e.symm]
    · rw [if_neg e, if_neg (fun q => e q.symm)]
      exact ih
theorem outP_get {r : Ren} : ∀ {l : List (Nat × AO D.E)} {h h' : T (AO D.E)}, (outP D r l h).H h' → ∀ b, ((∃ p ∈ l, rGet r p.1 = some b) → h'.get b = none) ∧ ((¬ ∃ p ∈ l, rGet r p.1 = some b) → h'.get b = h.get b)
  | [], h, h', hh, b => by cases ret_H.1 (show (C.ret h).H h' from hh); exact ⟨fun ⟨p, hp, _⟩ => by simp at hp, fun _ => rfl⟩
  | p :: l, h, h', hh, b => by
    obtain ⟨c, g1, g2⟩ := bnd_H.1 (show (bnd (ofO (rGet r p.1)) fun b => bnd (ofO (h.put b none)) fun h => outP D r l h).H h' from hh)
    obtain ⟨h1, g3, g4⟩ := bnd_H.1 g2
    rw [ofO_H] at g1 g3
    have ih := outP_get g4 b
    have hp := T.put_spec _ _ _ _ g3 b
    by_cases hx : ∃ q ∈ l, rGet r q.1 = some b
    · exact ⟨fun _ => ih.1 hx, fun hn => absurd (let ⟨q, h1, h2⟩ := hx; ⟨q, List.mem_cons_of_mem _ h1, h2⟩) hn⟩
    · rw [ih.2 hx, hp]
      by_cases e : b = c
      · subst e
        rw [if_pos rfl]
        exact ⟨fun _ => rfl, fun hn => absurd ⟨p, List.mem_cons_self, g1⟩ hn⟩
      · rw [if_neg e]
        refine ⟨fun ⟨q, h1, h2⟩ => ?_, fun _ => rfl⟩
        rcases List.mem_cons.1 h1 with rfl | h1
        · rw [g1] at h2; cases h2; exact absurd rfl e
        · exact absurd ⟨q, h1, h2⟩ hx
theorem below_lt {n : Nat} {l : List (Nat × AO D.E)} (h : below D n l = true) {t : Nat} {o : AO D.E} (ht : aGet l t = some o) : t < n := ble_nat.1 (allL_iff.1 h _ (aGet_mem ht))
theorem callC_ok (hD : DataOk D) {k : Con D} {y : k.Y} {args : List (AV D.E)} {v : AV D.E} (hk : ConOk P D k) (h : (callC D k y args s).H (v, s')) : CallOk P D k.f args s v s' := by
  obtain ⟨hpre, h1⟩ := need_H.1 h
  obtain ⟨h2, h3⟩ := bB_H.1 h1
  obtain ⟨h4, h5⟩ := and2 h2
  obtain ⟨hbel, hnx⟩ := and2 h4
  obtain ⟨hres, hok⟩ := and2 h5
  have hnx := ble_nat.1 hnx
  obtain ⟨s1, r, h6, h7⟩ := bnd2_H.1 h3
  obtain ⟨h2', h8, h9⟩ := bnd_H.1 h7
  obtain ⟨h3', h10, h11⟩ := bnd_H.1 h9
  have h11 := ret_H.1 h11
  simp only [Prod.mk.injEq] at h11
  obtain ⟨rfl, rfl⟩ := h11
  have hm := mtch_ok hD (fun t t' b e => by cases (show none = some b from e)) h6
  have hle := hm.le
  refine ⟨by show s.nx ≤ s1.nx + (k.nx1 - k.nx0); omega, hk.1, fun M A w hl hS hfr R hR => ?_⟩
  have hfr : Fresh M s.nx (s1.nx + (k.nx1 - k.nx0)) := hfr
  obtain ⟨M1, g1, g2, g3, g4⟩ := hm.sem M w hS (hfr.fst (by omega))
  have hfr1 : Fresh M1 s1.nx (s1.nx + (k.nx1 - k.nx0)) := hfr.next g1
  have hr0 : ∀ t, k.nx0 ≤ t → rGet r t = none := fun t ht => by
    cases hq : rGet r t with
    | none => rfl
    | some b =>
      obtain ⟨ot, oa, mi, e1, _⟩ := g4 t b hq
      have := below_lt hbel e1
      omega
  have hTF : TF (rl r M1) k.nx0 := fun t ht => by
    show (rGet r t).bind M1.pl = none
    rw [hr0 t ht]; rfl
  refine hk.2 y hpre.out (rl r M1) A w (g2 _ hl) g3 hTF R fun M' v' w' hv hst => ?_
  let f := rn r k.nx0 s1.nx
  have f_old : ∀ t b, rGet r t = some b → f t = b := fun t b e => by
    show Option.rec (motive := fun _ => Nat) (s1.nx + (t - k.nx0)) (fun b => b) (rGet r t) = b
    rw [e]
  have f_new : ∀ t, k.nx0 ≤ t → f t = s1.nx + (t - k.nx0) := fun t e => by
    show Option.rec (motive := fun _ => Nat) (s1.nx + (t - k.nx0)) (fun b => b) (rGet r t) = _
    rw [hr0 t e]
  let M3 : Pm D := ⟨fun b => if s1.nx ≤ b ∧ b < s1.nx + (k.nx1 - k.nx0) then M'.pl (k.nx0 + (b - s1.nx)) else M1.pl b, M'.sg⟩
  have hf : ∀ t mi, M'.pl t = some mi → M3.pl (f t) = some mi := fun t mi e => by
    by_cases hr : k.nx0 ≤ t ∧ t < k.nx1
    · rw [f_new t hr.1]
      show (if _ then _ else _) = _
      rw [if_pos (by omega), show k.nx0 + (s1.nx + (t - k.nx0) - s1.nx) = t by omega]
      exact e
    · rw [hst.ext t hr] at e
      obtain ⟨b, e1, e2⟩ := rl_some e
      rw [f_old t b e1]
      show (if _ then _ else _) = _
      by_cases hb : s1.nx ≤ b ∧ b < s1.nx + (k.nx1 - k.nx0)
      · rw [hfr1 b hb.1 hb.2] at e2; cases e2
      · rw [if_neg hb]; exact e2
  have hsg : SLe M' M3 := fun _ _ _ e => e
  refine hR M3 v' w' (renVV_VR hf hsg hv hres) (g1.trans ?_)
  -- the frame
  classical
  let dom : Nat → Prop := fun b => ∃ p ∈ k.heap y, rGet r p.1 = some b
  let K : Hp D := fun b => if dom b then s1.h.get b else none
  let K' : Hp D := fun b => fstP f b (k.heap' y)
  have hdom : ∀ t b, rGet r t = some b → dom b := fun t b e => by
    obtain ⟨ot, _, _, e1, _⟩ := g4 t b e
    exact ⟨(t, ot), aGet_mem e1, e⟩
  have hK : ∀ t b, rGet r t = some b → K b = s1.h.get b := fun t b e => if_pos (hdom t b e)
  have hwrt : ∀ c, Wrt (fun t => aGet (k.heap y) t) (rl r M1) c → Wrt K M1 c := fun c ⟨t, o, mi, e1, e2, e3, e4, e5⟩ => by
    obtain ⟨b, e6, e7⟩ := rl_some e3
    obtain ⟨ot, oa, mi', q1, q2, q3, q4, _⟩ := g4 t b e6
    rw [show aGet (k.heap y) t = some o from e1] at q1
    cases q1
    exact ⟨b, oa, mi, by rw [hK t b e6]; exact q2, q4 ▸ e2, e7, e4, e5⟩
  have hstK : Stp K M1 w K' M3 w' s1.nx (s1.nx + (k.nx1 - k.nx0)) := by
    have hobj : ∀ b o', K' b = some o' → ∃ t o mi, aGet (k.heap' y) t = some o ∧ f t = b ∧ o' = renO D f o ∧ M'.pl t = some mi ∧ M3.pl b = some mi ∧ OR M' o mi w' := fun b o' hb => by
      obtain ⟨t, o, e1, e2, e3⟩ := fstP_some hb
      obtain ⟨mi, e4, e5⟩ := hst.sim.obj t o e1
      exact ⟨t, o, mi, e1, e2, e3, e4, by rw [← e2]; exact hf t mi e4, e5⟩
    refine ⟨⟨fun b o' hb => ?_, fun b b' o o' mi mi' hb hb' e e' hr hr' he => ?_, fun b o v e => ?_, fun b o mi hb hw e hr j hj => ?_, fun b c xs e mi hb hmi hr => ?_, ⟨hst.sim.glo.1, fun b o mi hb hw e hr => ?_⟩⟩, fun b hb => ?_, fun b o v e => hst.sgm b o v e, fun b o e => ?_, hst.size, fun c hc hn => hst.keep c hc fun hx => hn (hwrt c hx), fun b o mi hb e hr => ?_, fun b hb => ?_, hst.os, hst.tape, hst.output, by omega⟩
    · obtain ⟨t, o, mi, e1, e2, rfl, e4, e5, e6⟩ := hobj b o' hb
      exact ⟨mi, e5, renO_OR hf hsg hD e6 (allL_iff.1 hok _ (aGet_mem e1))⟩
    · obtain ⟨t, p, q, e1, e2, _, e4, e5, _⟩ := hobj b o hb
      obtain ⟨t', p', q', e1', e2', _, e4', e5', _⟩ := hobj b' o' hb'
      rw [e] at e5; cases e5
      rw [e'] at e5'; cases e5'
      have := hst.sim.inj t t' p p' mi mi' e1 e1' e4 e4' hr hr' he
      rw [← e2, ← e2', this]
    · obtain ⟨hp, v', hc, hvv⟩ := hst.sim.seal_ b o v e
      exact ⟨hp, v', hc, hvv.pure hp hsg⟩
    · obtain ⟨t, p, q, e1, e2, rfl, e4, e5, _⟩ := hobj b o hb
      rw [e] at e5; cases e5
      exact hst.sim.sep t p mi e1 (by rw [← renO_wr (f := f)]; exact hw) e4 hr j ((renO_mine p mi j).1 hj)
    · obtain ⟨t, p, q, e1, e2, e3, e4, e5, _⟩ := hobj b _ hb
      rw [hmi] at e5; cases e5
      have := renO_arr e3.symm
      subst this
      exact hst.sim.roS t c xs e mi e1 e4 hr
    · obtain ⟨t, p, q, e1, e2, rfl, e4, e5, _⟩ := hobj b o hb
      rw [e] at e5; cases e5
      exact hst.sim.glo.2 t p mi e1 (by rw [← renO_wr (f := f)]; exact hw) e4 hr
    · exact if_neg hb
    · rcases hst.sborn b o e with h12 | h12 | h12
      · exact .inl h12
      · exact .inr (.inl h12)
      · exact .inr (.inr (hwrt b h12))
    · obtain ⟨t, p, q, e1, e2, rfl, e4, e5, _⟩ := hobj b o hb
      rw [e] at e5; cases e5
      rcases hst.born t p mi e1 e4 hr with h12 | ⟨t0, p0, mi0, i1, i2, i3, i4, i5⟩
      · exact .inl h12
      · obtain ⟨b0, i6, i7⟩ := rl_some i2
        obtain ⟨ot, oa, mi', q1, q2, q3, q4, _⟩ := g4 t0 b0 i6
        rw [show aGet (k.heap y) t0 = some p0 from i1] at q1
        cases q1
        exact .inr ⟨b0, oa, mi0, by rw [hK t0 b0 i6]; exact q2, i7, i3, i4, fun hx => q4 ▸ i5 (by rw [← renO_wr (f := f)]; exact hx)⟩
    · obtain ⟨o', ho'⟩ := Option.ne_none_iff_exists'.1 hb
      obtain ⟨t, p, q, e1, e2, _, e4, e5, _⟩ := hobj b o' ho'
      rcases hst.dom t (by show aGet (k.heap' y) t ≠ none; rw [e1]; simp) with h12 | h12
      · obtain ⟨o0, ho0⟩ := Option.ne_none_iff_exists'.1 h12
        obtain ⟨b', hb'⟩ := hm.all t o0 ho0
        obtain ⟨ot, oa, mi', q1, q2, q3, q4, _⟩ := g4 t b' hb'
        left
        rw [← e2, f_old t b' hb', hK t b' hb', q2]
        simp
      · right
        rw [← e2, f_new t h12.1]
        omega
  refine hstK.frame g1.sim hfr1 (fun b o hb => ?_) fun b => ?_
  · by_cases hd : dom b
    · rw [show K b = s1.h.get b from if_pos hd] at hb; exact hb
    · rw [show K b = none from if_neg hd] at hb; cases hb
  · rw [inP_get h10 b]
    show (match K' b with | some o => some o | none => h2'.get b) = _
    cases hk' : K' b with
    | some o => rw [if_neg (by simp)]
    | none =>
      by_cases hd : dom b
      · rw [(outP_get h8 b).1 hd]
        show none = _
        rw [show K b = s1.h.get b from if_pos hd]
        by_cases hn : s1.h.get b = none
        · rw [if_pos ⟨hn, rfl⟩, hn]
        · rw [if_neg (fun e => hn e.1)]
      · rw [(outP_get h8 b).2 hd, if_pos ⟨if_neg hd, rfl⟩]
theorem caT_ok (hD : DataOk D) {tab : List (Con D)} (ht : ∀ k ∈ tab, ConOk P D k) : CaOk P D (caT D tab) := by
  intro f args s v s' h
  induction tab with
  | nil => exact (h : False).elim
  | cons k tab ih =>
    have ih := ih fun k hk => ht k (List.mem_cons_of_mem _ hk)
    rcases bE_H.1 (show (bE (Nat.beq k.f f) (bE (isFail (k.inp args s)) (caT D tab f args s) (bnd (k.inp args s) fun y => callC D k y args s)) (caT D tab f args s)).H (v, s') from h) with ⟨h1, h2⟩ | ⟨_, h2⟩
    · rcases bE_H.1 h2 with ⟨_, h3⟩ | ⟨_, h3⟩
      · exact ih h3
      · obtain ⟨y, _, h4⟩ := bnd_H.1 h3
        obtain rfl := beq_nat.1 h1
        exact callC_ok hD (ht k List.mem_cons_self) h4
    · exact ih h2
end
end Go.Proofs.YtjdehneddakpnaaGreatDoor.sx
namespace Go.Proofs.YtjdehneddakpnaaGreatDoor.sx
open Go Go.RowKit
section
variable {P : Program} {D : Data} {M M' : Pm D} {w w' : World} {H H' : Hp D} {s s' : St D.E} {φ φ' : T (AV D.E)} {a : Act} {N : Nat} {m m' : Mt D.E} {th : List (Nat × AO D.E)}
variable {H0 : Hp D} {M0 : Pm D} {w0 : World} {base : Nat}
/-- what has come of the memory since a function's beginning -/
structure Cst (H0 : Hp D) (M0 : Pm D) (w0 : World) (H : Hp D) (M : Pm D) (w : World) : Prop where
  sgm : SLe M0 M
  sborn : ∀ b o, M.sg b o ≠ none → M0.sg b o ≠ none ∨ w0.heap.size ≤ b ∨ Wrt H0 M0 b
  size : w0.heap.size ≤ w.heap.size
  keep : ∀ c, c < w0.heap.size → ¬ Wrt H0 M0 c → w.heap[c]? = w0.heap[c]?
  born : ∀ b o mi, H b = some o → M.pl b = some mi → mi.real = true → w0.heap.size ≤ mi.blk ∨ ∃ b0 o0 mi0, H0 b0 = some o0 ∧ M0.pl b0 = some mi0 ∧ mi0.real = true ∧ mi0.blk = mi.blk ∧ (o.wr = true → o0.wr = true)
  os : w.os = w0.os
  tape : w.tape = w0.tape
  output : w.output = w0.output
theorem Cst.refl (H0 : Hp D) (M0 : Pm D) (w0 : World) : Cst H0 M0 w0 H0 M0 w0 := ⟨fun _ _ _ h => h, fun _ _ h => .inl h, Nat.le_refl _, fun _ _ _ => rfl, fun b o mi hb hm hr => .inr ⟨b, o, mi, hb, hm, hr, rfl, id⟩, rfl, rfl, rfl⟩
theorem Cst.wrt (h : Cst H0 M0 w0 H M w) {c : Nat} (hc : Wrt H M c) : w0.heap.size ≤ c ∨ Wrt H0 M0 c := by
  obtain ⟨b, o, mi, hb, ho, hm, hr, rfl⟩ := hc
  rcases h.born b o mi hb hm hr with hs | ⟨b0, o0, mi0, hb0, hm0, hr0, he, hw⟩
  · exact .inl hs
  · exact .inr ⟨b0, o0, mi0, hb0, hw ho, hm0, hr0, he⟩
theorem Cst.stp {lo hi : Nat} (h : Cst H0 M0 w0 H M w) (k : Stp H M w H' M' w' lo hi) : Cst H0 M0 w0 H' M' w' := by
  refine ⟨fun b o v e => k.sgm _ _ _ (h.sgm _ _ _ e), fun b o hb => ?_, Nat.le_trans h.size k.size, fun c hc hn => ?_, fun b o mi hb hm hr => ?_, k.os.trans h.os, k.tape.trans h.tape, k.output.trans h.output⟩
  · rcases k.sborn b o hb with h3 | h3 | h3
    · exact h.sborn b o h3
    · exact .inr (.inl (Nat.le_trans h.size h3))
    · exact .inr (h.wrt h3)
  · rw [k.keep c (Nat.lt_of_lt_of_le hc h.size) fun hw => ?_, h.keep c hc hn]
    rcases h.wrt hw with h3 | h3
    · omega
    · exact hn h3
  · rcases k.born b o mi hb hm hr with hs | ⟨b1, o1, mi1, hb1, hm1, hr1, he1, hw1⟩
    · exact .inl (Nat.le_trans h.size hs)
    · rcases h.born b1 o1 mi1 hb1 hm1 hr1 with hs | ⟨b0, o0, mi0, hb0, hm0, hr0, he, hw⟩
      · exact .inl (he1 ▸ hs)
      · exact .inr ⟨b0, o0, mi0, hb0, hm0, hr0, he.trans he1, fun hx => hw (hw1 hx)⟩
/-- a place in a function -/
structure AtS (H0 : Hp D) (M0 : Pm D) (w0 : World) (base N : Nat) (s : St D.E) (φ : T (AV D.E)) (M : Pm D) (a : Act) (w : World) : Prop where
  sim : Sim M s.h.get w
  fr : FR M φ a N
  tf : TF M s.nx
  cst : Cst H0 M0 w0 s.h.get M w
  per : ∀ t mi, t < base → M.pl t = some mi → M0.pl t = some mi
  le : base ≤ s.nx
theorem AtS.step {a' : Act} (h : AtS H0 M0 w0 base N s φ M a w) (k : Stp s.h.get M w s'.h.get M' w' s.nx s'.nx) (hf : FR M' φ' a' N) : AtS H0 M0 w0 base N s' φ' M' a' w' :=
  ⟨k.sim, hf, h.tf.stp k, h.cst.stp k, fun t mi ht e => h.per t mi ht (by rw [← k.ext t (by have := h.le; omega)]; exact e), Nat.le_trans h.le k.le⟩
theorem sealX_ok (hD : DataOk D) {v v2 : AV D.E} (h : (sealX D s v).H (v2, s')) (hS : Sim M s.h.get w) : ∃ M', Stp s.h.get M w s'.h.get M' w s.nx s'.nx ∧ ∀ val, VR M v val → VR M' v2 val := by
  have triv : ∀ {v v2 : AV D.E}, (C.ret (v, s)).H (v2, s') → ∃ M', Stp s.h.get M w s'.h.get M' w s.nx s'.nx ∧ ∀ val, VR M v val → VR M' v2 val := fun e => by
    cases ret_H.1 e
    exact ⟨M, .refl hS _, fun _ h => h⟩
  cases v <;> simp only [sealX] at h <;> (try exact triv h)
  case own b k n =>
    obtain ⟨a, m1, h1, h2⟩ := bnd2_H.1 h
    cases ret_H.1 h2
    obtain ⟨q1, q2, q3⟩ := sealB_ok hD h1
    obtain ⟨M', g1, g2, mi, g3, g4, g5, g6⟩ := q3 M w hS
    exact ⟨M', g1, fun v hv => (listOf g2 g3 g4 g5 g6).1 hv⟩
  case pre b k n =>
    obtain ⟨a, m1, h1, h2⟩ := bnd2_H.1 h
    cases ret_H.1 h2
    obtain ⟨q1, q2, q3⟩ := sealB_ok hD h1
    obtain ⟨M', g1, g2, mi, g3, g4, g5, g6⟩ := q3 M w hS
    exact ⟨M', g1, fun v hv => (listOf g2 g3 g4 g5 g6).2.1 hv⟩
  case part b k o n =>
    obtain ⟨a, m1, h1, h2⟩ := bnd2_H.1 h
    cases ret_H.1 h2
    obtain ⟨q1, q2, q3⟩ := sealB_ok hD h1
    obtain ⟨M', g1, g2, mi, g3, g4, g5, g6⟩ := q3 M w hS
    exact ⟨M', g1, fun v hv => (listOf g2 g3 g4 g5 g6).2.2 o hv⟩
  case grow c xs b =>
    cases ret_H.1 h
    refine ⟨M, .refl hS _, fun v hv => ?_⟩
    cases hv with
    | grow h hr hl hz hs hm hc ht => exact .list hs hm hc
    | growV h hr => exact .listZ
theorem concI_VR {k : IntKind} {x : Int} : ∀ {n : Nat} {v : AV D.E}, (concI D k x n).H v → ∀ (M : Pm D) val, VR M (.int k x) val → VR M v val
  | 0, v, h, M, val, hv => by
    obtain ⟨h1, h2⟩ := ask_H.1 (show (ask (ieq x zI) (.ret (.num k zI))).H v from h)
    cases ret_H.1 h2
    have h1 : x = zI := by simpa [ieq] using h1
    subst h1
    cases hv
    exact .num (by assumption)
  | n + 1, v, h, M, val, hv => by
    rcases split_H.1 (show (C.split (ieq x (.ofNat (n + 1))) (.ret (.num k (.ofNat (n + 1)))) (concI D k x n)).H v from h) with ⟨h1, h2⟩ | ⟨_, h2⟩
    · cases ret_H.1 h2
      have h1 : x = .ofNat (n + 1) := by simpa [ieq] using h1
      subst h1
      cases hv
      exact .num (by assumption)
    · exact concI_VR h2 M val hv
theorem fact0_VR {v : AV D.E} {val : Value} (h : VR M v val) : fact0 D v := by
  cases h <;> simp only [fact0] <;> (try trivial)

  case str l h => exact decide_eq_true (show (l.length : Int) ≤ 9223372036854775807 by omega)
  case own hn hm hc ht => rw [hn]; simp [ile, zI]; omega
  case ownV hr hn hl => rw [hn]; simp [ile, zI]
  case grow c b cap xs mi hpl hr hl hz hs hm hc ht => exact decide_eq_true (show (xs.length : Int) ≤ 9223372036854775807 by omega)
  case list c b o cap xs hs hm hc => exact decide_eq_true (show (xs.length : Int) ≤ 9223372036854775807 by omega)
theorem factL_LR : ∀ {l : List (AV D.E)} {l' : List Value}, LR M l l' → factL D l
  | [], _, _ => trivial
  | v :: l, l', h => by
    obtain ⟨v', r, _, hv, hr⟩ := h.uncons
    exact ⟨fact0_VR hv, factL_LR hr⟩
theorem factV_VR {v : AV D.E} {val : Value} (h : VR M v val) : factV D v := by
  cases v <;> simp only [factV] <;> (try exact fact0_VR h)
  case agg l => cases h with
    | agg hl hh => exact factL_LR (l' := _) ⟨hl, hh⟩
  case tuple l => cases h with
    | tuple hl hh => exact factL_LR (l' := _) ⟨hl, hh⟩
theorem put_FR {t : Nat} {v v2 : AV D.E} (hf : FR M φ a N) (hv : ∀ val, VR M v val → VR M v2 val) (h : φ.get t = some v) (hp : φ.put t (some v2) = some φ') : FR M φ' a N := by
  refine ⟨fun x u hx => ?_, hf.size, hf.defers⟩
  rw [T.put_spec _ _ _ _ hp x] at hx
  by_cases e : x = t
  · subst e; rw [if_pos rfl] at hx; cases hx; exact hv _ (hf.at_ x v h)
  · rw [if_neg e] at hx; exact hf.at_ x u hx
theorem put_FR2 {t : Nat} {v v2 : AV D.E} (hf : FR M φ a N) (hM : Le M M') (hv : ∀ val, VR M v val → VR M' v2 val) (h : φ.get t = some v) (hp : φ.put t (some v2) = some φ') : FR M' φ' a N := by
  refine ⟨fun x u hx => ?_, hf.size, hf.defers⟩
  rw [T.put_spec _ _ _ _ hp x] at hx
  by_cases e : x = t
  · subst e; rw [if_pos rfl] at hx; cases hx; exact hv _ (hf.at_ x v h)
  · rw [if_neg e] at hx; exact (hf.at_ x u hx).mono hM
theorem hintC_ok (hD : DataOk D) {h : Hint} (hh : (hintC D h s φ).H (s', φ')) (hA : AtS H0 M0 w0 base N s φ M a w) : ∃ M', AtS H0 M0 w0 base N s' φ' M' a w := by
  cases h with
  | lock t =>
    obtain ⟨v, h1, h2⟩ := bnd_H.1 (show (bnd (ofO (φ.get t)) fun v => bnd2 (sealX D s v) fun v s => bnd (ofO (φ.put t (some v))) fun φ => .ret (s, φ)).H (s', φ') from hh)
    obtain ⟨v2, s2, h3, h4⟩ := bnd2_H.1 h2
    obtain ⟨φ2, h5, h6⟩ := bnd_H.1 h4
    cases ret_H.1 h6
    obtain ⟨M', g1, g2⟩ := sealX_ok hD h3 hA.sim
    exact ⟨M', hA.step g1 (put_FR2 hA.fr (g1.Le hA.tf.fresh) g2 (ofO_H.1 h1) (ofO_H.1 h5))⟩
  | conc t n =>
    obtain ⟨v, h1, h2⟩ := bnd_H.1 (show (bnd (ofO (φ.get t)) fun v => bnd (concV D v n) fun v => bnd (ofO (φ.put t (some v))) fun φ => .ret (s, φ)).H (s', φ') from hh)
    obtain ⟨v2, h3, h4⟩ := bnd_H.1 h2
    obtain ⟨φ2, h5, h6⟩ := bnd_H.1 h4
    cases ret_H.1 h6
    refine ⟨M, hA.step (.refl hA.sim _) (put_FR hA.fr (fun val hv => ?_) (ofO_H.1 h1) (ofO_H.1 h5))⟩
    cases v <;> simp only [concV] at h3 <;> (try (cases ret_H.1 h3; exact hv))
    exact concI_VR h3 M val hv
  | fact t =>
    cases ret_H.1 (show (C.ret (s, φ)).H (s', φ') from hh)
    exact ⟨M, hA⟩
theorem hinted_ok (hD : DataOk D) {id : Nat} {K : St D.E → T (AV D.E) → Prop} : ∀ {l : List (Nat × Hint)} {s : St D.E} {φ : T (AV D.E)} {M : Pm D}, hinted D l id s φ K → AtS H0 M0 w0 base N s φ M a w → ∃ s' φ' M', K s' φ' ∧ AtS H0 M0 w0 base N s' φ' M' a w
  | [], s, φ, M, h, hA => ⟨s, φ, M, h, hA⟩
  | p :: l, s, φ, M, h, hA => by
    have h' : cond (Nat.beq p.1 id) (hintF D p.2 φ ((hintC D p.2 s φ).wp fun q => hinted D l id q.1 q.2 K)) (hinted D l id s φ K) := h
    cases hq : Nat.beq p.1 id with
    | false => rw [hq] at h'; exact hinted_ok hD h' hA
    | true =>
      rw [hq] at h'
      have h2 : (hintC D p.2 s φ).wp fun q => hinted D l id q.1 q.2 K := by
        cases hp : p.2 with
        | fact t =>
          rw [hp] at h'
          have h3 : Option.rec (motive := fun _ => Prop) ((hintC D (.fact t) s φ).wp fun q => hinted D l id q.1 q.2 K) (fun v => factV D v → (hintC D (.fact t) s φ).wp fun q => hinted D l id q.1 q.2 K) (φ.get t) := h'
          cases hg : φ.get t with
          | none => rw [hg] at h3; exact h3
          | some v => rw [hg] at h3; exact h3 (factV_VR (hA.fr.at_ t v hg))
        | lock t => rw [hp] at h'; exact h'
        | conc t n => rw [hp] at h'; exact h'
      obtain ⟨⟨s2, φ2⟩, h3, h4⟩ := wp_wit h2
      obtain ⟨M2, hA2⟩ := hintC_ok hD h3 hA
      exact hinted_ok hD h4 hA2
theorem putP_get : ∀ {l : List (Nat × AO D.E)} {h h' : T (AO D.E)}, (putP D l h).H h' → ∀ b, h'.get b = match aGet l b with
    | some o => some o
    | none => h.get b
  | [], h, h', hh, b => by cases ret_H.1 (show (C.ret h).H h' from hh); rfl
  | (t, o) :: l, h, h', hh, b => by
    obtain ⟨h1, g1, g2⟩ := bnd_H.1 (show (bnd (putP D l h) fun h => ofO (h.put t (some o))).H h' from hh)
    have ih := putP_get g1 b
    rw [T.put_spec _ _ _ _ (ofO_H.1 g2) b, aGet_cons]
    by_cases e : b = t
    · rw [if_pos e, if_pos e.symm]
    · rw [if_neg e, if_neg (fun q => e q.symm)]
      exact ih
theorem putP_nil {l : List (Nat × AO D.E)} {h' : T (AO D.E)} (hh : (putP D l .nil).H h') : h'.get = fun b => aGet l b := by
  funext b
  rw [putP_get hh b, T.get_nil]
  cases aGet l b <;> rfl
theorem fixed_get {l : List (Nat × AO D.E)} : (∀ t o, aGet l t = some o → t < base → rGet (fixed D base l) t = some t) ∧ ∀ t b, rGet (fixed D base l) t = some b → b = t := by
  induction l with
  | nil => exact ⟨fun t o h => (by cases (show none = some o from h)), fun t b h => (by cases (show none = some b from h))⟩
  | cons p l ih =>
    obtain ⟨x, o0⟩ := p
    have e : fixed D base ((x, o0) :: l) = cond (Nat.ble (x + 1) base) ((x, x) :: fixed D base l) (fixed D base l) := rfl
    rw [e]
    cases hq : Nat.ble (x + 1) base with
    | true =>
      refine ⟨fun t o h ht => ?_, fun t b h => ?_⟩
      · show rGet ((x, x) :: fixed D base l) t = some t
        rw [rGet_cons]
        by_cases ex : x = t
        · rw [if_pos ex, ex]
        · rw [if_neg ex]
          rw [aGet_cons, if_neg ex] at h
          exact ih.1 t o h ht
      · have h : rGet ((x, x) :: fixed D base l) t = some b := h
        rw [rGet_cons] at h
        by_cases ex : x = t
        · rw [if_pos ex] at h; cases h; exact ex
        · rw [if_neg ex] at h; exact ih.2 t b h
    | false =>
      refine ⟨fun t o h ht => ?_, fun t b h => ih.2 t b h⟩
      have hx := ble_natF.1 hq
      rw [aGet_cons, if_neg (by omega)] at h
      exact ih.1 t o h ht
theorem getS_LR : ∀ {l : List Nat} {vs : List (AV D.E)}, (getS D φ l).H vs → FR M φ a N → LR M vs (l.map fun t => a.tmps.getD t Go.undef)
  | [], vs, h, _ => by cases ret_H.1 (show (C.ret []).H vs from h); exact .nil
  | t :: l, vs, h, hf => by
    obtain ⟨v, h1, h2⟩ := bnd_H.1 (show (bnd (ofO (φ.get t)) fun v => bnd (getS D φ l) fun r => .ret (v :: r)).H vs from h)
    obtain ⟨r, h3, h4⟩ := bnd_H.1 h2
    cases ret_H.1 h4
    exact .cons (hf.at_ t v (ofO_H.1 h1)) (getS_LR h3 hf)
theorem putS_get : ∀ {l : List Nat} {vs : List (AV D.E)} {φ φ' : T (AV D.E)}, (putS D vs l φ).H φ' → vs.length ≥ l.length ∧ ∀ t v, φ'.get t = some v → φ.get t = some v ∨ ∃ i : Nat, l[i]? = some t ∧ vs[i]? = some v
  | [], vs, φ, φ', h => by cases ret_H.1 (show (C.ret φ).H φ' from h); exact ⟨by simp, fun t v h => .inl h⟩
  | x :: l, [], φ, φ', h => (h : False).elim
  | x :: l, u :: vs, φ, φ', h => by
    obtain ⟨φ1, h1, h2⟩ := bnd_H.1 (show (bnd (ofO (φ.put x (some u))) fun φ => putS D vs l φ).H φ' from h)
    obtain ⟨q1, q2⟩ := putS_get h2
    refine ⟨by simp; omega, fun t v hv => ?_⟩
    rcases q2 t v hv with h3 | ⟨i, h3, h4⟩
    · rw [T.put_spec _ _ _ _ (ofO_H.1 h1) t] at h3
      by_cases e : t = x
      · rw [if_pos e] at h3; cases h3
        exact .inr ⟨0, by rw [e]; rfl, rfl⟩
      · rw [if_neg e] at h3; exact .inl h3
    · exact .inr ⟨i + 1, by simpa using h3, by simpa using h4⟩
theorem headM_ok (hD : DataOk D) {L : LoopS D} {x : L.X} {kv : List (AV D.E)} {kp : List (Nat × AO D.E)} {u : Unit} {sh : St D.E} {φh : T (AV D.E)} (hm : (headM D base L x kv kp s φ).H u) (hs : (headS D base L x kv kp).H (sh, φh)) (hkv : kv.length = L.keep.length) (hA : AtS H0 M0 w0 base N s φ M a w) :
    ∃ M', AtS H0 M0 w0 base N sh φh M' a w := by
  obtain ⟨as, h1, h2⟩ := bnd_H.1 hm
  obtain ⟨⟨s1, r⟩, h3, _⟩ := bnd_H.1 h2
  rw [sApp_eq] at h1
  rw [sApp_eq, sApp_eq] at h3
  obtain ⟨φ1, h4, h5⟩ := bnd_H.1 hs
  obtain ⟨φ2, h6, h7⟩ := bnd_H.1 h5
  obtain ⟨h, h8, h9⟩ := bnd_H.1 h7
  obtain ⟨h10, h11⟩ := bB_H.1 h9
  obtain ⟨h12, h13⟩ := and2 h10
  cases ret_H.1 h11
  rw [sApp_eq] at h8 h13
  obtain ⟨f1, f2⟩ := fixed_get (D := D) (base := base) (l := kp ++ L.pc x)
  have hmt := mtch_ok hD (fun t t' b e e' => by rw [← f2 t b e, ← f2 t' b e']) h3
  obtain ⟨M1, g1, g2, g3, g4⟩ := hmt.sem M w hA.sim hA.tf.fresh
  have hA1 : AtS H0 M0 w0 base N s1 φ M1 a w := hA.step g1 (hA.fr.mono (g1.Le hA.tf.fresh))
  have hl := g2 _ (getS_LR h1 hA.fr)
  refine ⟨rl r M1, by show Sim (rl r M1) h.get w; rw [putP_nil h8]; exact g3, ⟨fun t v hv => ?_, hA.fr.size, hA.fr.defers⟩, fun t ht => ?_, ⟨hA1.cst.sgm, hA1.cst.sborn, hA1.cst.size, hA1.cst.keep, fun t o mi hb hm hr => ?_, hA1.cst.os, hA1.cst.tape, hA1.cst.output⟩, fun t mi ht hm => ?_, ble_nat.1 h12⟩
  · obtain ⟨p1, p2⟩ := putS_get h4
    obtain ⟨p3, p4⟩ := putS_get h6
    have hix : ∃ i : Nat, (L.keep ++ fsts (L.sl x))[i]? = some t ∧ (kv ++ snds (L.sl x))[i]? = some v := by
      rcases p4 t v hv with e | ⟨i, e1, e2⟩
      · rcases p2 t v e with e | ⟨i, e1, e2⟩
        · rw [T.get_nil] at e; cases e
        · exact ⟨i, by rw [List.getElem?_append_left (List.getElem?_eq_some_iff.1 e1).1]; exact e1, by rw [List.getElem?_append_left (List.getElem?_eq_some_iff.1 e2).1]; exact e2⟩
      · exact ⟨L.keep.length + i, by rw [List.getElem?_append_right (by omega)]; simpa using e1, by rw [List.getElem?_append_right (by omega), hkv]; simpa using e2⟩
    obtain ⟨i, e1, e2⟩ := hix
    obtain ⟨v', e3, e4⟩ := hl.get e2
    rw [List.getElem?_map, e1] at e3
    cases e3
    exact e4
  · cases hq : (rl r M1).pl t with
    | none => rfl
    | some mi =>
      obtain ⟨b, e1, e2⟩ := rl_some hq
      obtain ⟨ot, oa, mi', e3, _⟩ := g4 t b e1
      have := below_lt h13 e3
      have ht : L.nx ≤ t := ht
      omega
  · have hb : h.get t = some o := hb
    rw [putP_nil h8] at hb
    obtain ⟨b, e1, e2⟩ := rl_some hm
    obtain ⟨ot, oa, mi', e3, e4, e5, e6, _⟩ := g4 t b e1
    rw [show aGet (kp ++ L.pc x) t = some o from hb] at e3
    cases e3
    rcases hA1.cst.born b oa mi e4 e2 hr with e7 | ⟨b0, o0, mi0, i1, i2, i3, i4, i5⟩
    · exact .inl e7
    · exact .inr ⟨b0, o0, mi0, i1, i2, i3, i4, fun hx => i5 (e6 ▸ hx)⟩
  · obtain ⟨b, e1, e2⟩ := rl_some hm
    obtain ⟨ot, oa, mi', e3, _⟩ := g4 t b e1
    have := hmt.ext t t (f1 t ot e3 ht)
    rw [e1] at this; cases this
    exact hA1.per t mi ht e2
end
end Go.Proofs.YtjdehneddakpnaaGreatDoor.sx
namespace Go.Proofs.YtjdehneddakpnaaGreatDoor.sx
open Go Go.RowKit
section
variable {P : Program} {D : Data} {cd : TypeId → Option Nat} {ca : CaF D.E} {orc : Orc D} {M M' : Pm D} {w w' : World} {s s' : St D.E} {φ φ' : T (AV D.E)} {a : Act} {N : Nat}
variable {H0 : Hp D} {M0 : Pm D} {w0 : World} {base : Nat}
/-- what is said of a piece of code is right -/
def WkOk (P : Program) (H0 : Hp D) (M0 : Pm D) (w0 : World) (base N : Nat) (c : Code) (wk : Wk D) : Prop := ∀ (p : Nat) (s : St D.E) (φ : T (AV D.E)) (Q : Post D), wk p s φ Q → ∀ (M : Pm D) (a : Act) (w : World), AtS H0 M0 w0 base N s φ M a w → ∀ R : Exit → Act → World → Prop,
  (∀ e s' φ' M' a' w', Q e s' φ' → AtS H0 M0 w0 base N s' φ' M' a' w' → R (exOf e) a' w') → c.wp P R a w
theorem getS_len : ∀ {l : List Nat} {vs : List (AV D.E)}, (getS D φ l).H vs → vs.length = l.length
  | [], vs, h => by cases ret_H.1 (show (C.ret []).H vs from h); rfl
  | t :: l, vs, h => by
    obtain ⟨v, h1, h2⟩ := bnd_H.1 (show (bnd (ofO (φ.get t)) fun v => bnd (getS D φ l) fun r => .ret (v :: r)).H vs from h)
    obtain ⟨r, h3, h4⟩ := bnd_H.1 h2
    cases ret_H.1 h4
    simp [getS_len h3]
theorem loopW_ok (hD : DataOk D) {L : LoopS D} {b : Code} {wb : Wk D} (hb : WkOk P H0 M0 w0 base N b wb) : WkOk P H0 M0 w0 base N (.loop b) (loopW D base L wb) := by
  intro p s φ Q h M a w hA R hR
  obtain ⟨⟨kv, kp⟩, h1, h2⟩ := wp_wit (show (bnd (getS D φ L.keep) fun kv => bnd (getP D s L.kp) fun kp => .ret (kv, kp)).wp _ from h)
  obtain ⟨kv', h3, h4⟩ := bnd_H.1 h1
  obtain ⟨kp', _, h5⟩ := bnd_H.1 h4
  cases ret_H.1 h5
  have hkv := getS_len h3
  obtain ⟨⟨x, hx⟩, hbody⟩ := h2
  have key : ∀ (n : Nat) (x : L.X), L.me x < n → L.inv x → ∀ (s : St D.E) (φ : T (AV D.E)) (M : Pm D) (a : Act) (w : World) (u : Unit), (headM D base L x kv kp s φ).H u → AtS H0 M0 w0 base N s φ M a w → Code.rounds P b R n a w := by
    intro n
    induction n with
    | zero => intro x hlt; omega
    | succ n ih =>
      intro x hlt hinv s φ M a w u hm hA
      obtain ⟨⟨sh, φh⟩, h6, h7⟩ := wp_wit (hbody x ⟨hinv⟩)
      obtain ⟨M', hA'⟩ := headM_ok hD hm h6 hkv hA
      rw [rounds_succ]
      refine hb _ _ _ _ h7 M' a w hA' _ fun e s' φ' M2 a2 w2 hq hA2 => ?_
      cases e with
      | normal =>
        obtain ⟨x', hx'⟩ := hq
        obtain ⟨u', h8, h9⟩ := wp_wit hx'
        obtain ⟨h10, h11⟩ := h9.out
        exact ih x' (by omega) h10 s' φ' M2 a2 w2 u' h8 hA2
      | exit id => exact hR (.exit id) s' φ' M2 a2 w2 hq hA2
      | ret => exact hR .ret s' φ' M2 a2 w2 hq hA2
  obtain ⟨u, h6, h7⟩ := wp_wit hx
  exact wp_loop_rounds (L.me x + 1) (key _ x (Nat.lt_succ_self _) h7.out s φ M a w u h6 hA)
theorem joinW_ok (hD : DataOk D) {L : LoopS D} {x y : Code} {wa wb : Wk D} (ha : WkOk P H0 M0 w0 base N x wa) (hb : WkOk P H0 M0 w0 base N y wb) : WkOk P H0 M0 w0 base N (.seq x y) (joinW D base L wa wb) := by
  intro p s φ Q h M a w hA R hR
  obtain ⟨⟨kv, kp⟩, h1, h2⟩ := wp_wit (show (bnd (getS D φ L.keep) fun kv => bnd (getP D s L.kp) fun kp => .ret (kv, kp)).wp _ from h)
  obtain ⟨kv', h3, h4⟩ := bnd_H.1 h1
  obtain ⟨kp', _, h5⟩ := bnd_H.1 h4
  cases ret_H.1 h5
  have hkv := getS_len h3
  obtain ⟨hx, hy⟩ := h2
  refine wp_seq (ha _ _ _ _ hx M a w hA _ fun e s' φ' M2 a2 w2 hq hA2 => ?_)
  cases e with
  | normal =>
    obtain ⟨z, hz⟩ := hq
    obtain ⟨u, h6, h7⟩ := wp_wit hz
    obtain ⟨⟨sh, φh⟩, h8, h9⟩ := wp_wit (hy z h7)
    obtain ⟨M', hA'⟩ := headM_ok hD h6 h8 hkv hA2
    exact hb _ _ _ _ h9 M' a2 w2 hA' R hR
  | exit id => exact hR (.exit id) s' φ' M2 a2 w2 hq hA2
  | ret => exact hR .ret s' φ' M2 a2 w2 hq hA2
theorem unroll_ok {b : Code} {wb : Wk D} (hb : WkOk P H0 M0 w0 base N b wb) (n : Nat) : WkOk P H0 M0 w0 base N (.loop b) (unroll D n wb) := by
  intro p s φ Q h M a w hA R hR
  refine wp_loop_rounds n ?_
  induction n generalizing p s φ M a w with
  | zero => exact (h : False).elim
  | succ n ih =>
    rw [rounds_succ]
    refine hb _ _ _ _ h M a w hA _ fun e s' φ' M2 a2 w2 hq hA2 => ?_
    cases e with
    | normal => exact ih _ s' φ' hq M2 a2 w2 hA2
    | exit id => exact hR (.exit id) s' φ' M2 a2 w2 hq hA2
    | ret => exact hR .ret s' φ' M2 a2 w2 hq hA2
theorem wpK_ok (hD : DataOk D) (hmix : P.follows .mixedOrders = true) (hng : NoNG P) (hca : CaOk P D ca) (c : Code) : WkOk P H0 M0 w0 base N c (wpK P D cd ca base orc N c) := by
  induction c with
  | skip => exact fun p s φ Q h M a w hA R hR => wp_skip (hR .normal s φ M a w h hA)
  | region id ops draw =>
    intro p s φ Q h M a w hA R hR
    obtain ⟨s1, φ1, M1, h1, hA1⟩ := hinted_ok hD (show hinted D orc.hs id s φ _ from h) hA
    cases draw with
    | true =>
      obtain ⟨⟨s2, φ2⟩, h2, h3⟩ := wp_wit (show (drawW P D cd (memN orc.mu id) ca ops.toList N s1 φ1).wp _ from h1)
      obtain ⟨_, h5⟩ := drawW_ok (id := id) hD hmix hng hca h2
      exact h5 M1 a w hA1.sim hA1.fr hA1.tf.fresh R fun M' a' w' hst hf => hR .normal s2 φ2 M' a' w' h3 (hA1.step hst hf)
    | false =>
      obtain ⟨⟨s2, φ2⟩, h2, h3⟩ := wp_wit (show (runOps P D cd (memN orc.mu id) ca ops.toList N ops.toList 0 s1 φ1).wp _ from h1)
      obtain ⟨_, h5⟩ := runOps_ok hD hng hca _ _ _ _ _ _ h2
      exact wp_region_list (h5 M1 a w hA1.sim hA1.fr hA1.tf.fresh R fun M' a' w' hst hf => hR .normal s2 φ2 M' a' w' h3 (hA1.step hst hf))
  | seq x y ihx ihy =>
    intro p s φ Q h
    have h : Option.rec (motive := fun _ => Prop) (Option.rec (motive := fun _ => Prop) (wpK P D cd ca base orc N x (2 * p) s φ (seqQ D Q fun s φ => wpK P D cd ca base orc N y (2 * p + 1) s φ Q)) (fun L => joinW D base L (wpK P D cd ca base orc N x) (wpK P D cd ca base orc N y) p s φ Q) (aGet orc.jn p))
      (fun F => ∃ k : F.K, joinW D base (F.L k) (wpK P D cd ca base orc N x) (wpK P D cd ca base orc N y) p s φ Q) (aGet orc.kf p) := h
    cases hf : aGet orc.kf p with
    | some F =>
      rw [hf] at h
      obtain ⟨k, hk⟩ := h
      exact joinW_ok hD ihx ihy p s φ Q hk
    | none =>
    rw [hf] at h
    have h : Option.rec (motive := fun _ => Prop) (wpK P D cd ca base orc N x (2 * p) s φ (seqQ D Q fun s φ => wpK P D cd ca base orc N y (2 * p + 1) s φ Q)) (fun L => joinW D base L (wpK P D cd ca base orc N x) (wpK P D cd ca base orc N y) p s φ Q) (aGet orc.jn p) := h
    cases hj : aGet orc.jn p with
    | some L => rw [hj] at h; exact joinW_ok hD ihx ihy p s φ Q h
    | none =>
      rw [hj] at h
      intro M a w hA R hR
      refine wp_seq (ihx _ _ _ _ h M a w hA _ fun e s' φ' M' a' w' hq hA' => ?_)
      cases e with
      | normal => exact ihy _ _ _ _ hq M' a' w' hA' R hR
      | exit id => exact hR (.exit id) s' φ' M' a' w' hq hA'
      | ret => exact hR .ret s' φ' M' a' w' hq hA'
  | cond c x y ihx ihy =>
    intro p s φ Q h M a w hA R hR
    obtain ⟨t, h1, h2⟩ := wp_wit (show (bnd (ev P D φ c) fun v => asLit D v).wp _ from h)
    obtain ⟨v, h3, h4⟩ := bnd_H.1 h1
    have hv := asLit_H h4 (ev_VR h3 hA.fr)
    cases t with
    | true => exact wp_cond_true hv (ihx _ _ _ _ h2 M a w hA R hR)
    | false => exact wp_cond_false hv (ihy _ _ _ _ h2 M a w hA R hR)
  | block id b ih =>
    intro p s φ Q h M a w hA R hR
    refine wp_block (ih _ _ _ _ h M a w hA _ fun e s' φ' M' a' w' hq hA' => ?_)
    cases e with
    | normal => exact hR .normal s' φ' M' a' w' hq hA'
    | ret => exact hR .ret s' φ' M' a' w' hq hA'
    | exit id' =>
      have hq : cond (Nat.beq id' id) (Q .normal s' φ') (Q (.exit id') s' φ') := hq
      show Exit.inBlock id R (.exit id') a' w'
      by_cases e : id' = id
      · rw [beq_nat.2 e] at hq
        simp only [Exit.inBlock, if_pos e]
        exact hR .normal s' φ' M' a' w' hq hA'
      · rw [beq_natF.2 e] at hq
        simp only [Exit.inBlock, if_neg e]
        exact hR (.exit id') s' φ' M' a' w' hq hA'
  | loop b ih =>
    intro p s φ Q h
    have h : Option.rec (motive := fun _ => Prop) (Option.rec (motive := fun _ => Prop) (unroll D orc.un (wpK P D cd ca base orc N b) p s φ Q) (fun L => loopW D base L (wpK P D cd ca base orc N b) p s φ Q) (aGet orc.lp p))
      (fun F => ∃ k : F.K, loopW D base (F.L k) (wpK P D cd ca base orc N b) p s φ Q) (aGet orc.kf p) := h
    cases hf : aGet orc.kf p with
    | some F =>
      rw [hf] at h
      obtain ⟨k, hk⟩ := h
      exact loopW_ok hD ih p s φ Q hk
    | none =>
    rw [hf] at h
    have h : Option.rec (motive := fun _ => Prop) (unroll D orc.un (wpK P D cd ca base orc N b) p s φ Q) (fun L => loopW D base L (wpK P D cd ca base orc N b) p s φ Q) (aGet orc.lp p) := h
    cases hq : aGet orc.lp p with
    | none => rw [hq] at h; exact unroll_ok ih orc.un p s φ Q h
    | some L => rw [hq] at h; exact loopW_ok hD ih p s φ Q h
  | rangeFunc f ps x y ihx ihy => exact fun p s φ Q h => (h : False).elim
  | exit id => exact fun p s φ Q h M a w hA R hR => wp_exit (hR (.exit id) s φ M a w h hA)
  | scope b ih => exact fun p s φ Q h => (h : False).elim
  | label l => exact fun p s φ Q h M a w hA R hR => wp_label (hR .normal s φ M a w h hA)
  | goto l => exact fun p s φ Q h => (h : False).elim
  | ret => exact fun p s φ Q h M a w hA R hR => wp_ret (hR .ret s φ M a w h hA)
  | refuse y => exact fun p s φ Q h => (h : False).elim
theorem frame0_get : ∀ {vs : List (AV D.E)} {i : Nat} {φ φ' : T (AV D.E)}, (frame0 D vs i φ).H φ' → ∀ t, φ'.get t = if i ≤ t ∧ t < i + vs.length then vs[t - i]? else φ.get t
  | [], i, φ, φ', h, t => by cases ret_H.1 (show (C.ret φ).H φ' from h); simp; omega
  | v :: vs, i, φ, φ', h, t => by
    obtain ⟨φ1, h1, h2⟩ := bnd_H.1 (show (bnd (ofO (φ.put i (some v))) (fun φ => frame0 D vs (i + 1) φ)).H φ' from h)
    rw [frame0_get h2 t, T.put_spec _ _ _ _ (ofO_H.1 h1) t]
    simp only [List.length_cons]
    by_cases ht : t = i
    · subst ht
      rw [if_neg (by omega), if_pos rfl, if_pos (by omega)]
      simp
    · by_cases hc : i + 1 ≤ t ∧ t < i + 1 + vs.length
      · rw [if_pos hc, if_pos (by omega), show t - i = (t - (i + 1)) + 1 by omega]
        rfl
      · rw [if_neg hc, if_neg ht, if_neg (by omega)]
theorem frame0_FR {vs : List (AV D.E)} {A : Array Value} (h : (frame0 D vs 0 .nil).H φ) (hl : LR M vs A.toList) (hN : vs.length ≤ N) :
    FR M φ { tmps := A ++ Array.replicate (N - A.size) Go.undef, defers := [] } N := by
  have hlen : vs.length = A.size := by rw [hl.1, Array.length_toList]
  refine ⟨fun t v hv => ?_, ?_, rfl⟩
  · rw [frame0_get h t] at hv
    simp only [Nat.zero_le, true_and, Nat.zero_add, Nat.sub_zero] at hv
    by_cases ht : t < vs.length
    · rw [if_pos ht] at hv
      obtain ⟨v', h2, h3⟩ := hl.get hv
      have h4 : (A ++ Array.replicate (N - A.size) Go.undef).getD t Go.undef = v' := by
        rw [Array.getElem?_toList] at h2
        rw [Array.getD_eq_getD_getElem?, Array.getElem?_append_left (by omega), h2]
        rfl
      show VR M _ ((A ++ Array.replicate (N - A.size) Go.undef).getD t Go.undef)
      rw [h4]
      exact h3
    · rw [if_neg ht, T.get_nil] at hv; cases hv
  · show (A ++ Array.replicate (N - A.size) Go.undef).size = N
    simp
    omega
theorem resA_run (hD : DataOk D) {C : Nat} : ∀ {rs : List ResultVar} {vs : List (AV D.E)}, (resA P D s φ rs).H vs → FR M φ a C → Sim M s.h.get w → ∃ vs', LR M vs vs' ∧ (rs.mapM fun r => (match r with
      | .tmp t => Pure.pure (a.tmps.getD t Go.undef)
      | .cell b t => do loadVar t (← Go.asAddr (a.tmps.getD b Go.undef)) : Sem Value)).run P w = .ok vs' w
  | [], vs, h, _, _ => by cases ret_H.1 (show (sx.C.ret []).H vs from h); exact ⟨[], .nil, by simp⟩
  | r :: rs, vs, h, hf, hS => by
    obtain ⟨v, hv, h1⟩ := bnd_H.1 (show (bnd (resOne P D s φ r) (fun v => bnd (resA P D s φ rs) fun vs => .ret (v :: vs))).H vs from h)
    obtain ⟨us, hus, h2⟩ := bnd_H.1 h1
    cases ret_H.1 h2
    obtain ⟨us', hl, hr⟩ := resA_run hD hus hf hS
    cases r with
    | tmp t =>
      refine ⟨a.tmps.getD t Go.undef :: us', .cons (hf.at_ t v (ofO_H.1 hv)) hl, ?_⟩
      rw [List.mapM_cons]
      simp only [Sem.run_bind, Sem.run_pure, Result.andThen_ok, hr]
    | cell b t =>
      obtain ⟨u, hu, h3⟩ := bnd_H.1 (show (bnd (ofO (φ.get b)) fun v => loadA P D s t v).H v from hv)
      obtain ⟨v', ad, e, h4, h5, h6⟩ := loadA_run (P := P) hD h3 (hf.at_ b u (ofO_H.1 hu)) hS
      have h8 : (do loadVar t (← Go.asAddr (a.tmps.getD b Go.undef)) : Sem Value).run P w = .ok v' w := by
        simp only [Sem.run_bind, e, Go.asAddr, Sem.run_pure, Result.andThen_ok, h5]
      refine ⟨v' :: us', .cons h6 hl, ?_⟩
      rw [List.mapM_cons, Sem.run_bind]
      refine (congrArg (fun r : Result Value => r.andThen _) h8).trans ?_
      simp only [Result.andThen_ok, Sem.run_bind, hr, Sem.run_pure]
theorem results_run {fn : Func} {vs' : List Value} (hr : (fn.results.toList.mapM fun r => (match r with
      | .tmp t => Pure.pure (a.tmps.getD t Go.undef)
      | .cell b t => do loadVar t (← Go.asAddr (a.tmps.getD b Go.undef)) : Sem Value)).run P w = .ok vs' w) {res : AV D.E} (hres : resOk D res = true) (hl : LR M (partsV D res) vs') : ∃ v', (results fn a.tmps).run P w = .ok v' w ∧ VR M res v' := by
  have hm : (fn.results.mapM fun r => (match r with
      | .tmp t => Pure.pure (a.tmps.getD t Go.undef)
      | .cell b t => do loadVar t (← Go.asAddr (a.tmps.getD b Go.undef)) : Sem Value)).run P w = .ok vs'.toArray w := by
    rw [Array.mapM_eq_mapM_toList]
    simp only [Sem.run_map, hr, Result.andThen_ok]
  refine ⟨if h : vs'.toArray.size = 1 then vs'.toArray[0] else .tuple vs'.toArray, ?_, ?_⟩
  · unfold results
    simp only [Sem.run_bind]
    exact (congrArg (fun r : Result (Array Value) => r.andThen fun vs w' => Sem.run P (Pure.pure (if h : vs.size = 1 then vs[0] else .tuple vs)) w') hm).trans rfl
  · have one : ∀ {v : AV D.E}, LR M [v] vs' → VR M v (if h : vs'.toArray.size = 1 then vs'.toArray[0] else .tuple vs'.toArray) := fun h => by
      obtain ⟨v', r, rfl, h1, h2⟩ := h.uncons
      obtain rfl := h2.nil_l
      exact h1
    cases res <;> simp only [partsV] at hl <;> (try exact one hl)
    rename_i ts
    have hne : ts.length ≠ 1 := by
      have : Bool.not (Nat.beq (lLen ts) 1) = true := hres
      rw [lLen_eq] at this
      intro e
      rw [e] at this; cases this
    rw [dif_neg (by rw [List.size_toArray, ← hl.1]; exact hne)]
    exact .tupL hl
theorem stay_get {ha hb : List (Nat × AO D.E)} : (∀ t o, aGet ha t = some o → (aGet hb t).isSome = true → rGet (stay D ha hb) t = some t) ∧ ∀ t b, rGet (stay D ha hb) t = some b → b = t := by
  induction ha with
  | nil => exact ⟨fun t o h => (by cases (show none = some o from h)), fun t b h => (by cases (show none = some b from h))⟩
  | cons p l ih =>
    obtain ⟨x, o0⟩ := p
    have e : stay D ((x, o0) :: l) hb = cond (Option.isSome (aGet hb x)) ((x, x) :: stay D l hb) (stay D l hb) := rfl
    rw [e]
    cases hq : Option.isSome (aGet hb x) with
    | true =>
      refine ⟨fun t o h ht => ?_, fun t b h => ?_⟩
      · show rGet ((x, x) :: stay D l hb) t = some t
        rw [rGet_cons]
        by_cases ex : x = t
        · rw [if_pos ex, ex]
        · rw [if_neg ex]
          rw [aGet_cons, if_neg ex] at h
          exact ih.1 t o h ht
      · have h : rGet ((x, x) :: stay D l hb) t = some b := h
        rw [rGet_cons] at h
        by_cases ex : x = t
        · rw [if_pos ex] at h; cases h; exact ex
        · rw [if_neg ex] at h; exact ih.2 t b h
    | false =>
      refine ⟨fun t o h ht => ?_, fun t b h => ih.2 t b h⟩
      by_cases ex : x = t
      · subst ex; rw [hq] at ht; cases ht
      · rw [aGet_cons, if_neg ex] at h
        exact ih.1 t o h ht
/-- A body that does what is said makes its contract hold. -/
theorem call_of_body (hD : DataOk D) (hmix : P.follows .mixedOrders = true) (hng : NoNG P) {k : Con D} {y : k.Y} {fn : Func} {c : Code} (hfn : P.funcs[k.f]? = some fn) (hc : fn.body = some c) (hca : CaOk P D ca) (hN : (k.args y).length ≤ fn.ntmps)
    (hb : bodyW P D cd ca orc fn.ntmps k c fn.results.toList y) (M : Pm D) (A : Array Value) (w : World) (hl : LR M (k.args y) A.toList) (hS : Sim M (fun t => aGet (k.heap y) t) w) (hT : TF M k.nx0) (R : Ending → World → Prop)
    (hR : ∀ M' v' w', VR M' (k.res y) v' → Stp (fun t => aGet (k.heap y) t) M w (fun t => aGet (k.heap' y) t) M' w' k.nx0 k.nx1 → R (.returned v') w') : Calls P k.f A w R := by
  obtain ⟨⟨φ, h⟩, h1, h2⟩ := wp_wit (show (bnd (frame0 D (k.args y) 0 .nil) fun φ => bnd (putP D (k.heap y) .nil) fun h => .ret (φ, h)).wp _ from hb)
  obtain ⟨φ', h3, h4⟩ := bnd_H.1 h1
  obtain ⟨h', h5, h6⟩ := bnd_H.1 h4
  cases ret_H.1 h6
  have hget := putP_nil h5
  refine calls_of_wp hfn hc ?_
  have hA : AtS (fun t => aGet (k.heap y) t) M w k.nx0 fn.ntmps ⟨h, k.nx0⟩ φ M { tmps := A ++ Array.replicate (fn.ntmps - A.size) Go.undef, defers := [] } w :=
    ⟨by show Sim M h.get w; rw [hget]; exact hS, frame0_FR h3 hl hN, hT, by show Cst _ M w h.get M w; rw [hget]; exact .refl _ _ _, fun t mi _ e => e, Nat.le_refl _⟩
  refine wpK_ok hD hmix hng hca c _ _ _ _ h2 M _ w hA _ fun e s' φ' M2 a2 w2 hq hA2 => ?_
  have fin : (bB (Bool.and (resOk D (k.res y)) (Bool.and (named D (k.heap y) (k.heap' y) k.nx0 k.nx1) (Nat.ble k.nx0 k.nx1))) (bnd (resA P D s' φ' fn.results.toList) fun vs => mtch D s' (stay D (k.heap' y) (k.heap y)) (k.heap' y) vs (partsV D (k.res y)))).wp (fun _ => True) →
      a2.defers = [] ∧ ∃ v, (results fn a2.tmps).run P w2 = .ok v w2 ∧ R (.returned v) w2 := fun hq => by
    obtain ⟨⟨s3, r⟩, g1, _⟩ := wp_wit hq
    obtain ⟨g2, g3⟩ := bB_H.1 g1
    obtain ⟨hres, g4⟩ := and2 g2
    obtain ⟨hnm, hnx⟩ := and2 g4
    have hnx := ble_nat.1 hnx
    obtain ⟨vs, g5, g6⟩ := bnd_H.1 g3
    obtain ⟨st1, st2⟩ := stay_get (D := D) (ha := k.heap' y) (hb := k.heap y)
    have hmt := mtch_ok hD (fun t t' b e e' => by rw [← st2 t b e, ← st2 t' b e']) g6
    obtain ⟨M3, i1, i2, i3, i4⟩ := hmt.sem M2 w2 hA2.sim hA2.tf.fresh
    have hA3 : AtS (fun t => aGet (k.heap y) t) M w k.nx0 fn.ntmps s3 φ' M3 a2 w2 := hA2.step i1 (hA2.fr.mono (i1.Le hA2.tf.fresh))
    obtain ⟨vs', hl1, hrun⟩ := resA_run hD g5 hA2.fr hA2.sim
    let M4 : Pm D := ⟨fun t => if k.nx0 ≤ t ∧ t < k.nx1 then (rl r M3).pl t else M.pl t, M3.sg⟩
    have hnamed : ∀ t o, aGet (k.heap' y) t = some o → (∃ o0, aGet (k.heap y) t = some o0) ∨ (k.nx0 ≤ t ∧ t < k.nx1) := fun t o ht => by
      rcases or2 (allL_iff.1 hnm _ (aGet_mem ht)) with q | q
      · exact .inl (Option.isSome_iff_exists.1 q)
      · obtain ⟨q1, q2⟩ := and2 q
        exact .inr ⟨ble_nat.1 q1, ble_nat.1 q2⟩
    have hpl : ∀ t mi, (rl r M3).pl t = some mi → M4.pl t = some mi := fun t mi e => by
      show (if _ then _ else _) = _
      by_cases hr : k.nx0 ≤ t ∧ t < k.nx1
      · rw [if_pos hr]; exact e
      · rw [if_neg hr]
        obtain ⟨b, e1, e2⟩ := rl_some e
        obtain ⟨ot, oa, mi', e3, _⟩ := i4 t b e1
        rcases hnamed t ot e3 with ⟨o0, e4⟩ | q
        · have := hmt.ext t t (st1 t ot e3 (by rw [e4]; rfl))
          rw [e1] at this; cases this
          obtain ⟨mi0, e5, _⟩ := hS.obj t o0 e4
          exact hA3.per t mi (hT.lt e5) e2
        · exact absurd q hr
    have hle : Le (rl r M3) M4 := ⟨hpl, fun _ _ _ e => e⟩
    obtain ⟨v', j1, j2⟩ := results_run hrun hres ((i2 _ hl1).mono hle)
    refine ⟨hA2.fr.defers, v', j1, hR M4 v' w2 j2 ?_⟩
    have hob : ∀ t o mi, aGet (k.heap' y) t = some o → M4.pl t = some mi → (rl r M3).pl t = some mi := fun t o mi ht hm => by
      obtain ⟨mi0, e1, _⟩ := i3.obj t o ht
      have := hpl t mi0 e1
      rw [hm] at this; cases this
      exact e1
    refine ⟨⟨fun t o ht => ?_, fun t t' o o' mi mi' ht ht' hm hm' => i3.inj t t' o o' mi mi' ht ht' (hob t o mi ht hm) (hob t' o' mi' ht' hm'), fun b o v e => ?_, fun t o mi ht hw hm => i3.sep t o mi ht hw (hob t o mi ht hm), fun t c xs e mi ht hm hr => (i3.roS t c xs e mi ht (hob t _ mi ht hm) hr).mono fun _ _ _ h => h, ⟨i3.glo.1, fun t o mi ht hw hm => i3.glo.2 t o mi ht hw (hob t o mi ht hm)⟩⟩,
      fun t ht => if_neg ht, hA3.cst.sgm, hA3.cst.sborn, hA3.cst.size, hA3.cst.keep, fun t o mi ht hm hr => ?_, fun t ht => ?_, hA3.cst.os, hA3.cst.tape, hA3.cst.output, hnx⟩
    · obtain ⟨mi0, e1, e2⟩ := i3.obj t o ht
      exact ⟨mi0, hpl t mi0 e1, e2.mono hle fun _ => rfl⟩
    · obtain ⟨hp, v', hc, hv⟩ := i3.seal_ b o v e
      exact ⟨hp, v', hc, hv.mono hle⟩
    · obtain ⟨b, e1, e2⟩ := rl_some (hob t o mi ht hm)
      obtain ⟨ot, oa, mi', e3, e4, e5, e6, _⟩ := i4 t b e1
      rw [show aGet (k.heap' y) t = some o from ht] at e3
      cases e3
      rcases hA3.cst.born b oa mi e4 e2 hr with e7 | ⟨b0, o0, mi0, q1, q2, q3, q4, q5⟩
      · exact .inl e7
      · exact .inr ⟨b0, o0, mi0, q1, q2, q3, q4, fun hx => q5 (e6 ▸ hx)⟩
    · obtain ⟨o, ho⟩ := Option.ne_none_iff_exists'.1 ht
      rcases hnamed t o ho with ⟨o0, e4⟩ | q
      · exact .inl (by show aGet (k.heap y) t ≠ none; rw [e4]; simp)
      · exact .inr q
  cases e with
  | normal => exact fin hq
  | ret => exact fin hq
  | exit id => exact (hq : False).elim
/-- a contract for what is smaller -/
def Con.under (k : Con D) (me : k.Y → Nat) (n : Nat) : Con D := { k with pre := fun y => k.pre y ∧ me y < n }
end
end Go.Proofs.YtjdehneddakpnaaGreatDoor.sx
