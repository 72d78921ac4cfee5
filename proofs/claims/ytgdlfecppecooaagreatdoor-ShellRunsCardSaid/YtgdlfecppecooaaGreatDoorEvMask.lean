/- An evaluator of closed calls: which operations of a region stand before which. -/
import Derived.Test.YtgdlfecppecooaaGreatDoorEvRunP
import Derived.Test.YtgdlfecppecooaaGreatDoorEvOpG
set_option linter.all false
namespace Go.Proofs.YtgdlfecppecooaaGreatDoor.ev
open Go Go.RowKit
theorem bit_eq (m i : Nat) : Nat.beq (Nat.mod (Nat.div m (Nat.pow 2 i)) 2) 1 = m.testBit i := by
  rw [Nat.testBit_eq_decide_div_mod_eq, Bool.eq_iff_iff, beq_nat, decide_eq_true_iff]
  exact Iff.rfl
theorem inM_some {ms : List Nat} {i j m : Nat} (h : ms[j]? = some m) : inM ms i j = m.testBit i := by
  unfold inM
  rw [lGet_eq, h]
  exact bit_eq m i
theorem inM_none {ms : List Nat} {i j : Nat} (h : ms[j]? = none) : inM ms i j = false := by
  unfold inM
  rw [lGet_eq, h]
theorem maskOf_spec : ∀ {es : List Edge} {ms : List Nat} {m0 m : Nat}, maskOf ms es m0 = some m →
    (∀ e ∈ es, Region.binds .any e = true → e.on < ms.length) ∧ ∀ i, m.testBit i = true ↔ (m0.testBit i = true ∨ ∃ e ∈ es, Region.binds .any e = true ∧ (e.on = i ∨ inM ms i e.on = true))
  | [], ms, m0, m, h => by cases (show some m0 = some m from h); simp
  | e :: es, ms, m0, m, h => by
    rcases bE_some.1 (show bE (Region.binds .any e) (bnd (lGet ms e.on) fun k => maskOf ms es (Nat.lor (Nat.lor m0 (Nat.pow 2 e.on)) k)) (maskOf ms es m0) = some m from h) with ⟨hb, h1⟩ | ⟨hb, h1⟩
    · obtain ⟨k, hk, h2⟩ := bnd_some.1 h1
      rw [lGet_eq] at hk
      obtain ⟨q1, q2⟩ := maskOf_spec h2
      have hlt : e.on < ms.length := (List.getElem?_eq_some_iff.1 hk).1
      refine ⟨fun e' he' hb' => ?_, fun i => ?_⟩
      · rcases List.mem_cons.1 he' with rfl | he'
        · exact hlt
        · exact q1 e' he' hb'
      · rw [q2 i]
        have hbits : (Nat.lor (Nat.lor m0 (Nat.pow 2 e.on)) k).testBit i = (m0.testBit i || decide (e.on = i) || inM ms i e.on) := by
          show ((m0 ||| 2 ^ e.on) ||| k).testBit i = _
          rw [Nat.testBit_or, Nat.testBit_or, Nat.testBit_two_pow, inM_some hk]
        rw [hbits]
        simp only [Bool.or_eq_true, decide_eq_true_eq, List.mem_cons]
        constructor
        · rintro (((h3 | h3) | h3) | ⟨e', he', hb', h3⟩)
          · exact .inl h3
          · exact .inr ⟨e, .inl rfl, hb, .inl h3⟩
          · exact .inr ⟨e, .inl rfl, hb, .inr h3⟩
          · exact .inr ⟨e', .inr he', hb', h3⟩
        · rintro (h3 | ⟨e', rfl | he', hb', h3⟩)
          · exact .inl (.inl (.inl h3))
          · rcases h3 with h3 | h3
            · exact .inl (.inl (.inr h3))
            · exact .inl (.inr h3)
          · exact .inr ⟨e', he', hb', h3⟩
    · obtain ⟨q1, q2⟩ := maskOf_spec h1
      refine ⟨fun e' he' hb' => ?_, fun i => ?_⟩
      · rcases List.mem_cons.1 he' with rfl | he'
        · rw [hb] at hb'; cases hb'
        · exact q1 e' he' hb'
      · rw [q2 i]
        constructor
        · rintro (h3 | ⟨e', he', hb', h3⟩)
          · exact .inl h3
          · exact .inr ⟨e', List.mem_cons_of_mem _ he', hb', h3⟩
        · rintro (h3 | ⟨e', he', hb', h3⟩)
          · exact .inl h3
          · rcases List.mem_cons.1 he' with rfl | he'
            · rw [hb] at hb'; cases hb'
            · exact .inr ⟨e', he', hb', h3⟩
structure MaskOk (L : List Oper) (ms : List Nat) : Prop where
  len : ms.length = L.length
  edge : ∀ (j : Nat) (o : Oper) (e : Edge), L[j]? = some o → e ∈ o.after.toList → Region.binds .any e = true → e.on < j ∧ inM ms e.on j = true ∧ ∀ i, inM ms i e.on = true → inM ms i j = true
  back : ∀ i j, inM ms i j = true → ∃ (o : Oper) (e : Edge), L[j]? = some o ∧ e ∈ o.after.toList ∧ Region.binds .any e = true ∧ e.on < j ∧ (e.on = i ∨ inM ms i e.on = true)
theorem inM_app {ms : List Nat} {m i j : Nat} (h : j < ms.length) : inM (ms ++ [m]) i j = inM ms i j := by
  have h1 : ms[j]? = some ms[j] := List.getElem?_eq_getElem h
  rw [inM_some h1, inM_some (by rw [List.getElem?_append_left h]; exact h1)]
theorem masks_spec : ∀ {os pre : List Oper} {ms ms' : List Nat}, masks os ms = some ms' → MaskOk pre ms → MaskOk (pre ++ os) ms'
  | [], pre, ms, ms', h, hp => by cases (show some ms = some ms' from h); rw [List.append_nil]; exact hp
  | o :: os, pre, ms, ms', h, hp => by
    obtain ⟨m, hm, h1⟩ := bnd_some.1 (show bnd (maskOf ms o.after.toList 0) (fun m => bnd (sApp ms [m]) fun ms => masks os ms) = some ms' from h)
    rw [sApp_eq] at h1
    obtain ⟨q1, q2⟩ := maskOf_spec hm
    have hnew : ∀ i, inM (ms ++ [m]) i ms.length = true ↔ ∃ e ∈ o.after.toList, Region.binds .any e = true ∧ (e.on = i ∨ inM ms i e.on = true) := fun i => by
      rw [inM_some (m := m) (by simp), q2 i]
      simp
    have hlen := hp.len
    have key : MaskOk (pre ++ [o]) (ms ++ [m]) := by
      refine ⟨by simp [hlen], fun j o' e ho he hb => ?_, fun i j hij => ?_⟩
      · by_cases hj : j < pre.length
        · rw [List.getElem?_append_left hj] at ho
          obtain ⟨a, b, c⟩ := hp.edge j o' e ho he hb
          refine ⟨a, by rw [inM_app (by omega)]; exact b, fun i hi => ?_⟩
          rw [inM_app (by omega)] at hi ⊢
          exact c i hi
        · have hj2 : j = pre.length := by
            have := (List.getElem?_eq_some_iff.1 ho).1
            simp at this; omega
          subst hj2
          simp at ho
          subst ho
          have hlt := q1 e he hb
          refine ⟨by omega, by rw [← hlen, hnew]; exact ⟨e, he, hb, .inl rfl⟩, fun i hi => ?_⟩
          rw [inM_app (by omega)] at hi
          rw [← hlen, hnew]
          exact ⟨e, he, hb, .inr hi⟩
      · by_cases hj : j < pre.length
        · rw [inM_app (by omega)] at hij
          obtain ⟨o', e, a, b, c, d, f⟩ := hp.back i j hij
          refine ⟨o', e, by rw [List.getElem?_append_left hj]; exact a, b, c, d, ?_⟩
          rcases f with f | f
          · exact .inl f
          · exact .inr (by rw [inM_app (by omega)]; exact f)
        · by_cases hj2 : j = ms.length
          · subst hj2
            rw [hnew] at hij
            obtain ⟨e, a, b, c⟩ := hij
            have hlt := q1 e a b
            refine ⟨o, e, by simp [hlen], a, b, hlt, ?_⟩
            rcases c with c | c
            · exact .inl c
            · exact .inr (by rw [inM_app hlt]; exact c)
          · rw [inM_none (List.getElem?_eq_none (by simp; omega))] at hij
            cases hij
    have := masks_spec (pre := pre ++ [o]) h1 key
    rw [List.append_assoc] at this
    exact this
theorem masks_ok {L : List Oper} {ms : List Nat} (h : masks L [] = some ms) : MaskOk L ms := by
  have := masks_spec (pre := []) h ⟨rfl, fun j o e ho => by simp at ho, fun i j hij => by rw [inM_none (by simp)] at hij; cases hij⟩
  simpa using this
theorem MaskOk.lt {L : List Oper} {ms : List Nat} (h : MaskOk L ms) : ∀ {j i : Nat}, inM ms i j = true → i < j := by
  intro j
  induction j using Nat.strongRecOn with
  | _ j ih =>
    intro i hij
    obtain ⟨o, e, _, _, _, hlt, hc⟩ := h.back i j hij
    rcases hc with rfl | hc
    · exact hlt
    · exact Nat.lt_trans (ih _ hlt hc) hlt
theorem MaskOk.trans {L : List Oper} {ms : List Nat} (h : MaskOk L ms) : ∀ {j k i : Nat}, inM ms i k = true → inM ms k j = true → inM ms i j = true := by
  intro j
  induction j using Nat.strongRecOn with
  | _ j ih =>
    intro k i hik hkj
    obtain ⟨o, e, ho, he, hb, hlt, hc⟩ := h.back k j hkj
    obtain ⟨_, _, h3⟩ := h.edge j o e ho he hb
    rcases hc with rfl | hc
    · exact h3 i hik
    · exact h3 i (ih _ hlt hik hc)
theorem allIx_spec {α : Type} {f : Nat → α → Bool} : ∀ {l : List α} {i : Nat}, allIx f l i = true → ∀ j x, l[j]? = some x → f (i + j) x = true
  | [], i, h, j, x, hx => by simp at hx
  | a :: l, i, h, j, x, hx => by
    have h' : Bool.rec (motive := fun _ => Bool) false (allIx f l (i + 1)) (f i a) = true := h
    cases hf : f i a with
    | false => rw [hf] at h'; cases h'
    | true =>
      rw [hf] at h'
      cases j with
      | zero => simp at hx; subst hx; exact hf
      | succ j =>
        have := allIx_spec (f := f) h' j x (by simpa using hx)
        rw [show i + (j + 1) = i + 1 + j by omega]
        exact this
/-- what is read by an operation -/
theorem anyL_iff {α : Type} {f : α → Bool} : ∀ {l : List α}, anyL f l = true ↔ ∃ x ∈ l, f x = true
  | [] => by simp [anyL]
  | a :: l => by
    show Bool.rec (motive := fun _ => Bool) (anyL f l) true (f a) = true ↔ _
    have := anyL_iff (f := f) (l := l)
    cases h : f a <;> simp [h, this]
def Reads (L : List Oper) (o : Oper) (t : Tmp) : Prop := some t ∈ readsOf L o
theorem mapL_eq {α β : Type} (f : α → β) : ∀ l : List α, mapL f l = l.map f
  | [] => rfl
  | a :: l => by show f a :: mapL f l = _; rw [mapL_eq f l]; rfl
theorem reads_iff {L : List Oper} {o : Oper} {t : Tmp} : Reads L o t ↔ reads L o t = true := by
  unfold Reads readsOf reads
  rw [mapL_eq, List.mem_cons, List.mem_map]
  have h1 : (anyL (readsT t) o.op.operands.toList = true) ↔ ∃ x ∈ o.op.operands.toList, tmpOf x = some t := by
    rw [anyL_iff]
    constructor
    · rintro ⟨x, hx, h⟩
      refine ⟨x, hx, ?_⟩
      cases x <;> simp only [readsT] at h <;> (try cases h)
      rw [beq_nat.1 h]; rfl
    · rintro ⟨x, hx, h⟩
      refine ⟨x, hx, ?_⟩
      cases x <;> simp only [tmpOf] at h <;> cases h
      exact Nat.beq_refl _
  rw [← h1]
  generalize anyL (readsT t) o.op.operands.toList = b
  cases guardT L o with
  | none => cases b <;> simp
  | some g =>
    show _ ↔ Bool.or b (Nat.beq g t) = true
    constructor
    · rintro (h | h)
      · cases h; cases b <;> simp
      · rw [h]; rfl
    · intro h
      cases b
      · exact .inl (by rw [beq_nat.1 h])
      · exact .inr rfl
/-- what holds of two operations of a region -/
structure StOk (P : Program) (L : List Oper) (ms : List Nat) : Prop extends MaskOk L ms where
  rd : ∀ (i j : Nat) (oi oj : Oper) (d : Tmp), L[i]? = some oi → L[j]? = some oj → i ≠ j → oj.dst = some d → Reads L oi d → inM ms i j = true ∨ inM ms j i = true
  wr : ∀ (i j : Nat) (oi oj : Oper) (d : Tmp), L[i]? = some oi → L[j]? = some oj → i ≠ j → oj.dst = some d → oi.dst ≠ some d
  eff : ∀ (i j : Nat) (oi oj : Oper), L[i]? = some oi → L[j]? = some oj → i ≠ j → clsOf P oi = 3 → clsOf P oj = 3 → inM ms i j = true ∨ inM ms j i = true
  sel : ∀ (i : Nat) (oi : Oper), L[i]? = some oi → ∀ cs b, oi.op ≠ .select cs b
  gd : ∀ (i : Nat) (oi : Oper) (g : Nat) (b : Bool), L[i]? = some oi → oi.guard = some (g, b) → inM ms g i = true
theorem or2 {a b : Bool} (h : Bool.or a b = true) : a = true ∨ b = true := by cases a <;> cases b <;> simp_all
theorem staticOk_spec {P : Program} {L : List Oper} {ms : List Nat} (h : staticOk P L = some ms) : StOk P L ms := by
  obtain ⟨ms', hm, h1⟩ := bnd_some.1 h
  obtain ⟨h2, h3⟩ := bB_some.1 h1
  cases h3
  have hmo := masks_ok hm
  have hi : ∀ i oi, L[i]? = some oi → noSel oi = true ∧ guardOk ms i oi = true ∧ ∀ j oj, L[j]? = some oj → pairOk P L ms i j oi oj = true := fun i oi ho => by
    have := allIx_spec h2 i oi ho
    rw [Nat.zero_add] at this
    obtain ⟨h4, h5⟩ := and2 this
    obtain ⟨h6, h7⟩ := and2 h4
    refine ⟨h6, h7, fun j oj hj => ?_⟩
    have := allIx_spec h5 j oj hj
    rw [Nat.zero_add] at this
    exact this
  have pr : ∀ i j oi oj, L[i]? = some oi → L[j]? = some oj → i ≠ j → (∀ d, oj.dst = some d → (ordered ms i j = true ∨ reads L oi d = false) ∧ oi.dst ≠ some d) ∧ ((clsOf P oi = 3 ∧ clsOf P oj = 3) → ordered ms i j = true) := by
    intro i j oi oj ho hj hne
    rcases or2 ((hi i oi ho).2.2 j oj hj) with h4 | h4
    · exact absurd (beq_nat.1 h4) hne
    · obtain ⟨h5, h6⟩ := and2 h4
      refine ⟨fun d hd => ?_, fun ⟨e1, e2⟩ => ?_⟩
      · rw [hd] at h5
        obtain ⟨h7, h8⟩ := and2 h5
        refine ⟨?_, fun e => ?_⟩
        · rcases or2 h7 with h9 | h9
          · exact .inl h9
          · exact .inr (by simpa using h9)
        · rw [e] at h8
          have h10 : Bool.not (Nat.beq d d) = true := h8
          rw [Nat.beq_refl] at h10; cases h10
      · rcases or2 h6 with h7 | h7
        · rw [e1, e2] at h7; cases h7
        · exact h7
  refine ⟨hmo, fun i j oi oj d ho hj hne hd hr => ?_, fun i j oi oj d ho hj hne hd => ((pr i j oi oj ho hj hne).1 d hd).2, fun i j oi oj ho hj hne e1 e2 => or2 ((pr i j oi oj ho hj hne).2 ⟨e1, e2⟩), fun i oi ho cs b e => ?_, fun i oi g b ho hg => ?_⟩
  · rcases ((pr i j oi oj ho hj hne).1 d hd).1 with h4 | h4
    · exact or2 h4
    · rw [reads_iff.1 hr] at h4; cases h4
  · have := (hi i oi ho).1
    unfold noSel at this
    rw [e] at this; cases this
  · have := (hi i oi ho).2.1
    unfold guardOk at this
    rw [hg] at this
    exact this
end Go.Proofs.YtgdlfecppecooaaGreatDoor.ev
