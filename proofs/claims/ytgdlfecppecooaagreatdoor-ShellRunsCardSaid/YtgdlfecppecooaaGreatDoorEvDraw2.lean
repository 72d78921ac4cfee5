/- An evaluator of closed calls: a region whose order is drawn: pieces of memory, loads. -/
import Derived.Test.YtgdlfecppecooaaGreatDoorEvDraw1
set_option linter.all false
namespace Go.Proofs.YtgdlfecppecooaaGreatDoor.ev
open Go Go.RowKit
noncomputable def pcsG (sel : Nat → Bool) : List Rc → Nat → Nat → Option AO
  | [], _, _ => none
  | r :: rs, j, b => if piece r = true ∧ sel j = true ∧ r.lo = b then r.pc.get b else pcsG sel rs (j + 1) b
theorem pcsG_cons (sel : Nat → Bool) (r : Rc) (rs : List Rc) (j b : Nat) : pcsG sel (r :: rs) j b = if piece r = true ∧ sel j = true ∧ r.lo = b then r.pc.get b else pcsG sel rs (j + 1) b := rfl
def Apart (rs : List Rc) : Prop := ∀ (j k : Nat) (r q : Rc), j < k → rs[j]? = some r → rs[k]? = some q → r.hi ≤ q.lo
theorem Apart.tail {r : Rc} {rs : List Rc} (h : Apart (r :: rs)) : Apart rs := fun j k r q hjk hr hq => h (j + 1) (k + 1) r q (by omega) (by simpa using hr) (by simpa using hq)
theorem piece_lt {r : Rc} (h : piece r = true) : r.cls = 1 ∧ r.lo < r.hi := by
  obtain ⟨h1, h2⟩ := and2 h
  exact ⟨beq_nat.1 h1, ble_nat.1 h2⟩
theorem Apart.head {r q : Rc} {rs : List Rc} {k : Nat} (h : Apart (r :: rs)) (hr : piece r = true) (hq : rs[k]? = some q) : r.lo ≠ q.lo := by
  have := h 0 (k + 1) r q (by omega) rfl (by simpa using hq)
  have := (piece_lt hr).2
  omega
theorem Apart.uniq {rs : List Rc} {j k : Nat} {r q : Rc} (h : Apart rs) (hr : rs[j]? = some r) (hq : rs[k]? = some q) (p : piece r = true) (p2 : piece q = true) (e : r.lo = q.lo) : j = k := by
  rcases Nat.lt_trichotomy j k with hlt | rfl | hlt
  · have := h j k r q hlt hr hq; have := (piece_lt p).2; omega
  · rfl
  · have := h k j q r hlt hq hr; have := (piece_lt p2).2; omega
theorem pcsG_iff {sel : Nat → Bool} : ∀ {rs : List Rc} {j0 b : Nat} {o : AO}, Apart rs → (pcsG sel rs j0 b = some o ↔ ∃ (j : Nat) (r : Rc), rs[j]? = some r ∧ piece r = true ∧ sel (j0 + j) = true ∧ r.lo = b ∧ r.pc.get b = some o)
  | [], j0, b, o, _ => by simp [pcsG]
  | r :: rs, j0, b, o, hA => by
    have ih := pcsG_iff (sel := sel) (j0 := j0 + 1) (b := b) (o := o) hA.tail
    rw [pcsG_cons]
    by_cases hc : piece r = true ∧ sel j0 = true ∧ r.lo = b
    · rw [if_pos hc]
      constructor
      · intro h; exact ⟨0, r, rfl, hc.1, hc.2.1, hc.2.2, h⟩
      · rintro ⟨j, q, h1, h2, h3, h4, h5⟩
        cases j with
        | zero => cases (show some r = some q from h1); exact h5
        | succ j => exact absurd (hc.2.2.trans h4.symm) (hA.head hc.1 (by simpa using h1))
    · rw [if_neg hc, ih]
      constructor
      · rintro ⟨j, q, h1, h2, h3, h4, h5⟩
        exact ⟨j + 1, q, by simpa using h1, h2, by rw [show j0 + (j + 1) = j0 + 1 + j by omega]; exact h3, h4, h5⟩
      · rintro ⟨j, q, h1, h2, h3, h4, h5⟩
        cases j with
        | zero => cases (show some r = some q from h1); exact absurd ⟨h2, h3, h4⟩ hc
        | succ j => exact ⟨j, q, by simpa using h1, h2, by rw [show j0 + 1 + j = j0 + (j + 1) by omega]; exact h3, h4, h5⟩
theorem addPcs_iff {sel : Nat → Bool} : ∀ {rs : List Rc} {j0 : Nat} {h h' : T AO}, addPcs sel rs j0 h = some h' → Apart rs → ∀ b, h'.get b = match pcsG sel rs j0 b with
    | some o => some o
    | none => h.get b
  | [], j0, h, h', hh, _, b => by cases (show some h = some h' from hh); rfl
  | r :: rs, j0, h, h', hh, hA, b => by
    rcases bE_some.1 (show bE (Bool.and (piece r) (sel j0)) (bnd (r.pc.get r.lo) fun o => bnd (h.put r.lo (some o)) fun h => addPcs sel rs (j0 + 1) h) (addPcs sel rs (j0 + 1) h) = some h' from hh) with ⟨hc, h1⟩ | ⟨hc, h1⟩
    · obtain ⟨hp, hs⟩ := and2 hc
      obtain ⟨o, ho, h2⟩ := bnd_some.1 h1
      obtain ⟨h3, hput, h4⟩ := bnd_some.1 h2
      rw [addPcs_iff h4 hA.tail b, T.put_spec _ _ _ _ hput b]
      rw [pcsG_cons]
      by_cases hb : b = r.lo
      · subst hb
        rw [if_pos (show piece r = true ∧ sel j0 = true ∧ r.lo = r.lo from ⟨hp, hs, rfl⟩), ho, if_pos rfl]
        cases hq : pcsG sel rs (j0 + 1) r.lo with
        | none => rfl
        | some q =>
          obtain ⟨j, x, h5, _, _, h6, _⟩ := (pcsG_iff hA.tail).1 hq
          exact absurd h6.symm (hA.head hp h5)
      · rw [if_neg hb, if_neg (fun (e : piece r = true ∧ sel j0 = true ∧ r.lo = b) => hb e.2.2.symm)]
    · have hn : ¬ (piece r = true ∧ sel j0 = true ∧ r.lo = b) := fun ⟨h2, h3, _⟩ => by rw [h2, h3] at hc; cases hc
      rw [addPcs_iff h1 hA.tail b]
      rw [pcsG_cons, if_neg hn]
theorem vEqB_eq {x y : Value} (h : vEqB x y = true) : x = y := by
  unfold vEqB at h
  split at h
  · rename_i a
    cases hb : asBool y with
    | none => rw [hb] at h; cases h
    | some b =>
      rw [hb] at h
      cases y <;> simp only [asBool] at hb <;> cases hb
      rename_i b
      cases a <;> cases b <;> first | rfl | cases h
  · rename_i k a
    cases hb : asInt y with
    | none => rw [hb] at h; cases h
    | some p =>
      rw [hb] at h
      obtain ⟨k', b⟩ := p
      obtain ⟨h1, h2⟩ := and2 (show Bool.and (kEq k k') (iEq a b) = true from h)
      cases y <;> simp only [asInt] at hb <;> cases hb
      rw [iEq_eq] at h2
      rw [kEq_iff.1 h1, (beq_iff_eq.1 h2)]
  · rename_i a
    cases hb : asStr y with
    | none => rw [hb] at h; cases h
    | some l =>
      rw [hb] at h
      cases y <;> simp only [asStr] at hb <;> cases hb
      rename_i b
      have h2 : bEq a.data.toList b.data.toList = true := h
      rw [bEq_eq, beq_iff_eq] at h2
      cases a; cases b
      simp only [Value.string.injEq, ByteArray.mk.injEq]
      exact Array.ext' h2
  · rename_i a
    cases y <;> simp only at h <;> (try cases h)
    rename_i b
    cases a with
    | none => cases b <;> first | rfl | cases h
    | some a =>
      have h' : Option.rec (motive := fun _ => Bool) false (fun p => Option.rec (motive := fun _ => Bool) false (fun q => Bool.and (Nat.beq p.1 q.1) (Nat.beq p.2 q.2)) (asPtr (.pointer b))) (asPtr (.pointer (some a))) = true := h
      obtain ⟨a1, a2, a3⟩ := a
      cases a3 with
      | some _ => cases h'
      | none =>
        cases b with
        | none => cases h'
        | some b =>
          obtain ⟨b1, b2, b3⟩ := b
          cases b3 with
          | some _ => cases h'
          | none =>
            obtain ⟨q1, q2⟩ := and2 (show Bool.and (Nat.beq a1 b1) (Nat.beq a2 b2) = true from h')
            rw [beq_nat.1 q1, beq_nat.1 q2]
  · rename_i a l c
    cases y <;> simp only at h <;> (try cases h)
    rename_i b l' c'
    obtain ⟨q1, q2⟩ := and2 h
    obtain ⟨q3, q4⟩ := and2 q1
    rw [beq_nat.1 q3, beq_nat.1 q4]
    cases a with
    | none => cases b <;> first | rfl | cases q2
    | some a =>
      cases b with
      | none => cases q2
      | some b =>
        obtain ⟨a1, a2, a3⟩ := a
        obtain ⟨b1, b2, b3⟩ := b
        obtain ⟨q5, q6⟩ := and2 q2
        obtain ⟨q7, q8⟩ := and2 q5
        obtain ⟨q9, q10⟩ := and2 q6
        simp only at q7 q8 q9 q10
        cases a3 with
        | some _ => cases q9
        | none =>
          cases b3 with
          | some _ => cases q10
          | none => rw [beq_nat.1 q7, beq_nat.1 q8]
  · rename_i a
    cases y <;> simp only at h <;> (try cases h)
    rename_i b
    cases a <;> cases b <;> first | rfl | cases h | skip
    rename_i a b
    rw [beq_nat.1 (show Nat.beq a b = true from h)]
  · rename_i a
    cases y <;> simp only at h <;> (try cases h)
    rename_i b
    cases a <;> cases b <;> first | rfl | cases h | skip
    rename_i a b
    rw [beq_nat.1 (show Nat.beq a b = true from h)]
  · cases y <;> simp only at h <;> first | rfl | cases h
  · cases y <;> simp only at h <;> first | rfl | cases h
  · cases h
theorem vEq0_eq {x y : Value} (h : vEq0 x y = true) : x = y := by
  unfold vEq0 at h
  split at h
  · cases y <;> simp only at h <;> (try cases h)
    obtain ⟨h1, h2⟩ := and2 h
    rw [beq_nat.1 h1, vEqB_eq h2]
  · exact vEqB_eq h
theorem vEqL_eq : ∀ {xs ys : List Value}, vEqL xs ys = true → xs = ys
  | [], [], _ => rfl
  | [], _ :: _, h => by cases h
  | _ :: _, [], h => by cases h
  | x :: xs, y :: ys, h => by
    have h' : Bool.rec (motive := fun _ => Bool) false (vEqL xs ys) (vEq0 x y) = true := h
    cases h0 : vEq0 x y with
    | false => rw [h0] at h'; cases h'
    | true => rw [h0] at h'; rw [vEq0_eq h0, vEqL_eq h']
theorem vEq_eq {x y : Value} (h : vEq x y = true) : x = y := by
  unfold vEq at h
  split at h
  · cases y <;> simp only at h <;> (try cases h)
    rw [Array.ext' (vEqL_eq h)]
  · cases y <;> simp only at h <;> (try cases h)
    rw [Array.ext' (vEqL_eq h)]
  · exact vEq0_eq h
section
variable {P : Program} {ex : CaF} {φ : T Value}
theorem ca0_ok : CaOk P ca0 := fun _f _args _s _v _s' h => nomatch h
/-- a load leaves the memory as it is -/
theorem load_same {o : Oper} {h : T AO} {v : Value} {s' : St} (hc : clsOf P o = 2) (hr : opF o.op P ca0 ⟨h, 0⟩ φ = some (v, s')) : s' = ⟨h, 0⟩ := by
  unfold clsOf at hc
  cases ho : o.op <;> rw [ho] at hc hr <;> simp only at hc <;> (try cases hc)
  case load t a =>
    obtain ⟨_, _, h1⟩ := bnd_some.1 hr
    obtain ⟨_, _, _, h2⟩ := bnd2_some.1 h1
    exact (pureS_some h2).2
  case lookup t x i ok =>
    obtain ⟨_, _, h1⟩ := bnd_some.1 hr
    obtain ⟨_, _, h2⟩ := bnd_some.1 h1
    exact (pureS_some h2).2
  case convert src dst x =>
    obtain ⟨u, _, h1⟩ := bnd_some.1 hr
    obtain ⟨ds, _, h2⟩ := bnd_some.1 h1
    obtain ⟨dd, _, h3⟩ := bnd_some.1 h2
    cases u <;> simp only at h3 <;> (try cases h3)
    case string =>
      cases dd <;> simp only [convStr] at h3 <;> (try cases h3)
      · rfl
      · obtain ⟨_, h3⟩ := bB_some.1 h3
        obtain ⟨_, _, h4⟩ := bnd_some.1 h3
        obtain ⟨_, h5⟩ := bB_some.1 h4
        obtain ⟨_, _, h6⟩ := bnd_some.1 h5
        obtain ⟨_, h7⟩ := bB_some.1 h6
        obtain ⟨_, _, h8⟩ := bnd_some.1 h7
        obtain ⟨_, h9⟩ := bB_some.1 h8
        obtain ⟨_, _, h10, _⟩ := bnd2_some.1 h9
        cases h10
    all_goals exact (pureS_some h3).2
  case call c =>
    cases hcc : c.callee with
    | value x => rw [hcc] at hc; cases hc
    | invoke r m => rw [hcc] at hc; cases hc
    | builtin b =>
      rw [hcc] at hc
      simp only at hc
      obtain ⟨vs, _, h1⟩ := bnd_some.1 (show bnd (evs P φ c.args.toList) (fun vs => opBuiltin b P ⟨h, 0⟩ c.argTypes.toList vs) = some (v, s') from (by simp only [opF] at hr; rw [hcc] at hr; exact hr))
      cases b <;> simp only [clsB] at hc <;> (try cases hc)
      simp only [opBuiltin] at h1
      obtain ⟨_, _, h2⟩ := bnd_some.1 h1
      obtain ⟨_, _, h3⟩ := bnd_some.1 h2
      exact (pureS_some h3).2
/-- where a load was made -/
theorem loadAtH_some {o : Oper} {sel : Nat → Bool} {rs : List Rc} {h : T AO} {v : Value} (hc : clsOf P o = 2) (hr : loadAtH P φ o sel rs h = some v) :
    opF o.op P ca0 ⟨h, 0⟩ φ = some (v, ⟨h, 0⟩) ∨ ∃ (j : Nat) (r : Rc) (ob : AO) (k : T AO), rs[j]? = some r ∧ piece r = true ∧ sel j = true ∧ r.pc.get r.lo = some ob ∧ (∀ b, k.get b = if b = r.lo then some ob else none) ∧ opF o.op P ca0 ⟨k, 0⟩ φ = some (v, ⟨k, 0⟩) := by
  have key : ∀ (rs : List Rc) (j0 : Nat), loadAtP P φ o sel rs j0 = some v → ∃ (j : Nat) (r : Rc) (ob : AO) (k : T AO), rs[j]? = some r ∧ piece r = true ∧ sel (j0 + j) = true ∧ r.pc.get r.lo = some ob ∧ (∀ b, k.get b = if b = r.lo then some ob else none) ∧ opF o.op P ca0 ⟨k, 0⟩ φ = some (v, ⟨k, 0⟩) := by
    intro rs
    induction rs with
    | nil => intro j0 h1; cases h1
    | cons r rs ih =>
      intro j0 h1
      have next : loadAtP P φ o sel rs (j0 + 1) = some v → ∃ (j : Nat) (r' : Rc) (ob : AO) (k : T AO), (r :: rs)[j]? = some r' ∧ piece r' = true ∧ sel (j0 + j) = true ∧ r'.pc.get r'.lo = some ob ∧ (∀ b, k.get b = if b = r'.lo then some ob else none) ∧ opF o.op P ca0 ⟨k, 0⟩ φ = some (v, ⟨k, 0⟩) := fun h2 => by
        obtain ⟨j, q, ob, k, e1, e2, e3, e4⟩ := ih (j0 + 1) h2
        exact ⟨j + 1, q, ob, k, by simpa using e1, e2, by rw [show j0 + (j + 1) = j0 + 1 + j by omega]; exact e3, e4⟩
      rcases bE_some.1 (show bE (Bool.and (piece r) (sel j0)) (bnd (r.pc.get r.lo) fun ob => bnd (T.nil.put r.lo (some ob)) fun h => Option.rec (motive := fun _ => Option Value) (loadAtP P φ o sel rs (j0 + 1)) (fun p => some p.1) (opF o.op P ca0 ⟨h, 0⟩ φ)) (loadAtP P φ o sel rs (j0 + 1)) = some v from h1) with ⟨hp, h2⟩ | ⟨_, h2⟩
      · obtain ⟨hp1, hp2⟩ := and2 hp
        obtain ⟨ob, hob, h3⟩ := bnd_some.1 h2
        obtain ⟨k, hk, h4⟩ := bnd_some.1 h3
        cases hop : opF o.op P ca0 ⟨k, 0⟩ φ with
        | none => rw [hop] at h4; exact next h4
        | some p =>
          rw [hop] at h4
          obtain ⟨v2, s2⟩ := p
          cases (show some v2 = some v from h4)
          have := load_same hc hop
          subst this
          exact ⟨0, r, ob, k, rfl, hp1, hp2, hob, fun b => by rw [T.put_spec _ _ _ _ hk b, T.get_nil], hop⟩
      · exact next h2
  cases hop : opF o.op P ca0 ⟨h, 0⟩ φ with
  | none =>
    unfold loadAtH at hr
    rw [hop] at hr
    obtain ⟨j, r, ob, k, e1, e2, e3, e4, e5, e6⟩ := key rs 0 hr
    exact .inr ⟨j, r, ob, k, e1, e2, by rw [Nat.zero_add] at e3; exact e3, e4, e5, e6⟩
  | some p =>
    unfold loadAtH at hr
    rw [hop] at hr
    obtain ⟨v2, s2⟩ := p
    cases (show some v2 = some v from hr)
    have := load_same hc hop
    subst this
    exact .inl rfl
theorem loadChk_spec {ms : List Nat} {rs : List Rc} {i : Nat} {r : Rc} : ∀ {hs : List (T AO)} {last : Nat} {es : List Nat}, loadChk P ms rs i r hs last es = true → ∀ (k : Nat) (h : T AO), hs[k]? = some h → k ≤ es.length →
    mayStand ms i (match k with | 0 => last | k + 1 => es.getD k 0 + 1) (es.drop k) = true → hereOk P ms rs i (match k with | 0 => last | k + 1 => es.getD k 0 + 1) r h = true
  | [], last, es, _, k, h, hk, _, _ => by simp at hk
  | h0 :: hs, last, es, hc, k, h, hk, hle, hm => by
    obtain ⟨h1, h2⟩ := and2 (show Bool.and (Bool.or (Bool.not (mayStand ms i last es)) (hereOk P ms rs i last r h0)) (List.rec (motive := fun _ => Bool) true (fun e es _ => loadChk P ms rs i r hs (e + 1) es) es) = true from hc)
    cases k with
    | zero =>
      cases (show some h0 = some h from hk)
      rcases or2 h1 with h3 | h3
      · have hm' : mayStand ms i last es = true := by simpa using hm
        rw [hm'] at h3; cases h3
      · exact h3
    | succ k =>
      cases es with
      | nil => simp at hle
      | cons e es =>
        have h3 : loadChk P ms rs i r hs (e + 1) es = true := h2
        have hk' : hs[k]? = some h := by simpa using hk
        have := loadChk_spec h3 k h hk' (by simpa using hle)
        cases k with
        | zero => exact this (by simpa using hm)
        | succ k => exact this (by simpa using hm)
end
end Go.Proofs.YtgdlfecppecooaaGreatDoor.ev
