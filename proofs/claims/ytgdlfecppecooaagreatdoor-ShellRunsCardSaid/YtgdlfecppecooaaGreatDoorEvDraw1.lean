/- An evaluator of closed calls: a region whose order is drawn: what was computed. -/
import Derived.Test.YtgdlfecppecooaaGreatDoorEvMask
set_option linter.all false
namespace Go.Proofs.YtgdlfecppecooaaGreatDoor.ev
open Go Go.RowKit
section
variable {P : Program} {ex : CaF} {L : List Oper} {N : Nat} {ms : List Nat}
theorem restr_spec {φ : T Value} : ∀ {ts : List (Option Tmp)} {ψ ψ' : T Value}, restr φ ts ψ = some ψ' → ∀ t, ψ'.get t = if some t ∈ ts ∧ φ.get t ≠ none then φ.get t else ψ.get t
  | [], ψ, ψ', h, t => by cases (show some ψ = some ψ' from h); simp
  | none :: ts, ψ, ψ', h, t => by
    rw [restr_spec (show restr φ ts ψ = some ψ' from h) t]
    simp
  | some x :: ts, ψ, ψ', h, t => by
    have h' : Option.rec (motive := fun _ => Option (T Value)) (restr φ ts ψ) (fun v => bnd (ψ.put x (some v)) fun ψ => restr φ ts ψ) (φ.get x) = some ψ' := h
    cases hx : φ.get x with
    | none =>
      rw [hx] at h'
      rw [restr_spec h' t]
      by_cases e : t = x
      · subst e; simp [hx]
      · simp [e]
    | some v =>
      rw [hx] at h'
      obtain ⟨ψ1, h1, h2⟩ := bnd_some.1 h'
      rw [restr_spec h2 t, T.put_spec _ _ _ _ h1 t]
      by_cases e : t = x
      · subst e; simp [hx]
      · simp [e]
/-- The frame ahead of operation i: what was written by the operations ahead of it. -/
def PHI (L : List Oper) (φ0 : T Value) (rs : List Rc) (φ : T Value) : Prop :=
  (∀ (j : Nat) (r : Rc) (o : Oper) (d : Tmp), rs[j]? = some r → L[j]? = some o → o.dst = some d → φ.get d = some r.v) ∧ ∀ t, (∀ (j : Nat) (r : Rc) (o : Oper), rs[j]? = some r → L[j]? = some o → o.dst ≠ some t) → φ.get t = φ0.get t
/-- the last effect's place, one more -/
def lastOf (es : List Nat) (k : Nat) : Nat := match k with
  | 0 => 0
  | k + 1 => es.getD k 0 + 1
/-- What is recorded of an operation. hs: the heaps so far, es: the effects' places so far. -/
structure RcOk (P : Program) (ex : CaF) (L : List Oper) (ms : List Nat) (φ0 : T Value) (rs : List Rc) (hs : List (T AO)) (es : List Nat) (i : Nat) (o : Oper) (r : Rc) : Prop where
  op : r.o = o
  le : r.lo ≤ r.hi
  fr : ∃ φ, PHI L φ0 (rs.take i) φ ∧ ∀ t, (Reads L o t → r.φ.get t = φ.get t) ∧ (¬ Reads L o t → r.φ.get t = none)
  kind : (r.cls = 0 ∧ wantA L r.φ o = false ∧ r.v = undef ∧ r.hi = r.lo) ∨
    (r.cls = 1 ∧ wantA L r.φ o = true ∧ clsOf P o = 1 ∧ opF o.op P ca0 ⟨.nil, r.lo⟩ r.φ = some (r.v, ⟨r.pc, r.hi⟩) ∧ r.hi ≤ r.lo + 1) ∨
    (r.cls = 2 ∧ wantA L r.φ o = true ∧ clsOf P o = 2 ∧ r.hi = r.lo) ∨
    (r.cls = 3 ∧ wantA L r.φ o = true ∧ clsOf P o = 3 ∧ ∃ (k : Nat) (h h' K : T AO) (last : Nat), es[k]? = some i ∧ hs[k]? = some h ∧ hs[k + 1]? = some h' ∧ last = lastOf es k ∧
      addPcs (fun j => Bool.and (inM ms j i) (notBefore ms last j)) (rs.take i) 0 h = some K ∧ opF o.op P ex ⟨K, r.lo⟩ r.φ = some (r.v, ⟨h', r.hi⟩))
structure DsOk (P : Program) (ex : CaF) (L : List Oper) (N : Nat) (ms : List Nat) (φ0 : T Value) (s : St) (i : Nat) (d : Ds) : Prop where
  len : d.rs.length = i
  phi : PHI L φ0 d.rs d.φ
  rc : ∀ (j : Nat) (o : Oper) (r : Rc), L[j]? = some o → d.rs[j]? = some r → RcOk P ex L ms φ0 d.rs d.hs d.es j o r
  hsl : d.hs.length = d.es.length + 1
  cur : d.hs[d.es.length]? = some d.h
  h0 : d.hs[0]? = some s.h
  last : d.last = lastOf d.es d.es.length
  esr : ∀ (k e : Nat), d.es[k]? = some e → e < i ∧ ∃ r, d.rs[e]? = some r ∧ r.cls = 3
  ese : ∀ (e : Nat) (r : Rc), d.rs[e]? = some r → r.cls = 3 → ∃ k : Nat, d.es[k]? = some e
  inc : ∀ k l e f : Nat, k < l → d.es[k]? = some e → d.es[l]? = some f → e < f
  lo0 : s.nx ≤ d.nx ∧ ∀ (j : Nat) (r : Rc), d.rs[j]? = some r → s.nx ≤ r.lo ∧ r.hi ≤ d.nx
  apart : ∀ (j k : Nat) (r q : Rc), j < k → d.rs[j]? = some r → d.rs[k]? = some q → r.hi ≤ q.lo
  dst : ∀ (j : Nat) (o : Oper) (d' : Tmp), j < i → L[j]? = some o → o.dst = some d' → d' < N
theorem RcOk.grow {φ0 : T Value} {rs rs' : List Rc} {hs hs' : List (T AO)} {es es' : List Nat} {i : Nat} {o : Oper} {r : Rc} (h : RcOk P ex L ms φ0 rs hs es i o r) (h1 : rs'.take i = rs.take i) (h2 : ∀ (k : Nat) (x : T AO), hs[k]? = some x → hs'[k]? = some x) (h3 : ∀ (k x : Nat), es[k]? = some x → es'[k]? = some x) : RcOk P ex L ms φ0 rs' hs' es' i o r := by
  refine ⟨h.op, h.le, by rw [h1]; exact h.fr, ?_⟩
  rcases h.kind with k | k | k | ⟨k1, k2, k3, k, a, b, K, last, e1, e2, e3, e4, e5, e6⟩
  · exact .inl k
  · exact .inr (.inl k)
  · exact .inr (.inr (.inl k))
  · refine .inr (.inr (.inr ⟨k1, k2, k3, k, a, b, K, last, h3 _ _ e1, h2 _ _ e2, h2 _ _ e3, ?_, by rw [h1]; exact e5, e6⟩))
    cases k with
    | zero => exact e4
    | succ k =>
      have hk : k < es.length := by
        have := (List.getElem?_eq_some_iff.1 e1).1
        omega
      have := h3 k _ (List.getElem?_eq_getElem hk)
      rw [e4]
      simp only [lastOf, List.getD_eq_getElem?_getD]
      rw [this, List.getElem?_eq_getElem hk]
theorem get_snoc {α : Type} {l : List α} {a : α} {k : Nat} {x : α} (h : (l ++ [a])[k]? = some x) : (l[k]? = some x) ∨ (k = l.length ∧ x = a) := by
  by_cases hk : k < l.length
  · rw [List.getElem?_append_left hk] at h; exact .inl h
  · rw [List.getElem?_append_right (by omega)] at h
    have := (List.getElem?_eq_some_iff.1 h).1
    simp at this
    have hk2 : k = l.length := by omega
    subst hk2
    simp at h
    exact .inr ⟨rfl, h.symm⟩
theorem snoc_get {α : Type} {l : List α} {a : α} {k : Nat} {x : α} (h : l[k]? = some x) : (l ++ [a])[k]? = some x := by
  rw [List.getElem?_append_left (List.getElem?_eq_some_iff.1 h).1]; exact h
/-- one operation more is recorded -/
theorem DsOk.step {φ0 : T Value} {s : St} {i : Nat} {d : Ds} {o : Oper} {r : Rc} {φ' ψ : T Value} (hd : DsOk P ex L N ms φ0 s i d) (hL : StOk P L ms) (ho : L[i]? = some o) (hψ : restr d.φ (readsOf L o) .nil = some ψ)
    (hφ : putA N d.φ o.dst r.v = some φ') (hr1 : r.o = o) (hr2 : r.φ = ψ) (hr3 : r.lo = d.nx) (hr4 : r.lo ≤ r.hi) {h' : T AO} {hs' : List (T AO)} {es' : List Nat} {last' : Nat}
    (hh : (r.cls ≠ 3 ∧ h' = d.h ∧ hs' = d.hs ∧ es' = d.es ∧ last' = d.last) ∨ (r.cls = 3 ∧ hs' = d.hs ++ [h'] ∧ es' = d.es ++ [i] ∧ last' = i + 1))
    (kind : (r.cls = 0 ∧ wantA L ψ o = false ∧ r.v = undef ∧ r.hi = r.lo) ∨
      (r.cls = 1 ∧ wantA L ψ o = true ∧ clsOf P o = 1 ∧ opF o.op P ca0 ⟨.nil, r.lo⟩ ψ = some (r.v, ⟨r.pc, r.hi⟩) ∧ r.hi ≤ r.lo + 1) ∨
      (r.cls = 2 ∧ wantA L ψ o = true ∧ clsOf P o = 2 ∧ r.hi = r.lo) ∨
      (r.cls = 3 ∧ wantA L ψ o = true ∧ clsOf P o = 3 ∧ ∃ K, addPcs (fun j => Bool.and (inM ms j i) (notBefore ms d.last j)) d.rs 0 d.h = some K ∧ opF o.op P ex ⟨K, r.lo⟩ ψ = some (r.v, ⟨h', r.hi⟩))) :
    DsOk P ex L N ms φ0 s (i + 1) ⟨φ', h', hs', r.hi, last', es', d.rs ++ [r]⟩ := by
  obtain ⟨p1, p2⟩ := putA_some hφ
  have hlen := hd.len
  have hsg : ∀ (k : Nat) (x : T AO), d.hs[k]? = some x → hs'[k]? = some x := fun k x hx => by
    rcases hh with ⟨_, _, e, _⟩ | ⟨_, e, _⟩
    · rw [e]; exact hx
    · rw [e]; exact snoc_get hx
  have heg : ∀ (k x : Nat), d.es[k]? = some x → es'[k]? = some x := fun k x hx => by
    rcases hh with ⟨_, _, _, e, _⟩ | ⟨_, _, e, _⟩
    · rw [e]; exact hx
    · rw [e]; exact snoc_get hx
  have htake : ∀ j, j ≤ i → (d.rs ++ [r]).take j = d.rs.take j := fun j hj => by rw [List.take_append_of_le_length (by omega)]
  have htl : d.rs.take i = d.rs := List.take_of_length_le (by omega)
  refine ⟨by simp [hlen], ⟨fun j q oj dj hq hoj hdj => ?_, fun t ht => ?_⟩, fun j oj q hoj hq => ?_, ?_, ?_, ?_, ?_, fun k e he => ?_, fun e q hq hc => ?_, fun k l e f hkl he hf => ?_, ⟨by have := hd.lo0.1; simp only; omega, fun j q hq => ?_⟩, fun j k q p hjk hq hp => ?_, fun j oj dj hj hoj hdj => ?_⟩
  · rw [p2]
    rcases get_snoc hq with hq | ⟨rfl, rfl⟩
    · have hj : j < i := by rw [← hlen]; exact (List.getElem?_eq_some_iff.1 hq).1
      rw [if_neg (fun e => hL.wr i j o oj dj ho hoj (by omega) hdj e)]
      exact hd.phi.1 j q oj dj hq hoj hdj
    · rw [hlen, ho] at hoj
      cases hoj
      rw [if_pos hdj]
  · rw [p2]
    rw [if_neg (ht i r o (by simp [hlen]) ho)]
    exact hd.phi.2 t fun j q oj hq hoj => ht j q oj (snoc_get hq) hoj
  · rcases get_snoc hq with hq | ⟨rfl, rfl⟩
    · have hj : j < i := by rw [← hlen]; exact (List.getElem?_eq_some_iff.1 hq).1
      exact (hd.rc j oj q hoj hq).grow (htake j (by omega)) hsg heg
    · rw [hlen] at hoj ⊢
      rw [ho] at hoj
      cases hoj
      refine ⟨hr1, hr4, ⟨d.φ, by rw [htake i (Nat.le_refl _), htl]; exact hd.phi, fun t => ?_⟩, ?_⟩
      · rw [hr2, restr_spec hψ t, T.get_nil]
        unfold Reads
        by_cases h1 : some t ∈ readsOf L o
        · by_cases h2 : d.φ.get t = none
          · simp [h1, h2]
          · simp [h1, h2]
        · simp [h1]
      · rw [hr2]
        rcases kind with k | k | k | ⟨k1, k2, k3, K, k4, k5⟩
        · exact .inl k
        · exact .inr (.inl k)
        · exact .inr (.inr (.inl k))
        · rcases hh with ⟨e, _⟩ | ⟨_, e1, e2, e3⟩
          · exact absurd k1 e
          · refine .inr (.inr (.inr ⟨k1, k2, k3, d.es.length, d.h, h', K, d.last, by rw [e2]; simp, hsg _ _ hd.cur, by rw [e1, ← hd.hsl]; simp, ?_, by rw [htake i (Nat.le_refl _), htl]; exact k4, k5⟩))
            rw [hd.last]
            cases hk : d.es.length with
            | zero => rfl
            | succ k =>
              simp only [lastOf, List.getD_eq_getElem?_getD]
              have hkl : k < d.es.length := by omega
              rw [heg k _ (List.getElem?_eq_getElem hkl), List.getElem?_eq_getElem hkl]
  · rcases hh with ⟨_, _, e1, e2, _⟩ | ⟨_, e1, e2, _⟩
    · rw [e1, e2]; exact hd.hsl
    · rw [e1, e2]; simp [hd.hsl]
  · rcases hh with ⟨_, e0, e1, e2, _⟩ | ⟨_, e1, e2, _⟩
    · rw [e1, e2, e0]; exact hd.cur
    · rw [e1, e2]; simp [← hd.hsl]
  · exact hsg _ _ hd.h0
  · rcases hh with ⟨_, _, _, e2, e3⟩ | ⟨_, _, e2, e3⟩
    · rw [e2, e3]; exact hd.last
    · rw [e2, e3]; simp [lastOf]
  · rcases hh with ⟨_, _, _, e2, _⟩ | ⟨e0, _, e2, _⟩
    · rw [e2] at he
      obtain ⟨h1, q, h2, h3⟩ := hd.esr k e he
      exact ⟨by omega, q, snoc_get h2, h3⟩
    · rw [e2] at he
      rcases get_snoc he with he | ⟨_, rfl⟩
      · obtain ⟨h1, q, h2, h3⟩ := hd.esr k e he
        exact ⟨by omega, q, snoc_get h2, h3⟩
      · exact ⟨by omega, r, by simp [← hlen], e0⟩
  · rcases get_snoc hq with hq | ⟨rfl, rfl⟩
    · obtain ⟨k, hk⟩ := hd.ese e q hq hc
      exact ⟨k, heg k e hk⟩
    · rcases hh with ⟨e0, _⟩ | ⟨_, _, e2, _⟩
      · exact absurd hc e0
      · exact ⟨d.es.length, by rw [e2, hlen]; simp⟩
  · rcases hh with ⟨_, _, _, e2, _⟩ | ⟨_, _, e2, _⟩
    · rw [e2] at he hf; exact hd.inc k l e f hkl he hf
    · rw [e2] at he hf
      rcases get_snoc hf with hf2 | ⟨hl, rfl⟩
      · rcases get_snoc he with he2 | ⟨hk, rfl⟩
        · exact hd.inc k l e f hkl he2 hf2
        · have h9 : l < d.es.length := (List.getElem?_eq_some_iff.1 hf2).1
          omega
      · rcases get_snoc he with he2 | ⟨hk, rfl⟩
        · exact (hd.esr k e he2).1
        · omega
  · rcases get_snoc hq with hq | ⟨rfl, rfl⟩
    · obtain ⟨h1, h2⟩ := hd.lo0.2 j q hq
      exact ⟨h1, by simp only; omega⟩
    · have := hd.lo0.1
      exact ⟨by omega, Nat.le_refl _⟩
  · rcases get_snoc hp with hp2 | ⟨hk, rfl⟩
    · rcases get_snoc hq with hq2 | ⟨hj, rfl⟩
      · exact hd.apart j k q p hjk hq2 hp2
      · have h9 : k < d.rs.length := (List.getElem?_eq_some_iff.1 hp2).1
        omega
    · rcases get_snoc hq with hq2 | ⟨hj, rfl⟩
      · have := (hd.lo0.2 j q hq2).2; omega
      · omega
  · by_cases hji : j < i
    · exact hd.dst j oj dj hji hoj hdj
    · have : j = i := by omega
      subst this
      rw [ho] at hoj
      cases hoj
      exact p1 dj hdj
theorem drawOne_ok {φ0 : T Value} {s : St} {i : Nat} {d d' : Ds} {o : Oper} (hd : DsOk P ex L N ms φ0 s i d) (hL : StOk P L ms) (ho : L[i]? = some o) (h : drawOne P ex L N ms i o d = some d') : DsOk P ex L N ms φ0 s (i + 1) d' := by
  obtain ⟨ψ, hψ, h1⟩ := bnd_some.1 h
  rcases bE_some.1 h1 with ⟨hw, h2⟩ | ⟨hw, h2⟩
  · rcases bE_some.1 h2 with ⟨hc, h3⟩ | ⟨hc, h3⟩
    · obtain ⟨v, s2, h4, h5⟩ := bnd2_some.1 h3
      obtain ⟨φ', h6, h7⟩ := bnd_some.1 h5
      obtain ⟨h8, h9⟩ := bB_some.1 h7
      obtain ⟨q1, q2⟩ := and2 h8
      obtain ⟨rs, h10, h11⟩ := bnd_some.1 h9
      rw [sApp_eq] at h10
      cases h10; cases h11
      exact hd.step (r := ⟨o, 1, v, ψ, d.nx, s2.nx, s2.h⟩) hL ho hψ h6 rfl rfl rfl (ble_nat.1 q1) (.inl ⟨by simp, rfl, rfl, rfl, rfl⟩) (.inr (.inl ⟨rfl, hw, beq_nat.1 hc, h4, ble_nat.1 q2⟩))
    · rcases bE_some.1 h3 with ⟨hc2, h4⟩ | ⟨hc2, h4⟩
      · obtain ⟨v, h5, h6⟩ := bnd_some.1 h4
        obtain ⟨φ', h7, h8⟩ := bnd_some.1 h6
        obtain ⟨rs, h10, h11⟩ := bnd_some.1 h8
        rw [sApp_eq] at h10
        cases h10; cases h11
        exact hd.step (r := ⟨o, 2, v, ψ, d.nx, d.nx, .nil⟩) hL ho hψ h7 rfl rfl rfl (Nat.le_refl _) (.inl ⟨by simp, rfl, rfl, rfl, rfl⟩) (.inr (.inr (.inl ⟨rfl, hw, beq_nat.1 hc2, rfl⟩)))
      · obtain ⟨hc3, h5⟩ := bB_some.1 h4
        obtain ⟨K, h6, h7⟩ := bnd_some.1 h5
        obtain ⟨v, s2, h8, h9⟩ := bnd2_some.1 h7
        obtain ⟨φ', h10, h11⟩ := bnd_some.1 h9
        obtain ⟨h12, h13⟩ := bB_some.1 h11
        obtain ⟨rs, h14, h15⟩ := bnd_some.1 h13
        obtain ⟨hs, h16, h17⟩ := bnd_some.1 h15
        obtain ⟨es, h18, h19⟩ := bnd_some.1 h17
        rw [sApp_eq] at h14 h16 h18
        cases h14; cases h16; cases h18; cases h19
        exact hd.step (r := ⟨o, 3, v, ψ, d.nx, s2.nx, .nil⟩) hL ho hψ h10 rfl rfl rfl (ble_nat.1 h12) (.inr ⟨rfl, rfl, rfl, rfl⟩) (.inr (.inr (.inr ⟨rfl, hw, beq_nat.1 hc3, K, h6, h8⟩)))
  · obtain ⟨φ', h3, h4⟩ := bnd_some.1 h2
    obtain ⟨rs, h10, h11⟩ := bnd_some.1 h4
    rw [sApp_eq] at h10
    cases h10; cases h11
    exact hd.step (r := ⟨o, 0, undef, ψ, d.nx, d.nx, .nil⟩) hL ho hψ h3 rfl rfl rfl (Nat.le_refl _) (.inl ⟨by simp, rfl, rfl, rfl, rfl⟩) (.inl ⟨rfl, hw, rfl, rfl⟩)
theorem drawAll_ok {φ0 : T Value} {s : St} (hL : StOk P L ms) : ∀ {l pre : List Oper} {d d' : Ds}, pre ++ l = L → DsOk P ex L N ms φ0 s pre.length d → drawAll P ex L N ms l pre.length d = some d' → DsOk P ex L N ms φ0 s L.length d'
  | [], pre, d, d', hl, hd, h => by
    cases (show some d = some d' from h)
    have e : L.length = pre.length := by rw [← hl, List.append_nil]
    rw [e]; exact hd
  | o :: l, pre, d, d', hl, hd, h => by
    obtain ⟨d1, h1, h2⟩ := bnd_some.1 (show bnd (drawOne P ex L N ms pre.length o d) (fun d => drawAll P ex L N ms l (pre.length + 1) d) = some d' from h)
    have ho : L[pre.length]? = some o := by rw [← hl]; simp
    have hd1 := drawOne_ok hd hL ho h1
    have e : (pre ++ [o]).length = pre.length + 1 := by simp
    rw [← e] at hd1 h2
    exact drawAll_ok hL (by rw [List.append_assoc]; exact hl) hd1 h2
theorem DsOk.start (s : St) (φ : T Value) : DsOk P ex L N ms φ s 0 ⟨φ, s.h, [s.h], s.nx, 0, [], []⟩ :=
  ⟨rfl, ⟨fun j r o d h => by simp at h, fun t _ => rfl⟩, fun j o r _ h => by simp at h, rfl, rfl, rfl, rfl, fun k e h => by simp at h, fun e r h => by simp at h, fun k l e f _ h => by simp at h, ⟨Nat.le_refl _, fun j r h => by simp at h⟩, fun j k r q _ h => by simp at h, fun j o d h => by omega⟩
end
end Go.Proofs.YtgdlfecppecooaaGreatDoor.ev
