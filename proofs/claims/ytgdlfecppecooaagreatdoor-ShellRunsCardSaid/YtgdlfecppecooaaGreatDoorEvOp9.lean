/- An evaluator of closed calls: maps. -/
import Derived.Test.YtgdlfecppecooaaGreatDoorEvOp8
set_option linter.all false
namespace Go.Proofs.YtgdlfecppecooaaGreatDoor.ev
open Go Go.RowKit
section
variable {P : Program} {M M' : Pm} {φ : T Value} {a : Act} {N : Nat} {w : World} {s s' : St}
theorem and2 {a b : Bool} (h : Bool.and a b = true) : a = true ∧ b = true := by cases a <;> cases b <;> simp_all [Bool.and]
/-- what was found -/
def FoundR (M : Pm) (r r' : Option (Nat × Value)) : Prop := (r = none ∧ r' = none) ∨ ∃ i v v', r = some (i, v) ∧ r' = some (i, v') ∧ VR M v v'
theorem ER.uncons {e : MapEntry} {es es' : List MapEntry} (h : ER M (e :: es) es') : ∃ e' r, es' = e' :: r ∧ VR M e.key e'.key ∧ VR M e.val e'.val ∧ ER M es r := by
  obtain ⟨hl, hr⟩ := h
  cases es' with
  | nil => simp at hl
  | cons e' r =>
    obtain ⟨h1, h2, _⟩ := hr 0 e e' rfl rfl
    exact ⟨e', r, rfl, h1, h2, by simpa using hl, fun i a b f g => hr (i + 1) a b (by simpa using f) (by simpa using g)⟩
theorem sameNow_run {t : TypeId} {d : TypeDesc} {k e k' e' : Value} {r : Bool} (h : eqA P t k e = some r) (hd : P.underlying t = some d) (h0 : keyT0 d = true) (hk : VR M k k') (he : VR M e e') : Instr.sameNow d k' e' = some r := by
  obtain ⟨d', hd', h1⟩ := bnd_some.1 (show bnd (P.underlying t) (fun d => eqD P (eqT P 3) t d k e) = some r from h)
  obtain rfl : d = d' := by rw [hd] at hd'; exact Option.some.inj hd'
  cases d <;> simp only [keyT0] at h0 <;> (try cases h0)
  case bool =>
    obtain ⟨x, hx, h2⟩ := bnd_some.1 (show bnd (asBool k) (fun a => bnd (asBool e) fun b => some (Bool.rec (motive := fun _ => Bool) (Bool.not b) b a)) = some r from h1)
    obtain ⟨y, hy, h3⟩ := bnd_some.1 h2
    cases h3
    obtain ⟨_, rfl⟩ := asBool_VR hx hk
    obtain ⟨_, rfl⟩ := asBool_VR hy he
    cases x <;> cases y <;> rfl
  case int k0 =>
    obtain ⟨k1, x, hx, h2⟩ := bnd2_some.1 (show bnd2 (asInt k) (fun k a => bnd2 (asInt e) fun k' b => bB (kEq k k') (some (iEq a b))) = some r from h1)
    obtain ⟨k2, y, hy, h3⟩ := bnd2_some.1 h2
    obtain ⟨hkk, h4⟩ := bB_some.1 h3
    cases h4
    obtain rfl := kEq_iff.1 hkk
    obtain ⟨_, rfl⟩ := asInt_VR hx hk
    obtain ⟨_, rfl⟩ := asInt_VR hy he
    simp [Instr.sameNow, iEq_eq]
  case string =>
    obtain ⟨x, hx, h2⟩ := bnd_some.1 (show bnd (asStr k) (fun a => bnd (asStr e) fun b => some (bEq a b)) = some r from h1)
    obtain ⟨y, hy, h3⟩ := bnd_some.1 h2
    cases h3
    obtain ⟨sa, _, rfl, rfl⟩ := asStr_VR hx hk
    obtain ⟨sb, _, rfl, rfl⟩ := asStr_VR hy he
    have := run_equalIn_string (P := P) default 0 t sa sb hd
    have e2 := beq_toListBytes sa sb
    simp only [Instr.sameNow, bEq_eq, ← toL]
    rw [e2]
theorem findNow_run {t : TypeId} {d : TypeDesc} {k k' : Value} (hd : P.underlying t = some d) (h0 : keyT0 d = true) (hk : VR M k k') : ∀ {es es' : List MapEntry} {i : Nat} {r : Option (Nat × Value)}, findA P t k es i = some r → ER M es es' →
    ∃ r', Instr.findNow d k' es' i = some r' ∧ FoundR M r r'
  | [], es', i, r, h, he => by
    cases (show some none = some r from h)
    have : es' = [] := List.eq_nil_of_length_eq_zero he.1.symm
    subst this
    exact ⟨none, rfl, .inl ⟨rfl, rfl⟩⟩
  | e :: es, es', i, r, h, he => by
    obtain ⟨e', rest, rfl, h1, h2, h3⟩ := he.uncons
    obtain ⟨q, hq, h4⟩ := bnd_some.1 (show bnd (eqA P t k e.key) (fun r => bE r (some (some (i, e.val))) (findA P t k es (i + 1))) = some r from h)
    have hs := sameNow_run hq hd h0 hk h1
    rcases bE_some.1 h4 with ⟨rfl, h5⟩ | ⟨rfl, h5⟩
    · cases h5
      exact ⟨some (i, e'.val), by simp only [Instr.findNow, hs], .inr ⟨i, _, _, rfl, rfl, h2⟩⟩
    · obtain ⟨r', h6, h7⟩ := findNow_run hd h0 hk h5 h3
      exact ⟨r', by simp only [Instr.findNow, hs]; exact h6, h7⟩
theorem findAsking_run {t : TypeId} {k k' : Value} (hk : VR M k k') : ∀ {es es' : List MapEntry} {i : Nat} {r : Option (Nat × Value)}, findA P t k es i = some r → ER M es es' → ∃ r', (∀ w, (Instr.findAsking t k' es' i).run P w = .ok r' w) ∧ FoundR M r r'
  | [], es', i, r, h, he => by
    cases (show some none = some r from h)
    have : es' = [] := List.eq_nil_of_length_eq_zero he.1.symm
    subst this
    exact ⟨none, fun w => rfl, .inl ⟨rfl, rfl⟩⟩
  | e :: es, es', i, r, h, he => by
    obtain ⟨e', rest, rfl, h1, h2, h3⟩ := he.uncons
    obtain ⟨q, hq, h4⟩ := bnd_some.1 (show bnd (eqA P t k e.key) (fun r => bE r (some (some (i, e.val))) (findA P t k es (i + 1))) = some r from h)
    have hs := fun w => eqA_run hq hk h1 w
    rcases bE_some.1 h4 with ⟨rfl, h5⟩ | ⟨rfl, h5⟩
    · cases h5
      exact ⟨some (i, e'.val), fun w => by simp only [Instr.findAsking, Sem.run_bind, hs, Result.andThen_ok, if_true, Sem.run_pure], .inr ⟨i, _, _, rfl, rfl, h2⟩⟩
    · obtain ⟨r', h6, h7⟩ := findAsking_run hk h5 h3
      exact ⟨r', fun w => by simp only [Instr.findAsking, Sem.run_bind, hs, Result.andThen_ok, Bool.false_eq_true, if_false]; exact h6 w, h7⟩
theorem findKey_run {t : TypeId} {k k' : Value} {es es' : List MapEntry} {r : Option (Nat × Value)} (h : findA P t k es 0 = some r) (hok : keyOk P t k = true) (hk : VR M k k') (he : ER M es es') : ∃ r', (∀ w, (Instr.findKey t k' es').run P w = .ok r' w) ∧ FoundR M r r' := by
  cases hd : P.underlying t with
  | none => unfold keyOk at hok; rw [hd] at hok; cases hok
  | some d =>
    by_cases h0 : keyT0 d = true
    · obtain ⟨r', h1, h2⟩ := findNow_run hd h0 hk h he
      exact ⟨r', fun w => by simp only [Instr.findKey, Sem.run_bind, run_underlying hd, Result.andThen_ok, h1, Sem.run_pure], h2⟩
    · cases es with
      | nil =>
        cases (show some none = some r from h)
        have : es' = [] := List.eq_nil_of_length_eq_zero he.1.symm
        subst this
        exact ⟨none, fun w => by simp only [Instr.findKey, Sem.run_bind, run_underlying hd, Result.andThen_ok, Instr.findNow, Sem.run_pure], .inl ⟨rfl, rfl⟩⟩
      | cons e es =>
        obtain ⟨r', h1, h2⟩ := findAsking_run hk h he
        obtain ⟨e', rest, rfl, _⟩ := he.uncons
        have hn : Instr.findNow d k' (e' :: rest) 0 = none := by
          have : Instr.sameNow d k' e'.key = none := by
            cases d <;> first | rfl | (exact absurd rfl h0)
          simp only [Instr.findNow, this]
        exact ⟨r', fun w => by simp only [Instr.findKey, Sem.run_bind, run_underlying hd, Result.andThen_ok, hn]; exact h1 w, h2⟩
theorem checkKey_base {t : TypeId} {d : TypeDesc} (hd : P.underlying t = some d) (h0 : keyT0 d = true) (b : Bool) (n : Nat) (v : Value) (w : World) : (Instr.checkKey b (n + 1) t v).run P w = .ok () w := by
  cases d <;> simp only [keyT0] at h0 <;> (try cases h0) <;> (unfold Instr.checkKey; simp only [Sem.run_bind, run_underlying hd, Result.andThen_ok]; rfl)
theorem checkFields_run {b : Bool} {n : Nat} {cs : List Value} {C : Array Value} (hC : LR M cs C.toList) : ∀ {fs : List Field}, allL (keyF P cs) fs = true → ∀ w,
    (forIn fs () fun f (_ : Unit) => (if f.name ≠ "_" then do
        let __do_lift ← part f.type C f.offset
        Instr.checkKey b (n + 1) f.type __do_lift
        Pure.pure (ForInStep.yield ())
      else Pure.pure (ForInStep.yield ()) : Sem (ForInStep Unit))).run P w = .ok () w
  | [], _, w => by simp
  | f :: fs, h, w => by
    have h' := allL_iff.1 h
    have hf := h' f (by simp)
    unfold keyF at hf
    have h1 : decide (f.name = "_") = false ∧ (∃ d, P.underlying f.type = some d ∧ keyT0 d = true) ∧ ∃ v, partC P f.type cs f.offset = some v := by
      obtain ⟨q1, q2⟩ := and2 hf
      obtain ⟨q3, q4⟩ := and2 q2
      refine ⟨by simpa using q1, ?_, Option.isSome_iff_exists.1 q4⟩
      cases e2 : P.underlying f.type with
      | none => rw [e2] at q3; cases q3
      | some d => rw [e2] at q3; exact ⟨d, rfl, q3⟩
    obtain ⟨hn, ⟨d, hd, h0⟩, v, hv⟩ := h1
    have hn' : f.name ≠ "_" := by simpa using hn
    obtain ⟨v', rv, _⟩ := partC_run hv hC
    have ih := checkFields_run (b := b) (n := n) hC (fs := fs) (allL_iff.2 fun x hx => h' x (by simp [hx])) w
    rw [List.forIn_cons]
    simp only [if_pos hn', Sem.run_bind, rv, Result.andThen_ok, checkKey_base hd h0, Sem.run_pure]
    exact ih
theorem checkKey_run {t : TypeId} {k k' : Value} (h : keyOk P t k = true) (hk : VR M k k') (b : Bool) (w : World) : (Instr.checkKey b 10000 t k').run P w = .ok () w := by
  cases hd : P.underlying t with
  | none => unfold keyOk at h; rw [hd] at h; cases h
  | some d =>
    unfold keyOk at h
    rw [hd] at h
    by_cases h0 : keyT0 d = true
    · exact checkKey_base hd h0 b 9999 k' w
    · cases d with
      | struct fs =>
        have h1 : Option.rec (motive := fun _ => Bool) false (fun cs => allL (keyF P cs) fs.toList) (asAgg k) = true := h
        cases ha : asAgg k with
        | none => rw [ha] at h1; cases h1
        | some cs =>
          rw [ha] at h1
          obtain ⟨C, _, rfl, hC⟩ := asAgg_VR ha hk
          have hl := checkFields_run (b := b) (n := 9998) hC (fs := fs.toList) h1 w
          show (Instr.checkKey b (9999 + 1) t (.agg C)).run P w = _
          unfold Instr.checkKey
          simp only [Sem.run_bind, run_underlying hd, Result.andThen_ok]
          rw [← Array.forIn_toList]
          exact (congrArg (fun r : Result Unit => r.andThen fun _ w' => Sem.run P (Pure.pure ()) w') hl).trans rfl
      | _ => exact absurd h h0
theorem lookA_run {t : TypeId} {m m' k k' v : Value} {ok : Bool} (h : lookA P s t m k ok = some v) (hm : VR M m m') (hk : VR M k k') (hS : Sim P M s.h.get w) : ∃ v', (Instr.lookup t m' k' ok).run P w = .ok v' w ∧ VR M v v' := by
  obtain ⟨d, hd, h1⟩ := bnd_some.1 h
  obtain ⟨kt, vt, hdm, h2⟩ := bnd2_some.1 h1
  obtain ⟨r, hr, h3⟩ := bnd_some.1 h2
  obtain ⟨es, c, hes, h4⟩ := bnd2_some.1 h3
  obtain ⟨hok, h5⟩ := bB_some.1 h4
  obtain ⟨f, hf, h6⟩ := bnd_some.1 h5
  have hd' : P.underlying t = some (.map kt vt) := by cases d <;> first | (cases hdm; exact hd) | cases hdm
  obtain ⟨mi, hmi, _, rfl⟩ := asMap_VR hr hm
  obtain ⟨mi', hmi', es', he, her⟩ := hS.obj r _ (mapAt_some hes)
  rw [hmi] at hmi'; cases hmi'
  obtain ⟨r', hrun, hfr⟩ := findKey_run hf hok hk her
  have hget : (getObj mi.blk).run P w = .ok (.map es' c) w := by simp [getObj, Sem.run, he]
  have hck := fun b => checkKey_run hok hk b w
  rcases hfr with ⟨rfl, rfl⟩ | ⟨i, u, u', rfl, rfl, hu⟩
  · obtain ⟨z, hz, h7⟩ := bnd_some.1 (show bnd (zeroOf P vt) (fun z => bE ok (some (Value.tuple ⟨[z, .bool false]⟩)) (some z)) = some v from h6)
    obtain ⟨_, _, _, hcl⟩ := zeroOf_some hz
    have hzv := clean_VR (M := M) hcl
    rcases bE_some.1 h7 with ⟨rfl, h8⟩ | ⟨rfl, h8⟩
    · cases h8
      exact ⟨_, by simp only [Instr.lookup, Sem.run_bind, run_underlying hd', Result.andThen_ok, hget, Sem.run_pure, hck, hrun, run_zero hz, if_true], .tupL (.cons hzv (.cons (.bool _) .nil))⟩
    · cases h8
      exact ⟨_, by simp only [Instr.lookup, Sem.run_bind, run_underlying hd', Result.andThen_ok, hget, Sem.run_pure, hck, hrun, run_zero hz, Bool.false_eq_true, if_false], hzv⟩
  · rcases bE_some.1 (show bE ok (some (Value.tuple ⟨[u, .bool true]⟩)) (some u) = some v from h6) with ⟨rfl, h8⟩ | ⟨rfl, h8⟩
    · cases h8
      exact ⟨_, by simp only [Instr.lookup, Sem.run_bind, run_underlying hd', Result.andThen_ok, hget, Sem.run_pure, hck, hrun, if_true], .tupL (.cons hu (.cons (.bool _) .nil))⟩
    · cases h8
      exact ⟨_, by simp only [Instr.lookup, Sem.run_bind, run_underlying hd', Result.andThen_ok, hget, Sem.run_pure, hck, hrun, Bool.false_eq_true, if_false], hu⟩
theorem ER.snoc {es es' : List MapEntry} {e e' : MapEntry} (h : ER M es es') (h1 : VR M e.key e'.key) (h2 : VR M e.val e'.val) (h3 : e'.born = e.born) : ER M (es ++ [e]) (es' ++ [e']) := by
  refine ⟨by simp [h.1], fun i f g hf hg => ?_⟩
  by_cases hi : i < es.length
  · rw [List.getElem?_append_left hi] at hf
    rw [List.getElem?_append_left (by rw [← h.1]; exact hi)] at hg
    exact h.2 i f g hf hg
  · rw [List.getElem?_append_right (by omega)] at hf
    rw [List.getElem?_append_right (by rw [← h.1]; omega), ← h.1] at hg
    have h0 : i - es.length = 0 := by
      have := (List.getElem?_eq_some_iff.1 hf).1
      simp at this; omega
    rw [h0] at hf hg
    simp at hf hg
    subst hf; subst hg
    exact ⟨h1, h2, h3⟩
theorem setE_some {k v : Value} : ∀ {es r : List MapEntry} {n : Nat}, setE k v es n = some r → r.length = es.length ∧ (∃ e, es[n]? = some e) ∧ ∀ i, r[i]? = if i = n then (es[i]?).map fun e => ⟨k, v, e.born⟩ else es[i]?
  | [], r, n, h => by cases (show none = some r from h)
  | e :: es, r, 0, h => by
    cases (show some (⟨k, v, e.born⟩ :: es) = some r from h)
    refine ⟨rfl, ⟨e, rfl⟩, fun i => ?_⟩
    cases i <;> simp
  | e :: es, r, n + 1, h => by
    obtain ⟨z, hz, h1⟩ := bnd_some.1 (show bnd (setE k v es n) (fun z => some (e :: z)) = some r from h)
    cases h1
    obtain ⟨q1, ⟨e', q2⟩, q3⟩ := setE_some hz
    refine ⟨by simp [q1], ⟨e', by simpa using q2⟩, fun i => ?_⟩
    cases i with
    | zero => simp
    | succ i => simp only [List.getElem?_cons_succ, q3, Nat.add_right_cancel_iff]
theorem findA_at {t : TypeId} {k : Value} : ∀ {es : List MapEntry} {i0 i : Nat} {v : Value}, findA P t k es i0 = some (some (i, v)) → i0 ≤ i ∧ ∃ e, es[i - i0]? = some e ∧ eqA P t k e.key = some true
  | [], i0, i, v, h => by cases (show some none = some (some (i, v)) from h)
  | e :: es, i0, i, v, h => by
    obtain ⟨q, hq, h4⟩ := bnd_some.1 (show bnd (eqA P t k e.key) (fun r => bE r (some (some (i0, e.val))) (findA P t k es (i0 + 1))) = some (some (i, v)) from h)
    rcases bE_some.1 h4 with ⟨rfl, h5⟩ | ⟨rfl, h5⟩
    · cases h5
      exact ⟨Nat.le_refl _, e, by simp, hq⟩
    · obtain ⟨h6, e', h7, h8⟩ := findA_at h5
      refine ⟨by omega, e', ?_, h8⟩
      rw [show i - i0 = (i - (i0 + 1)) + 1 by omega]
      simpa using h7
theorem sameBits_run {t : TypeId} {d : TypeDesc} {k e k' e' : Value} (h : eqA P t k e = some true) (hd : P.underlying t = some d) (h0 : keyT0 d = true) (hk : VR M k k') (he : VR M e e') : Instr.sameBits 10000 e' k' = true := by
  have hs := sameNow_run h hd h0 hk he
  cases d <;> simp only [keyT0] at h0 <;> (try cases h0) <;> cases k' <;> cases e' <;> simp only [Instr.sameNow] at hs <;> (try cases hs)
  · rename_i a b
    have : (a == b) = true := by simpa using hs
    rw [beq_iff_eq.1 this]
    simp [Instr.sameBits]
  · rename_i k1 a k2 b
    by_cases hkk : k1 = k2
    · rw [if_pos hkk] at hs
      have : (a == b) = true := by simpa using hs
      rw [beq_iff_eq.1 this, hkk]
      simp [Instr.sameBits]
    · rw [if_neg hkk] at hs; cases hs
  · rename_i a b
    have : (a == b) = true := by simpa using hs
    rw [beq_toListBytes, beq_iff_eq, toL, toL] at this
    have : a = b := by
      cases a; cases b
      simp only [ByteArray.mk.injEq]
      exact Array.ext' this
    rw [this]
    have e2 : (b == b) = true := by rw [beq_toListBytes]; simp
    simpa [Instr.sameBits] using e2
theorem mapSet_run {t : TypeId} {m m' k k' v v' : Value} (h : mapSet P s t m k v = some s') (hm : VR M m m') (hk : VR M k k') (hv : VR M v v') (hS : Sim P M s.h.get w) : ResU P s M w ((Instr.mapUpdate t m' k' v').run P w) s' := by
  obtain ⟨d, hd, h1⟩ := bnd_some.1 h
  obtain ⟨kt, vt, hdm, h2⟩ := bnd2_some.1 h1
  obtain ⟨r, hr, h3⟩ := bnd_some.1 h2
  obtain ⟨es, c, hes, h4⟩ := bnd2_some.1 h3
  obtain ⟨hok, h5⟩ := bB_some.1 h4
  obtain ⟨f, hf, h6⟩ := bnd_some.1 h5
  have hd' : P.underlying t = some (.map kt vt) := by cases d <;> first | (cases hdm; exact hd) | cases hdm
  obtain ⟨mi, hmi, _, rfl⟩ := asMap_VR hr hm
  obtain ⟨mi', hmi', es', he, her⟩ := hS.obj r _ (mapAt_some hes)
  rw [hmi] at hmi'; cases hmi'
  obtain ⟨r', hrun, hfr⟩ := findKey_run hf hok hk her
  have hget : (getObj mi.blk).run P w = .ok (.map es' c) w := by simp [getObj, Sem.run, he]
  have hck := fun b => checkKey_run hok hk b w
  cases f with
  | some p =>
    obtain ⟨i, u⟩ := p
    obtain ⟨dk, hdk, h7⟩ := bnd_some.1 (show bnd (P.underlying kt) (fun dk => bB (keyT0 dk) (bnd (setE k v es i) fun es => s.set r (some (.map es c)))) = some s' from h6)
    obtain ⟨h0, h8⟩ := bB_some.1 h7
    obtain ⟨es2, he2, h9⟩ := bnd_some.1 h8
    obtain ⟨g1, g2⟩ := set_some h9
    obtain ⟨q1, ⟨e0, q2⟩, q3⟩ := setE_some he2
    obtain ⟨_, e1, q4, q5⟩ := findA_at hf
    rw [Nat.sub_zero] at q4
    rcases hfr with ⟨e, _⟩ | ⟨i', u1, u', e, rfl, hu⟩
    · cases e
    · cases e
      have hil : i < es'.toList.length := by rw [← her.1]; exact (List.getElem?_eq_some_iff.1 q4).1
      have hei := List.getElem?_eq_getElem hil
      obtain ⟨ek, _, _⟩ := her.2 i e1 _ q4 hei
      have hsb := sameBits_run q5 hdk h0 hk ek
      have hei2 : es'[i]? = some es'.toList[i] := by rw [← Array.getElem?_toList]; exact hei
      have hkt : (Instr.keyThatStays (((es'[i]?).map (·.key)).getD k') k').run P w = .ok k' w := by
        rw [hei2]
        simp only [Option.map_some, Option.getD_some, Instr.keyThatStays, hsb, if_true, Sem.run_pure]
      let w' : World := { w with heap := w.heap.setIfInBounds mi.blk (.map (es'.modify i fun e => { e with key := k', val := v' }) c) }
      have hlt : mi.blk < w.heap.size := (Array.getElem?_eq_some_iff.1 he).1
      have hst := Stp.turn (w' := w') (o' := .map es2 c) hS (mapAt_some hes) rfl hmi (by simp [w']) (fun k hk => by
          show (w.heap.setIfInBounds mi.blk _)[k]? = _
          rw [Array.getElem?_setIfInBounds_ne (fun e => hk e.symm)]) ⟨es'.modify i fun e => { e with key := k', val := v' }, by
          show (w.heap.setIfInBounds mi.blk _)[mi.blk]? = _
          rw [Array.getElem?_setIfInBounds_self_of_lt hlt], by rw [q1, her.1, Array.length_toList, Array.length_toList, Array.size_modify], fun j f f' hj hj' => by
          rw [q3] at hj
          rw [Array.getElem?_toList, Array.getElem?_modify] at hj'
          by_cases hji : j = i
          · subst hji
            rw [if_pos rfl] at hj hj'
            rw [q4] at hj
            rw [hei2] at hj'
            simp only [Option.map_some, Option.some.injEq] at hj hj'
            subst hj; subst hj'
            obtain ⟨_, _, eb⟩ := her.2 j e1 _ q4 hei
            exact ⟨hk, hv, eb⟩
          · rw [if_neg hji] at hj
            rw [if_neg (fun e => hji e.symm)] at hj'
            exact her.2 j f f' hj (by rw [Array.getElem?_toList]; exact hj')⟩ rfl rfl rfl s.nx
      refine ⟨M, w', ?_, by rw [g1, g2]; exact hst⟩
      simp only [Instr.mapUpdate, Sem.run_bind, run_underlying hd', Result.andThen_ok, hget, hck, hrun, hkt, setObj, Sem.run, he]
      rfl
  | none =>
    obtain ⟨es2, he2, h7⟩ := bnd_some.1 (show bnd (sApp es [⟨k, v, c⟩]) (fun es => s.set r (some (.map es (c + 1)))) = some s' from h6)
    rw [sApp_eq] at he2
    cases he2
    obtain ⟨g1, g2⟩ := set_some h7
    rcases hfr with ⟨_, rfl⟩ | ⟨i, u, u', e, _⟩
    · let w' : World := { w with heap := w.heap.setIfInBounds mi.blk (.map (es'.push ⟨k', v', c⟩) (c + 1)) }
      have hlt : mi.blk < w.heap.size := (Array.getElem?_eq_some_iff.1 he).1
      have hst := Stp.turn (w' := w') (o' := .map (es ++ [⟨k, v, c⟩]) (c + 1)) hS (mapAt_some hes) rfl hmi (by simp [w']) (fun k hk => by
          show (w.heap.setIfInBounds mi.blk _)[k]? = _
          rw [Array.getElem?_setIfInBounds_ne (fun e => hk e.symm)]) ⟨es'.push ⟨k', v', c⟩, by
          show (w.heap.setIfInBounds mi.blk _)[mi.blk]? = _
          rw [Array.getElem?_setIfInBounds_self_of_lt hlt], by rw [Array.toList_push]; exact her.snoc hk hv rfl⟩ rfl rfl rfl s.nx
      refine ⟨M, w', ?_, by rw [g1, g2]; exact hst⟩
      simp only [Instr.mapUpdate, Sem.run_bind, run_underlying hd', Result.andThen_ok, hget, hck, hrun, setObj, Sem.run, he]
      rfl
    · cases e
end
end Go.Proofs.YtgdlfecppecooaaGreatDoor.ev
