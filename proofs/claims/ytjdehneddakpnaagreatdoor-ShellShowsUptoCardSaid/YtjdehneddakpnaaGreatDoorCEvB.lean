/- An evaluator of closed calls: a call that takes nothing and gives true. -/
import Derived.Test.YtjdehneddakpnaaGreatDoorCEvA
import Derived.Laws.Externs
import Derived.Tactics
import Derived.Orders
import Derived.LoopN
import Derived.Below
set_option linter.all false
namespace Go.Proofs.YtjdehneddakpnaaGreatDoor.ev
open Go Go.RowKit
section
variable {P : Program} {M M' : Pm} {φ : T Value} {a : Act} {N : Nat} {w : World} {s s' : St}
theorem eqA_run {t : TypeId} {x y x' y' : Value} {r : Bool} (h : eqA P t x y = some r) (hx : VR M x x') (hy : VR M y y') (w : World) : (Op.equal t x' y').run P w = .ok r w :=
  eqT_run 4 9996 t x y x' y' r h hx hy w
def plainEq (x y : Value) : Bool := match x with
  | .agg _ => match y with
    | .agg _ => false
    | _ => true
  | .nilIface => match y with
    | .nilIface => false
    | _ => true
  | _ => true
theorem eqGuard_plain (op : BinOp) (t : TypeId) (ox oy : Operand) (x y : Value) (h : plainEq x y = true) (w : World) : (eqGuard op t ox oy x y).run P w = .ok () w := by
  cases op <;> first | rfl | (cases x <;> first | rfl | (cases y <;> first | rfl | cases h))
theorem eqPtr_run {t : TypeId} {d : TypeDesc} {x y x' y' : Value} {r : Bool} (h : eqPtr P s d x y = some r) (hd : P.underlying t = some d) (hx : VR M x x') (hy : VR M y y') (w : World) : (Op.equal t x' y').run P w = .ok r w ∧ plainEq x' y' = true := by
  cases d <;> simp only [eqPtr] at h <;> (try cases h)
  obtain ⟨b, o, h1, h2⟩ := bnd2_some.1 h
  obtain ⟨b', o', h3, h4⟩ := bnd2_some.1 h2
  obtain ⟨k, hk, h5⟩ := bnd_some.1 h4
  obtain ⟨hk1, h6⟩ := bB_some.1 h5
  obtain ⟨hb, h7⟩ := bB_some.1 h6
  obtain ⟨_, _, h8⟩ := bnd_some.1 h7
  cases h8
  obtain rfl : b = b' := beq_nat.1 hb
  obtain ⟨mi, hm, _, rfl⟩ := asPtr_VR h1 hx
  obtain ⟨mi', hm', _, rfl⟩ := asPtr_VR h3 hy
  rw [hm] at hm'; cases hm'
  have hk0 : k ≠ 0 := by have : 1 ≤ k := ble_nat.1 hk1; omega
  refine ⟨?_, rfl⟩
  show (Op.equalIn (9999 + 1) t _ _).run P w = _
  have e : ((⟨mi.blk, mi.sh + o, none⟩ : Addr) == ⟨mi.blk, mi.sh + o', none⟩) = Nat.beq o o' := by
    rw [Bool.eq_iff_iff, beq_iff_eq, beq_nat]
    constructor
    · intro e; simp only [Addr.mk.injEq, and_true, true_and] at e; omega
    · intro e; rw [e]
  unfold Op.equalIn
  simp only [Sem.run_bind, run_underlying hd, Result.andThen_ok, run_size hk, ne_eq, hk0, not_false_eq_true, if_true, sameAddr, beq_self_eq_true, Sem.run_pure, e]
theorem plain_VR {x y x' y' : Value} (h : plainEq x y = true) (hx : VR M x x') (hy : VR M y y') : plainEq x' y' = true := by
  cases hx <;> (try rfl)
  · cases hy <;> first | rfl | cases h
  · cases hy <;> first | rfl | cases h
theorem eqAll_run {t : TypeId} {x y x' y' : Value} {r : Bool} (h : eqAll P s t x y = some r) (hx : VR M x x') (hy : VR M y y') (op : BinOp) (ox oy : Operand) (w : World) : (Op.equal t x' y').run P w = .ok r w ∧ (eqGuard op t ox oy x' y').run P w = .ok () w := by
  have gen : ∀ (h1 : plainEq x y = true), Option.rec (motive := fun _ => Option Bool) (bnd (P.underlying t) fun d => eqPtr P s d x y) (fun r => some r) (eqA P t x y) = some r → (Op.equal t x' y').run P w = .ok r w ∧ (eqGuard op t ox oy x' y').run P w = .ok () w := by
    intro h1 h2
    refine ⟨?_, eqGuard_plain op t ox oy x' y' (plain_VR h1 hx hy) w⟩
    cases hq : eqA P t x y with
    | some q =>
      rw [hq] at h2
      cases (show some q = some r from h2)
      exact eqA_run hq hx hy w
    | none =>
      rw [hq] at h2
      obtain ⟨d, hd, h3⟩ := bnd_some.1 (show bnd (P.underlying t) (fun d => eqPtr P s d x y) = some r from h2)
      exact (eqPtr_run h3 hd hx hy w).1
  cases hxc : x with
  | agg cs =>
    rw [hxc] at h
    rcases bE_some.1 (show bE (P.eqGuardType P.depth t) none (eqA P t (.agg cs) y) = some r from h) with ⟨_, h9⟩ | ⟨h8, h9⟩
    · cases h9
    · rw [← hxc] at h9
      refine ⟨eqA_run h9 hx hy w, ?_⟩
      cases hy with
      | agg _ _ =>
        rw [hxc] at hx
        cases hx
        exact run_eqGuard_agg w op t ox oy _ _ h8
      | _ => exact eqGuard_plain op t ox oy _ _ (by rw [hxc] at hx; cases hx; rfl) w
  | nilIface =>
    rw [hxc] at h
    cases hyc : y with
    | nilIface => rw [hyc] at h; cases h
    | _ =>
      have h2 : eqA P t x y = some r := by rw [hxc]; rw [hyc] at h ⊢; exact h
      exact ⟨eqA_run h2 hx hy w, eqGuard_plain op t ox oy x' y' (plain_VR (by rw [hxc, hyc]; rfl) hx hy) w⟩
  | _ => exact gen (by rw [hxc]; rfl) (by rw [hxc] at h ⊢; exact h)
theorem toL (b : ByteArray) : b.toList = b.data.toList := ByteArray.toList_eq b
theorem str_of {x y : ByteArray} {l : List UInt8} (h : l = x.data.toList ++ y.data.toList) : (⟨⟨l⟩⟩ : ByteArray) = x ++ y := by
  have e : (x ++ y).data = ⟨l⟩ := by
    apply Array.ext'
    rw [h, ByteArray.data_append, Array.toList_append]
  cases hh : x ++ y
  rw [hh] at e
  simp only at e
  rw [e]
theorem binStr_run {op : BinOp} {t : TypeId} {x y : ByteArray} {v : Value} (h : binStr op x.data.toList y.data.toList = some v) (w : World) : (binOp op t (.string x) (.string y)).run P w = .ok v w ∧ clean0 v = true := by
  cases op <;> simp only [binStr] at h <;> (try cases h)
  case add =>
    obtain ⟨l, hl, h1⟩ := bnd_some.1 h
    obtain ⟨h2, h3⟩ := bB_some.1 h1
    cases h3
    rw [sApp_eq] at hl
    cases hl
    rw [lLen_eq] at h2
    have h2' : (x.data.toList ++ y.data.toList).length ≤ 9223372036854775807 := ble_nat.1 h2
    have hx : x.data.toList.length = x.size := by rw [Array.length_toList]; rfl
    have hy : y.data.toList.length = y.size := by rw [Array.length_toList]; rfl
    rw [List.length_append, hx, hy] at h2'
    refine ⟨?_, rfl⟩
    have hc : ¬ (((x.size + y.size : Nat) : Int) > IntKind.i64.max) := by rw [IntKind.max_i64]; omega
    simp only [binOp, Op.stringOp, if_neg hc, Sem.run_pure, strOf]
    rw [str_of rfl]
  all_goals (refine ⟨?_, rfl⟩; simp [binOp, Op.stringOp, bEq_eq, bLt_eq, toL])
theorem binA_run {op : BinOp} {t : TypeId} {x y x' y' v : Value} (h : binA P s op t x y = some v) (hx : VR M x x') (hy : VR M y y') (ox oy : Operand) (w : World) :
    (do eqGuard op t ox oy x' y'; binOp op t x' y' : Sem Value).run P w = .ok v w ∧ clean0 v = true := by
  have eqs : ∀ (hb : ∀ (z : Value), (binOp .eql t x' z) = (do Pure.pure (.bool (← Op.equal t x' z))) ∧ (binOp .neq t x' z) = (do Pure.pure (.bool (!(← Op.equal t x' z))))), binEq P s op t x y = some v →
      (do eqGuard op t ox oy x' y'; binOp op t x' y' : Sem Value).run P w = .ok v w ∧ clean0 v = true := by
    intro hb h1
    cases op <;> simp only [binEq] at h1 <;> (try cases h1)
    · obtain ⟨r, hr, h2⟩ := bnd_some.1 h1
      cases h2
      obtain ⟨e1, e2⟩ := eqAll_run hr hx hy .eql ox oy w
      exact ⟨by simp only [Sem.run_bind, e2, Result.andThen_ok, (hb y').1, e1, Sem.run_pure], rfl⟩
    · obtain ⟨r, hr, h2⟩ := bnd_some.1 h1
      cases h2
      obtain ⟨e1, e2⟩ := eqAll_run hr hx hy .neq ox oy w
      exact ⟨by simp only [Sem.run_bind, e2, Result.andThen_ok, (hb y').2, e1, Sem.run_pure], rfl⟩
  cases hx with
  | int k n =>
    cases hy <;> first | (cases (show none = some v from h); done) | skip
    rename_i k' n'
    obtain ⟨e1, e2⟩ := binInt_run (P := P) (show binInt op k k' n n' = some v from h) t w
    exact ⟨by simp only [Sem.run_bind, eqGuard_plain op t ox oy (.int k n) (.int k' n') rfl w, Result.andThen_ok, e1], e2⟩
  | string b =>
    cases hy <;> first | (cases (show none = some v from h); done) | skip
    rename_i b'
    obtain ⟨e1, e2⟩ := binStr_run (P := P) (t := t) (show binStr op b.data.toList b'.data.toList = some v from h) w
    exact ⟨by simp only [Sem.run_bind, eqGuard_plain op t ox oy (.string b) (.string b') rfl w, Result.andThen_ok, e1], e2⟩
  | _ => exact eqs (fun z => ⟨rfl, rfl⟩) h
theorem nilNil_some {ox oy : Operand} {x y : Value} (h : nilNil ox oy x y = true) : x = .nilIface ∧ y = .nilIface ∧ ((∃ v, ox = .const v) ∨ (∃ v, oy = .const v)) := by
  cases x <;> first | (cases (show false = true from h); done) | skip
  cases y <;> first | (cases (show false = true from h); done) | skip
  refine ⟨rfl, rfl, ?_⟩
  cases ox <;> first | exact Or.inl ⟨_, rfl⟩ | skip
  all_goals (cases oy <;> first | exact Or.inr ⟨_, rfl⟩ | (cases (show false = true from h); done))
theorem nn_guard {op : BinOp} {t : TypeId} {ox oy : Operand} (hc : (∃ v, ox = .const v) ∨ (∃ v, oy = .const v)) (w : World) : (eqGuard op t ox oy .nilIface .nilIface).run P w = .ok () w := by
  rcases hc with ⟨v, rfl⟩ | ⟨v, rfl⟩
  · cases op <;> rfl
  · cases ox <;> cases op <;> rfl
theorem nn_run {op : BinOp} {t : TypeId} {v : Value} {ms : _} (hd : P.underlying t = some (.interface ms)) (h : binNN op (.interface ms) = some v) {ox oy : Operand} (hc : (∃ v, ox = .const v) ∨ (∃ v, oy = .const v)) (w : World) :
    (do eqGuard op t ox oy .nilIface .nilIface; binOp op t .nilIface .nilIface : Sem Value).run P w = .ok v w ∧ clean0 v = true := by
  have e : (Op.equal t .nilIface .nilIface).run P w = .ok true w := by
    show (Op.equalIn (9999 + 1) t _ _).run P w = _
    unfold Op.equalIn
    simp only [Sem.run_bind, run_underlying hd, Result.andThen_ok, Sem.run_pure]
  have g : (eqGuard op t ox oy .nilIface .nilIface).run P w = .ok () w := nn_guard hc w
  cases op <;> first | (cases (show none = some v from h); done) | skip
  · cases (show some (Value.bool true) = some v from h)
    refine ⟨?_, rfl⟩
    have hb : binOp .eql t .nilIface .nilIface = (do Pure.pure (.bool (← Op.equal t .nilIface .nilIface))) := rfl
    simp only [Sem.run_bind, g, Result.andThen_ok, hb, e, Sem.run_pure]
  · cases (show some (Value.bool false) = some v from h)
    refine ⟨?_, rfl⟩
    have hb : binOp .neq t .nilIface .nilIface = (do Pure.pure (.bool (!(← Op.equal t .nilIface .nilIface)))) := rfl
    simp only [Sem.run_bind, g, Result.andThen_ok, hb, e, Sem.run_pure, Bool.not_true]
theorem binO_run {op : BinOp} {t : TypeId} {x y x' y' v : Value} {ox oy : Operand} (h : binO P s op t ox oy x y = some v) (hx : VR M x x') (hy : VR M y y') (w : World) :
    (do eqGuard op t ox oy x' y'; binOp op t x' y' : Sem Value).run P w = .ok v w ∧ clean0 v = true := by
  rcases bE_some.1 (show bE (nilNil ox oy x y) (bnd (P.underlying t) fun d => binNN op d) (binA P s op t x y) = some v from h) with ⟨h1, h2⟩ | ⟨_, h2⟩
  · obtain ⟨rfl, rfl, hc⟩ := nilNil_some h1
    obtain ⟨d, hd, h3⟩ := bnd_some.1 h2
    cases hx
    cases hy
    cases d <;> first | (cases (show none = some v from h3); done) | skip
    exact nn_run hd h3 hc w
  · exact binA_run h2 hx hy ox oy w
theorem unA_run {op : UnOp} {x x' v : Value} (h : unA op x = some v) (hx : VR M x x') (w : World) : (Op.unary op x').run P w = .ok v w ∧ clean0 v = true := by
  cases op <;> simp only [unA] at h <;> (try cases h)
  case neg =>
    obtain ⟨k, n, h1, h2⟩ := bnd2_some.1 h
    rw [mkI_some, wrapA_eq] at h2
    subst h2
    obtain ⟨_, rfl⟩ := asInt_VR h1 hx
    refine ⟨?_, rfl⟩
    simp [Op.unary, Op.intArith]
    rfl
  case xor =>
    obtain ⟨k, n, h1, h2⟩ := bnd2_some.1 h
    have h3 := bitA_some h2
    subst h3
    obtain ⟨_, rfl⟩ := asInt_VR h1 hx
    refine ⟨?_, rfl⟩
    have e : (BitVec.ofInt k.bits (if k.signed then -1 else k.max)).toNat = Nat.sub (kMod k) 1 := by cases k <;> decide
    show (Op.intBits .xor k (if k.signed then -1 else k.max) n).run P w = _
    simp only [Op.intBits, BitVec.toNat_xor, e, toN_eq, Sem.run_pure]
    rfl
  case not =>
    obtain ⟨b, h1, h2⟩ := bnd_some.1 h
    cases h2
    obtain ⟨_, rfl⟩ := asBool_VR h1 hx
    exact ⟨by simp [Op.unary], rfl⟩
end
end Go.Proofs.YtjdehneddakpnaaGreatDoor.ev
namespace Go.Proofs.YtjdehneddakpnaaGreatDoor.ev
open Go Go.RowKit
section
variable {P : Program} {M M' : Pm} {φ : T Value} {a : Act} {N : Nat} {w : World} {s s' : St}
theorem and2 {a b : Bool} (h : Bool.and a b = true) : a = true ∧ b = true := by cases a <;> cases b <;> simp_all [Bool.and]
/-- what was found -/
def FoundR (M : Pm) (r r' : Option (Nat × Value)) : Prop := (r = none ∧ r' = none) ∨ ∃ i v v', r = some (i, v) ∧ r' = some (i, v') ∧ VR M v v'
theorem ER.uncons {e : MapEntry} {es es' : List MapEntry} (h : ER M (e :: es) es') : ∃ e' r, es' = e' :: r ∧ VR M e.key e'.key ∧ VR M e.val e'.val ∧ ER M es r := by
  obtain ⟨hl, hr⟩ := h
  cases es' with
  | nil => simp at hl
  | cons e' r =>
    obtain ⟨h1, h2, _⟩ := hr 0 e e' rfl rfl
    exact ⟨e', r, rfl, h1, h2, by simpa using hl, fun i a b f g => hr (i + 1) a b (by simpa using f) (by simpa using g)⟩
theorem sameNow_run {t : TypeId} {d : TypeDesc} {k e k' e' : Value} {r : Bool} (h : eqA P t k e = some r) (hd : P.underlying t = some d) (h0 : keyT0 d = true) (hk : VR M k k') (he : VR M e e') : Instr.sameNow d k' e' = some r := by
  obtain ⟨d', hd', h1⟩ := bnd_some.1 (show bnd (P.underlying t) (fun d => eqD P (eqT P 3) t d k e) = some r from h)
  obtain rfl : d = d' := by rw [hd] at hd'; exact Option.some.inj hd'
  cases d <;> simp only [keyT0] at h0 <;> (try cases h0)
  case bool =>
    obtain ⟨x, hx, h2⟩ := bnd_some.1 (show bnd (asBool k) (fun a => bnd (asBool e) fun b => some (Bool.rec (motive := fun _ => Bool) (Bool.not b) b a)) = some r from h1)
    obtain ⟨y, hy, h3⟩ := bnd_some.1 h2
    cases h3
    obtain ⟨_, rfl⟩ := asBool_VR hx hk
    obtain ⟨_, rfl⟩ := asBool_VR hy he
    cases x <;> cases y <;> rfl
  case int k0 =>
    obtain ⟨k1, x, hx, h2⟩ := bnd2_some.1 (show bnd2 (asInt k) (fun k a => bnd2 (asInt e) fun k' b => bB (kEq k k') (some (iEq a b))) = some r from h1)
    obtain ⟨k2, y, hy, h3⟩ := bnd2_some.1 h2
    obtain ⟨hkk, h4⟩ := bB_some.1 h3
    cases h4
    obtain rfl := kEq_iff.1 hkk
    obtain ⟨_, rfl⟩ := asInt_VR hx hk
    obtain ⟨_, rfl⟩ := asInt_VR hy he
    simp [Instr.sameNow, iEq_eq]
  case string =>
    obtain ⟨x, hx, h2⟩ := bnd_some.1 (show bnd (asStr k) (fun a => bnd (asStr e) fun b => some (bEq a b)) = some r from h1)
    obtain ⟨y, hy, h3⟩ := bnd_some.1 h2
    cases h3
    obtain ⟨sa, _, rfl, rfl⟩ := asStr_VR hx hk
    obtain ⟨sb, _, rfl, rfl⟩ := asStr_VR hy he
    have := run_equalIn_string (P := P) default 0 t sa sb hd
    have e2 := beq_toListBytes sa sb
    simp only [Instr.sameNow, bEq_eq, ← toL]
    rw [e2]
theorem findNow_run {t : TypeId} {d : TypeDesc} {k k' : Value} (hd : P.underlying t = some d) (h0 : keyT0 d = true) (hk : VR M k k') : ∀ {es es' : List MapEntry} {i : Nat} {r : Option (Nat × Value)}, findA P t k es i = some r → ER M es es' →
    ∃ r', Instr.findNow d k' es' i = some r' ∧ FoundR M r r'
  | [], es', i, r, h, he => by
    cases (show some none = some r from h)
    have : es' = [] := List.eq_nil_of_length_eq_zero he.1.symm
    subst this
    exact ⟨none, rfl, .inl ⟨rfl, rfl⟩⟩
  | e :: es, es', i, r, h, he => by
    obtain ⟨e', rest, rfl, h1, h2, h3⟩ := he.uncons
    obtain ⟨q, hq, h4⟩ := bnd_some.1 (show bnd (eqA P t k e.key) (fun r => bE r (some (some (i, e.val))) (findA P t k es (i + 1))) = some r from h)
    have hs := sameNow_run hq hd h0 hk h1
    rcases bE_some.1 h4 with ⟨rfl, h5⟩ | ⟨rfl, h5⟩
    · cases h5
      exact ⟨some (i, e'.val), by simp only [Instr.findNow, hs], .inr ⟨i, _, _, rfl, rfl, h2⟩⟩
    · obtain ⟨r', h6, h7⟩ := findNow_run hd h0 hk h5 h3
      exact ⟨r', by simp only [Instr.findNow, hs]; exact h6, h7⟩
theorem findAsking_run {t : TypeId} {k k' : Value} (hk : VR M k k') : ∀ {es es' : List MapEntry} {i : Nat} {r : Option (Nat × Value)}, findA P t k es i = some r → ER M es es' → ∃ r', (∀ w, (Instr.findAsking t k' es' i).run P w = .ok r' w) ∧ FoundR M r r'
  | [], es', i, r, h, he => by
    cases (show some none = some r from h)
    have : es' = [] := List.eq_nil_of_length_eq_zero he.1.symm
    subst this
    exact ⟨none, fun w => rfl, .inl ⟨rfl, rfl⟩⟩
  | e :: es, es', i, r, h, he => by
    obtain ⟨e', rest, rfl, h1, h2, h3⟩ := he.uncons
    obtain ⟨q, hq, h4⟩ := bnd_some.1 (show bnd (eqA P t k e.key) (fun r => bE r (some (some (i, e.val))) (findA P t k es (i + 1))) = some r from h)
    have hs := fun w => eqA_run hq hk h1 w
    rcases bE_some.1 h4 with ⟨rfl, h5⟩ | ⟨rfl, h5⟩
    · cases h5
      exact ⟨some (i, e'.val), fun w => by simp only [Instr.findAsking, Sem.run_bind, hs, Result.andThen_ok, if_true, Sem.run_pure], .inr ⟨i, _, _, rfl, rfl, h2⟩⟩
    · obtain ⟨r', h6, h7⟩ := findAsking_run hk h5 h3
      exact ⟨r', fun w => by simp only [Instr.findAsking, Sem.run_bind, hs, Result.andThen_ok, Bool.false_eq_true, if_false]; exact h6 w, h7⟩
theorem findKey_run {t : TypeId} {k k' : Value} {es es' : List MapEntry} {r : Option (Nat × Value)} (h : findA P t k es 0 = some r) (hok : keyOk P t k = true) (hk : VR M k k') (he : ER M es es') : ∃ r', (∀ w, (Instr.findKey t k' es').run P w = .ok r' w) ∧ FoundR M r r' := by
  cases hd : P.underlying t with
  | none => unfold keyOk at hok; rw [hd] at hok; cases hok
  | some d =>
    by_cases h0 : keyT0 d = true
    · obtain ⟨r', h1, h2⟩ := findNow_run hd h0 hk h he
      exact ⟨r', fun w => by simp only [Instr.findKey, Sem.run_bind, run_underlying hd, Result.andThen_ok, h1, Sem.run_pure], h2⟩
    · cases es with
      | nil =>
        cases (show some none = some r from h)
        have : es' = [] := List.eq_nil_of_length_eq_zero he.1.symm
        subst this
        exact ⟨none, fun w => by simp only [Instr.findKey, Sem.run_bind, run_underlying hd, Result.andThen_ok, Instr.findNow, Sem.run_pure], .inl ⟨rfl, rfl⟩⟩
      | cons e es =>
        obtain ⟨r', h1, h2⟩ := findAsking_run hk h he
        obtain ⟨e', rest, rfl, _⟩ := he.uncons
        have hn : Instr.findNow d k' (e' :: rest) 0 = none := by
          have : Instr.sameNow d k' e'.key = none := by
            cases d <;> first | rfl | (exact absurd rfl h0)
          simp only [Instr.findNow, this]
        exact ⟨r', fun w => by simp only [Instr.findKey, Sem.run_bind, run_underlying hd, Result.andThen_ok, hn]; exact h1 w, h2⟩
theorem checkKey_base {t : TypeId} {d : TypeDesc} (hd : P.underlying t = some d) (h0 : keyT0 d = true) (b : Bool) (n : Nat) (v : Value) (w : World) : (Instr.checkKey b (n + 1) t v).run P w = .ok () w := by
  cases d <;> simp only [keyT0] at h0 <;> (try cases h0) <;> (unfold Instr.checkKey; simp only [Sem.run_bind, run_underlying hd, Result.andThen_ok]; rfl)
theorem checkFields_run {b : Bool} {n : Nat} {cs : List Value} {C : Array Value} (hC : LR M cs C.toList) : ∀ {fs : List Field}, allL (keyF P cs) fs = true → ∀ w,
    (forIn fs () fun f (_ : Unit) => (if f.name ≠ "_" then do
        let __do_lift ← part f.type C f.offset
        Instr.checkKey b (n + 1) f.type __do_lift
        Pure.pure (ForInStep.yield ())
      else Pure.pure (ForInStep.yield ()) : Sem (ForInStep Unit))).run P w = .ok () w
  | [], _, w => by simp
  | f :: fs, h, w => by
    have h' := allL_iff.1 h
    have hf := h' f (by simp)
    unfold keyF at hf
    have h1 : decide (f.name = "_") = false ∧ (∃ d, P.underlying f.type = some d ∧ keyT0 d = true) ∧ ∃ v, partC P f.type cs f.offset = some v := by
      obtain ⟨q1, q2⟩ := and2 hf
      obtain ⟨q3, q4⟩ := and2 q2
      refine ⟨by simpa using q1, ?_, Option.isSome_iff_exists.1 q4⟩
      cases e2 : P.underlying f.type with
      | none => rw [e2] at q3; cases q3
      | some d => rw [e2] at q3; exact ⟨d, rfl, q3⟩
    obtain ⟨hn, ⟨d, hd, h0⟩, v, hv⟩ := h1
    have hn' : f.name ≠ "_" := by simpa using hn
    obtain ⟨v', rv, _⟩ := partC_run hv hC
    have ih := checkFields_run (b := b) (n := n) hC (fs := fs) (allL_iff.2 fun x hx => h' x (by simp [hx])) w
    rw [List.forIn_cons]
    simp only [if_pos hn', Sem.run_bind, rv, Result.andThen_ok, checkKey_base hd h0, Sem.run_pure]
    exact ih
theorem checkKey_run {t : TypeId} {k k' : Value} (h : keyOk P t k = true) (hk : VR M k k') (b : Bool) (w : World) : (Instr.checkKey b 10000 t k').run P w = .ok () w := by
  cases hd : P.underlying t with
  | none => unfold keyOk at h; rw [hd] at h; cases h
  | some d =>
    unfold keyOk at h
    rw [hd] at h
    by_cases h0 : keyT0 d = true
    · exact checkKey_base hd h0 b 9999 k' w
    · cases d with
      | struct fs =>
        have h1 : Option.rec (motive := fun _ => Bool) false (fun cs => allL (keyF P cs) fs.toList) (asAgg k) = true := h
        cases ha : asAgg k with
        | none => rw [ha] at h1; cases h1
        | some cs =>
          rw [ha] at h1
          obtain ⟨C, _, rfl, hC⟩ := asAgg_VR ha hk
          have hl := checkFields_run (b := b) (n := 9998) hC (fs := fs.toList) h1 w
          show (Instr.checkKey b (9999 + 1) t (.agg C)).run P w = _
          unfold Instr.checkKey
          simp only [Sem.run_bind, run_underlying hd, Result.andThen_ok]
          rw [← Array.forIn_toList]
          exact (congrArg (fun r : Result Unit => r.andThen fun _ w' => Sem.run P (Pure.pure ()) w') hl).trans rfl
      | _ => exact absurd h h0
theorem lookA_run {t : TypeId} {m m' k k' v : Value} {ok : Bool} (h : lookA P s t m k ok = some v) (hm : VR M m m') (hk : VR M k k') (hS : Sim P M s.h.get w) : ∃ v', (Instr.lookup t m' k' ok).run P w = .ok v' w ∧ VR M v v' := by
  obtain ⟨d, hd, h1⟩ := bnd_some.1 h
  obtain ⟨kt, vt, hdm, h2⟩ := bnd2_some.1 h1
  obtain ⟨r, hr, h3⟩ := bnd_some.1 h2
  obtain ⟨es, c, hes, h4⟩ := bnd2_some.1 h3
  obtain ⟨hok, h5⟩ := bB_some.1 h4
  obtain ⟨f, hf, h6⟩ := bnd_some.1 h5
  have hd' : P.underlying t = some (.map kt vt) := by cases d <;> first | (cases hdm; exact hd) | cases hdm
  obtain ⟨mi, hmi, _, rfl⟩ := asMap_VR hr hm
  obtain ⟨mi', hmi', es', he, her⟩ := hS.obj r _ (mapAt_some hes)
  rw [hmi] at hmi'; cases hmi'
  obtain ⟨r', hrun, hfr⟩ := findKey_run hf hok hk her
  have hget : (getObj mi.blk).run P w = .ok (.map es' c) w := by simp [getObj, Sem.run, he]
  have hck := fun b => checkKey_run hok hk b w
  rcases hfr with ⟨rfl, rfl⟩ | ⟨i, u, u', rfl, rfl, hu⟩
  · obtain ⟨z, hz, h7⟩ := bnd_some.1 (show bnd (zeroOf P vt) (fun z => bE ok (some (Value.tuple ⟨[z, .bool false]⟩)) (some z)) = some v from h6)
    obtain ⟨_, _, _, hcl⟩ := zeroOf_some hz
    have hzv := clean_VR (M := M) hcl
    rcases bE_some.1 h7 with ⟨rfl, h8⟩ | ⟨rfl, h8⟩
    · cases h8
      exact ⟨_, by simp only [Instr.lookup, Sem.run_bind, run_underlying hd', Result.andThen_ok, hget, Sem.run_pure, hck, hrun, run_zero hz, if_true], .tupL (.cons hzv (.cons (.bool _) .nil))⟩
    · cases h8
      exact ⟨_, by simp only [Instr.lookup, Sem.run_bind, run_underlying hd', Result.andThen_ok, hget, Sem.run_pure, hck, hrun, run_zero hz, Bool.false_eq_true, if_false], hzv⟩
  · rcases bE_some.1 (show bE ok (some (Value.tuple ⟨[u, .bool true]⟩)) (some u) = some v from h6) with ⟨rfl, h8⟩ | ⟨rfl, h8⟩
    · cases h8
      exact ⟨_, by simp only [Instr.lookup, Sem.run_bind, run_underlying hd', Result.andThen_ok, hget, Sem.run_pure, hck, hrun, if_true], .tupL (.cons hu (.cons (.bool _) .nil))⟩
    · cases h8
      exact ⟨_, by simp only [Instr.lookup, Sem.run_bind, run_underlying hd', Result.andThen_ok, hget, Sem.run_pure, hck, hrun, Bool.false_eq_true, if_false], hu⟩
theorem ER.snoc {es es' : List MapEntry} {e e' : MapEntry} (h : ER M es es') (h1 : VR M e.key e'.key) (h2 : VR M e.val e'.val) (h3 : e'.born = e.born) : ER M (es ++ [e]) (es' ++ [e']) := by
  refine ⟨by simp [h.1], fun i f g hf hg => ?_⟩
  by_cases hi : i < es.length
  · rw [List.getElem?_append_left hi] at hf
    rw [List.getElem?_append_left (by rw [← h.1]; exact hi)] at hg
    exact h.2 i f g hf hg
  · rw [List.getElem?_append_right (by omega)] at hf
    rw [List.getElem?_append_right (by rw [← h.1]; omega), ← h.1] at hg
    have h0 : i - es.length = 0 := by
      have := (List.getElem?_eq_some_iff.1 hf).1
      simp at this; omega
    rw [h0] at hf hg
    simp at hf hg
    subst hf; subst hg
    exact ⟨h1, h2, h3⟩
theorem setE_some {k v : Value} : ∀ {es r : List MapEntry} {n : Nat}, setE k v es n = some r → r.length = es.length ∧ (∃ e, es[n]? = some e) ∧ ∀ i, r[i]? = if i = n then (es[i]?).map fun e => ⟨k, v, e.born⟩ else es[i]?
  | [], r, n, h => by cases (show none = some r from h)
  | e :: es, r, 0, h => by
    cases (show some (⟨k, v, e.born⟩ :: es) = some r from h)
    refine ⟨rfl, ⟨e, rfl⟩, fun i => ?_⟩
    cases i <;> simp
  | e :: es, r, n + 1, h => by
    obtain ⟨z, hz, h1⟩ := bnd_some.1 (show bnd (setE k v es n) (fun z => some (e :: z)) = some r from h)
    cases h1
    obtain ⟨q1, ⟨e', q2⟩, q3⟩ := setE_some hz
    refine ⟨by simp [q1], ⟨e', by simpa using q2⟩, fun i => ?_⟩
    cases i with
    | zero => simp
    | succ i => simp only [List.getElem?_cons_succ, q3, Nat.add_right_cancel_iff]
theorem findA_at {t : TypeId} {k : Value} : ∀ {es : List MapEntry} {i0 i : Nat} {v : Value}, findA P t k es i0 = some (some (i, v)) → i0 ≤ i ∧ ∃ e, es[i - i0]? = some e ∧ eqA P t k e.key = some true
  | [], i0, i, v, h => by cases (show some none = some (some (i, v)) from h)
  | e :: es, i0, i, v, h => by
    obtain ⟨q, hq, h4⟩ := bnd_some.1 (show bnd (eqA P t k e.key) (fun r => bE r (some (some (i0, e.val))) (findA P t k es (i0 + 1))) = some (some (i, v)) from h)
    rcases bE_some.1 h4 with ⟨rfl, h5⟩ | ⟨rfl, h5⟩
    · cases h5
      exact ⟨Nat.le_refl _, e, by simp, hq⟩
    · obtain ⟨h6, e', h7, h8⟩ := findA_at h5
      refine ⟨by omega, e', ?_, h8⟩
      rw [show i - i0 = (i - (i0 + 1)) + 1 by omega]
      simpa using h7
theorem sameBits_run {t : TypeId} {d : TypeDesc} {k e k' e' : Value} (h : eqA P t k e = some true) (hd : P.underlying t = some d) (h0 : keyT0 d = true) (hk : VR M k k') (he : VR M e e') : Instr.sameBits 10000 e' k' = true := by
  have hs := sameNow_run h hd h0 hk he
  cases d <;> simp only [keyT0] at h0 <;> (try cases h0) <;> cases k' <;> cases e' <;> simp only [Instr.sameNow] at hs <;> (try cases hs)
  · rename_i a b
    have : (a == b) = true := by simpa using hs
    rw [beq_iff_eq.1 this]
    simp [Instr.sameBits]
  · rename_i k1 a k2 b
    by_cases hkk : k1 = k2
    · rw [if_pos hkk] at hs
      have : (a == b) = true := by simpa using hs
      rw [beq_iff_eq.1 this, hkk]
      simp [Instr.sameBits]
    · rw [if_neg hkk] at hs; cases hs
  · rename_i a b
    have : (a == b) = true := by simpa using hs
    rw [beq_toListBytes, beq_iff_eq, toL, toL] at this
    have : a = b := by
      cases a; cases b
      simp only [ByteArray.mk.injEq]
      exact Array.ext' this
    rw [this]
    have e2 : (b == b) = true := by rw [beq_toListBytes]; simp
    simpa [Instr.sameBits] using e2
theorem mapSet_run {t : TypeId} {m m' k k' v v' : Value} (h : mapSet P s t m k v = some s') (hm : VR M m m') (hk : VR M k k') (hv : VR M v v') (hS : Sim P M s.h.get w) : ResU P s M w ((Instr.mapUpdate t m' k' v').run P w) s' := by
  obtain ⟨d, hd, h1⟩ := bnd_some.1 h
  obtain ⟨kt, vt, hdm, h2⟩ := bnd2_some.1 h1
  obtain ⟨r, hr, h3⟩ := bnd_some.1 h2
  obtain ⟨es, c, hes, h4⟩ := bnd2_some.1 h3
  obtain ⟨hok, h5⟩ := bB_some.1 h4
  obtain ⟨f, hf, h6⟩ := bnd_some.1 h5
  have hd' : P.underlying t = some (.map kt vt) := by cases d <;> first | (cases hdm; exact hd) | cases hdm
  obtain ⟨mi, hmi, _, rfl⟩ := asMap_VR hr hm
  obtain ⟨mi', hmi', es', he, her⟩ := hS.obj r _ (mapAt_some hes)
  rw [hmi] at hmi'; cases hmi'
  obtain ⟨r', hrun, hfr⟩ := findKey_run hf hok hk her
  have hget : (getObj mi.blk).run P w = .ok (.map es' c) w := by simp [getObj, Sem.run, he]
  have hck := fun b => checkKey_run hok hk b w
  cases f with
  | some p =>
    obtain ⟨i, u⟩ := p
    obtain ⟨dk, hdk, h7⟩ := bnd_some.1 (show bnd (P.underlying kt) (fun dk => bB (keyT0 dk) (bnd (setE k v es i) fun es => s.set r (some (.map es c)))) = some s' from h6)
    obtain ⟨h0, h8⟩ := bB_some.1 h7
    obtain ⟨es2, he2, h9⟩ := bnd_some.1 h8
    obtain ⟨g1, g2⟩ := set_some h9
    obtain ⟨q1, ⟨e0, q2⟩, q3⟩ := setE_some he2
    obtain ⟨_, e1, q4, q5⟩ := findA_at hf
    rw [Nat.sub_zero] at q4
    rcases hfr with ⟨e, _⟩ | ⟨i', u1, u', e, rfl, hu⟩
    · cases e
    · cases e
      have hil : i < es'.toList.length := by rw [← her.1]; exact (List.getElem?_eq_some_iff.1 q4).1
      have hei := List.getElem?_eq_getElem hil
      obtain ⟨ek, _, _⟩ := her.2 i e1 _ q4 hei
      have hsb := sameBits_run q5 hdk h0 hk ek
      have hei2 : es'[i]? = some es'.toList[i] := by rw [← Array.getElem?_toList]; exact hei
      have hkt : (Instr.keyThatStays (((es'[i]?).map (·.key)).getD k') k').run P w = .ok k' w := by
        rw [hei2]
        simp only [Option.map_some, Option.getD_some, Instr.keyThatStays, hsb, if_true, Sem.run_pure]
      let w' : World := { w with heap := w.heap.setIfInBounds mi.blk (.map (es'.modify i fun e => { e with key := k', val := v' }) c) }
      have hlt : mi.blk < w.heap.size := (Array.getElem?_eq_some_iff.1 he).1
      have hst := Stp.turn (w' := w') (o' := .map es2 c) hS (mapAt_some hes) rfl hmi (by simp [w']) (fun k hk => by
          show (w.heap.setIfInBounds mi.blk _)[k]? = _
          rw [Array.getElem?_setIfInBounds_ne (fun e => hk e.symm)]) ⟨es'.modify i fun e => { e with key := k', val := v' }, by
          show (w.heap.setIfInBounds mi.blk _)[mi.blk]? = _
          rw [Array.getElem?_setIfInBounds_self_of_lt hlt], by rw [q1, her.1, Array.length_toList, Array.length_toList, Array.size_modify], fun j f f' hj hj' => by
          rw [q3] at hj
          rw [Array.getElem?_toList, Array.getElem?_modify] at hj'
          by_cases hji : j = i
          · subst hji
            rw [if_pos rfl] at hj hj'
            rw [q4] at hj
            rw [hei2] at hj'
            simp only [Option.map_some, Option.some.injEq] at hj hj'
            subst hj; subst hj'
            obtain ⟨_, _, eb⟩ := her.2 j e1 _ q4 hei
            exact ⟨hk, hv, eb⟩
          · rw [if_neg hji] at hj
            rw [if_neg (fun e => hji e.symm)] at hj'
            exact her.2 j f f' hj (by rw [Array.getElem?_toList]; exact hj')⟩ rfl rfl rfl s.nx
      refine ⟨M, w', ?_, by rw [g1, g2]; exact hst⟩
      simp only [Instr.mapUpdate, Sem.run_bind, run_underlying hd', Result.andThen_ok, hget, hck, hrun, hkt, setObj, Sem.run, he]
      rfl
  | none =>
    obtain ⟨es2, he2, h7⟩ := bnd_some.1 (show bnd (sApp es [⟨k, v, c⟩]) (fun es => s.set r (some (.map es (c + 1)))) = some s' from h6)
    rw [sApp_eq] at he2
    cases he2
    obtain ⟨g1, g2⟩ := set_some h7
    rcases hfr with ⟨_, rfl⟩ | ⟨i, u, u', e, _⟩
    · let w' : World := { w with heap := w.heap.setIfInBounds mi.blk (.map (es'.push ⟨k', v', c⟩) (c + 1)) }
      have hlt : mi.blk < w.heap.size := (Array.getElem?_eq_some_iff.1 he).1
      have hst := Stp.turn (w' := w') (o' := .map (es ++ [⟨k, v, c⟩]) (c + 1)) hS (mapAt_some hes) rfl hmi (by simp [w']) (fun k hk => by
          show (w.heap.setIfInBounds mi.blk _)[k]? = _
          rw [Array.getElem?_setIfInBounds_ne (fun e => hk e.symm)]) ⟨es'.push ⟨k', v', c⟩, by
          show (w.heap.setIfInBounds mi.blk _)[mi.blk]? = _
          rw [Array.getElem?_setIfInBounds_self_of_lt hlt], by rw [Array.toList_push]; exact her.snoc hk hv rfl⟩ rfl rfl rfl s.nx
      refine ⟨M, w', ?_, by rw [g1, g2]; exact hst⟩
      simp only [Instr.mapUpdate, Sem.run_bind, run_underlying hd', Result.andThen_ok, hget, hck, hrun, setObj, Sem.run, he]
      rfl
    · cases e
end
end Go.Proofs.YtjdehneddakpnaaGreatDoor.ev
namespace Go.Proofs.YtjdehneddakpnaaGreatDoor.ev
open Go Go.RowKit
section
variable {P : Program} {M M' : Pm} {φ φ' : T Value} {a : Act} {N : Nat} {w : World} {s s' : St}
def exOf (e : Ex) : Exit := match e with
  | .normal => .normal
  | .exit id => .exit id
  | .ret => .ret
/-- an evaluator of code is right -/
def ExOk (P : Program) (ex : ExF) : Prop := ∀ (c : Code) (s : St) (φ : T Value) (N : Nat) (e : Ex) (s' : St) (φ' : T Value), ex c s φ N = some (.mk e s' φ') → s.nx ≤ s'.nx ∧
  ∀ (M : Pm) (a : Act) (w : World), Sim P M s.h.get w → FR P M φ a N → Fresh M s.nx s'.nx → ∀ Q : Exit → Act → World → Prop,
    (∀ M' a' w', Stp P s.h.get M w s'.h.get M' w' s.nx s'.nx → FR P M' φ' a' N → Q (exOf e) a' w') → c.wp P Q a w
/-- what is said of calls is right -/
def CallOk (P : Program) (f : FuncId) (args : List Value) (s : St) (v : Value) (s' : St) : Prop := s.nx ≤ s'.nx ∧ (∃ fn c, P.funcs[f]? = some fn ∧ fn.body = some c) ∧
  ∀ (M : Pm) (A : Array Value) (w : World), LR M args A.toList → Sim P M s.h.get w → Fresh M s.nx s'.nx → (∀ g, g < P.globals.size → ∃ mi, M g = some mi ∧ mi.blk = g ∧ mi.sh = 0) →
    ∀ R : Ending → World → Prop, (∀ M' v' w', VR M' v v' → Stp P s.h.get M w s'.h.get M' w' s.nx s'.nx → R (.returned v') w') → Calls P f A w R
def CaOk (P : Program) (ca : CaF) : Prop := ∀ (f : FuncId) (args : List Value) (s : St) (v : Value) (s' : St), ca f args s = some (v, s') → CallOk P f args s v s'
/-- an operation does what was computed -/
def OpOk (P : Program) (o : Oper) (a : Act) (s : St) (M : Pm) (w : World) (v : Value) (s' : St) : Prop :=
  (∃ M' v' w', ((execOp a.eval o).run P w = .ok (.value v') w' ∨ ((execOp a.eval o).run P w = .ok .skip w' ∧ v' = undef)) ∧ VR M' v v' ∧ Stp P s.h.get M w s'.h.get M' w' s.nx s'.nx) ∨
  (∃ f A, (execOp a.eval o).run P w = .ok (.enter f A) w ∧ ∀ R : Ending → World → Prop, (∀ M' v' w', VR M' v v' → Stp P s.h.get M w s'.h.get M' w' s.nx s'.nx → R (.returned v') w') → Calls P f A w R)
theorem OpOk.wp {o : Oper} {v : Value} {a2 : Act} (h : OpOk P o a s M w v s') (he : execOp a2.eval o = execOp a.eval o) (K : Act → World → Prop) (Q : Exit → Act → World → Prop)
    (hK : ∀ M' v' w', VR M' v v' → Stp P s.h.get M w s'.h.get M' w' s.nx s'.nx → K (a2.put o.dst v') w') : o.wp P a2 w K Q := by
  unfold Oper.wp
  rw [he]
  rcases h with ⟨M', v', w', h1 | ⟨h1, rfl⟩, hv, hs⟩ | ⟨f, A, h1, h2⟩
  · rw [h1]; exact hK M' v' w' hv hs
  · rw [h1]; exact hK M' undef w' hv hs
  · rw [h1]; exact h2 _ fun M' v' w' hv hs => hK M' v' w' hv hs
theorem OpOk.value {o : Oper} {v v' : Value} {w' : World} (h : (execOp a.eval o).run P w = .ok (.value v') w') (hv : VR M' v v') (hs : Stp P s.h.get M w s'.h.get M' w' s.nx s'.nx) : OpOk P o a s M w v s' :=
  .inl ⟨M', v', w', .inl h, hv, hs⟩
theorem OpOk.res {o : Oper} {v : Value} {r : Result Value} (hr : Res P s M w r v s') (h : ∀ v' w', r = .ok v' w' → (execOp a.eval o).run P w = .ok (.value v') w') : OpOk P o a s M w v s' := by
  obtain ⟨M', v', w', e, hv, hs⟩ := hr
  exact .value (h v' w' e) hv hs
theorem OpOk.pure {o : Oper} {v v' : Value} (hS : Sim P M s.h.get w) (h : (execOp a.eval o).run P w = .ok (.value v') w) (hv : VR M v v') : OpOk P o a s M w v s := .value h hv (.refl hS _)
theorem OpOk.skip {o : Oper} {r : Result Unit} (hr : ResU P s M w r s') (h : ∀ w', r = .ok () w' → (execOp a.eval o).run P w = .ok .skip w') : OpOk P o a s M w undef s' := by
  obtain ⟨M', w', e, hs⟩ := hr
  exact .inl ⟨M', undef, w', .inr ⟨h w' e, rfl⟩, .undef, hs⟩
theorem pureS_some {x : Option Value} {v : Value} (h : pureS s x = some (v, s')) : x = some v ∧ s' = s := by
  obtain ⟨u, hu, h1⟩ := bnd_some.1 h
  cases h1
  exact ⟨hu, rfl⟩
theorem undS_some {x : Option St} {v : Value} (h : undS x = some (v, s')) : x = some s' ∧ v = undef := by
  obtain ⟨u, hu, h1⟩ := bnd_some.1 h
  cases h1
  exact ⟨hu, rfl⟩
theorem run_v {α : Type} {x : Sem α} {f : α → Next} {v : α} {w w' : World} (h : x.run P w = .ok v w') : (do Pure.pure (f (← x)) : Sem Next).run P w = .ok (f v) w' := by
  simp only [Sem.run_bind, h, Result.andThen_ok, Sem.run_pure]
theorem evs_arr {xs : Array Operand} {vs : List Value} (h : evs P φ xs.toList = some vs) (hf : FR P M φ a N) : LR M vs (xs.map a.eval).toList := by
  rw [Array.toList_map]
  exact evs_LR h hf
theorem frame0_get : ∀ {vs : List Value} {i : Nat} {φ φ' : T Value}, frame0 vs i φ = some φ' → ∀ t, φ'.get t = if i ≤ t ∧ t < i + vs.length then vs[t - i]? else φ.get t
  | [], i, φ, φ', h, t => by cases (show some φ = some φ' from h); simp; omega
  | v :: vs, i, φ, φ', h, t => by
    obtain ⟨φ1, h1, h2⟩ := bnd_some.1 (show bnd (φ.put i (some v)) (fun φ => frame0 vs (i + 1) φ) = some φ' from h)
    rw [frame0_get h2 t, T.put_spec _ _ _ _ h1 t]
    simp only [List.length_cons]
    by_cases ht : t = i
    · subst ht
      rw [if_neg (by omega), if_pos rfl, if_pos (by omega)]
      simp
    · by_cases hc : i + 1 ≤ t ∧ t < i + 1 + vs.length
      · rw [if_pos hc, if_pos (by omega), show t - i = (t - (i + 1)) + 1 by omega]
        rfl
      · rw [if_neg hc, if_neg ht, if_neg (by omega)]
theorem frame0_FR {vs : List Value} {A : Array Value} {n : Nat} (h : frame0 vs 0 .nil = some φ) (hl : LR M vs A.toList) (hg : ∀ g, g < P.globals.size → ∃ mi, M g = some mi ∧ mi.blk = g ∧ mi.sh = 0) :
    FR P M φ { tmps := A ++ Array.replicate (n - A.size) undef, defers := [] } (Nat.add (lLen vs) (Nat.sub n (lLen vs))) := by
  have hlen : vs.length = A.size := by rw [hl.1, Array.length_toList]
  refine ⟨fun t => ?_, ?_, rfl, hg⟩
  · rw [frame0_get h t]
    simp only [Nat.zero_le, true_and, Nat.zero_add, Nat.sub_zero]
    by_cases ht : t < vs.length
    · rw [if_pos ht]
      have h1 := List.getElem?_eq_getElem ht
      obtain ⟨v', h2, h3⟩ := hl.get h1
      rw [h1]
      have h4 : (A ++ Array.replicate (n - A.size) undef).getD t undef = v' := by
        rw [Array.getElem?_toList] at h2
        rw [Array.getD_eq_getD_getElem?, Array.getElem?_append_left (by omega), h2]
        rfl
      show VR M _ ((A ++ Array.replicate (n - A.size) undef).getD t undef)
      rw [h4]
      exact h3
    · rw [if_neg ht, T.get_nil]
      have h4 : (A ++ Array.replicate (n - A.size) undef).getD t undef = undef := by
        rw [Array.getD_eq_getD_getElem?, Array.getElem?_append_right (by omega), Array.getElem?_replicate]
        split <;> rfl
      show VR M undef ((A ++ Array.replicate (n - A.size) undef).getD t undef)
      rw [h4]
      exact .undef
  · show (A ++ Array.replicate (n - A.size) undef).size = lLen vs + (n - lLen vs)
    rw [lLen_eq, hlen]
    simp
theorem resA_run {C : Nat} : ∀ {rs : List ResultVar} {vs : List Value}, resA P s φ rs = some vs → FR P M φ a C → Sim P M s.h.get w → ∃ vs', LR M vs vs' ∧ (rs.mapM fun r => (match r with
      | .tmp t => Pure.pure (a.tmps.getD t undef)
      | .cell b t => do loadVar t (← Go.asAddr (a.tmps.getD b undef)) : Sem Value)).run P w = .ok vs' w
  | [], vs, h, _, _ => by cases (show some [] = some vs from h); exact ⟨[], .nil, by simp⟩
  | r :: rs, vs, h, hf, hS => by
    obtain ⟨v, hv, h1⟩ := bnd_some.1 (show bnd (resOne P s φ r) (fun v => bnd (resA P s φ rs) fun vs => some (v :: vs)) = some vs from h)
    obtain ⟨us, hus, h2⟩ := bnd_some.1 h1
    cases h2
    obtain ⟨us', hl, hr⟩ := resA_run hus hf hS
    cases r with
    | tmp t =>
      have h3 : Option.rec (motive := fun _ => Option Value) (some undef) (fun v => some v) (φ.get t) = some v := hv
      have ht := hf.at_ t
      have hv' : VR M v (a.tmps.getD t undef) := by
        cases hg : φ.get t with
        | none => rw [hg] at h3 ht; cases h3; exact ht
        | some u => rw [hg] at h3 ht; cases h3; exact ht
      refine ⟨a.tmps.getD t undef :: us', .cons hv' hl, ?_⟩
      rw [List.mapM_cons]
      simp only [Sem.run_bind, Sem.run_pure, Result.andThen_ok, hr]
    | cell b t =>
      obtain ⟨u, hu, h3⟩ := bnd_some.1 (show bnd (φ.get b) (fun v => bnd2 (asPtr v) fun b o => loadA P s t b o) = some v from hv)
      obtain ⟨b', o, hp, h4⟩ := bnd2_some.1 h3
      have ht := hf.at_ b
      rw [hu] at ht
      obtain ⟨mi, hm, _, e⟩ := asPtr_VR hp ht
      obtain ⟨v', _, h5, h6⟩ := loadA_run h4 hm hS
      have h8 : (do loadVar t (← Go.asAddr (a.tmps.getD b undef)) : Sem Value).run P w = .ok v' w := by
        simp only [Sem.run_bind, e, Go.asAddr, Sem.run_pure, Result.andThen_ok, h5]
      refine ⟨v' :: us', .cons h6 hl, ?_⟩
      rw [List.mapM_cons, Sem.run_bind]
      refine (congrArg (fun r : Result Value => r.andThen _) h8).trans ?_
      simp only [Result.andThen_ok, Sem.run_bind, hr, Sem.run_pure]
theorem resV_run {fn : Func} {vs : List Value} (h : resA P s φ fn.results.toList = some vs) (hf : FR P M φ a N) (hS : Sim P M s.h.get w) : ∃ v', (results fn a.tmps).run P w = .ok v' w ∧ VR M (resV vs) v' := by
  obtain ⟨vs', hl, hr⟩ := resA_run h hf hS
  have hm : (fn.results.mapM fun r => (match r with
      | .tmp t => Pure.pure (a.tmps.getD t undef)
      | .cell b t => do loadVar t (← Go.asAddr (a.tmps.getD b undef)) : Sem Value)).run P w = .ok vs'.toArray w := by
    rw [Array.mapM_eq_mapM_toList]
    simp only [Sem.run_map, hr, Result.andThen_ok]
  refine ⟨if h : vs'.toArray.size = 1 then vs'.toArray[0] else .tuple vs'.toArray, ?_, ?_⟩
  · unfold results
    simp only [Sem.run_bind]
    exact (congrArg (fun r : Result (Array Value) => r.andThen fun vs w' => Sem.run P (Pure.pure (if h : vs.size = 1 then vs[0] else .tuple vs)) w') hm).trans rfl
  · cases vs with
    | nil =>
      obtain rfl := hl.nil_l
      exact .tuple rfl fun i v v' e => by simp at e
    | cons v vs =>
      obtain ⟨v', r, rfl, h1, h2⟩ := hl.uncons
      cases vs with
      | nil =>
        obtain rfl := h2.nil_l
        exact h1
      | cons u us =>
        obtain ⟨u', r', rfl, h3, h4⟩ := h2.uncons
        rw [dif_neg (by simp)]
        exact .tupL (.cons h1 (.cons h3 h4))
theorem callW_ok {ex : ExF} (hex : ExOk P ex) : CaOk P (callW P ex) := by
  intro f args s v s' h
  obtain ⟨fn, hfn, h1⟩ := bnd_some.1 h
  obtain ⟨c, hc, h2⟩ := bnd_some.1 h1
  obtain ⟨φ, hφ, h3⟩ := bnd_some.1 h2
  obtain ⟨⟨e, s2, φ2⟩, hr, h4⟩ := bnd_some.1 h3
  obtain ⟨he, h5⟩ := bB_some.1 (show bB (outOk e) (bnd (resA P s2 φ2 fn.results.toList) fun vs => some (resV vs, s2)) = some (v, s') from h4)
  obtain ⟨vs, hvs, h6⟩ := bnd_some.1 h5
  cases h6
  obtain ⟨hle, hex2⟩ := hex c s φ _ e s' φ2 hr
  refine ⟨hle, ⟨fn, c, hfn, hc⟩, fun M A w hl hS hf hg R hR => calls_of_wp hfn hc ?_⟩
  refine hex2 M _ w hS (frame0_FR hφ hl hg) hf _ fun M' a' w' hst hfr => ?_
  obtain ⟨v', hr1, hr2⟩ := resV_run hvs hfr hst.sim
  cases e with
  | normal => exact ⟨hfr.defers, v', hr1, hR M' v' w' hr2 hst⟩
  | ret => exact ⟨hfr.defers, v', hr1, hR M' v' w' hr2 hst⟩
  | exit id => cases he
theorem evsAt {xs : Array Operand} {vs : List Value} {i : Nat} {v : Value} (h : evs P φ xs.toList = some vs) (hf : FR P M φ a N) (hv : lGet vs i = some v) : ∃ v', (xs.map a.eval)[i]? = some v' ∧ VR M v v' := by
  rw [lGet_eq] at hv
  obtain ⟨v', h1, h2⟩ := (evs_arr h hf).get hv
  exact ⟨v', by rw [← Array.getElem?_toList]; exact h1, h2⟩
theorem tsAt {ts : Array TypeId} {i : Nat} {t : TypeId} (h : lGet ts.toList i = some t) : ts[i]? = some t := by
  rw [lGet_eq, Array.getElem?_toList] at h
  exact h
theorem opBuiltin_ok {b : Builtin} {o : Oper} {c : Call} {vs : List Value} {v : Value} (ho : o.op = .call c) (hc : c.callee = .builtin b) (hvs : evs P φ c.args.toList = some vs) (h : opBuiltin b P s c.argTypes.toList vs = some (v, s')) (hS : Sim P M s.h.get w) (hf : FR P M φ a N) (hfr : Fresh M s.nx s'.nx) :
    OpOk P o a s M w v s' := by
  have hx : ∀ (x : Sem Next), (do let d ← resolve a.eval c o.type; invoke d.target d.args : Sem Next) = x → (execOp a.eval o) = x := fun x hx => by
    unfold execOp; rw [ho]; exact hx
  have he : (execOp a.eval o) = builtin b c.argTypes o.type (c.args.map fun | .const _ => true | _ => false) (c.args.map a.eval) := hx _ (by
    unfold resolve
    rw [hc]
    rfl)
  cases b <;> simp only [opBuiltin] at h <;> (try cases h)
  case append =>
    obtain ⟨t, ht, h1⟩ := bnd_some.1 h
    obtain ⟨u, hu, h2⟩ := bnd_some.1 h1
    obtain ⟨d, hd, h3⟩ := bnd_some.1 h2
    obtain ⟨x, hx2, h4⟩ := bnd_some.1 h3
    obtain ⟨d', hd1, hd2⟩ := evsAt hvs hf hd
    obtain ⟨x', hx1, hx3⟩ := evsAt hvs hf hx2
    have hr := appendA_run (ty := o.type) h4 hd2 hx3 hS hfr
    refine OpOk.res hr fun v' w' e => ?_
    rw [he]
    have e2 : (Builtin.append_ c.argTypes o.type (c.args.map a.eval)) = Builtin.append_ #[t, u] o.type #[d', x'] := by
      unfold Builtin.append_
      rw [tsAt ht, tsAt hu, hd1, hx1]
      rfl
    exact run_v (by rw [e2]; exact e)
  case copy =>
    obtain ⟨t, ht, h1⟩ := bnd_some.1 h
    obtain ⟨d, hd, h3⟩ := bnd_some.1 h1
    obtain ⟨x, hx2, h4⟩ := bnd_some.1 h3
    obtain ⟨d', hd1, hd2⟩ := evsAt hvs hf hd
    obtain ⟨x', hx1, hx3⟩ := evsAt hvs hf hx2
    exact OpOk.res (copyA_run (ty := o.type) h4 hd2 hx3 hS (tsAt ht) hd1 hx1) fun v' w' e => by rw [he]; exact run_v e
  case len =>
    obtain ⟨t, ht, h1⟩ := bnd_some.1 h
    obtain ⟨x, hx2, h4⟩ := bnd_some.1 h1
    obtain ⟨x', hx1, hx3⟩ := evsAt hvs hf hx2
    obtain ⟨h5, rfl⟩ := pureS_some h4
    obtain ⟨h6, h7⟩ := lenA_run (ty := o.type) h5 hx3 hS c.argTypes (c.args.map a.eval) (tsAt ht) hx1
    exact OpOk.pure hS (by rw [he]; exact run_v h6) h7
  case min =>
    obtain ⟨x, hx2, h4⟩ := bnd_some.1 h
    obtain ⟨h5, rfl⟩ := pureS_some h4
    obtain ⟨v', h6, h7⟩ := min_run (P := P) (ts := c.argTypes) (ty := o.type) h5 hx2 (evs_arr hvs hf)
    exact OpOk.pure hS (by rw [he]; exact run_v (h6 w)) h7
  case max =>
    obtain ⟨x, hx2, h4⟩ := bnd_some.1 h
    obtain ⟨h5, rfl⟩ := pureS_some h4
    obtain ⟨v', h6, h7⟩ := max_run (P := P) (ts := c.argTypes) (ty := o.type) h5 hx2 (evs_arr hvs hf)
    exact OpOk.pure hS (by rw [he]; exact run_v (h6 w)) h7
  case clear =>
    obtain ⟨t, ht, h1⟩ := bnd_some.1 h
    obtain ⟨x, hx2, h4⟩ := bnd_some.1 h1
    obtain ⟨x', hx1, hx3⟩ := evsAt hvs hf hx2
    exact OpOk.res (opClear_run (ty := o.type) h4 hx3 hS (tsAt ht) hx1) fun v' w' e => by rw [he]; exact run_v e
  case cap =>
    obtain ⟨t, ht, h1⟩ := bnd_some.1 h
    obtain ⟨x, hx2, h2⟩ := bnd_some.1 h1
    obtain ⟨d, hd, h3⟩ := bnd_some.1 h2
    obtain ⟨e, hde, h4⟩ := bnd_some.1 h3
    obtain ⟨x', hx1, hx3⟩ := evsAt hvs hf hx2
    obtain ⟨h5, rfl⟩ := pureS_some h4
    have hd' : P.underlying t = some (.slice e) := by cases d <;> first | (cases hde; exact hd) | cases hde
    obtain ⟨h6, h7⟩ := capA_run (P := P) (w := w) (ty := o.type) h5 hx3 hd' c.argTypes (c.args.map a.eval) (tsAt ht) hx1
    exact OpOk.pure hS (by rw [he]; exact run_v h6) h7
  case unsafeSliceData =>
    obtain ⟨x, hx2, h1⟩ := bnd_some.1 h
    obtain ⟨hlen, h2⟩ := bB_some.1 h1
    obtain ⟨h5, rfl⟩ := pureS_some h2
    have hlen : vs.length = 1 := by rw [← lLen_eq]; exact beq_nat.1 hlen
    obtain ⟨y, rfl⟩ : ∃ y, vs = [y] := by
      match vs, hlen with
      | [y], _ => exact ⟨y, rfl⟩
    cases (show some y = some x from hx2)
    obtain ⟨x', r, e, hx, hr⟩ := (evs_arr hvs hf).uncons
    obtain rfl := hr.nil_l
    have ea : c.args.map a.eval = #[x'] := by rw [← Array.toList_inj]; exact e
    obtain ⟨v', h6, h7⟩ := opSlData_run (P := P) (w := w) (ts := c.argTypes) (ty := o.type) h5 hx
    exact OpOk.pure hS (by rw [he, ea]; exact run_v h6) h7
  case unsafeString =>
    obtain ⟨t, ht, h1⟩ := bnd_some.1 h
    obtain ⟨p, hp, h2⟩ := bnd_some.1 h1
    obtain ⟨n, hn, h3⟩ := bnd_some.1 h2
    obtain ⟨hlen, h4⟩ := bB_some.1 h3
    have hlen : vs.length = 2 := by rw [← lLen_eq]; exact beq_nat.1 hlen
    obtain ⟨y, z, rfl⟩ : ∃ y z, vs = [y, z] := by
      match vs, hlen with
      | [y, z], _ => exact ⟨y, z, rfl⟩
    cases (show some y = some p from hp)
    cases (show some z = some n from hn)
    obtain ⟨y', r, e, hy, hr⟩ := (evs_arr hvs hf).uncons
    obtain ⟨z', r2, e2, hz, hr2⟩ := hr.uncons
    obtain rfl := hr2.nil_l
    subst e2
    have ea : c.args.map a.eval = #[y', z'] := by rw [← Array.toList_inj]; exact e
    have e3 : Builtin.unsafeString_ c.argTypes o.type #[y', z'] = Builtin.unsafeString_ #[t, t] o.type #[y', z'] := by
      unfold Builtin.unsafeString_
      rw [tsAt ht]
      rfl
    refine OpOk.res (opUStr_run (it := t) (ty := o.type) h4 hy hz hS) fun v' w' e4 => ?_
    rw [he, ea]
    refine run_v ?_
    rw [e3]
    exact e4
end
end Go.Proofs.YtjdehneddakpnaaGreatDoor.ev
namespace Go.Proofs.YtjdehneddakpnaaGreatDoor.ev
open Go Go.RowKit
section
variable {P : Program} {M M' : Pm} {φ φ' : T Value} {a : Act} {N : Nat} {w : World} {s s' : St}
theorem run_u {x : Sem Unit} {w w' : World} (h : x.run P w = .ok () w') : (do x; Pure.pure .skip : Sem Next).run P w = .ok .skip w' := by
  simp only [Sem.run_bind, h, Result.andThen_ok, Sem.run_pure]
theorem convert_ok {src dst : TypeId} {x x' v : Value} (hB : BOk P) (h : opConv P s src dst x = some (v, s')) (hx : VR M x x') (hS : Sim P M s.h.get w) (hfr : Fresh M s.nx s'.nx) : Res P s M w ((convert src dst x').run P w) v s' := by
  obtain ⟨ds, hds, h1⟩ := bnd_some.1 h
  obtain ⟨dd, hdd, h2⟩ := bnd_some.1 h1
  cases hxc : x <;> rw [hxc] at h2 <;> simp only at h2 <;> (try cases h2)
  case int k n =>
    obtain ⟨h3, rfl⟩ := pureS_some h2
    rw [hxc] at hx
    cases hx
    obtain ⟨h4, h5⟩ := convInt_run (P := P) (k := k) h3 hds hdd
    exact Res.pure hS (h4 w) (clean0_VR h5)
  case string b =>
    rw [hxc] at hx
    cases hx
    exact convStr_run h2 hds hdd hS hfr
  case slice a0 l0 c0 =>
    obtain ⟨h3, rfl⟩ := pureS_some h2
    rw [hxc] at hx
    exact convSl_run h3 hx hds hdd hS
  case pointer a =>
    obtain ⟨h3, rfl⟩ := pureS_some h2
    rw [hxc] at hx
    obtain ⟨h4, h5⟩ := convPtr_run hB h3 hds hdd hx hS
    exact Res.pure hS h4 (h5 ▸ hx)
/-- the functions without a body -/
def XOk (P : Program) : Prop := (∃ fn, P.funcs[NE]? = some fn ∧ (fn.name == "runtime.NumGoroutine") = false ∧ fn.body.isNone = true ∧ Extern.findNext fn = none ∧ Extern.find fn = some Extern.AbiNoEscape.same) ∧
  (∃ fn, P.funcs[IBS]? = some fn ∧ (fn.name == "runtime.NumGoroutine") = false ∧ fn.body.isNone = true ∧ Extern.findNext fn = none ∧ Extern.find fn = some Extern.BytealgIndexByte.indexByte)
theorem callX_cases {ex : CaF} {f : FuncId} {args : List Value} {v : Value} (h : callX ex f args s = some (v, s')) : (xA f args = some v ∧ s = s') ∨ ex f args s = some (v, s') := by
  unfold callX at h
  cases hx : xA f args with
  | none => rw [hx] at h; exact .inr h
  | some u => rw [hx] at h; cases (show some (u, s) = some (v, s') from h); exact .inl ⟨rfl, rfl⟩
theorem idxB_eq (c : Nat) (b : ByteArray) (hc : c ≤ 255) : idxB c b.data.toList 0 = firstIdx b (UInt8.ofNat c) := by
  have hs : b.size = b.data.toList.length := by rw [Array.length_toList]; rfl
  have key : ∀ (m k : Nat), k + m = b.size → idxB c (b.data.toList.drop k) k = match (List.range' k m).find? (fun i => b[i]! == UInt8.ofNat c) with
      | some i => (i : Int)
      | none => -1 := by
    intro m
    induction m with
    | zero => intro k hk; rw [List.drop_eq_nil_of_le (by omega)]; rfl
    | succ m ih =>
      intro k hk
      have hk2 : k < b.data.toList.length := by omega
      have hk3 : k < b.data.size := by rw [Array.length_toList] at hk2; exact hk2
      rw [List.drop_eq_getElem_cons hk2, List.range'_succ, List.find?_cons]
      have e : b[k]! = b.data.toList[k] := by
        rw [Array.getElem_toList, getElem!_pos b k hk3]
        rfl
      show Bool.rec (motive := fun _ => Int) (idxB c (b.data.toList.drop (k + 1)) (k + 1)) (.ofNat k) (Nat.beq (b.data.toList[k]).toNat c) = _
      rw [e]
      cases hq : Nat.beq (b.data.toList[k]).toNat c with
      | true =>
        have h1 : (b.data.toList[k] == UInt8.ofNat c) = true := by
          have := beq_nat.1 hq
          rw [beq_iff_eq, ← this]; simp
        rw [h1]; rfl
      | false =>
        have h1 : (b.data.toList[k] == UInt8.ofNat c) = false := by
          have := beq_natF.1 hq
          rw [beq_eq_false_iff_ne]
          intro h2
          apply this
          rw [h2, UInt8.toNat_ofNat']
          omega
        rw [h1]
        exact ih (k + 1) (by omega)
  have := key b.size 0 (by omega)
  rw [List.drop_zero] at this
  unfold firstIdx
  rw [List.range_eq_range']
  exact this
theorem asU8_VR {x x' : Value} {m : Nat} (h : asU8 x = some m) (hx : VR M x x') : x' = .int .u8 m ∧ m ≤ 255 := by
  cases hx <;> simp only [asU8] at h <;> (try cases h)
  rename_i k z
  cases k <;> simp only at h <;> (try cases h)
  cases z <;> simp only at h <;> (try cases h)
  obtain ⟨h1, h2⟩ := bB_some.1 h
  cases h2
  exact ⟨rfl, ble_nat.1 h1⟩
theorem xA_run {f : FuncId} {vs : List Value} {v : Value} {A : Array Value} (hX : XOk P) (h : xA f vs = some v) (hl : LR M vs A.toList) : ∃ v', (callFunc f A).run P w = .ok (.value v') w ∧ VR M v v' := by
  obtain ⟨⟨fn, a1, a2, a3, a4, a5⟩, ⟨fn2, b1, b2, b3, b4, b5⟩⟩ := hX
  rcases bE_some.1 h with ⟨hf, h1⟩ | ⟨_, h1⟩
  · obtain rfl := beq_nat.1 hf
    obtain ⟨hlen, h2⟩ := bB_some.1 h1
    have hlen : vs.length = 1 := by rw [← lLen_eq]; exact beq_nat.1 hlen
    obtain ⟨x, rfl⟩ : ∃ x, vs = [x] := by
      match vs, hlen with
      | [x], _ => exact ⟨x, rfl⟩
    cases (show some x = some v from h2)
    obtain ⟨x', r, e, hx, hr⟩ := hl.uncons
    obtain rfl := hr.nil_l
    obtain rfl : A = #[x'] := by cases A; simp_all
    exact ⟨x', by rw [run_callFunc_extern a1 a2 a3 a4 a5]; rfl, hx⟩
  · rcases bE_some.1 h1 with ⟨hf, h2⟩ | ⟨_, h2⟩
    · obtain rfl := beq_nat.1 hf
      obtain ⟨hlen, h2⟩ := bB_some.1 h2
      have hlen : vs.length = 2 := by rw [← lLen_eq]; exact beq_nat.1 hlen
      obtain ⟨x, y, rfl⟩ : ∃ x y, vs = [x, y] := by
        match vs, hlen with
        | [x, y], _ => exact ⟨x, y, rfl⟩
      obtain ⟨x0, hx0, h3⟩ := bnd_some.1 h2
      cases (show some x = some x0 from hx0)
      obtain ⟨l, hl1, h4⟩ := bnd_some.1 h3
      obtain ⟨y0, hy0, h5⟩ := bnd_some.1 h4
      cases (show some y = some y0 from hy0)
      obtain ⟨n, hn, h6⟩ := bnd_some.1 h5
      obtain ⟨x', r, e, hx, hr⟩ := hl.uncons
      obtain ⟨y', r2, e2, hy, hr2⟩ := hr.uncons
      obtain rfl := hr2.nil_l
      subst e2
      obtain rfl : A = #[x', y'] := by cases A; simp_all
      obtain ⟨sb, rfl, rfl, e3⟩ := asStr_VR hl1 hx
      obtain ⟨rfl, hn2⟩ := asU8_VR hn hy
      have e5 := idxB_eq n sb hn2
      refine ⟨.int .i64 (firstIdx sb (n : Int).toNat.toUInt8), by rw [run_callFunc_extern b1 b2 b3 b4 b5, run_indexByte_string]; rfl, ?_⟩
      have e6 := mkI_some.1 h6
      rw [e6, Int.toNat_natCast]
      rw [← e3, e5]
      exact .int _ _
    · cases h2
/-- no function that counts goroutines has a body -/
structure NoNG (P : Program) : Prop where
  ng : ∀ (f : FuncId) (fn : Func), P.funcs[f]? = some fn → (fn.name == "runtime.NumGoroutine" && fn.body.isSome) = false
  bok : BOk P
  xok : XOk P
theorem opF_ok {ex : CaF} {o : Oper} {v : Value} (hng : NoNG P) (hex : CaOk P ex) (h : opF o.op P ex s φ = some (v, s')) (hS : Sim P M s.h.get w) (hf : FR P M φ a N) (hfr : Fresh M s.nx s'.nx) : OpOk P o a s M w v s' := by
  cases ho : o.op <;> rw [ho] at h <;> simp only [opF] at h <;> (try cases h)
  case move x =>
    obtain ⟨h1, rfl⟩ := pureS_some h
    exact OpOk.pure hS (by unfold execOp; rw [ho]; rfl) (ev_VR h1 hf)
  case assign x =>
    obtain ⟨h1, rfl⟩ := pureS_some h
    exact OpOk.pure hS (by unfold execOp; rw [ho]; rfl) (ev_VR h1 hf)
  case pick c x y =>
    obtain ⟨vc, hc, h1⟩ := bnd_some.1 h
    obtain ⟨vx, hx, h2⟩ := bnd_some.1 h1
    obtain ⟨vy, hy, h3⟩ := bnd_some.1 h2
    obtain ⟨t, ht, h4⟩ := bnd_some.1 h3
    obtain ⟨_, et⟩ := asBool_VR ht (ev_VR hc hf)
    rcases bE_some.1 h4 with ⟨rfl, h5⟩ | ⟨rfl, h5⟩
    · cases h5
      exact OpOk.pure hS (by unfold execOp; rw [ho]; simp only [Sem.run_bind, et, Go.asBool, Sem.run_pure, Result.andThen_ok, if_true]) (ev_VR hx hf)
    · cases h5
      exact OpOk.pure hS (by unfold execOp; rw [ho]; simp only [Sem.run_bind, et, Go.asBool, Sem.run_pure, Result.andThen_ok, Bool.false_eq_true, if_false]) (ev_VR hy hf)
  case alloc e =>
    obtain ⟨z, hz, h1⟩ := bnd_some.1 h
    obtain ⟨_, _, _, hcl⟩ := zeroOf_some hz
    refine OpOk.res (opNew_run (C := z.cells) h1 hS hfr (cells_zero hcl)) fun v' w' e1 => ?_
    unfold execOp; rw [ho]
    refine run_v ?_
    unfold Instr.alloc newVar
    simp only [Sem.run_bind, run_zero hz, Result.andThen_ok]
    exact e1
  case box e x =>
    obtain ⟨u, hu, h1⟩ := bnd_some.1 h
    refine OpOk.res (opNew_run (C := (a.eval x).cells) h1 hS hfr (cellsV_LR (ev_VR hu hf))) fun v' w' e1 => ?_
    unfold execOp; rw [ho]
    exact run_v e1
  case build t parts =>
    obtain ⟨h1, rfl⟩ := pureS_some h
    obtain ⟨v', h2, h3⟩ := opBuild_run h1 hf
    exact OpOk.pure hS (by unfold execOp; rw [ho]; exact run_v (h2 w)) h3
  case buildSlice t len parts =>
    exact OpOk.res (opBuildSl_run h hf hS hfr) fun v' w' e1 => by unfold execOp; rw [ho]; exact run_v e1
  case load t x =>
    obtain ⟨u, hu, h1⟩ := bnd_some.1 h
    obtain ⟨b, o2, hp, h2⟩ := bnd2_some.1 h1
    obtain ⟨h3, rfl⟩ := pureS_some h2
    obtain ⟨mi, hm, _, e⟩ := asPtr_VR hp (ev_VR hu hf)
    obtain ⟨v', h4, _, h5⟩ := loadA_run h3 hm hS
    exact OpOk.pure hS (by unfold execOp; rw [ho]; simp only [e]; exact run_v h4) h5
  case store t x y =>
    obtain ⟨vx, hx, h1⟩ := bnd_some.1 h
    obtain ⟨vy, hy, h2⟩ := bnd_some.1 h1
    obtain ⟨h3, rfl⟩ := undS_some h2
    exact OpOk.skip (opStore_run h3 (ev_VR hx hf) (ev_VR hy hf) hS) fun w' e1 => by unfold execOp; rw [ho]; exact run_u e1
  case nilCheck x =>
    obtain ⟨u, hu, h1⟩ := bnd_some.1 h
    obtain ⟨h2, rfl⟩ := pureS_some h1
    obtain ⟨h3, rfl⟩ := opNil_run (P := P) h2 (ev_VR hu hf) w
    exact OpOk.pure hS (by unfold execOp; rw [ho]; exact h3) (ev_VR hu hf)
  case binOp op t x y yt =>
    obtain ⟨vx, hx, h1⟩ := bnd_some.1 h
    obtain ⟨vy, hy, h2⟩ := bnd_some.1 h1
    obtain ⟨h3, rfl⟩ := pureS_some h2
    obtain ⟨h4, h5⟩ := binO_run h3 (ev_VR hx hf) (ev_VR hy hf) w
    exact OpOk.pure hS (by unfold execOp; rw [ho]; exact run_v h4) (clean0_VR h5)
  case unOp op t x =>
    obtain ⟨vx, hx, h1⟩ := bnd_some.1 h
    obtain ⟨h3, rfl⟩ := pureS_some h1
    obtain ⟨h4, h5⟩ := unA_run (P := P) h3 (ev_VR hx hf) w
    exact OpOk.pure hS (by unfold execOp; rw [ho]; exact run_v h4) (clean0_VR h5)
  case convert src dst x =>
    obtain ⟨vx, hx, h1⟩ := bnd_some.1 h
    exact OpOk.res (convert_ok hng.bok h1 (ev_VR hx hf) hS hfr) fun v' w' e1 => by unfold execOp; rw [ho]; exact run_v e1
  case makeInterface t x =>
    obtain ⟨vx, hx, h1⟩ := bnd_some.1 h
    obtain ⟨h3, rfl⟩ := pureS_some h1
    obtain ⟨v', h4, h5⟩ := opIface_run h3 (ev_VR hx hf)
    exact OpOk.pure hS (by unfold execOp; rw [ho]; exact run_v (h4 w)) h5
  case makeFunc fn first captured =>
    obtain ⟨vf, h1, h2⟩ := bnd_some.1 h
    obtain ⟨vc, h3, h4⟩ := bnd_some.1 h2
    cases h4
    have l1 := evs_arr h1 hf
    have l2 := evs_arr h3 hf
    exact OpOk.pure hS (by unfold execOp; rw [ho]; exact run_v rfl) (.func fn l1.1 l1.2 l2.1 l2.2)
  case makeMap t r =>
    exact OpOk.res (opMakeMap_run (P := P) (a := a) (t := t) h hS hfr) fun v' w' e1 => by unfold execOp; rw [ho]; exact run_v e1
  case makeChan t x =>
    obtain ⟨vx, hx, h1⟩ := bnd_some.1 h
    exact OpOk.res (opMakeChan_run h1 (ev_VR hx hf) hS hfr) fun v' w' e1 => by unfold execOp; rw [ho]; exact run_v e1
  case makeSlice t l c =>
    obtain ⟨vl, hl, h1⟩ := bnd_some.1 h
    obtain ⟨vc, hc, h2⟩ := bnd_some.1 h1
    exact OpOk.res (opMakeSl_run h2 (ev_VR hl hf) (ev_VR hc hf) hS hfr) fun v' w' e1 => by unfold execOp; rw [ho]; exact run_v e1
  case slice t x lo hi mx =>
    obtain ⟨vx, hx, h1⟩ := bnd_some.1 h
    obtain ⟨vl, hl, h2⟩ := bnd_some.1 h1
    obtain ⟨vh, hh, h3⟩ := bnd_some.1 h2
    obtain ⟨vm, hm, h4⟩ := bnd_some.1 h3
    obtain ⟨h5, rfl⟩ := pureS_some h4
    obtain ⟨v', h6, h7⟩ := sliceA_run h5 (ev_VR hx hf) (.map hl hf) (.map hh hf) (.map hm hf)
    exact OpOk.pure hS (by unfold execOp; rw [ho]; exact run_v (h6 w)) h7
  case fieldAddr t x f =>
    obtain ⟨vx, hx, h1⟩ := bnd_some.1 h
    obtain ⟨h3, rfl⟩ := pureS_some h1
    obtain ⟨v', h4, h5⟩ := opFieldAddr_run h3 (ev_VR hx hf)
    exact OpOk.pure hS (by unfold execOp; rw [ho]; exact run_v (h4 w)) h5
  case field t x f =>
    obtain ⟨vx, hx, h1⟩ := bnd_some.1 h
    obtain ⟨h3, rfl⟩ := pureS_some h1
    obtain ⟨v', h4, h5⟩ := opField_run h3 (ev_VR hx hf)
    exact OpOk.pure hS (by unfold execOp; rw [ho]; exact run_v (h4 w)) h5
  case indexAddr t x i =>
    obtain ⟨vx, hx, h1⟩ := bnd_some.1 h
    obtain ⟨vi, hi, h2⟩ := bnd_some.1 h1
    obtain ⟨h3, rfl⟩ := pureS_some h2
    obtain ⟨v', h4, h5⟩ := opIdxAddr_run h3 (ev_VR hx hf) (ev_VR hi hf)
    exact OpOk.pure hS (by unfold execOp; rw [ho]; exact run_v (h4 w)) h5
  case index t x i =>
    obtain ⟨vx, hx, h1⟩ := bnd_some.1 h
    obtain ⟨vi, hi, h2⟩ := bnd_some.1 h1
    obtain ⟨h3, rfl⟩ := pureS_some h2
    obtain ⟨v', h4, h5⟩ := opIndex_run h3 (ev_VR hx hf) (ev_VR hi hf)
    exact OpOk.pure hS (by unfold execOp; rw [ho]; exact run_v (h4 w)) h5
  case lookup t x i ok =>
    obtain ⟨vx, hx, h1⟩ := bnd_some.1 h
    obtain ⟨vi, hi, h2⟩ := bnd_some.1 h1
    obtain ⟨h3, rfl⟩ := pureS_some h2
    obtain ⟨v', h4, h5⟩ := lookA_run h3 (ev_VR hx hf) (ev_VR hi hf) hS
    exact OpOk.pure hS (by unfold execOp; rw [ho]; exact run_v h4) h5
  case mapUpdate t m k x =>
    obtain ⟨vm, hm, h1⟩ := bnd_some.1 h
    obtain ⟨vk, hk, h2⟩ := bnd_some.1 h1
    obtain ⟨vx, hx, h3⟩ := bnd_some.1 h2
    obtain ⟨h4, rfl⟩ := undS_some h3
    exact OpOk.skip (mapSet_run h4 (ev_VR hm hf) (ev_VR hk hf) (ev_VR hx hf) hS) fun w' e1 => by unfold execOp; rw [ho]; exact run_u e1
  case insert t m k x =>
    obtain ⟨vm, hm, h1⟩ := bnd_some.1 h
    obtain ⟨vk, hk, h2⟩ := bnd_some.1 h1
    obtain ⟨vx, hx, h3⟩ := bnd_some.1 h2
    obtain ⟨h4, rfl⟩ := undS_some h3
    exact OpOk.skip (mapSet_run h4 (ev_VR hm hf) (ev_VR hk hf) (ev_VR hx hf) hS) fun w' e1 => by unfold execOp; rw [ho]; exact run_u e1
  case extract x i =>
    obtain ⟨vx, hx, h1⟩ := bnd_some.1 h
    obtain ⟨h3, rfl⟩ := pureS_some h1
    obtain ⟨v', h4, h5⟩ := opExtract_run (P := P) h3 (ev_VR hx hf)
    exact OpOk.pure hS (by unfold execOp; rw [ho]; exact run_v (h4 w)) h5
  case call c =>
    cases hc : c.callee with
    | builtin b =>
      rw [hc] at h
      obtain ⟨vs, hvs, h1⟩ := bnd_some.1 (show bnd (evs P φ c.args.toList) (fun vs => opBuiltin b P s c.argTypes.toList vs) = some (v, s') from h)
      exact opBuiltin_ok ho hc hvs h1 hS hf hfr
    | invoke r m => rw [hc] at h; cases h
    | value x =>
      rw [hc] at h
      obtain ⟨f, args, h1, h2⟩ := bnd2_some.1 (show bnd2 (callA P φ x c) (fun f args => callX ex f args s) = some (v, s') from h)
      obtain ⟨u, hu, h3⟩ := bnd_some.1 h1
      obtain ⟨f', p, hfn, h4⟩ := bnd2_some.1 h3
      obtain ⟨as, has, h5⟩ := bnd_some.1 h4
      obtain ⟨r1, hr1, h6⟩ := bnd_some.1 h5
      obtain ⟨r2, hr2, h7⟩ := bnd_some.1 h6
      cases h7
      rw [sApp_eq] at hr1 hr2
      cases hr1; cases hr2
      have hv := ev_VR hu hf
      have hfun : ∃ (F C : Array Value), a.eval x = .func (.func f) F C ∧ LR M p.1 F.toList ∧ LR M p.2 C.toList := by
        generalize a.eval x = xv at hv
        cases hv <;> simp only [asFn] at hfn <;> (try cases hfn)
        rename_i fn _ _ _ _ g1 g2 g3 g4
        cases fn <;> simp only at hfn <;> (try cases hfn)
        exact ⟨_, _, rfl, ⟨g1, g2⟩, ⟨g3, g4⟩⟩
      obtain ⟨F, C, e1, l1, l2⟩ := hfun
      have hl : LR M (p.1 ++ (as ++ p.2)) (F ++ c.args.map a.eval ++ C).toList := by
        rw [Array.toList_append, Array.toList_append, List.append_assoc]
        exact l1.app ((evs_arr has hf).app l2)
      rcases callX_cases h2 with ⟨hxv, rfl⟩ | h2
      · obtain ⟨v', hr, hvr⟩ := xA_run hng.xok hxv hl (w := w)
        refine .inl ⟨M, v', w, .inl ?_, hvr, .refl hS _⟩
        unfold execOp
        rw [ho]
        simp only [resolve, hc, e1, Deferred.ofValue, Sem.run_bind, Sem.run_pure, Result.andThen_ok, invoke]
        exact hr
      obtain ⟨_, ⟨fn, body, g1, g2⟩, hcall⟩ := hex f _ s v s' h2
      have hcall := hcall M _ w hl hS hfr hf.glob
      have hn : (fn.name == "runtime.NumGoroutine") = false := by
        have := hng.ng f fn g1
        rw [g2] at this
        simpa using this
      have hrun : (execOp a.eval o).run P w = .ok (.enter f (F ++ c.args.map a.eval ++ C)) w := by
        unfold execOp
        rw [ho]
        simp only [resolve, hc, e1, Deferred.ofValue, Sem.run_bind, Sem.run_pure, Result.andThen_ok, invoke, callFunc, program, Sem.run, g1, hn, Bool.false_eq_true, if_false, g2, Option.isNone_some]
      exact .inr ⟨f, _, hrun, hcall⟩
end
end Go.Proofs.YtjdehneddakpnaaGreatDoor.ev
namespace Go.Proofs.YtjdehneddakpnaaGreatDoor.ev
open Go Go.RowKit
section
variable {P : Program} {M M' : Pm} {φ φ' : T Value} {a : Act} {N : Nat} {w : World} {s s' : St}
theorem getD_put (a : Act) (d : Option Tmp) (v : Value) (t : Tmp) (h : ∀ x, d = some x → x < a.tmps.size) : (a.put d v).tmps.getD t undef = if d = some t then v else a.tmps.getD t undef := by
  cases d with
  | none => rw [if_neg (by simp)]; rfl
  | some x =>
    show (a.tmps.setIfInBounds x v).getD t undef = _
    rw [Array.getD_eq_getD_getElem?, Array.getD_eq_getD_getElem?]
    by_cases hx : x = t
    · subst hx
      rw [Array.getElem?_setIfInBounds_self_of_lt (h x rfl), if_pos rfl]
      rfl
    · rw [Array.getElem?_setIfInBounds_ne hx, if_neg (by simpa using hx)]
theorem putA_some {d : Option Tmp} {v : Value} (h : putA N φ d v = some φ') : (∀ x, d = some x → x < N) ∧ ∀ t, φ'.get t = if d = some t then some v else φ.get t := by
  cases d with
  | none => cases (show some φ = some φ' from h); exact ⟨fun x hx => (nomatch hx), fun t => by simp⟩
  | some x =>
    obtain ⟨h1, h2⟩ := bB_some.1 (show bB (Nat.ble (x + 1) N) (φ.put x (some v)) = some φ' from h)
    refine ⟨fun y hy => by cases hy; exact ble_nat.1 h1, fun t => ?_⟩
    rw [T.put_spec _ _ _ _ h2 t]
    by_cases e : t = x
    · subst e; simp
    · rw [if_neg e, if_neg (by simpa using fun e2 => e e2.symm)]
theorem size_put (a : Act) (d : Option Tmp) (v : Value) : (a.put d v).tmps.size = a.tmps.size := by cases d <;> simp [Act.put]
theorem defers_put (a : Act) (d : Option Tmp) (v : Value) : (a.put d v).defers = a.defers := by cases d <;> rfl
theorem putA_FR {d : Option Tmp} {v v' : Value} (h : putA N φ d v = some φ') (hf : FR P M φ a N) (hv : VR M v v') : FR P M φ' (a.put d v') N := by
  obtain ⟨h1, h2⟩ := putA_some h
  refine ⟨fun t => ?_, by rw [size_put, hf.size], by rw [defers_put, hf.defers], hf.glob⟩
  rw [h2, getD_put a d v' t (fun x hx => by rw [hf.size]; exact h1 x hx)]
  by_cases e : d = some t
  · rw [if_pos e, if_pos e]; exact hv
  · rw [if_neg e, if_neg e]; exact hf.at_ t
theorem yA_eq {ops : Array Oper} (hf : FR P M φ a N) (j : Nat) : yA ops.toList φ j = yielded ops a.tmps j := by
  unfold yA yielded
  rw [lGet_eq, Array.getElem?_toList]
  cases ops[j]? with
  | none => rfl
  | some o =>
    show bnd o.dst _ = _
    cases ht : o.dst with
    | none => rw [Option.bind_some, ht]; rfl
    | some t =>
      rw [Option.bind_some, ht, Option.bind_some]
      have h := hf.at_ t
      show bnd (φ.get t) (fun v => asBool v) = _
      rw [Array.getD_eq_getD_getElem?] at h
      cases hg : φ.get t with
      | none =>
        rw [hg] at h
        show none = _
        cases hv : a.tmps[t]? with
        | none => rfl
        | some u =>
          rw [hv] at h
          have h' : VR M undef u := h
          cases h'
          rfl
      | some v =>
        rw [hg] at h
        show asBool v = _
        cases hv : a.tmps[t]? with
        | none =>
          rw [hv] at h
          have h' : VR M v undef := h
          cases h'
          rfl
        | some u =>
          rw [hv] at h
          have h' : VR M v u := h
          cases h' <;> rfl
theorem wantA_eq {ops : Array Oper} {o : Oper} (hf : FR P M φ a N) : wantA ops.toList φ o = Region.wanted o (yielded ops a.tmps) := by
  unfold wantA Region.wanted
  cases o.guard with
  | none => rfl
  | some p =>
    obtain ⟨j, wt⟩ := p
    show Option.rec (motive := fun _ => Bool) false (fun b => Bool.rec (motive := fun _ => Bool) (Bool.not wt) wt b) (yA ops.toList φ j) = (yielded ops a.tmps j == some wt)
    rw [yA_eq hf j]
    cases yielded ops a.tmps j with
    | none => cases wt <;> rfl
    | some b => cases b <;> cases wt <;> rfl
theorem runOps_ok {ex : CaF} {ops : Array Oper} (hng : NoNG P) (hex : CaOk P ex) : ∀ (l : List Oper) (s : St) (φ : T Value) (s' : St) (φ' : T Value), runOps P ex ops.toList N l s φ = some (s', φ') → s.nx ≤ s'.nx ∧
    ∀ (M : Pm) (a : Act) (w : World), Sim P M s.h.get w → FR P M φ a N → Fresh M s.nx s'.nx → ∀ Q : Exit → Act → World → Prop,
      (∀ M' a' w', Stp P s.h.get M w s'.h.get M' w' s.nx s'.nx → FR P M' φ' a' N → Q .normal a' w') → wpList P ops Q l a w
  | [], s, φ, s', φ', h => by
    cases (show some (s, φ) = some (s', φ') from h)
    exact ⟨Nat.le_refl _, fun M a w hS hf _ Q hQ => hQ M a w (.refl hS _) hf⟩
  | o :: l, s, φ, s', φ', h => by
    rcases bE_some.1 (show bE (wantA ops.toList φ o) (bnd2 (opF o.op P ex s φ) fun v s1 => bnd (putA N φ o.dst v) fun φ => bB (Nat.ble s.nx s1.nx) (runOps P ex ops.toList N l s1 φ)) (bnd (putA N φ o.dst undef) fun φ => runOps P ex ops.toList N l s φ) = some (s', φ') from h) with ⟨hw, h1⟩ | ⟨hw, h1⟩
    · obtain ⟨v, s1, h2, h3⟩ := bnd2_some.1 h1
      obtain ⟨φ1, h4, h5⟩ := bnd_some.1 h3
      obtain ⟨h6, h7⟩ := bB_some.1 h5
      have hle1 : s.nx ≤ s1.nx := ble_nat.1 h6
      obtain ⟨hle2, hrest⟩ := runOps_ok hng hex l s1 φ1 s' φ' h7
      refine ⟨by omega, fun M a w hS hf hfr Q hQ => ?_⟩
      have hf1 : Fresh M s.nx s1.nx := fun b h8 h9 => hfr b h8 (by omega)
      have hop := opF_ok (o := o) hng hex h2 hS hf hf1
      unfold wpList
      rw [if_pos (by rw [← wantA_eq hf]; exact hw)]
      refine .inl (hop.wp rfl _ _ fun M1 v' w1 hv hst => ?_)
      have hLe := hst.Le hf1
      have hf2 : Fresh M1 s1.nx s'.nx := fun b h8 h9 => by rw [hst.ext b (by omega)]; exact hfr b (by omega) h9
      refine hrest M1 _ w1 hst.sim (putA_FR h4 (hf.mono hLe) hv) hf2 Q fun M' a' w' hst2 hf3 => hQ M' a' w' (hst.trans hst2) hf3
    · obtain ⟨φ1, h4, h5⟩ := bnd_some.1 h1
      obtain ⟨hle2, hrest⟩ := runOps_ok hng hex l s φ1 s' φ' h5
      refine ⟨hle2, fun M a w hS hf hfr Q hQ => ?_⟩
      unfold wpList
      rw [if_neg (by rw [← wantA_eq hf, hw]; simp)]
      exact hrest M _ w hS (putA_FR h4 hf .undef) hfr Q hQ
end
end Go.Proofs.YtjdehneddakpnaaGreatDoor.ev
namespace Go.Proofs.YtjdehneddakpnaaGreatDoor.ev
open Go Go.RowKit
theorem bit_eq (m i : Nat) : Nat.beq (Nat.mod (Nat.div m (Nat.pow 2 i)) 2) 1 = m.testBit i := by
  rw [Nat.testBit_eq_decide_div_mod_eq, Bool.eq_iff_iff, beq_nat, decide_eq_true_iff]
  exact Iff.rfl
theorem inM_some {ms : List Nat} {i j m : Nat} (h : ms[j]? = some m) : inM ms i j = m.testBit i := by
  unfold inM
  rw [lGet_eq, h]
  exact bit_eq m i
theorem inM_none {ms : List Nat} {i j : Nat} (h : ms[j]? = none) : inM ms i j = false := by
  unfold inM
  rw [lGet_eq, h]
theorem maskOf_spec : ∀ {es : List Edge} {ms : List Nat} {m0 m : Nat}, maskOf ms es m0 = some m →
    (∀ e ∈ es, Region.binds .any e = true → e.on < ms.length) ∧ ∀ i, m.testBit i = true ↔ (m0.testBit i = true ∨ ∃ e ∈ es, Region.binds .any e = true ∧ (e.on = i ∨ inM ms i e.on = true))
  | [], ms, m0, m, h => by cases (show some m0 = some m from h); simp
  | e :: es, ms, m0, m, h => by
    rcases bE_some.1 (show bE (Region.binds .any e) (bnd (lGet ms e.on) fun k => maskOf ms es (Nat.lor (Nat.lor m0 (Nat.pow 2 e.on)) k)) (maskOf ms es m0) = some m from h) with ⟨hb, h1⟩ | ⟨hb, h1⟩
    · obtain ⟨k, hk, h2⟩ := bnd_some.1 h1
      rw [lGet_eq] at hk
      obtain ⟨q1, q2⟩ := maskOf_spec h2
      have hlt : e.on < ms.length := (List.getElem?_eq_some_iff.1 hk).1
      refine ⟨fun e' he' hb' => ?_, fun i => ?_⟩
      · rcases List.mem_cons.1 he' with rfl | he'
        · exact hlt
        · exact q1 e' he' hb'
      · rw [q2 i]
        have hbits : (Nat.lor (Nat.lor m0 (Nat.pow 2 e.on)) k).testBit i = (m0.testBit i || decide (e.on = i) || inM ms i e.on) := by
          show ((m0 ||| 2 ^ e.on) ||| k).testBit i = _
          rw [Nat.testBit_or, Nat.testBit_or, Nat.testBit_two_pow, inM_some hk]
        rw [hbits]
        simp only [Bool.or_eq_true, decide_eq_true_eq, List.mem_cons]
        constructor
        · rintro (((h3 | h3) | h3) | ⟨e', he', hb', h3⟩)
          · exact .inl h3
          · exact .inr ⟨e, .inl rfl, hb, .inl h3⟩
          · exact .inr ⟨e, .inl rfl, hb, .inr h3⟩
          · exact .inr ⟨e', .inr he', hb', h3⟩
        · rintro (h3 | ⟨e', rfl | he', hb', h3⟩)
          · exact .inl (.inl (.inl h3))
          · rcases h3 with h3 | h3
            · exact .inl (.inl (.inr h3))
            · exact .inl (.inr h3)
          · exact .inr ⟨e', he', hb', h3⟩
    · obtain ⟨q1, q2⟩ := maskOf_spec h1
      refine ⟨fun e' he' hb' => ?_, fun i => ?_⟩
      · rcases List.mem_cons.1 he' with rfl | he'
        · rw [hb] at hb'; cases hb'
        · exact q1 e' he' hb'
      · rw [q2 i]
        constructor
        · rintro (h3 | ⟨e', he', hb', h3⟩)
          · exact .inl h3
          · exact .inr ⟨e', List.mem_cons_of_mem _ he', hb', h3⟩
        · rintro (h3 | ⟨e', he', hb', h3⟩)
          · exact .inl h3
          · rcases List.mem_cons.1 he' with rfl | he'
            · rw [hb] at hb'; cases hb'
            · exact .inr ⟨e', he', hb', h3⟩
structure MaskOk (L : List Oper) (ms : List Nat) : Prop where
  len : ms.length = L.length
  edge : ∀ (j : Nat) (o : Oper) (e : Edge), L[j]? = some o → e ∈ o.after.toList → Region.binds .any e = true → e.on < j ∧ inM ms e.on j = true ∧ ∀ i, inM ms i e.on = true → inM ms i j = true
  back : ∀ i j, inM ms i j = true → ∃ (o : Oper) (e : Edge), L[j]? = some o ∧ e ∈ o.after.toList ∧ Region.binds .any e = true ∧ e.on < j ∧ (e.on = i ∨ inM ms i e.on = true)
theorem inM_app {ms : List Nat} {m i j : Nat} (h : j < ms.length) : inM (ms ++ [m]) i j = inM ms i j := by
  have h1 : ms[j]? = some ms[j] := List.getElem?_eq_getElem h
  rw [inM_some h1, inM_some (by rw [List.getElem?_append_left h]; exact h1)]
theorem masks_spec : ∀ {os pre : List Oper} {ms ms' : List Nat}, masks os ms = some ms' → MaskOk pre ms → MaskOk (pre ++ os) ms'
  | [], pre, ms, ms', h, hp => by cases (show some ms = some ms' from h); rw [List.append_nil]; exact hp
  | o :: os, pre, ms, ms', h, hp => by
    obtain ⟨m, hm, h1⟩ := bnd_some.1 (show bnd (maskOf ms o.after.toList 0) (fun m => bnd (sApp ms [m]) fun ms => masks os ms) = some ms' from h)
    rw [sApp_eq] at h1
    obtain ⟨q1, q2⟩ := maskOf_spec hm
    have hnew : ∀ i, inM (ms ++ [m]) i ms.length = true ↔ ∃ e ∈ o.after.toList, Region.binds .any e = true ∧ (e.on = i ∨ inM ms i e.on = true) := fun i => by
      rw [inM_some (m := m) (by simp), q2 i]
      simp
    have hlen := hp.len
    have key : MaskOk (pre ++ [o]) (ms ++ [m]) := by
      refine ⟨by simp [hlen], fun j o' e ho he hb => ?_, fun i j hij => ?_⟩
      · by_cases hj : j < pre.length
        · rw [List.getElem?_append_left hj] at ho
          obtain ⟨a, b, c⟩ := hp.edge j o' e ho he hb
          refine ⟨a, by rw [inM_app (by omega)]; exact b, fun i hi => ?_⟩
          rw [inM_app (by omega)] at hi ⊢
          exact c i hi
        · have hj2 : j = pre.length := by
            have := (List.getElem?_eq_some_iff.1 ho).1
            simp at this; omega
          subst hj2
          simp at ho
          subst ho
          have hlt := q1 e he hb
          refine ⟨by omega, by rw [← hlen, hnew]; exact ⟨e, he, hb, .inl rfl⟩, fun i hi => ?_⟩
          rw [inM_app (by omega)] at hi
          rw [← hlen, hnew]
          exact ⟨e, he, hb, .inr hi⟩
      · by_cases hj : j < pre.length
        · rw [inM_app (by omega)] at hij
          obtain ⟨o', e, a, b, c, d, f⟩ := hp.back i j hij
          refine ⟨o', e, by rw [List.getElem?_append_left hj]; exact a, b, c, d, ?_⟩
          rcases f with f | f
          · exact .inl f
          · exact .inr (by rw [inM_app (by omega)]; exact f)
        · by_cases hj2 : j = ms.length
          · subst hj2
            rw [hnew] at hij
            obtain ⟨e, a, b, c⟩ := hij
            have hlt := q1 e a b
            refine ⟨o, e, by simp [hlen], a, b, hlt, ?_⟩
            rcases c with c | c
            · exact .inl c
            · exact .inr (by rw [inM_app hlt]; exact c)
          · rw [inM_none (List.getElem?_eq_none (by simp; omega))] at hij
            cases hij
    have := masks_spec (pre := pre ++ [o]) h1 key
    rw [List.append_assoc] at this
    exact this
theorem masks_ok {L : List Oper} {ms : List Nat} (h : masks L [] = some ms) : MaskOk L ms := by
  have := masks_spec (pre := []) h ⟨rfl, fun j o e ho => by simp at ho, fun i j hij => by rw [inM_none (by simp)] at hij; cases hij⟩
  simpa using this
theorem MaskOk.lt {L : List Oper} {ms : List Nat} (h : MaskOk L ms) : ∀ {j i : Nat}, inM ms i j = true → i < j := by
  intro j
  induction j using Nat.strongRecOn with
  | _ j ih =>
    intro i hij
    obtain ⟨o, e, _, _, _, hlt, hc⟩ := h.back i j hij
    rcases hc with rfl | hc
    · exact hlt
    · exact Nat.lt_trans (ih _ hlt hc) hlt
theorem MaskOk.trans {L : List Oper} {ms : List Nat} (h : MaskOk L ms) : ∀ {j k i : Nat}, inM ms i k = true → inM ms k j = true → inM ms i j = true := by
  intro j
  induction j using Nat.strongRecOn with
  | _ j ih =>
    intro k i hik hkj
    obtain ⟨o, e, ho, he, hb, hlt, hc⟩ := h.back k j hkj
    obtain ⟨_, _, h3⟩ := h.edge j o e ho he hb
    rcases hc with rfl | hc
    · exact h3 i hik
    · exact h3 i (ih _ hlt hik hc)
theorem allIx_spec {α : Type} {f : Nat → α → Bool} : ∀ {l : List α} {i : Nat}, allIx f l i = true → ∀ j x, l[j]? = some x → f (i + j) x = true
  | [], i, h, j, x, hx => by simp at hx
  | a :: l, i, h, j, x, hx => by
    have h' : Bool.rec (motive := fun _ => Bool) false (allIx f l (i + 1)) (f i a) = true := h
    cases hf : f i a with
    | false => rw [hf] at h'; cases h'
    | true =>
      rw [hf] at h'
      cases j with
      | zero => simp at hx; subst hx; exact hf
      | succ j =>
        have := allIx_spec (f := f) h' j x (by simpa using hx)
        rw [show i + (j + 1) = i + 1 + j by omega]
        exact this
/-- what is read by an operation -/
theorem anyL_iff {α : Type} {f : α → Bool} : ∀ {l : List α}, anyL f l = true ↔ ∃ x ∈ l, f x = true
  | [] => by simp [anyL]
  | a :: l => by
    show Bool.rec (motive := fun _ => Bool) (anyL f l) true (f a) = true ↔ _
    have := anyL_iff (f := f) (l := l)
    cases h : f a <;> simp [h, this]
def Reads (L : List Oper) (o : Oper) (t : Tmp) : Prop := some t ∈ readsOf L o
theorem mapL_eq {α β : Type} (f : α → β) : ∀ l : List α, mapL f l = l.map f
  | [] => rfl
  | a :: l => by show f a :: mapL f l = _; rw [mapL_eq f l]; rfl
theorem reads_iff {L : List Oper} {o : Oper} {t : Tmp} : Reads L o t ↔ reads L o t = true := by
  unfold Reads readsOf reads
  rw [mapL_eq, List.mem_cons, List.mem_map]
  have h1 : (anyL (readsT t) o.op.operands.toList = true) ↔ ∃ x ∈ o.op.operands.toList, tmpOf x = some t := by
    rw [anyL_iff]
    constructor
    · rintro ⟨x, hx, h⟩
      refine ⟨x, hx, ?_⟩
      cases x <;> simp only [readsT] at h <;> (try cases h)
      rw [beq_nat.1 h]; rfl
    · rintro ⟨x, hx, h⟩
      refine ⟨x, hx, ?_⟩
      cases x <;> simp only [tmpOf] at h <;> cases h
      exact Nat.beq_refl _
  rw [← h1]
  generalize anyL (readsT t) o.op.operands.toList = b
  cases guardT L o with
  | none => cases b <;> simp
  | some g =>
    show _ ↔ Bool.or b (Nat.beq g t) = true
    constructor
    · rintro (h | h)
      · cases h; cases b <;> simp
      · rw [h]; rfl
    · intro h
      cases b
      · exact .inl (by rw [beq_nat.1 h])
      · exact .inr rfl
/-- what holds of two operations of a region -/
structure StOk (P : Program) (L : List Oper) (ms : List Nat) : Prop extends MaskOk L ms where
  rd : ∀ (i j : Nat) (oi oj : Oper) (d : Tmp), L[i]? = some oi → L[j]? = some oj → i ≠ j → oj.dst = some d → Reads L oi d → inM ms i j = true ∨ inM ms j i = true
  wr : ∀ (i j : Nat) (oi oj : Oper) (d : Tmp), L[i]? = some oi → L[j]? = some oj → i ≠ j → oj.dst = some d → oi.dst ≠ some d
  eff : ∀ (i j : Nat) (oi oj : Oper), L[i]? = some oi → L[j]? = some oj → i ≠ j → clsOf P oi = 3 → clsOf P oj = 3 → inM ms i j = true ∨ inM ms j i = true
  sel : ∀ (i : Nat) (oi : Oper), L[i]? = some oi → ∀ cs b, oi.op ≠ .select cs b
  gd : ∀ (i : Nat) (oi : Oper) (g : Nat) (b : Bool), L[i]? = some oi → oi.guard = some (g, b) → inM ms g i = true
theorem or2 {a b : Bool} (h : Bool.or a b = true) : a = true ∨ b = true := by cases a <;> cases b <;> simp_all
theorem staticOk_spec {P : Program} {L : List Oper} {ms : List Nat} (h : staticOk P L = some ms) : StOk P L ms := by
  obtain ⟨ms', hm, h1⟩ := bnd_some.1 h
  obtain ⟨h2, h3⟩ := bB_some.1 h1
  cases h3
  have hmo := masks_ok hm
  have hi : ∀ i oi, L[i]? = some oi → noSel oi = true ∧ guardOk ms i oi = true ∧ ∀ j oj, L[j]? = some oj → pairOk P L ms i j oi oj = true := fun i oi ho => by
    have := allIx_spec h2 i oi ho
    rw [Nat.zero_add] at this
    obtain ⟨h4, h5⟩ := and2 this
    obtain ⟨h6, h7⟩ := and2 h4
    refine ⟨h6, h7, fun j oj hj => ?_⟩
    have := allIx_spec h5 j oj hj
    rw [Nat.zero_add] at this
    exact this
  have pr : ∀ i j oi oj, L[i]? = some oi → L[j]? = some oj → i ≠ j → (∀ d, oj.dst = some d → (ordered ms i j = true ∨ reads L oi d = false) ∧ oi.dst ≠ some d) ∧ ((clsOf P oi = 3 ∧ clsOf P oj = 3) → ordered ms i j = true) := by
    intro i j oi oj ho hj hne
    rcases or2 ((hi i oi ho).2.2 j oj hj) with h4 | h4
    · exact absurd (beq_nat.1 h4) hne
    · obtain ⟨h5, h6⟩ := and2 h4
      refine ⟨fun d hd => ?_, fun ⟨e1, e2⟩ => ?_⟩
      · rw [hd] at h5
        obtain ⟨h7, h8⟩ := and2 h5
        refine ⟨?_, fun e => ?_⟩
        · rcases or2 h7 with h9 | h9
          · exact .inl h9
          · exact .inr (by simpa using h9)
        · rw [e] at h8
          have h10 : Bool.not (Nat.beq d d) = true := h8
          rw [Nat.beq_refl] at h10; cases h10
      · rcases or2 h6 with h7 | h7
        · rw [e1, e2] at h7; cases h7
        · exact h7
  refine ⟨hmo, fun i j oi oj d ho hj hne hd hr => ?_, fun i j oi oj d ho hj hne hd => ((pr i j oi oj ho hj hne).1 d hd).2, fun i j oi oj ho hj hne e1 e2 => or2 ((pr i j oi oj ho hj hne).2 ⟨e1, e2⟩), fun i oi ho cs b e => ?_, fun i oi g b ho hg => ?_⟩
  · rcases ((pr i j oi oj ho hj hne).1 d hd).1 with h4 | h4
    · exact or2 h4
    · rw [reads_iff.1 hr] at h4; cases h4
  · have := (hi i oi ho).1
    unfold noSel at this
    rw [e] at this; cases this
  · have := (hi i oi ho).2.1
    unfold guardOk at this
    rw [hg] at this
    exact this
end Go.Proofs.YtjdehneddakpnaaGreatDoor.ev
namespace Go.Proofs.YtjdehneddakpnaaGreatDoor.ev
open Go Go.RowKit
section
variable {P : Program} {ex : CaF} {L : List Oper} {N : Nat} {ms : List Nat}
theorem restr_spec {φ : T Value} : ∀ {ts : List (Option Tmp)} {ψ ψ' : T Value}, restr φ ts ψ = some ψ' → ∀ t, ψ'.get t = if some t ∈ ts ∧ φ.get t ≠ none then φ.get t else ψ.get t
  | [], ψ, ψ', h, t => by cases (show some ψ = some ψ' from h); simp
  | none :: ts, ψ, ψ', h, t => by
    rw [restr_spec (show restr φ ts ψ = some ψ' from h) t]
    simp
  | some x :: ts, ψ, ψ', h, t => by
    have h' : Option.rec (motive := fun _ => Option (T Value)) (restr φ ts ψ) (fun v => bnd (ψ.put x (some v)) fun ψ => restr φ ts ψ) (φ.get x) = some ψ' := h
    cases hx : φ.get x with
    | none =>
      rw [hx] at h'
      rw [restr_spec h' t]
      by_cases e : t = x
      · subst e; simp [hx]
      · simp [e]
    | some v =>
      rw [hx] at h'
      obtain ⟨ψ1, h1, h2⟩ := bnd_some.1 h'
      rw [restr_spec h2 t, T.put_spec _ _ _ _ h1 t]
      by_cases e : t = x
      · subst e; simp [hx]
      · simp [e]
/-- The frame ahead of operation i: what was written by the operations ahead of it. -/
def PHI (L : List Oper) (φ0 : T Value) (rs : List Rc) (φ : T Value) : Prop :=
  (∀ (j : Nat) (r : Rc) (o : Oper) (d : Tmp), rs[j]? = some r → L[j]? = some o → o.dst = some d → φ.get d = some r.v) ∧ ∀ t, (∀ (j : Nat) (r : Rc) (o : Oper), rs[j]? = some r → L[j]? = some o → o.dst ≠ some t) → φ.get t = φ0.get t
/-- the last effect's place, one more -/
def lastOf (es : List Nat) (k : Nat) : Nat := match k with
  | 0 => 0
  | k + 1 => es.getD k 0 + 1
/-- What is recorded of an operation. hs: the heaps so far, es: the effects' places so far. -/
structure RcOk (P : Program) (ex : CaF) (L : List Oper) (ms : List Nat) (φ0 : T Value) (rs : List Rc) (hs : List (T AO)) (es : List Nat) (i : Nat) (o : Oper) (r : Rc) : Prop where
  op : r.o = o
  le : r.lo ≤ r.hi
  fr : ∃ φ, PHI L φ0 (rs.take i) φ ∧ ∀ t, (Reads L o t → r.φ.get t = φ.get t) ∧ (¬ Reads L o t → r.φ.get t = none)
  kind : (r.cls = 0 ∧ wantA L r.φ o = false ∧ r.v = undef ∧ r.hi = r.lo) ∨
    (r.cls = 1 ∧ wantA L r.φ o = true ∧ clsOf P o = 1 ∧ opF o.op P ca0 ⟨.nil, r.lo⟩ r.φ = some (r.v, ⟨r.pc, r.hi⟩) ∧ r.hi ≤ r.lo + 1) ∨
    (r.cls = 2 ∧ wantA L r.φ o = true ∧ clsOf P o = 2 ∧ r.hi = r.lo) ∨
    (r.cls = 3 ∧ wantA L r.φ o = true ∧ clsOf P o = 3 ∧ ∃ (k : Nat) (h h' K : T AO) (last : Nat), es[k]? = some i ∧ hs[k]? = some h ∧ hs[k + 1]? = some h' ∧ last = lastOf es k ∧
      addPcs (fun j => Bool.and (inM ms j i) (notBefore ms last j)) (rs.take i) 0 h = some K ∧ opF o.op P ex ⟨K, r.lo⟩ r.φ = some (r.v, ⟨h', r.hi⟩))
structure DsOk (P : Program) (ex : CaF) (L : List Oper) (N : Nat) (ms : List Nat) (φ0 : T Value) (s : St) (i : Nat) (d : Ds) : Prop where
  len : d.rs.length = i
  phi : PHI L φ0 d.rs d.φ
  rc : ∀ (j : Nat) (o : Oper) (r : Rc), L[j]? = some o → d.rs[j]? = some r → RcOk P ex L ms φ0 d.rs d.hs d.es j o r
  hsl : d.hs.length = d.es.length + 1
  cur : d.hs[d.es.length]? = some d.h
  h0 : d.hs[0]? = some s.h
  last : d.last = lastOf d.es d.es.length
  esr : ∀ (k e : Nat), d.es[k]? = some e → e < i ∧ ∃ r, d.rs[e]? = some r ∧ r.cls = 3
  ese : ∀ (e : Nat) (r : Rc), d.rs[e]? = some r → r.cls = 3 → ∃ k : Nat, d.es[k]? = some e
  inc : ∀ k l e f : Nat, k < l → d.es[k]? = some e → d.es[l]? = some f → e < f
  lo0 : s.nx ≤ d.nx ∧ ∀ (j : Nat) (r : Rc), d.rs[j]? = some r → s.nx ≤ r.lo ∧ r.hi ≤ d.nx
  apart : ∀ (j k : Nat) (r q : Rc), j < k → d.rs[j]? = some r → d.rs[k]? = some q → r.hi ≤ q.lo
  dst : ∀ (j : Nat) (o : Oper) (d' : Tmp), j < i → L[j]? = some o → o.dst = some d' → d' < N
theorem RcOk.grow {φ0 : T Value} {rs rs' : List Rc} {hs hs' : List (T AO)} {es es' : List Nat} {i : Nat} {o : Oper} {r : Rc} (h : RcOk P ex L ms φ0 rs hs es i o r) (h1 : rs'.take i = rs.take i) (h2 : ∀ (k : Nat) (x : T AO), hs[k]? = some x → hs'[k]? = some x) (h3 : ∀ (k x : Nat), es[k]? = some x → es'[k]? = some x) : RcOk P ex L ms φ0 rs' hs' es' i o r := by
  refine ⟨h.op, h.le, by rw [h1]; exact h.fr, ?_⟩
  rcases h.kind with k | k | k | ⟨k1, k2, k3, k, a, b, K, last, e1, e2, e3, e4, e5, e6⟩
  · exact .inl k
  · exact .inr (.inl k)
  · exact .inr (.inr (.inl k))
  · refine .inr (.inr (.inr ⟨k1, k2, k3, k, a, b, K, last, h3 _ _ e1, h2 _ _ e2, h2 _ _ e3, ?_, by rw [h1]; exact e5, e6⟩))
    cases k with
    | zero => exact e4
    | succ k =>
      have hk : k < es.length := by
        have := (List.getElem?_eq_some_iff.1 e1).1
        omega
      have := h3 k _ (List.getElem?_eq_getElem hk)
      rw [e4]
      simp only [lastOf, List.getD_eq_getElem?_getD]
      rw [this, List.getElem?_eq_getElem hk]
theorem get_snoc {α : Type} {l : List α} {a : α} {k : Nat} {x : α} (h : (l ++ [a])[k]? = some x) : (l[k]? = some x) ∨ (k = l.length ∧ x = a) := by
  by_cases hk : k < l.length
  · rw [List.getElem?_append_left hk] at h; exact .inl h
  · rw [List.getElem?_append_right (by omega)] at h
    have := (List.getElem?_eq_some_iff.1 h).1
    simp at this
    have hk2 : k = l.length := by omega
    subst hk2
    simp at h
    exact .inr ⟨rfl, h.symm⟩
theorem snoc_get {α : Type} {l : List α} {a : α} {k : Nat} {x : α} (h : l[k]? = some x) : (l ++ [a])[k]? = some x := by
  rw [List.getElem?_append_left (List.getElem?_eq_some_iff.1 h).1]; exact h
/-- one operation more is recorded -/
theorem DsOk.step {φ0 : T Value} {s : St} {i : Nat} {d : Ds} {o : Oper} {r : Rc} {φ' ψ : T Value} (hd : DsOk P ex L N ms φ0 s i d) (hL : StOk P L ms) (ho : L[i]? = some o) (hψ : restr d.φ (readsOf L o) .nil = some ψ)
    (hφ : putA N d.φ o.dst r.v = some φ') (hr1 : r.o = o) (hr2 : r.φ = ψ) (hr3 : r.lo = d.nx) (hr4 : r.lo ≤ r.hi) {h' : T AO} {hs' : List (T AO)} {es' : List Nat} {last' : Nat}
    (hh : (r.cls ≠ 3 ∧ h' = d.h ∧ hs' = d.hs ∧ es' = d.es ∧ last' = d.last) ∨ (r.cls = 3 ∧ hs' = d.hs ++ [h'] ∧ es' = d.es ++ [i] ∧ last' = i + 1))
    (kind : (r.cls = 0 ∧ wantA L ψ o = false ∧ r.v = undef ∧ r.hi = r.lo) ∨
      (r.cls = 1 ∧ wantA L ψ o = true ∧ clsOf P o = 1 ∧ opF o.op P ca0 ⟨.nil, r.lo⟩ ψ = some (r.v, ⟨r.pc, r.hi⟩) ∧ r.hi ≤ r.lo + 1) ∨
      (r.cls = 2 ∧ wantA L ψ o = true ∧ clsOf P o = 2 ∧ r.hi = r.lo) ∨
      (r.cls = 3 ∧ wantA L ψ o = true ∧ clsOf P o = 3 ∧ ∃ K, addPcs (fun j => Bool.and (inM ms j i) (notBefore ms d.last j)) d.rs 0 d.h = some K ∧ opF o.op P ex ⟨K, r.lo⟩ ψ = some (r.v, ⟨h', r.hi⟩))) :
    DsOk P ex L N ms φ0 s (i + 1) ⟨φ', h', hs', r.hi, last', es', d.rs ++ [r]⟩ := by
  obtain ⟨p1, p2⟩ := putA_some hφ
  have hlen := hd.len
  have hsg : ∀ (k : Nat) (x : T AO), d.hs[k]? = some x → hs'[k]? = some x := fun k x hx => by
    rcases hh with ⟨_, _, e, _⟩ | ⟨_, e, _⟩
    · rw [e]; exact hx
    · rw [e]; exact snoc_get hx
  have heg : ∀ (k x : Nat), d.es[k]? = some x → es'[k]? = some x := fun k x hx => by
    rcases hh with ⟨_, _, _, e, _⟩ | ⟨_, _, e, _⟩
    · rw [e]; exact hx
    · rw [e]; exact snoc_get hx
  have htake : ∀ j, j ≤ i → (d.rs ++ [r]).take j = d.rs.take j := fun j hj => by rw [List.take_append_of_le_length (by omega)]
  have htl : d.rs.take i = d.rs := List.take_of_length_le (by omega)
  refine ⟨by simp [hlen], ⟨fun j q oj dj hq hoj hdj => ?_, fun t ht => ?_⟩, fun j oj q hoj hq => ?_, ?_, ?_, ?_, ?_, fun k e he => ?_, fun e q hq hc => ?_, fun k l e f hkl he hf => ?_, ⟨by have := hd.lo0.1; simp only; omega, fun j q hq => ?_⟩, fun j k q p hjk hq hp => ?_, fun j oj dj hj hoj hdj => ?_⟩
  · rw [p2]
    rcases get_snoc hq with hq | ⟨rfl, rfl⟩
    · have hj : j < i := by rw [← hlen]; exact (List.getElem?_eq_some_iff.1 hq).1
      rw [if_neg (fun e => hL.wr i j o oj dj ho hoj (by omega) hdj e)]
      exact hd.phi.1 j q oj dj hq hoj hdj
    · rw [hlen, ho] at hoj
      cases hoj
      rw [if_pos hdj]
  · rw [p2]
    rw [if_neg (ht i r o (by simp [hlen]) ho)]
    exact hd.phi.2 t fun j q oj hq hoj => ht j q oj (snoc_get hq) hoj
  · rcases get_snoc hq with hq | ⟨rfl, rfl⟩
    · have hj : j < i := by rw [← hlen]; exact (List.getElem?_eq_some_iff.1 hq).1
      exact (hd.rc j oj q hoj hq).grow (htake j (by omega)) hsg heg
    · rw [hlen] at hoj ⊢
      rw [ho] at hoj
      cases hoj
      refine ⟨hr1, hr4, ⟨d.φ, by rw [htake i (Nat.le_refl _), htl]; exact hd.phi, fun t => ?_⟩, ?_⟩
      · rw [hr2, restr_spec hψ t, T.get_nil]
        unfold Reads
        by_cases h1 : some t ∈ readsOf L o
        · by_cases h2 : d.φ.get t = none
          · simp [h1, h2]
          · simp [h1, h2]
        · simp [h1]
      · rw [hr2]
        rcases kind with k | k | k | ⟨k1, k2, k3, K, k4, k5⟩
        · exact .inl k
        · exact .inr (.inl k)
        · exact .inr (.inr (.inl k))
        · rcases hh with ⟨e, _⟩ | ⟨_, e1, e2, e3⟩
          · exact absurd k1 e
          · refine .inr (.inr (.inr ⟨k1, k2, k3, d.es.length, d.h, h', K, d.last, by rw [e2]; simp, hsg _ _ hd.cur, by rw [e1, ← hd.hsl]; simp, ?_, by rw [htake i (Nat.le_refl _), htl]; exact k4, k5⟩))
            rw [hd.last]
            cases hk : d.es.length with
            | zero => rfl
            | succ k =>
              simp only [lastOf, List.getD_eq_getElem?_getD]
              have hkl : k < d.es.length := by omega
              rw [heg k _ (List.getElem?_eq_getElem hkl), List.getElem?_eq_getElem hkl]
  · rcases hh with ⟨_, _, e1, e2, _⟩ | ⟨_, e1, e2, _⟩
    · rw [e1, e2]; exact hd.hsl
    · rw [e1, e2]; simp [hd.hsl]
  · rcases hh with ⟨_, e0, e1, e2, _⟩ | ⟨_, e1, e2, _⟩
    · rw [e1, e2, e0]; exact hd.cur
    · rw [e1, e2]; simp [← hd.hsl]
  · exact hsg _ _ hd.h0
  · rcases hh with ⟨_, _, _, e2, e3⟩ | ⟨_, _, e2, e3⟩
    · rw [e2, e3]; exact hd.last
    · rw [e2, e3]; simp [lastOf]
  · rcases hh with ⟨_, _, _, e2, _⟩ | ⟨e0, _, e2, _⟩
    · rw [e2] at he
      obtain ⟨h1, q, h2, h3⟩ := hd.esr k e he
      exact ⟨by omega, q, snoc_get h2, h3⟩
    · rw [e2] at he
      rcases get_snoc he with he | ⟨_, rfl⟩
      · obtain ⟨h1, q, h2, h3⟩ := hd.esr k e he
        exact ⟨by omega, q, snoc_get h2, h3⟩
      · exact ⟨by omega, r, by simp [← hlen], e0⟩
  · rcases get_snoc hq with hq | ⟨rfl, rfl⟩
    · obtain ⟨k, hk⟩ := hd.ese e q hq hc
      exact ⟨k, heg k e hk⟩
    · rcases hh with ⟨e0, _⟩ | ⟨_, _, e2, _⟩
      · exact absurd hc e0
      · exact ⟨d.es.length, by rw [e2, hlen]; simp⟩
  · rcases hh with ⟨_, _, _, e2, _⟩ | ⟨_, _, e2, _⟩
    · rw [e2] at he hf; exact hd.inc k l e f hkl he hf
    · rw [e2] at he hf
      rcases get_snoc hf with hf2 | ⟨hl, rfl⟩
      · rcases get_snoc he with he2 | ⟨hk, rfl⟩
        · exact hd.inc k l e f hkl he2 hf2
        · have h9 : l < d.es.length := (List.getElem?_eq_some_iff.1 hf2).1
          omega
      · rcases get_snoc he with he2 | ⟨hk, rfl⟩
        · exact (hd.esr k e he2).1
        · omega
  · rcases get_snoc hq with hq | ⟨rfl, rfl⟩
    · obtain ⟨h1, h2⟩ := hd.lo0.2 j q hq
      exact ⟨h1, by simp only; omega⟩
    · have := hd.lo0.1
      exact ⟨by omega, Nat.le_refl _⟩
  · rcases get_snoc hp with hp2 | ⟨hk, rfl⟩
    · rcases get_snoc hq with hq2 | ⟨hj, rfl⟩
      · exact hd.apart j k q p hjk hq2 hp2
      · have h9 : k < d.rs.length := (List.getElem?_eq_some_iff.1 hp2).1
        omega
    · rcases get_snoc hq with hq2 | ⟨hj, rfl⟩
      · have := (hd.lo0.2 j q hq2).2; omega
      · omega
  · by_cases hji : j < i
    · exact hd.dst j oj dj hji hoj hdj
    · have : j = i := by omega
      subst this
      rw [ho] at hoj
      cases hoj
      exact p1 dj hdj
theorem drawOne_ok {φ0 : T Value} {s : St} {i : Nat} {d d' : Ds} {o : Oper} (hd : DsOk P ex L N ms φ0 s i d) (hL : StOk P L ms) (ho : L[i]? = some o) (h : drawOne P ex L N ms i o d = some d') : DsOk P ex L N ms φ0 s (i + 1) d' := by
  obtain ⟨ψ, hψ, h1⟩ := bnd_some.1 h
  rcases bE_some.1 h1 with ⟨hw, h2⟩ | ⟨hw, h2⟩
  · rcases bE_some.1 h2 with ⟨hc, h3⟩ | ⟨hc, h3⟩
    · obtain ⟨v, s2, h4, h5⟩ := bnd2_some.1 h3
      obtain ⟨φ', h6, h7⟩ := bnd_some.1 h5
      obtain ⟨h8, h9⟩ := bB_some.1 h7
      obtain ⟨q1, q2⟩ := and2 h8
      obtain ⟨rs, h10, h11⟩ := bnd_some.1 h9
      rw [sApp_eq] at h10
      cases h10; cases h11
      exact hd.step (r := ⟨o, 1, v, ψ, d.nx, s2.nx, s2.h⟩) hL ho hψ h6 rfl rfl rfl (ble_nat.1 q1) (.inl ⟨by simp, rfl, rfl, rfl, rfl⟩) (.inr (.inl ⟨rfl, hw, beq_nat.1 hc, h4, ble_nat.1 q2⟩))
    · rcases bE_some.1 h3 with ⟨hc2, h4⟩ | ⟨hc2, h4⟩
      · obtain ⟨v, h5, h6⟩ := bnd_some.1 h4
        obtain ⟨φ', h7, h8⟩ := bnd_some.1 h6
        obtain ⟨rs, h10, h11⟩ := bnd_some.1 h8
        rw [sApp_eq] at h10
        cases h10; cases h11
        exact hd.step (r := ⟨o, 2, v, ψ, d.nx, d.nx, .nil⟩) hL ho hψ h7 rfl rfl rfl (Nat.le_refl _) (.inl ⟨by simp, rfl, rfl, rfl, rfl⟩) (.inr (.inr (.inl ⟨rfl, hw, beq_nat.1 hc2, rfl⟩)))
      · obtain ⟨hc3, h5⟩ := bB_some.1 h4
        obtain ⟨K, h6, h7⟩ := bnd_some.1 h5
        obtain ⟨v, s2, h8, h9⟩ := bnd2_some.1 h7
        obtain ⟨φ', h10, h11⟩ := bnd_some.1 h9
        obtain ⟨h12, h13⟩ := bB_some.1 h11
        obtain ⟨rs, h14, h15⟩ := bnd_some.1 h13
        obtain ⟨hs, h16, h17⟩ := bnd_some.1 h15
        obtain ⟨es, h18, h19⟩ := bnd_some.1 h17
        rw [sApp_eq] at h14 h16 h18
        cases h14; cases h16; cases h18; cases h19
        exact hd.step (r := ⟨o, 3, v, ψ, d.nx, s2.nx, .nil⟩) hL ho hψ h10 rfl rfl rfl (ble_nat.1 h12) (.inr ⟨rfl, rfl, rfl, rfl⟩) (.inr (.inr (.inr ⟨rfl, hw, beq_nat.1 hc3, K, h6, h8⟩)))
  · obtain ⟨φ', h3, h4⟩ := bnd_some.1 h2
    obtain ⟨rs, h10, h11⟩ := bnd_some.1 h4
    rw [sApp_eq] at h10
    cases h10; cases h11
    exact hd.step (r := ⟨o, 0, undef, ψ, d.nx, d.nx, .nil⟩) hL ho hψ h3 rfl rfl rfl (Nat.le_refl _) (.inl ⟨by simp, rfl, rfl, rfl, rfl⟩) (.inl ⟨rfl, hw, rfl, rfl⟩)
theorem drawAll_ok {φ0 : T Value} {s : St} (hL : StOk P L ms) : ∀ {l pre : List Oper} {d d' : Ds}, pre ++ l = L → DsOk P ex L N ms φ0 s pre.length d → drawAll P ex L N ms l pre.length d = some d' → DsOk P ex L N ms φ0 s L.length d'
  | [], pre, d, d', hl, hd, h => by
    cases (show some d = some d' from h)
    have e : L.length = pre.length := by rw [← hl, List.append_nil]
    rw [e]; exact hd
  | o :: l, pre, d, d', hl, hd, h => by
    obtain ⟨d1, h1, h2⟩ := bnd_some.1 (show bnd (drawOne P ex L N ms pre.length o d) (fun d => drawAll P ex L N ms l (pre.length + 1) d) = some d' from h)
    have ho : L[pre.length]? = some o := by rw [← hl]; simp
    have hd1 := drawOne_ok hd hL ho h1
    have e : (pre ++ [o]).length = pre.length + 1 := by simp
    rw [← e] at hd1 h2
    exact drawAll_ok hL (by rw [List.append_assoc]; exact hl) hd1 h2
theorem DsOk.start (s : St) (φ : T Value) : DsOk P ex L N ms φ s 0 ⟨φ, s.h, [s.h], s.nx, 0, [], []⟩ :=
  ⟨rfl, ⟨fun j r o d h => by simp at h, fun t _ => rfl⟩, fun j o r _ h => by simp at h, rfl, rfl, rfl, rfl, fun k e h => by simp at h, fun e r h => by simp at h, fun k l e f _ h => by simp at h, ⟨Nat.le_refl _, fun j r h => by simp at h⟩, fun j k r q _ h => by simp at h, fun j o d h => by omega⟩
end
end Go.Proofs.YtjdehneddakpnaaGreatDoor.ev
namespace Go.Proofs.YtjdehneddakpnaaGreatDoor.ev
open Go Go.RowKit
noncomputable def pcsG (sel : Nat → Bool) : List Rc → Nat → Nat → Option AO
  | [], _, _ => none
  | r :: rs, j, b => if piece r = true ∧ sel j = true ∧ r.lo = b then r.pc.get b else pcsG sel rs (j + 1) b
theorem pcsG_cons (sel : Nat → Bool) (r : Rc) (rs : List Rc) (j b : Nat) : pcsG sel (r :: rs) j b = if piece r = true ∧ sel j = true ∧ r.lo = b then r.pc.get b else pcsG sel rs (j + 1) b := rfl
def Apart (rs : List Rc) : Prop := ∀ (j k : Nat) (r q : Rc), j < k → rs[j]? = some r → rs[k]? = some q → r.hi ≤ q.lo
theorem Apart.tail {r : Rc} {rs : List Rc} (h : Apart (r :: rs)) : Apart rs := fun j k r q hjk hr hq => h (j + 1) (k + 1) r q (by omega) (by simpa using hr) (by simpa using hq)
theorem piece_lt {r : Rc} (h : piece r = true) : r.cls = 1 ∧ r.lo < r.hi := by
  obtain ⟨h1, h2⟩ := and2 h
  exact ⟨beq_nat.1 h1, ble_nat.1 h2⟩
theorem Apart.head {r q : Rc} {rs : List Rc} {k : Nat} (h : Apart (r :: rs)) (hr : piece r = true) (hq : rs[k]? = some q) : r.lo ≠ q.lo := by
  have := h 0 (k + 1) r q (by omega) rfl (by simpa using hq)
  have := (piece_lt hr).2
  omega
theorem Apart.uniq {rs : List Rc} {j k : Nat} {r q : Rc} (h : Apart rs) (hr : rs[j]? = some r) (hq : rs[k]? = some q) (p : piece r = true) (p2 : piece q = true) (e : r.lo = q.lo) : j = k := by
  rcases Nat.lt_trichotomy j k with hlt | rfl | hlt
  · have := h j k r q hlt hr hq; have := (piece_lt p).2; omega
  · rfl
  · have := h k j q r hlt hq hr; have := (piece_lt p2).2; omega
theorem pcsG_iff {sel : Nat → Bool} : ∀ {rs : List Rc} {j0 b : Nat} {o : AO}, Apart rs → (pcsG sel rs j0 b = some o ↔ ∃ (j : Nat) (r : Rc), rs[j]? = some r ∧ piece r = true ∧ sel (j0 + j) = true ∧ r.lo = b ∧ r.pc.get b = some o)
  | [], j0, b, o, _ => by simp [pcsG]
  | r :: rs, j0, b, o, hA => by
    have ih := pcsG_iff (sel := sel) (j0 := j0 + 1) (b := b) (o := o) hA.tail
    rw [pcsG_cons]
    by_cases hc : piece r = true ∧ sel j0 = true ∧ r.lo = b
    · rw [if_pos hc]
      constructor
      · intro h; exact ⟨0, r, rfl, hc.1, hc.2.1, hc.2.2, h⟩
      · rintro ⟨j, q, h1, h2, h3, h4, h5⟩
        cases j with
        | zero => cases (show some r = some q from h1); exact h5
        | succ j => exact absurd (hc.2.2.trans h4.symm) (hA.head hc.1 (by simpa using h1))
    · rw [if_neg hc, ih]
      constructor
      · rintro ⟨j, q, h1, h2, h3, h4, h5⟩
        exact ⟨j + 1, q, by simpa using h1, h2, by rw [show j0 + (j + 1) = j0 + 1 + j by omega]; exact h3, h4, h5⟩
      · rintro ⟨j, q, h1, h2, h3, h4, h5⟩
        cases j with
        | zero => cases (show some r = some q from h1); exact absurd ⟨h2, h3, h4⟩ hc
        | succ j => exact ⟨j, q, by simpa using h1, h2, by rw [show j0 + 1 + j = j0 + (j + 1) by omega]; exact h3, h4, h5⟩
theorem addPcs_iff {sel : Nat → Bool} : ∀ {rs : List Rc} {j0 : Nat} {h h' : T AO}, addPcs sel rs j0 h = some h' → Apart rs → ∀ b, h'.get b = match pcsG sel rs j0 b with
    | some o => some o
    | none => h.get b
  | [], j0, h, h', hh, _, b => by cases (show some h = some h' from hh); rfl
  | r :: rs, j0, h, h', hh, hA, b => by
    rcases bE_some.1 (show bE (Bool.and (piece r) (sel j0)) (bnd (r.pc.get r.lo) fun o => bnd (h.put r.lo (some o)) fun h => addPcs sel rs (j0 + 1) h) (addPcs sel rs (j0 + 1) h) = some h' from hh) with ⟨hc, h1⟩ | ⟨hc, h1⟩
    · obtain ⟨hp, hs⟩ := and2 hc
      obtain ⟨o, ho, h2⟩ := bnd_some.1 h1
      obtain ⟨h3, hput, h4⟩ := bnd_some.1 h2
      rw [addPcs_iff h4 hA.tail b, T.put_spec _ _ _ _ hput b]
      rw [pcsG_cons]
      by_cases hb : b = r.lo
      · subst hb
        rw [if_pos (show piece r = true ∧ sel j0 = true ∧ r.lo = r.lo from ⟨hp, hs, rfl⟩), ho, if_pos rfl]
        cases hq : pcsG sel rs (j0 + 1) r.lo with
        | none => rfl
        | some q =>
          obtain ⟨j, x, h5, _, _, h6, _⟩ := (pcsG_iff hA.tail).1 hq
          exact absurd h6.symm (hA.head hp h5)
      · rw [if_neg hb, if_neg (fun (e : piece r = true ∧ sel j0 = true ∧ r.lo = b) => hb e.2.2.symm)]
    · have hn : ¬ (piece r = true ∧ sel j0 = true ∧ r.lo = b) := fun ⟨h2, h3, _⟩ => by rw [h2, h3] at hc; cases hc
      rw [addPcs_iff h1 hA.tail b]
      rw [pcsG_cons, if_neg hn]
theorem vEqB_eq {x y : Value} (h : vEqB x y = true) : x = y := by
  unfold vEqB at h
  split at h
  · rename_i a
    cases hb : asBool y with
    | none => rw [hb] at h; cases h
    | some b =>
      rw [hb] at h
      cases y <;> simp only [asBool] at hb <;> cases hb
      rename_i b
      cases a <;> cases b <;> first | rfl | cases h
  · rename_i k a
    cases hb : asInt y with
    | none => rw [hb] at h; cases h
    | some p =>
      rw [hb] at h
      obtain ⟨k', b⟩ := p
      obtain ⟨h1, h2⟩ := and2 (show Bool.and (kEq k k') (iEq a b) = true from h)
      cases y <;> simp only [asInt] at hb <;> cases hb
      rw [iEq_eq] at h2
      rw [kEq_iff.1 h1, (beq_iff_eq.1 h2)]
  · rename_i a
    cases hb : asStr y with
    | none => rw [hb] at h; cases h
    | some l =>
      rw [hb] at h
      cases y <;> simp only [asStr] at hb <;> cases hb
      rename_i b
      have h2 : bEq a.data.toList b.data.toList = true := h
      rw [bEq_eq, beq_iff_eq] at h2
      cases a; cases b
      simp only [Value.string.injEq, ByteArray.mk.injEq]
      exact Array.ext' h2
  · rename_i a
    cases y <;> simp only at h <;> (try cases h)
    rename_i b
    cases a with
    | none => cases b <;> first | rfl | cases h
    | some a =>
      have h' : Option.rec (motive := fun _ => Bool) false (fun p => Option.rec (motive := fun _ => Bool) false (fun q => Bool.and (Nat.beq p.1 q.1) (Nat.beq p.2 q.2)) (asPtr (.pointer b))) (asPtr (.pointer (some a))) = true := h
      obtain ⟨a1, a2, a3⟩ := a
      cases a3 with
      | some _ => cases h'
      | none =>
        cases b with
        | none => cases h'
        | some b =>
          obtain ⟨b1, b2, b3⟩ := b
          cases b3 with
          | some _ => cases h'
          | none =>
            obtain ⟨q1, q2⟩ := and2 (show Bool.and (Nat.beq a1 b1) (Nat.beq a2 b2) = true from h')
            rw [beq_nat.1 q1, beq_nat.1 q2]
  · rename_i a l c
    cases y <;> simp only at h <;> (try cases h)
    rename_i b l' c'
    obtain ⟨q1, q2⟩ := and2 h
    obtain ⟨q3, q4⟩ := and2 q1
    rw [beq_nat.1 q3, beq_nat.1 q4]
    cases a with
    | none => cases b <;> first | rfl | cases q2
    | some a =>
      cases b with
      | none => cases q2
      | some b =>
        obtain ⟨a1, a2, a3⟩ := a
        obtain ⟨b1, b2, b3⟩ := b
        obtain ⟨q5, q6⟩ := and2 q2
        obtain ⟨q7, q8⟩ := and2 q5
        obtain ⟨q9, q10⟩ := and2 q6
        simp only at q7 q8 q9 q10
        cases a3 with
        | some _ => cases q9
        | none =>
          cases b3 with
          | some _ => cases q10
          | none => rw [beq_nat.1 q7, beq_nat.1 q8]
  · rename_i a
    cases y <;> simp only at h <;> (try cases h)
    rename_i b
    cases a <;> cases b <;> first | rfl | cases h | skip
    rename_i a b
    rw [beq_nat.1 (show Nat.beq a b = true from h)]
  · rename_i a
    cases y <;> simp only at h <;> (try cases h)
    rename_i b
    cases a <;> cases b <;> first | rfl | cases h | skip
    rename_i a b
    rw [beq_nat.1 (show Nat.beq a b = true from h)]
  · cases y <;> simp only at h <;> first | rfl | cases h
  · cases y <;> simp only at h <;> first | rfl | cases h
  · cases h
theorem vEq0_eq {x y : Value} (h : vEq0 x y = true) : x = y := by
  unfold vEq0 at h
  split at h
  · cases y <;> simp only at h <;> (try cases h)
    obtain ⟨h1, h2⟩ := and2 h
    rw [beq_nat.1 h1, vEqB_eq h2]
  · exact vEqB_eq h
theorem vEqL_eq : ∀ {xs ys : List Value}, vEqL xs ys = true → xs = ys
  | [], [], _ => rfl
  | [], _ :: _, h => by cases h
  | _ :: _, [], h => by cases h
  | x :: xs, y :: ys, h => by
    have h' : Bool.rec (motive := fun _ => Bool) false (vEqL xs ys) (vEq0 x y) = true := h
    cases h0 : vEq0 x y with
    | false => rw [h0] at h'; cases h'
    | true => rw [h0] at h'; rw [vEq0_eq h0, vEqL_eq h']
theorem vEq_eq {x y : Value} (h : vEq x y = true) : x = y := by
  unfold vEq at h
  split at h
  · cases y <;> simp only at h <;> (try cases h)
    rw [Array.ext' (vEqL_eq h)]
  · cases y <;> simp only at h <;> (try cases h)
    rw [Array.ext' (vEqL_eq h)]
  · exact vEq0_eq h
section
variable {P : Program} {ex : CaF} {φ : T Value}
theorem ca0_ok : CaOk P ca0 := fun _f _args _s _v _s' h => nomatch h
/-- a load leaves the memory as it is -/
theorem load_same {o : Oper} {h : T AO} {v : Value} {s' : St} (hc : clsOf P o = 2) (hr : opF o.op P ca0 ⟨h, 0⟩ φ = some (v, s')) : s' = ⟨h, 0⟩ := by
  unfold clsOf at hc
  cases ho : o.op <;> rw [ho] at hc hr <;> simp only at hc <;> (try cases hc)
  case load t a =>
    obtain ⟨_, _, h1⟩ := bnd_some.1 hr
    obtain ⟨_, _, _, h2⟩ := bnd2_some.1 h1
    exact (pureS_some h2).2
  case lookup t x i ok =>
    obtain ⟨_, _, h1⟩ := bnd_some.1 hr
    obtain ⟨_, _, h2⟩ := bnd_some.1 h1
    exact (pureS_some h2).2
  case convert src dst x =>
    obtain ⟨u, _, h1⟩ := bnd_some.1 hr
    obtain ⟨ds, _, h2⟩ := bnd_some.1 h1
    obtain ⟨dd, _, h3⟩ := bnd_some.1 h2
    cases u <;> simp only at h3 <;> (try cases h3)
    case string =>
      cases dd <;> simp only [convStr] at h3 <;> (try cases h3)
      · rfl
      · obtain ⟨_, h3⟩ := bB_some.1 h3
        obtain ⟨_, _, h4⟩ := bnd_some.1 h3
        obtain ⟨_, h5⟩ := bB_some.1 h4
        obtain ⟨_, _, h6⟩ := bnd_some.1 h5
        obtain ⟨_, h7⟩ := bB_some.1 h6
        obtain ⟨_, _, h8⟩ := bnd_some.1 h7
        obtain ⟨_, h9⟩ := bB_some.1 h8
        obtain ⟨_, _, h10, _⟩ := bnd2_some.1 h9
        cases h10
    all_goals exact (pureS_some h3).2
  case call c =>
    cases hcc : c.callee with
    | value x => rw [hcc] at hc; cases hc
    | invoke r m => rw [hcc] at hc; cases hc
    | builtin b =>
      rw [hcc] at hc
      simp only at hc
      obtain ⟨vs, _, h1⟩ := bnd_some.1 (show bnd (evs P φ c.args.toList) (fun vs => opBuiltin b P ⟨h, 0⟩ c.argTypes.toList vs) = some (v, s') from (by simp only [opF] at hr; rw [hcc] at hr; exact hr))
      cases b <;> simp only [clsB] at hc <;> (try cases hc)
      simp only [opBuiltin] at h1
      obtain ⟨_, _, h2⟩ := bnd_some.1 h1
      obtain ⟨_, _, h3⟩ := bnd_some.1 h2
      exact (pureS_some h3).2
/-- where a load was made -/
theorem loadAtH_some {o : Oper} {sel : Nat → Bool} {rs : List Rc} {h : T AO} {v : Value} (hc : clsOf P o = 2) (hr : loadAtH P φ o sel rs h = some v) :
    opF o.op P ca0 ⟨h, 0⟩ φ = some (v, ⟨h, 0⟩) ∨ ∃ (j : Nat) (r : Rc) (ob : AO) (k : T AO), rs[j]? = some r ∧ piece r = true ∧ sel j = true ∧ r.pc.get r.lo = some ob ∧ (∀ b, k.get b = if b = r.lo then some ob else none) ∧ opF o.op P ca0 ⟨k, 0⟩ φ = some (v, ⟨k, 0⟩) := by
  have key : ∀ (rs : List Rc) (j0 : Nat), loadAtP P φ o sel rs j0 = some v → ∃ (j : Nat) (r : Rc) (ob : AO) (k : T AO), rs[j]? = some r ∧ piece r = true ∧ sel (j0 + j) = true ∧ r.pc.get r.lo = some ob ∧ (∀ b, k.get b = if b = r.lo then some ob else none) ∧ opF o.op P ca0 ⟨k, 0⟩ φ = some (v, ⟨k, 0⟩) := by
    intro rs
    induction rs with
    | nil => intro j0 h1; cases h1
    | cons r rs ih =>
      intro j0 h1
      have next : loadAtP P φ o sel rs (j0 + 1) = some v → ∃ (j : Nat) (r' : Rc) (ob : AO) (k : T AO), (r :: rs)[j]? = some r' ∧ piece r' = true ∧ sel (j0 + j) = true ∧ r'.pc.get r'.lo = some ob ∧ (∀ b, k.get b = if b = r'.lo then some ob else none) ∧ opF o.op P ca0 ⟨k, 0⟩ φ = some (v, ⟨k, 0⟩) := fun h2 => by
        obtain ⟨j, q, ob, k, e1, e2, e3, e4⟩ := ih (j0 + 1) h2
        exact ⟨j + 1, q, ob, k, by simpa using e1, e2, by rw [show j0 + (j + 1) = j0 + 1 + j by omega]; exact e3, e4⟩
      rcases bE_some.1 (show bE (Bool.and (piece r) (sel j0)) (bnd (r.pc.get r.lo) fun ob => bnd (T.nil.put r.lo (some ob)) fun h => Option.rec (motive := fun _ => Option Value) (loadAtP P φ o sel rs (j0 + 1)) (fun p => some p.1) (opF o.op P ca0 ⟨h, 0⟩ φ)) (loadAtP P φ o sel rs (j0 + 1)) = some v from h1) with ⟨hp, h2⟩ | ⟨_, h2⟩
      · obtain ⟨hp1, hp2⟩ := and2 hp
        obtain ⟨ob, hob, h3⟩ := bnd_some.1 h2
        obtain ⟨k, hk, h4⟩ := bnd_some.1 h3
        cases hop : opF o.op P ca0 ⟨k, 0⟩ φ with
        | none => rw [hop] at h4; exact next h4
        | some p =>
          rw [hop] at h4
          obtain ⟨v2, s2⟩ := p
          cases (show some v2 = some v from h4)
          have := load_same hc hop
          subst this
          exact ⟨0, r, ob, k, rfl, hp1, hp2, hob, fun b => by rw [T.put_spec _ _ _ _ hk b, T.get_nil], hop⟩
      · exact next h2
  cases hop : opF o.op P ca0 ⟨h, 0⟩ φ with
  | none =>
    unfold loadAtH at hr
    rw [hop] at hr
    obtain ⟨j, r, ob, k, e1, e2, e3, e4, e5, e6⟩ := key rs 0 hr
    exact .inr ⟨j, r, ob, k, e1, e2, by rw [Nat.zero_add] at e3; exact e3, e4, e5, e6⟩
  | some p =>
    unfold loadAtH at hr
    rw [hop] at hr
    obtain ⟨v2, s2⟩ := p
    cases (show some v2 = some v from hr)
    have := load_same hc hop
    subst this
    exact .inl rfl
theorem loadChk_spec {ms : List Nat} {rs : List Rc} {i : Nat} {r : Rc} : ∀ {hs : List (T AO)} {last : Nat} {es : List Nat}, loadChk P ms rs i r hs last es = true → ∀ (k : Nat) (h : T AO), hs[k]? = some h → k ≤ es.length →
    mayStand ms i (match k with | 0 => last | k + 1 => es.getD k 0 + 1) (es.drop k) = true → hereOk P ms rs i (match k with | 0 => last | k + 1 => es.getD k 0 + 1) r h = true
  | [], last, es, _, k, h, hk, _, _ => by simp at hk
  | h0 :: hs, last, es, hc, k, h, hk, hle, hm => by
    obtain ⟨h1, h2⟩ := and2 (show Bool.and (Bool.or (Bool.not (mayStand ms i last es)) (hereOk P ms rs i last r h0)) (List.rec (motive := fun _ => Bool) true (fun e es _ => loadChk P ms rs i r hs (e + 1) es) es) = true from hc)
    cases k with
    | zero =>
      cases (show some h0 = some h from hk)
      rcases or2 h1 with h3 | h3
      · have hm' : mayStand ms i last es = true := by simpa using hm
        rw [hm'] at h3; cases h3
      · exact h3
    | succ k =>
      cases es with
      | nil => simp at hle
      | cons e es =>
        have h3 : loadChk P ms rs i r hs (e + 1) es = true := h2
        have hk' : hs[k]? = some h := by simpa using hk
        have := loadChk_spec h3 k h hk' (by simpa using hle)
        cases k with
        | zero => exact this (by simpa using hm)
        | succ k => exact this (by simpa using hm)
end
end Go.Proofs.YtjdehneddakpnaaGreatDoor.ev
namespace Go.Proofs.YtjdehneddakpnaaGreatDoor.ev
open Go Go.RowKit
section
variable {P : Program} {ex : CaF} {ops : Array Oper} {N : Nat} {ms : List Nat} {φ0 : T Value} {s : St} {d : Ds} {M0 : Pm} {w0 : World}
theorem Stp.widen {H H' : Hp} {M M' : Pm} {w w' : World} {lo hi lo' hi' : Nat} (h : Stp P H M w H' M' w' lo hi) (h1 : lo' ≤ lo ∨ lo = hi) (h2 : hi ≤ hi' ∨ lo = hi) (h3 : lo' ≤ hi') : Stp P H M w H' M' w' lo' hi' :=
  ⟨h.sim, fun b hb => h.ext b (by omega), h.size, h.keep, h.born, fun b hb => by
    rcases h.dom b hb with h4 | h4
    · exact .inl h4
    · exact .inr (by omega), h.os, h.tape, h.output, h3⟩
theorem Stp.trans2 {H H' H'' : Hp} {M M' M'' : Pm} {w w' w'' : World} {lo hi : Nat} (h : Stp P H M w H' M' w' lo hi) (k : Stp P H' M' w' H'' M'' w'' lo hi) : Stp P H M w H'' M'' w'' lo hi := by
  refine ⟨k.sim, fun b hb => by rw [k.ext b hb, h.ext b hb], Nat.le_trans h.size k.size, fun c hc hn => ?_, fun b o mi hb hm => ?_, fun b hb => ?_, k.os.trans h.os, k.tape.trans h.tape, k.output.trans h.output, h.le⟩
  · rw [k.keep c (Nat.lt_of_lt_of_le hc h.size) fun b o mi hb ho hm e => ?_, h.keep c hc hn]
    rcases h.born b o mi hb hm with hs | ⟨b0, o0, mi0, hb0, hm0, he, hw⟩
    · omega
    · exact hn b0 o0 mi0 hb0 (hw ho) hm0 (he.trans e)
  · rcases k.born b o mi hb hm with hs | ⟨b1, o1, mi1, hb1, hm1, he1, hw1⟩
    · exact .inl (Nat.le_trans h.size hs)
    · rcases h.born b1 o1 mi1 hb1 hm1 with hs | ⟨b0, o0, mi0, hb0, hm0, he, hw⟩
      · exact .inl (he1 ▸ hs)
      · exact .inr ⟨b0, o0, mi0, hb0, hm0, he.trans he1, fun hx => hw (hw1 hx)⟩
  · rcases k.dom b hb with hb1 | hb1
    · exact h.dom b hb1
    · exact .inr hb1
/-- the memory when the operations E are done, k effects among them -/
noncomputable def SG (d : Ds) (ms : List Nat) (E : Nat → Bool) (k : Nat) : Hp := fun b => match (d.hs.getD k .nil).get b with
  | some o => some o
  | none => pcsG (fun j => E j && notBefore ms (lastOf d.es k) j) d.rs 0 b
structure Inv (P : Program) (ops : Array Oper) (N : Nat) (ms : List Nat) (φ0 : T Value) (s : St) (d : Ds) (M0 : Pm) (w0 : World) (E : Nat → Bool) (a : Act) (w : World) (k : Nat) (M : Pm) : Prop where
  kle : k ≤ d.es.length
  ek : ∀ (l e : Nat), d.es[l]? = some e → (E e = true ↔ l < k)
  stp : Stp P s.h.get M0 w0 (SG d ms E k) M w s.nx d.nx
  fresh : ∀ (i : Nat) (r : Rc), d.rs[i]? = some r → E i = false → Fresh M r.lo r.hi
  fr1 : ∀ (i : Nat) (o : Oper) (r : Rc) (t : Tmp), ops.toList[i]? = some o → d.rs[i]? = some r → o.dst = some t → E i = true → VR M r.v (a.tmps.getD t undef)
  fr2 : ∀ t : Tmp, (∀ (i : Nat) (o : Oper), ops.toList[i]? = some o → E i = true → o.dst ≠ some t) → VR M ((φ0.get t).getD undef) (a.tmps.getD t undef)
  size : a.tmps.size = N
  defers : a.defers = []
  glob : ∀ g, g < P.globals.size → ∃ mi, M g = some mi ∧ mi.blk = g ∧ mi.sh = 0
  i1 : ∀ (j : Nat) (r : Rc), E j = true → d.rs[j]? = some r → piece r = true → notBefore ms (lastOf d.es k) j = true → (d.hs.getD k .nil).get r.lo = none
  down : ∀ i j, inM ms i j = true → E j = true → E i = true
theorem nb_iff {ms : List Nat} {es : List Nat} {k j : Nat} : notBefore ms (lastOf es k) j = true ↔ (k = 0 ∨ inM ms j (es.getD (k - 1) 0) = false) := by
  cases k with
  | zero => exact ⟨fun _ => .inl rfl, fun _ => rfl⟩
  | succ k =>
    show Bool.not (inM ms j (es.getD k 0)) = true ↔ _
    simp
theorem SG_iff (hA : Apart d.rs) {E : Nat → Bool} {k b : Nat} {o : AO} : SG d ms E k b = some o ↔ (d.hs.getD k .nil).get b = some o ∨ ((d.hs.getD k .nil).get b = none ∧ ∃ (j : Nat) (r : Rc), d.rs[j]? = some r ∧ piece r = true ∧ E j = true ∧ notBefore ms (lastOf d.es k) j = true ∧ r.lo = b ∧ r.pc.get b = some o) := by
  unfold SG
  cases hg : (d.hs.getD k .nil).get b with
  | some q => simp
  | none =>
    simp only [true_and]
    rw [pcsG_iff hA]
    constructor
    · rintro ⟨j, r, h1, h2, h3, h4⟩
      rw [Nat.zero_add, Bool.and_eq_true] at h3
      exact .inr ⟨j, r, h1, h2, h3.1, h3.2, h4⟩
    · rintro (h | ⟨j, r, h1, h2, h3, h4, h5⟩)
      · cases h
      · exact ⟨j, r, h1, h2, by rw [Nat.zero_add, h3, h4]; rfl, h5⟩
def ins (E : Nat → Bool) (i : Nat) : Nat → Bool := fun j => decide (j = i) || E j
theorem ins_self (E : Nat → Bool) (i : Nat) : ins E i i = true := by simp [ins]
theorem ins_ne {E : Nat → Bool} {i j : Nat} (h : j ≠ i) : ins E i j = E j := by simp [ins, h]
theorem ins_of {E : Nat → Bool} {i j : Nat} (h : E j = true) : ins E i j = true := by simp [ins, h]
theorem hs_at {k : Nat} {h : T AO} (e : d.hs[k]? = some h) : d.hs.getD k .nil = h := by rw [List.getD_eq_getElem?_getD, e]; rfl
/-- the facts at one operation that may be done next -/
structure Nx (P : Program) (ops : Array Oper) (ms : List Nat) (E : Nat → Bool) (i : Nat) (o : Oper) (r : Rc) (d : Ds) : Prop where
  o : ops.toList[i]? = some o
  r : d.rs[i]? = some r
  no : E i = false
  pre : ∀ j, inM ms j i = true → E j = true
theorem Nx.eff {E : Nat → Bool} {i k : Nat} {o : Oper} {r : Rc} {a : Act} {w : World} {M : Pm} (n : Nx P ops ms E i o r d) (h : Inv P ops N ms φ0 s d M0 w0 E a w k M) : notBefore ms (lastOf d.es k) i = true := by
  rw [nb_iff]
  cases k with
  | zero => exact .inl rfl
  | succ k =>
    right
    cases hq : inM ms i (d.es.getD k 0) with
    | false => simpa using hq
    | true =>
      have hk : k < d.es.length := by have := h.kle; omega
      have e1 := List.getElem?_eq_getElem hk
      have e2 : d.es.getD k 0 = d.es[k] := by rw [List.getD_eq_getElem?_getD, e1]; rfl
      have hE := (h.ek k d.es[k] e1).2 (by omega)
      rw [e2] at hq
      have := h.down i _ hq hE
      rw [n.no] at this; cases this
/-- operands and the guard are what they were in the text's order -/
theorem Inv.frame {E : Nat → Bool} {i k : Nat} {o : Oper} {r : Rc} {a : Act} {w : World} {M : Pm} (hd : DsOk P ex ops.toList N ms φ0 s ops.toList.length d) (hL : StOk P ops.toList ms) (h : Inv P ops N ms φ0 s d M0 w0 E a w k M) (n : Nx P ops ms E i o r d) :
    ∃ a2 : Act, FR P M r.φ a2 N ∧ execOp a2.eval o = execOp a.eval o ∧ wantA ops.toList r.φ o = Region.wanted o (yielded ops a.tmps) := by
  have rc := hd.rc i o r n.o n.r
  obtain ⟨φ, ⟨p1, p2⟩, p3⟩ := rc.fr
  have hrd : ∀ t, Reads ops.toList o t → VR M ((r.φ.get t).getD undef) (a.tmps.getD t undef) := by
    intro t ht
    rw [(p3 t).1 ht]
    by_cases hex : ∃ (j : Nat) (oj : Oper), ops.toList[j]? = some oj ∧ oj.dst = some t ∧ j < i
    · obtain ⟨j, oj, h1, h2, h3⟩ := hex
      have hjl : j < d.rs.length := by rw [hd.len]; exact (List.getElem?_eq_some_iff.1 h1).1
      have h4 := List.getElem?_eq_getElem hjl
      rw [p1 j d.rs[j] oj t (by rw [List.getElem?_take, if_pos h3]; exact h4) h1 h2]
      rcases hL.rd i j o oj t n.o h1 (by omega) h2 ht with h5 | h5
      · have := hL.toMaskOk.lt h5; omega
      · exact h.fr1 j oj d.rs[j] t h1 h4 h2 (n.pre j h5)
    · rw [p2 t (fun j q oj hq hoj e => hex ⟨j, oj, hoj, e, by
        rw [List.getElem?_take] at hq
        split at hq
        · assumption
        · cases hq⟩)]
      refine h.fr2 t fun j oj hoj hj e => ?_
      by_cases hji : j = i
      · subst hji; rw [n.no] at hj; cases hj
      · have hlt : ¬ j < i := fun hlt => hex ⟨j, oj, hoj, e, hlt⟩
        rcases hL.rd i j o oj t n.o hoj (by omega) e ht with h5 | h5
        · have := h.down i j h5 hj
          rw [n.no] at this; cases this
        · have := hL.toMaskOk.lt h5; omega
  let tm : Array Value := (Array.range N).map fun t => if reads ops.toList o t then a.tmps.getD t undef else undef
  have htm : ∀ t, tm.getD t undef = if t < N ∧ reads ops.toList o t = true then a.tmps.getD t undef else undef := by
    intro t
    rw [Array.getD_eq_getD_getElem?]
    by_cases ht : t < N
    · have : tm[t]? = some (if reads ops.toList o t then a.tmps.getD t undef else undef) := by
        show ((Array.range N).map _)[t]? = _
        rw [Array.getElem?_map, Array.getElem?_range, if_pos ht]
        rfl
      rw [this]
      by_cases hr : reads ops.toList o t = true
      · rw [if_pos hr, if_pos ⟨ht, hr⟩]; rfl
      · rw [if_neg hr, if_neg (fun e => hr e.2)]; rfl
    · have : tm[t]? = none := by
        show ((Array.range N).map _)[t]? = _
        rw [Array.getElem?_map, Array.getElem?_range, if_neg ht]
        rfl
      rw [this, if_neg (fun e => ht e.1)]
      rfl
  have hout : ∀ t, ¬ t < N → a.tmps.getD t undef = undef := fun t ht => by
    rw [Array.getD_eq_getD_getElem?, Array.getElem?_eq_none (by rw [h.size]; exact Nat.le_of_not_lt (by assumption))]; rfl
  have hread : ∀ t, Reads ops.toList o t → tm.getD t undef = a.tmps.getD t undef := fun t ht => by
    rw [htm t]
    by_cases hn : t < N
    · rw [if_pos ⟨hn, reads_iff.1 ht⟩]
    · rw [if_neg (fun e => hn e.1), hout t hn]
  have hfr : FR P M r.φ { tmps := tm, defers := [] } N := by
    refine ⟨fun t => ?_, by show tm.size = N; simp [tm], rfl, h.glob⟩
    show VR M ((r.φ.get t).getD undef) (tm.getD t undef)
    by_cases ht : Reads ops.toList o t
    · rw [hread t ht]; exact hrd t ht
    · rw [(p3 t).2 ht, htm t, if_neg (fun e => ht (reads_iff.2 e.2))]
      exact .undef
  have hop : ∀ x ∈ o.op.operands, (Act.eval { tmps := tm, defers := [] } x) = a.eval x := by
    intro x hx
    cases x with
    | tmp t => exact hread t (by unfold Reads readsOf; rw [mapL_eq]; exact List.mem_cons_of_mem _ (List.mem_map.2 ⟨.tmp t, by simpa using hx, rfl⟩))
    | const v => rfl
    | global g => rfl
    | func f => rfl
  refine ⟨{ tmps := tm, defers := [] }, hfr, execOp_congr o (hL.sel i o n.o) hop, ?_⟩
  rw [wantA_eq hfr]
  unfold Region.wanted
  cases hg : o.guard with
  | none => rfl
  | some p =>
    obtain ⟨g, b⟩ := p
    simp only
    congr 1
    unfold yielded
    cases hog : ops[g]? with
    | none => rfl
    | some og =>
      rw [Option.bind_some]
      cases hdst : og.dst with
      | none => rfl
      | some t =>
        rw [Option.bind_some, Option.bind_some]
        have ht : Reads ops.toList o t := by
          unfold Reads readsOf guardT
          rw [hg]
          refine List.mem_cons.2 (.inl ?_)
          show some t = bnd (lGet ops.toList g) fun x => x.dst
          rw [lGet_eq, Array.getElem?_toList, hog]
          exact hdst.symm
        have e := hread t ht
        by_cases hn : t < N
        · have e1 : tm[t]? = some (tm.getD t undef) := by
            rw [Array.getD_eq_getD_getElem?, Array.getElem?_eq_getElem (by show t < tm.size; simp [tm]; exact hn)]; rfl
          have e2 : a.tmps[t]? = some (a.tmps.getD t undef) := by
            rw [Array.getD_eq_getD_getElem?, Array.getElem?_eq_getElem (by rw [h.size]; exact hn)]; rfl
          show (match tm[t]? with | some (.bool b) => some b | _ => none) = _
          rw [e1, e2, e]
          cases a.tmps.getD t undef <;> rfl
        · have e1 : tm[t]? = none := Array.getElem?_eq_none (by show tm.size ≤ t; rw [show tm.size = N by simp [tm]]; exact Nat.le_of_not_lt hn)
          have e2 : a.tmps[t]? = none := Array.getElem?_eq_none (by rw [h.size]; exact Nat.le_of_not_lt (by assumption))
          show (match tm[t]? with | some (.bool b) => some b | _ => none) = _
          rw [e1, e2]
/-- one operation more is done -/
theorem Inv.put {E : Nat → Bool} {i k k' : Nat} {o : Oper} {r : Rc} {a : Act} {w w' : World} {M M' : Pm} {v' : Value} (hd : DsOk P ex ops.toList N ms φ0 s ops.toList.length d) (hL : StOk P ops.toList ms) (h : Inv P ops N ms φ0 s d M0 w0 E a w k M) (n : Nx P ops ms E i o r d)
    (hv : VR M' r.v v') (hst : Stp P (SG d ms E k) M w (SG d ms (ins E i) k') M' w' r.lo r.hi) (hk : (k' = k ∧ r.cls ≠ 3) ∨ (k' = k + 1 ∧ d.es[k]? = some i))
    (hi1 : ∀ (j : Nat) (q : Rc), ins E i j = true → d.rs[j]? = some q → piece q = true → notBefore ms (lastOf d.es k') j = true → (d.hs.getD k' .nil).get q.lo = none) : Inv P ops N ms φ0 s d M0 w0 (ins E i) (a.put o.dst v') w' k' M' := by
  have hlo := hd.lo0.2 i r n.r
  have hLe := hst.Le (h.fresh i r n.r n.no)
  have hN : ∀ x, o.dst = some x → x < a.tmps.size := fun x hx => by rw [h.size]; exact hd.dst i o x (List.getElem?_eq_some_iff.1 n.o).1 n.o hx
  refine ⟨?_, fun l e he => ?_, h.stp.trans2 (hst.widen (.inl hlo.1) (.inl hlo.2) (by have := hd.lo0.1; omega)), fun j q hq hj => ?_, fun j oj q t hoj hq ht hj => ?_, fun t ht => ?_, by rw [size_put, h.size], by rw [defers_put, h.defers], fun g hg => ?_, hi1, fun x y hxy hy => ?_⟩
  · rcases hk with ⟨e, _⟩ | ⟨e, e2⟩
    · rw [e]; exact h.kle
    · have := (List.getElem?_eq_some_iff.1 e2).1; omega
  · by_cases hei : e = i
    · subst hei
      rw [ins_self]
      rcases hk with ⟨_, e3⟩ | ⟨e1, e2⟩
      · obtain ⟨_, q, h1, h2⟩ := hd.esr l e he
        rw [n.r] at h1; cases h1
        exact absurd h2 e3
      · have : l = k := by
          rcases Nat.lt_trichotomy l k with h1 | h1 | h1
          · have := hd.inc l k e e h1 he e2; omega
          · exact h1
          · have := hd.inc k l e e h1 e2 he; omega
        simp; omega
    · rw [ins_ne hei, h.ek l e he]
      rcases hk with ⟨e1, _⟩ | ⟨e1, e2⟩
      · rw [e1]
      · have : l ≠ k := fun e3 => by rw [e3] at he; rw [he] at e2; cases e2; exact hei rfl
        omega
  · have hji : j ≠ i := fun e => by rw [e, ins_self] at hj; cases hj
    rw [ins_ne hji] at hj
    have hf := h.fresh j q hq hj
    have hap : q.hi ≤ r.lo ∨ r.hi ≤ q.lo := by
      rcases Nat.lt_or_gt_of_ne hji with h1 | h1
      · exact .inl (hd.apart j i q r h1 hq n.r)
      · exact .inr (hd.apart i j r q h1 n.r hq)
    intro b h1 h2
    rw [hst.ext b (by omega)]
    exact hf b h1 h2
  · rw [getD_put a o.dst v' t hN]
    by_cases hji : j = i
    · subst hji
      rw [n.o] at hoj; cases hoj
      rw [n.r] at hq; cases hq
      rw [if_pos ht]; exact hv
    · rw [if_neg (hL.wr i j o oj t n.o hoj (fun e => hji e.symm) ht)]
      rw [ins_ne hji] at hj
      exact (h.fr1 j oj q t hoj hq ht hj).mono hLe
  · rw [getD_put a o.dst v' t hN, if_neg (ht i o n.o (ins_self E i))]
    exact (h.fr2 t fun j oj hoj hj => ht j oj hoj (ins_of hj)).mono hLe
  · obtain ⟨mi, h1, h2⟩ := h.glob g hg
    exact ⟨mi, hLe _ _ h1, h2⟩
  · by_cases hyi : y = i
    · subst hyi
      exact ins_of (n.pre x hxy)
    · rw [ins_ne hyi] at hy
      exact ins_of (h.down x y hxy hy)
end
end Go.Proofs.YtjdehneddakpnaaGreatDoor.ev
namespace Go.Proofs.YtjdehneddakpnaaGreatDoor.ev
open Go Go.RowKit
section
variable {P : Program} {ex : CaF} {ops : Array Oper} {N : Nat} {ms : List Nat} {φ0 : T Value} {s : St} {d : Ds} {M0 : Pm} {w0 : World}
theorem SG_ins_ne {E : Nat → Bool} {i k : Nat} {r : Rc} (hA : Apart d.rs) (hr : d.rs[i]? = some r) (hp : piece r = false) : SG d ms (ins E i) k = SG d ms E k := by
  funext b
  refine Option.ext fun o => ?_
  rw [SG_iff hA, SG_iff hA]
  refine or_congr Iff.rfl (and_congr Iff.rfl ⟨?_, ?_⟩)
  · rintro ⟨j, q, h1, h2, h3, h4⟩
    by_cases e : j = i
    · subst e; rw [hr] at h1; cases h1; rw [hp] at h2; cases h2
    · rw [ins_ne e] at h3; exact ⟨j, q, h1, h2, h3, h4⟩
  · rintro ⟨j, q, h1, h2, h3, h4⟩
    exact ⟨j, q, h1, h2, ins_of h3, h4⟩
theorem SG_ins_pc {E : Nat → Bool} {i k : Nat} {r : Rc} (hA : Apart d.rs) (hr : d.rs[i]? = some r) (hp : piece r = true) (hnb : notBefore ms (lastOf d.es k) i = true) (hz : SG d ms E k r.lo = none) (b : Nat) :
    SG d ms (ins E i) k b = if b = r.lo then r.pc.get r.lo else SG d ms E k b := by
  have hz1 : (d.hs.getD k .nil).get r.lo = none := by
    cases hg : (d.hs.getD k .nil).get r.lo with
    | none => rfl
    | some o => rw [(SG_iff hA).2 (.inl hg)] at hz; cases hz
  refine Option.ext fun o => ?_
  rw [SG_iff hA]
  by_cases hb : b = r.lo
  · subst hb
    rw [if_pos rfl]
    constructor
    · rintro (h | ⟨_, j, q, h1, h2, h3, h4, h5, h6⟩)
      · rw [hz1] at h; cases h
      · have := hA.uniq h1 hr h2 hp h5
        subst this
        rw [hr] at h1; cases h1
        exact h6
    · intro h
      exact .inr ⟨hz1, i, r, hr, hp, ins_self E i, hnb, rfl, h⟩
  · rw [if_neg hb, SG_iff hA]
    refine or_congr Iff.rfl (and_congr Iff.rfl ⟨?_, ?_⟩)
    · rintro ⟨j, q, h1, h2, h3, h4, h5, h6⟩
      by_cases e : j = i
      · subst e; rw [hr] at h1; cases h1; exact absurd h5.symm hb
      · rw [ins_ne e] at h3; exact ⟨j, q, h1, h2, h3, h4, h5, h6⟩
    · rintro ⟨j, q, h1, h2, h3, h4⟩
      exact ⟨j, q, h1, h2, ins_of h3, h4⟩
theorem nbs {es : List Nat} {k i j : Nat} (e : es[k]? = some i) : notBefore ms (lastOf es (k + 1)) j = true ↔ inM ms j i = false := by
  rw [nb_iff]
  have : es.getD (k + 1 - 1) 0 = i := by rw [Nat.add_sub_cancel, List.getD_eq_getElem?_getD, e]; rfl
  rw [this]
  exact ⟨fun h => h.resolve_left (by omega), .inr⟩
theorem cls_of_rc {i : Nat} {o : Oper} {r : Rc} {rs : List Rc} {hs : List (T AO)} {es : List Nat} (h : RcOk P ex ops.toList ms φ0 rs hs es i o r) (hc : r.cls = 3) : clsOf P o = 3 := by
  rcases h.kind with ⟨e, _⟩ | ⟨e, _⟩ | ⟨e, _⟩ | ⟨_, _, e, _⟩
  · rw [e] at hc; cases hc
  · rw [e] at hc; cases hc
  · rw [e] at hc; cases hc
  · exact e
/-- effects stand in the order of the text -/
theorem eff_lt (hd : DsOk P ex ops.toList N ms φ0 s ops.toList.length d) (hL : StOk P ops.toList ms) {k l e f : Nat} (hkl : k < l) (he : d.es[k]? = some e) (hf : d.es[l]? = some f) : inM ms e f = true := by
  have hlt := hd.inc k l e f hkl he hf
  obtain ⟨h1, r, h2, h3⟩ := hd.esr k e he
  obtain ⟨h4, q, h5, h6⟩ := hd.esr l f hf
  have o1 := List.getElem?_eq_getElem h1
  have o2 := List.getElem?_eq_getElem h4
  have c1 := cls_of_rc (hd.rc e _ r o1 h2) h3
  have c2 := cls_of_rc (hd.rc f _ q o2 h5) h6
  rcases hL.eff e f _ _ o1 o2 (by omega) c1 c2 with h | h
  · exact h
  · have := hL.toMaskOk.lt h; omega
theorem nbk (hd : DsOk P ex ops.toList N ms φ0 s ops.toList.length d) (hL : StOk P ops.toList ms) {k i j : Nat} (e : d.es[k]? = some i) (hj : inM ms j i = false) : notBefore ms (lastOf d.es k) j = true := by
  rw [nb_iff]
  cases k with
  | zero => exact .inl rfl
  | succ k =>
    right
    have hk : k < d.es.length := by have := (List.getElem?_eq_some_iff.1 e).1; omega
    have e1 := List.getElem?_eq_getElem hk
    have e2 : d.es.getD (k + 1 - 1) 0 = d.es[k] := by rw [Nat.add_sub_cancel, List.getD_eq_getElem?_getD, e1]; rfl
    rw [e2]
    cases hq : inM ms j d.es[k] with
    | false => rfl
    | true =>
      have := hL.toMaskOk.trans hq (eff_lt hd hL (Nat.lt_succ_self k) e1 e)
      rw [hj] at this; cases this
theorem Inv.step {E : Nat → Bool} {i k : Nat} {o : Oper} {r : Rc} {a : Act} {w : World} {M : Pm} {K : Act → World → Prop} {Q : Exit → Act → World → Prop} (hng : NoNG P) (hex : CaOk P ex)
    (hd : DsOk P ex ops.toList N ms φ0 s ops.toList.length d) (hL : StOk P ops.toList ms) (hlc : ∀ (i : Nat) (r : Rc), d.rs[i]? = some r → r.cls = 2 → loadChk P ms d.rs i r d.hs 0 d.es = true)
    (h : Inv P ops N ms φ0 s d M0 w0 E a w k M) (n : Nx P ops ms E i o r d) (hK : ∀ a' w' k' M', Inv P ops N ms φ0 s d M0 w0 (ins E i) a' w' k' M' → K a' w') : wpOp P ops Q i K a w := by
  obtain ⟨a2, hf, he, hw⟩ := h.frame hd hL n
  have rc := hd.rc i o r n.o n.r
  have hA : Apart d.rs := hd.apart
  have hS := h.stp.sim
  have hnb := n.eff h
  unfold wpOp
  rw [show ops[i]? = some o by rw [← Array.getElem?_toList]; exact n.o]
  simp only
  rcases rc.kind with ⟨c, hwant, hv, hhi⟩ | ⟨c, hwant, _, hop, hhi⟩ | ⟨c, hwant, hcls, hhi⟩ | ⟨c, hwant, hcls, k', h0, h1, H, last, he1, hh0, hh1, _, hadd, hop⟩
  · rw [if_neg (by rw [← hw, hwant]; simp)]
    have hp : piece r = false := by unfold piece; rw [c]; rfl
    refine hK _ _ k M (h.put hd hL n (by rw [hv]; exact .undef) ?_ (.inl ⟨rfl, by rw [c]; simp⟩) fun j q hj hq hpq hnq => ?_)
    · rw [SG_ins_ne hA n.r hp, hhi]
      exact .refl hS _
    · by_cases e : j = i
      · subst e; rw [n.r] at hq; cases hq; rw [hp] at hpq; cases hpq
      · rw [ins_ne e] at hj; exact h.i1 j q hj hq hpq hnq
  · rw [if_pos (by rw [← hw, hwant])]
    have hfr := h.fresh i r n.r n.no
    have hz : r.lo < r.hi → SG d ms E k r.lo = none := fun hlt => by
      cases hg : SG d ms E k r.lo with
      | none => rfl
      | some ob =>
        obtain ⟨mi, hm, _⟩ := hS.obj _ _ hg
        rw [hfr r.lo (Nat.le_refl _) hlt] at hm; cases hm
    have hok := opF_ok (s := ⟨.nil, r.lo⟩) (s' := ⟨r.pc, r.hi⟩) hng ca0_ok hop (hS.sub (K := (T.nil : T AO).get) fun b ob hb => by rw [T.get_nil] at hb; cases hb) hf hfr
    refine .inl (hok.wp he.symm _ _ fun M' v' w' hv hst => hK _ _ k M' (h.put hd hL n hv ?_ (.inl ⟨rfl, by rw [c]; simp⟩) fun j q hj hq hpq hnq => ?_))
    · refine hst.frame hS hfr (fun b ob hb => by rw [T.get_nil] at hb; cases hb) fun b => ?_
      have hdom : r.pc.get b ≠ none → b = r.lo ∧ r.lo < r.hi := fun hb => by
        rcases hst.dom b hb with h2 | h2
        · exact absurd (T.get_nil b) h2
        · have h3 : r.lo ≤ b := h2.1
          have h4 : b < r.hi := h2.2
          omega
      show SG d ms (ins E i) k b = if (T.nil : T AO).get b = none ∧ r.pc.get b = none then SG d ms E k b else r.pc.get b
      by_cases hp : piece r = true
      · rw [SG_ins_pc hA n.r hp hnb (hz (piece_lt hp).2)]
        by_cases hb : b = r.lo
        · subst hb
          rw [if_pos rfl]
          cases hg : r.pc.get r.lo with
          | none => rw [if_pos ⟨T.get_nil _, rfl⟩, hz (piece_lt hp).2]
          | some ob => rw [if_neg (by simp)]
        · rw [if_neg hb]
          cases hg : r.pc.get b with
          | none => rw [if_pos ⟨T.get_nil _, rfl⟩]
          | some ob => exact absurd (hdom (by rw [hg]; simp)).1 hb
      · have hp' : piece r = false := by simpa using hp
        rw [SG_ins_ne hA n.r hp']
        cases hg : r.pc.get b with
        | none => rw [if_pos ⟨T.get_nil _, rfl⟩]
        | some ob =>
          have h5 := (hdom (by rw [hg]; simp)).2
          exact absurd (show piece r = true by unfold piece; rw [c, ble_nat.2 h5]; rfl) hp
    · by_cases e : j = i
      · subst e; rw [n.r] at hq; cases hq
        cases hg : (d.hs.getD k .nil).get r.lo with
        | none => rfl
        | some ob => have := hz (piece_lt hpq).2; rw [(SG_iff hA).2 (.inl hg)] at this; cases this
      · rw [ins_ne e] at hj; exact h.i1 j q hj hq hpq hnq
  · rw [if_pos (by rw [← hw, hwant])]
    have hp : piece r = false := by unfold piece; rw [c]; rfl
    have hkl : k < d.hs.length := by rw [hd.hsl]; have := h.kle; omega
    have hh := List.getElem?_eq_getElem hkl
    have hms : mayStand ms i (lastOf d.es k) (d.es.drop k) = true := by
      unfold mayStand
      rw [hnb]
      cases hdr : d.es.drop k with
      | nil => rfl
      | cons e es =>
        have he1 : d.es[k]? = some e := by
          have := List.getElem?_drop (xs := d.es) (i := k) (j := 0)
          rw [hdr] at this
          simpa using this.symm
        show Bool.not (inM ms e i) = true
        cases hq : inM ms e i with
        | false => rfl
        | true =>
          have := (h.ek k e he1).1 (n.pre e hq)
          omega
    have hhere : hereOk P ms d.rs i (lastOf d.es k) r d.hs[k] = true := by
      have := loadChk_spec (hlc i r n.r c) k _ hh h.kle
      cases k with
      | zero => exact this hms
      | succ k => exact this hms
    have hload : loadAtH P r.φ o (fun j => Bool.and (inM ms j i) (notBefore ms (lastOf d.es k) j)) d.rs d.hs[k] = some r.v := by
      unfold hereOk at hhere
      rw [rc.op] at hhere
      generalize loadAtH P r.φ o (fun j => Bool.and (inM ms j i) (notBefore ms (lastOf d.es k) j)) d.rs d.hs[k] = x at hhere ⊢
      cases x with
      | none => cases hhere
      | some v => rw [vEq_eq hhere]
    have key : ∀ H : T AO, (∀ b ob, H.get b = some ob → SG d ms E k b = some ob) → opF o.op P ca0 ⟨H, 0⟩ r.φ = some (r.v, ⟨H, 0⟩) → o.wp P a w K Q := by
      intro H hsub hop
      have hok := opF_ok (s := ⟨H, 0⟩) (s' := ⟨H, 0⟩) hng ca0_ok hop (hS.sub hsub) hf (fun b _ hb => by cases hb)
      refine hok.wp he.symm _ _ fun M' v' w' hv hst => hK _ _ k M' (h.put hd hL n hv ?_ (.inl ⟨rfl, by rw [c]; simp⟩) fun j q hj hq hpq hnq => ?_)
      · have := hst.frame hS (fun b _ hb => by cases hb) hsub (H' := SG d ms (ins E i) k) fun b => by
          rw [SG_ins_ne hA n.r hp]
          show _ = if H.get b = none ∧ H.get b = none then _ else H.get b
          cases hg : H.get b with
          | none => rw [if_pos ⟨rfl, rfl⟩]
          | some ob => rw [if_neg (by simp), hsub b ob hg]
        exact this.widen (.inr rfl) (.inr rfl) rc.le
      · by_cases e : j = i
        · subst e; rw [n.r] at hq; cases hq; rw [hp] at hpq; cases hpq
        · rw [ins_ne e] at hj; exact h.i1 j q hj hq hpq hnq
    left
    rcases loadAtH_some hcls hload with hop | ⟨j, q, ob, H, hq, hpq, hsel, hpc, hH, hop⟩
    · exact key _ (fun b ob hb => (SG_iff hA).2 (.inl (by rw [hs_at hh]; exact hb))) hop
    · obtain ⟨s1, s2⟩ := and2 hsel
      refine key H (fun b ob2 hb => ?_) hop
      rw [hH b] at hb
      by_cases e : b = q.lo
      · subst e
        rw [if_pos rfl] at hb
        cases hb
        have hE := n.pre j s1
        exact (SG_iff hA).2 (.inr ⟨h.i1 j q hE hq hpq s2, j, q, hq, hpq, hE, s2, rfl, hpc⟩)
      · rw [if_neg e] at hb; cases hb
  · rw [if_pos (by rw [← hw, hwant])]
    have hkk : k' = k := by
      have e1 : ¬ k' < k := fun hlt => by
        have := (h.ek k' i he1).2 hlt
        rw [n.no] at this; cases this
      by_cases e2 : k < k'
      · have hk : k < d.es.length := by have := (List.getElem?_eq_some_iff.1 he1).1; omega
        have e3 := List.getElem?_eq_getElem hk
        have := (h.ek k _ e3).1 (n.pre _ (eff_lt hd hL e2 e3 he1))
        omega
      · omega
    subst hkk
    have hp : piece r = false := by unfold piece; rw [c]; rfl
    have hfr := h.fresh i r n.r n.no
    have hg0 := hs_at hh0
    have hg1 := hs_at hh1
    have hAt : Apart (d.rs.take i) := fun x y q q2 hxy hq hq2 => by
      rw [List.getElem?_take] at hq hq2
      split at hq
      · split at hq2
        · exact hA x y q q2 hxy hq hq2
        · cases hq2
      · cases hq
    have hKiff := addPcs_iff hadd hAt
    have hKsome : ∀ b ob, H.get b = some ob → (h0.get b = some ob ∧ True) ∨ ∃ (j : Nat) (q : Rc), d.rs[j]? = some q ∧ piece q = true ∧ inM ms j i = true ∧ notBefore ms (lastOf d.es k') j = true ∧ q.lo = b ∧ q.pc.get b = some ob := by
      intro b ob hb
      rw [hKiff b] at hb
      cases hg : pcsG (fun j => Bool.and (inM ms j i) (notBefore ms last j)) (d.rs.take i) 0 b with
      | none => rw [hg] at hb; exact .inl ⟨hb, trivial⟩
      | some ob2 =>
        rw [hg] at hb
        cases hb
        obtain ⟨j, q, g1, g2, g3, g4, g5⟩ := (pcsG_iff hAt).1 hg
        rw [Nat.zero_add] at g3
        obtain ⟨g6, g7⟩ := and2 g3
        rw [List.getElem?_take] at g1
        split at g1
        · exact .inr ⟨j, q, g1, g2, g6, by subst_vars; exact g7, g4, g5⟩
        · cases g1
    have hsub : ∀ b ob, H.get b = some ob → SG d ms E k' b = some ob := by
      intro b ob hb
      rcases hKsome b ob hb with ⟨hb, _⟩ | ⟨j, q, g1, g2, g3, g4, g5, g6⟩
      · exact (SG_iff hA).2 (.inl (by rw [hg0]; exact hb))
      · have hE := n.pre j g3
        refine (SG_iff hA).2 (.inr ⟨?_, j, q, g1, g2, hE, g4, g5, g6⟩)
        rw [← g5]; exact h.i1 j q hE g1 g2 g4
    have hnone : ∀ (j : Nat) (q : Rc), d.rs[j]? = some q → piece q = true → E j = true → inM ms j i = false → H.get q.lo = none := by
      intro j q hq hpq hE hj
      cases hg : H.get q.lo with
      | none => rfl
      | some ob =>
        exfalso
        rcases hKsome _ _ hg with ⟨hb, _⟩ | ⟨j2, q2, g1, g2, g3, g4, g5, g6⟩
        · have := h.i1 j q hE hq hpq (nbk hd hL he1 hj)
          rw [hg0, hb] at this; cases this
        · have := hA.uniq g1 hq g2 hpq g5
          subst this
          rw [hj] at g3; cases g3
    have hok := opF_ok (s := ⟨H, r.lo⟩) (s' := ⟨h1, r.hi⟩) hng hex hop (hS.sub hsub) hf hfr
    refine .inl (hok.wp he.symm _ _ fun M' v' w' hv hst => hK _ _ (k' + 1) M' (h.put hd hL n hv ?_ (.inr ⟨rfl, he1⟩) fun j q hj hq hpq hnq => ?_))
    · refine hst.frame hS hfr hsub fun b => ?_
      show SG d ms (ins E i) (k' + 1) b = if H.get b = none ∧ h1.get b = none then SG d ms E k' b else h1.get b
      have hins : ∀ (j : Nat) (q : Rc), d.rs[j]? = some q → piece q = true → ins E i j = true → E j = true := fun j q hq hpq hj => by
        by_cases e : j = i
        · subst e; rw [n.r] at hq; cases hq; rw [hp] at hpq; cases hpq
        · rw [ins_ne e] at hj; exact hj
      cases hg : h1.get b with
      | some ob => rw [if_neg (by simp)]; exact (SG_iff hA).2 (.inl (by rw [hg1]; exact hg))
      | none =>
        cases hgK : H.get b with
        | some ob =>
          rw [if_neg (by simp)]
          cases hgS : SG d ms (ins E i) (k' + 1) b with
          | none => rfl
          | some ob2 =>
            rcases (SG_iff hA).1 hgS with g | ⟨_, j, q, g1, g2, g3, g4, g5, g6⟩
            · rw [hg1, hg] at g; cases g
            · have := hnone j q g1 g2 (hins j q g1 g2 g3) ((nbs he1).1 g4)
              rw [g5, hgK] at this; cases this
        | none =>
          rw [if_pos ⟨rfl, rfl⟩]
          have hz := hKiff b
          rw [hgK] at hz
          have hz1 : pcsG (fun j => Bool.and (inM ms j i) (notBefore ms last j)) (d.rs.take i) 0 b = none ∧ h0.get b = none := by
            cases hq : pcsG (fun j => Bool.and (inM ms j i) (notBefore ms last j)) (d.rs.take i) 0 b with
            | none => rw [hq] at hz; exact ⟨rfl, hz.symm⟩
            | some _ => rw [hq] at hz; cases hz
          refine Option.ext fun ob => ?_
          rw [SG_iff hA, SG_iff hA, hg0, hg1, hg, hz1.2]
          constructor
          · rintro (g | ⟨_, j, q, g1, g2, g3, g4, g5⟩)
            · cases g
            · exact .inr ⟨rfl, j, q, g1, g2, hins j q g1 g2 g3, nbk hd hL he1 ((nbs he1).1 g4), g5⟩
          · rintro (g | ⟨_, j, q, g1, g2, g3, g4, g5, g6⟩)
            · cases g
            · refine .inr ⟨rfl, j, q, g1, g2, ins_of g3, (nbs he1).2 ?_, g5, g6⟩
              cases hm : inM ms j i with
              | false => rfl
              | true =>
                have hlt := hL.toMaskOk.lt hm
                have : pcsG (fun j => Bool.and (inM ms j i) (notBefore ms last j)) (d.rs.take i) 0 b = some ob :=
                  (pcsG_iff hAt).2 ⟨j, q, by rw [List.getElem?_take, if_pos hlt]; exact g1, g2, by rw [Nat.zero_add]; subst_vars; rw [hm, g4]; rfl, g5, g6⟩
                rw [hz1.1] at this; cases this
    · have e : j ≠ i := fun e => by subst e; rw [n.r] at hq; cases hq; rw [hp] at hpq; cases hpq
      rw [ins_ne e] at hj
      have hm := (nbs he1).1 hnq
      rw [hg1]
      cases hg : h1.get q.lo with
      | none => rfl
      | some ob =>
        exfalso
        rcases hst.dom q.lo (show h1.get q.lo ≠ none by rw [hg]; simp) with g | g
        · exact g (hnone j q hq hpq hj hm)
        · have g1 : r.lo ≤ q.lo := g.1
          have g2 : q.lo < r.hi := g.2
          have g3 := (piece_lt hpq).2
          rcases Nat.lt_or_gt_of_ne e with g4 | g4
          · have := hA j i q r g4 hq n.r; omega
          · have := hA i j r q g4 n.r hq; omega
end
end Go.Proofs.YtjdehneddakpnaaGreatDoor.ev
namespace Go.Proofs.YtjdehneddakpnaaGreatDoor.ev
open Go Go.RowKit
section
variable {P : Program} {ex : CaF} {ops : Array Oper} {N : Nat} {ms : List Nat} {φ0 : T Value} {s : St} {d : Ds} {M0 : Pm} {w0 : World}
theorem ready_nil {listed : Array Bool} (hL : StOk P ops.toList ms) (hsz : listed.size = ops.size) (h : Region.ready .any ops listed = []) : ∀ j, j < ops.size → listed.getD j false = true := by
  intro j
  induction j using Nat.strongRecOn with
  | _ j ih =>
    intro hj
    cases hq : listed.getD j false with
    | true => rfl
    | false =>
      have hlt : j < listed.size := by omega
      have : j ∈ Region.ready .any ops listed := mem_ready.2 ⟨by
        rw [Array.getD_eq_getD_getElem?, Array.getElem?_eq_getElem hlt] at hq ⊢
        exact hq, ops[j], Array.getElem?_eq_getElem hj, fun e he hb => by
          have ho : ops.toList[j]? = some ops[j] := by rw [Array.getElem?_toList]; exact Array.getElem?_eq_getElem hj
          obtain ⟨h1, _, _⟩ := hL.edge j _ e ho (by simpa using he) hb
          exact ih e.on h1 (by omega)⟩
      rw [h] at this; cases this
theorem count_set {l : Array Bool} {i : Nat} (h : i < l.size) (hf : l.getD i true = false) : (l.setIfInBounds i true).toList.count false + 1 = l.toList.count false := by
  rw [Array.toList_setIfInBounds]
  have h1 : l.toList[i]'(by simpa using h) = false := by
    rw [Array.getD_eq_getD_getElem?, Array.getElem?_eq_getElem h] at hf
    simpa using hf
  have h2 := List.count_set (l := l.toList) (i := i) (a := true) (b := false) (by simpa using h)
  have e1 : (if (l.toList[i]'(by simpa using h) == false) = true then 1 else 0) = 1 := by rw [h1]; rfl
  have e2 : (if ((true : Bool) == false) = true then 1 else 0) = 0 := rfl
  have h3 : 0 < l.toList.count false := List.count_pos_iff.2 (by rw [← h1]; exact List.getElem_mem _)
  omega
theorem count_zero {l : Array Bool} (h : l.toList.count false = 0) : ∀ j, j < l.size → l.getD j false = true := by
  intro j hj
  have h1 : l.toList[j]'(by simpa using hj) ≠ false := fun e => by
    have := List.count_eq_zero.1 h
    exact this (by rw [← e]; exact List.getElem_mem _)
  rw [Array.getD_eq_getD_getElem?, Array.getElem?_eq_getElem hj]
  simpa using h1
theorem Inv.done (hd : DsOk P ex ops.toList N ms φ0 s ops.toList.length d) {h' : T AO} (hadd : addPcs (notBefore ms d.last) d.rs 0 d.h = some h') {E : Nat → Bool} {a : Act} {w : World} {k : Nat} {M : Pm} (h : Inv P ops N ms φ0 s d M0 w0 E a w k M) (hall : ∀ j, j < ops.size → E j = true) :
    Stp P s.h.get M0 w0 h'.get M w s.nx d.nx ∧ FR P M d.φ a N := by
  have hA : Apart d.rs := hd.apart
  have hk : k = d.es.length := by
    have := h.kle
    by_cases hlt : k < d.es.length
    · have e1 := List.getElem?_eq_getElem hlt
      have h2 := (hd.esr k _ e1).1
      have := (h.ek k _ e1).1 (hall _ (by simpa using h2))
      omega
    · omega
  subst hk
  have hcur : d.hs.getD d.es.length .nil = d.h := hs_at hd.cur
  have hE : ∀ (j : Nat) (q : Rc), d.rs[j]? = some q → E j = true := fun j q hq => hall j (by
    have := (List.getElem?_eq_some_iff.1 hq).1
    rw [hd.len] at this
    simpa using this)
  refine ⟨?_, fun t => ?_, h.size, h.defers, h.glob⟩
  · have : h'.get = SG d ms E d.es.length := by
      funext b
      rw [addPcs_iff hadd hA b]
      refine Option.ext fun ob => ?_
      rw [SG_iff hA, hcur]
      cases hg : pcsG (notBefore ms d.last) d.rs 0 b with
      | some ob2 =>
        obtain ⟨j, q, g1, g2, g3, g4, g5⟩ := (pcsG_iff hA).1 hg
        rw [Nat.zero_add, hd.last] at g3
        have hz := h.i1 j q (hE j q g1) g1 g2 g3
        rw [hcur, g4] at hz
        constructor
        · intro e
          cases e
          exact .inr ⟨hz, j, q, g1, g2, hE j q g1, g3, g4, g5⟩
        · rintro (g | ⟨_, j2, q2, k1, k2, k3, k4, k5, k6⟩)
          · rw [hz] at g; cases g
          · have := hA.uniq k1 g1 k2 g2 (k5.trans g4.symm)
            subst this
            rw [g1] at k1; cases k1
            rw [g5] at k6; exact k6
      | none =>
        constructor
        · exact fun e => .inl e
        · rintro (g | ⟨_, j2, q2, k1, k2, k3, k4, k5, k6⟩)
          · exact g
          · have : pcsG (notBefore ms d.last) d.rs 0 b = some ob := (pcsG_iff hA).2 ⟨j2, q2, k1, k2, by rw [Nat.zero_add, hd.last]; exact k4, k5, k6⟩
            rw [hg] at this; cases this
    rw [this]
    exact h.stp
  · by_cases hex : ∃ (j : Nat) (oj : Oper), ops.toList[j]? = some oj ∧ oj.dst = some t
    · obtain ⟨j, oj, h1, h2⟩ := hex
      have hjl : j < d.rs.length := by rw [hd.len]; exact (List.getElem?_eq_some_iff.1 h1).1
      have h4 := List.getElem?_eq_getElem hjl
      rw [hd.phi.1 j _ oj t h4 h1 h2]
      exact h.fr1 j oj _ t h1 h4 h2 (hE j _ h4)
    · rw [hd.phi.2 t fun j q oj hq hoj e => hex ⟨j, oj, hoj, e⟩]
      exact h.fr2 t fun j oj hoj _ e => hex ⟨j, oj, hoj, e⟩
theorem any_ok {Q : Exit → Act → World → Prop} {h' : T AO} (hng : NoNG P) (hex : CaOk P ex) (hd : DsOk P ex ops.toList N ms φ0 s ops.toList.length d) (hL : StOk P ops.toList ms) (hlc : ∀ (i : Nat) (r : Rc), d.rs[i]? = some r → r.cls = 2 → loadChk P ms d.rs i r d.hs 0 d.es = true)
    (hadd : addPcs (notBefore ms d.last) d.rs 0 d.h = some h') (hQ : ∀ M' a' w', Stp P s.h.get M0 w0 h'.get M' w' s.nx d.nx → FR P M' d.φ a' N → Q .normal a' w') :
    ∀ (fuel : Nat) (listed : Array Bool) (a : Act) (w : World) (k : Nat) (M : Pm), listed.size = ops.size → listed.toList.count false ≤ fuel → Inv P ops N ms φ0 s d M0 w0 (fun j => listed.getD j false) a w k M → wpAny P .any ops Q fuel listed a w := by
  intro fuel
  induction fuel with
  | zero =>
    intro listed a w k M hsz hc h
    have hall := count_zero (Nat.le_zero.1 hc)
    have hdone := h.done hd hadd (fun j hj => hall j (by omega))
    refine ⟨?_, hQ M a w hdone.1 hdone.2⟩
    refine List.eq_nil_iff_forall_not_mem.2 fun j hj => ?_
    obtain ⟨h1, o, h2, _⟩ := mem_ready.1 hj
    have hlt : j < listed.size := by rw [hsz]; exact (Array.getElem?_eq_some_iff.1 h2).1
    have := hall j hlt
    rw [Array.getD_eq_getD_getElem?, Array.getElem?_eq_getElem hlt] at h1 this
    simp at h1 this
    rw [this] at h1; cases h1
  | succ fuel ih =>
    intro listed a w k M hsz hc h
    refine ⟨fun hr => ?_, fun i hi => ?_⟩
    · have hdone := h.done hd hadd (ready_nil hL hsz hr)
      exact hQ M a w hdone.1 hdone.2
    · obtain ⟨h1, o, h2, h3⟩ := mem_ready.1 hi
      have hlt0 : i < ops.size := (Array.getElem?_eq_some_iff.1 h2).1
      have hlt : i < listed.size := by omega
      have ho : ops.toList[i]? = some o := by rw [Array.getElem?_toList]; exact h2
      have hrl : i < d.rs.length := by rw [hd.len]; simpa using hlt0
      have hno : listed.getD i false = false := by
        rw [Array.getD_eq_getD_getElem?, Array.getElem?_eq_getElem hlt] at h1 ⊢
        exact h1
      have n : Nx P ops ms (fun j => listed.getD j false) i o d.rs[i] d := ⟨ho, List.getElem?_eq_getElem hrl, hno, fun j hj => by
        obtain ⟨o2, e, g1, g2, g3, _, g4⟩ := hL.back j i hj
        rw [ho] at g1; cases g1
        have g5 := h3 e (by simpa using g2) g3
        rcases g4 with rfl | g4
        · exact g5
        · exact h.down j e.on g4 g5⟩
      refine h.step hng hex hd hL hlc n fun a' w' k' M' h' => ?_
      have hE : ins (fun j => listed.getD j false) i = fun j => (listed.setIfInBounds i true).getD j false := by
        funext j
        unfold ins
        by_cases e : j = i
        · subst e
          have e3 : (listed.setIfInBounds j true).getD j false = true := by
            rw [Array.getD_eq_getD_getElem?, Array.getElem?_setIfInBounds_self_of_lt hlt]; rfl
          rw [e3]
          simp
        · rw [getD_set_ne false (Ne.symm e)]
          simp [e]
      rw [hE] at h'
      refine ih _ a' w' k' M' (by simpa using hsz) ?_ h'
      have := count_set hlt h1
      omega
theorem drawW_ok {id : Nat} {s' : St} {φ φ' : T Value} (hmix : P.follows .mixedOrders = true) (hng : NoNG P) (hex : CaOk P ex) (h : drawW P ex ops.toList N s φ = some (s', φ')) : s.nx ≤ s'.nx ∧
    ∀ (M : Pm) (a : Act) (w : World), Sim P M s.h.get w → FR P M φ a N → Fresh M s.nx s'.nx → ∀ Q : Exit → Act → World → Prop,
      (∀ M' a' w', Stp P s.h.get M w s'.h.get M' w' s.nx s'.nx → FR P M' φ' a' N → Q .normal a' w') → (Code.region id ops true).wp P Q a w := by
  obtain ⟨ms, hst, h1⟩ := bnd_some.1 h
  obtain ⟨d, hdr, h2⟩ := bnd_some.1 h1
  obtain ⟨hck, h3⟩ := bB_some.1 h2
  obtain ⟨h', hadd, h4⟩ := bnd_some.1 h3
  cases h4
  have hL := staticOk_spec hst
  have hd := drawAll_ok (pre := []) hL rfl (DsOk.start s φ) hdr
  have hlc : ∀ (i : Nat) (r : Rc), d.rs[i]? = some r → r.cls = 2 → loadChk P ms d.rs i r d.hs 0 d.es = true := fun i r hr hc => by
    have := allIx_spec hck i r hr
    rw [Nat.zero_add] at this
    rcases or2 this with h5 | h5
    · rw [hc] at h5; cases h5
    · exact h5
  refine ⟨hd.lo0.1, fun M a w hS hf hfr Q hQ => ?_⟩
  have hE : (fun j => (Array.replicate ops.size false).getD j false) = fun _ => false := by
    funext j
    rw [Array.getD_eq_getD_getElem?, Array.getElem?_replicate]
    split <;> rfl
  refine wp_region_any hmix (any_ok (M0 := M) (w0 := w.drew) hng hex hd hL hlc hadd (fun M' a' w' hs hf' => hQ M' a' w' ((Stp.drewStp hS s.nx).trans hs) hf') _ _ _ _ 0 M (by simp) (by simp) ?_)
  rw [hE]
  have h0 : d.hs.getD 0 .nil = s.h := hs_at hd.h0
  refine ⟨Nat.zero_le _, fun l e _ => ⟨fun h => (by cases h), fun h => (by omega)⟩, ?_, fun i r hr _ b h5 h6 => ?_, fun i o r t _ _ _ h => (by cases h), fun t _ => hf.at_ t, hf.size, hf.defers, hf.glob, fun j r h => (by cases h), fun i j _ h => (by cases h)⟩
  · have : SG d ms (fun _ => false) 0 = s.h.get := by
      funext b
      refine Option.ext fun ob => ?_
      rw [SG_iff hd.apart, h0]
      exact ⟨fun h => h.elim (fun h => h) fun ⟨_, j, r, _, _, h, _⟩ => (by cases h), .inl⟩
    rw [this]
    exact (Stp.refl (Stp.drewStp hS s.nx).sim s.nx).widen (.inr rfl) (.inr rfl) hd.lo0.1
  · have := hd.lo0.2 i r hr
    exact hfr b (by omega) (by show b < d.nx; omega)
end
end Go.Proofs.YtjdehneddakpnaaGreatDoor.ev
namespace Go.Proofs.YtjdehneddakpnaaGreatDoor.ev
open Go Go.RowKit
section
variable {P : Program}
theorem thenO_some {r : Out} {f : St → T Value → Option Out} {e : Ex} {s' : St} {φ' : T Value} (h : thenO r f = some (.mk e s' φ')) : (∃ s φ, r = .mk .normal s φ ∧ f s φ = some (.mk e s' φ')) ∨ (r = .mk e s' φ' ∧ e ≠ .normal) := by
  obtain ⟨e0, s, φ⟩ := r
  cases e0 with
  | normal => exact .inl ⟨s, φ, rfl, h⟩
  | exit id => cases (show some (Out.mk (.exit id) s φ) = some (.mk e s' φ') from h); exact .inr ⟨rfl, by simp⟩
  | ret => cases (show some (Out.mk .ret s φ) = some (.mk e s' φ') from h); exact .inr ⟨rfl, by simp⟩
theorem then_ne {e : Ex} (he : e ≠ .normal) {K : Act → World → Prop} {Q : Exit → Act → World → Prop} {a : Act} {w : World} (h : Q (exOf e) a w) : Exit.then K Q (exOf e) a w := by
  cases e with
  | normal => exact absurd rfl he
  | exit id => exact h
  | ret => exact h
/-- a loop that ends is a number of rounds -/
def LoopOk (P : Program) (ex : ExF) : Prop := ∀ (b : Code) (s : St) (φ : T Value) (N : Nat) (e : Ex) (s' : St) (φ' : T Value), ex (.loop b) s φ N = some (.mk e s' φ') → s.nx ≤ s'.nx ∧
  ∃ k, ∀ (M : Pm) (a : Act) (w : World), Sim P M s.h.get w → FR P M φ a N → Fresh M s.nx s'.nx → ∀ Q : Exit → Act → World → Prop,
    (∀ M' a' w', Stp P s.h.get M w s'.h.get M' w' s.nx s'.nx → FR P M' φ' a' N → Q (exOf e) a' w') → Code.rounds P b Q k a w
/-- a piece of code, then another -/
theorem two {c : Code} {ex : ExF} {s : St} {φ : T Value} {N : Nat} {s1 : St} {φ1 : T Value} {s' : St} {M : Pm} {a : Act} {w : World} {K : Act → World → Prop} {Q : Exit → Act → World → Prop} (hex : ExOk P ex) (h1 : ex c s φ N = some (.mk .normal s1 φ1)) (hle : s1.nx ≤ s'.nx)
    (hS : Sim P M s.h.get w) (hf : FR P M φ a N) (hfr : Fresh M s.nx s'.nx)
    (hK : ∀ M1 a1 w1, Stp P s.h.get M w s1.h.get M1 w1 s.nx s1.nx → Sim P M1 s1.h.get w1 → FR P M1 φ1 a1 N → Fresh M1 s1.nx s'.nx → K a1 w1) : c.wp P (Exit.then K Q) a w := by
  obtain ⟨hl1, hk⟩ := hex c s φ N .normal s1 φ1 h1
  refine hk M a w hS hf (fun b h2 h3 => hfr b h2 (by omega)) _ fun M1 a1 w1 hst hf1 => hK M1 a1 w1 hst hst.sim hf1 fun b h2 h3 => ?_
  rw [hst.ext b (by omega)]
  exact hfr b (by omega) h3
theorem vEqN_eq {x y : Value} (h : vEqN x y = true) : x = y := by
  unfold vEqN at h
  split at h
  · cases y <;> simp only at h <;> (try cases h)
    obtain ⟨h1, h2⟩ := and2 h
    rw [beq_nat.1 h1, vEq_eq h2]
  · exact vEq_eq h
theorem vEqNL_eq : ∀ {xs ys : List Value}, vEqNL xs ys = true → xs = ys
  | [], [], _ => rfl
  | [], _ :: _, h => by cases h
  | _ :: _, [], h => by cases h
  | x :: xs, y :: ys, h => by
    have h' : Bool.rec (motive := fun _ => Bool) false (vEqNL xs ys) (vEqN x y) = true := h
    cases h0 : vEqN x y with
    | false => rw [h0] at h'; cases h'
    | true => rw [h0] at h'; rw [vEqN_eq h0, vEqNL_eq h']
theorem meEqL_eq : ∀ {xs ys : List MapEntry}, meEqL xs ys = true → xs = ys
  | [], [], _ => rfl
  | [], _ :: _, h => by cases h
  | _ :: _, [], h => by cases h
  | x :: xs, y :: ys, h => by
    have h' : Bool.rec (motive := fun _ => Bool) false (meEqL xs ys) (Bool.and (Nat.beq x.born y.born) (Bool.and (vEqN x.key y.key) (vEqN x.val y.val))) = true := h
    cases h0 : Bool.and (Nat.beq x.born y.born) (Bool.and (vEqN x.key y.key) (vEqN x.val y.val)) with
    | false => rw [h0] at h'; cases h'
    | true =>
      rw [h0] at h'
      obtain ⟨h1, h2⟩ := and2 h0
      obtain ⟨h3, h4⟩ := and2 h2
      obtain ⟨k1, v1, b1⟩ := x
      obtain ⟨k2, v2, b2⟩ := y
      simp only at h1 h3 h4
      rw [beq_nat.1 h1, vEqN_eq h3, vEqN_eq h4, meEqL_eq h']
theorem aoEq_eq : ∀ {x y : AO}, aoEq x y = true → x = y
  | .cells a t r, .cells b u q, h => by
    obtain ⟨h1, h2⟩ := and2 (show Bool.and (Bool.and (Nat.beq t u) (Bool.rec (motive := fun _ => Bool) (Bool.not q) q r)) (vEqNL a b) = true from h)
    obtain ⟨h3, h4⟩ := and2 h1
    have e : r = q := by cases r <;> cases q <;> first | rfl | cases h4
    rw [beq_nat.1 h3, vEqNL_eq h2, e]
  | .chan a, .chan b, h => by rw [beq_nat.1 (show Nat.beq a b = true from h)]
  | .map a c, .map b d, h => by
    obtain ⟨h1, h2⟩ := and2 (show Bool.and (Nat.beq c d) (meEqL a b) = true from h)
    rw [beq_nat.1 h1, meEqL_eq h2]
  | .cells .., .map .., h => by cases h
  | .cells .., .chan .., h => by cases h
  | .map .., .cells .., h => by cases h
  | .map .., .chan .., h => by cases h
  | .chan .., .cells .., h => by cases h
  | .chan .., .map .., h => by cases h
theorem subT_get : ∀ {x y : T AO}, subT x y = true → ∀ k o, x.get k = some o → y.get k = some o
  | .nil, y, _, k, o, h => by rw [T.get_nil] at h; cases h
  | .node v l r, .nil, h, _, _, _ => by cases h
  | .node v l r, .node v' l' r', h, k, o, hk => by
    have h' : Bool.rec (motive := fun _ => Bool) false (Bool.rec (motive := fun _ => Bool) false (subT r r') (subT l l')) (Option.rec (motive := fun _ => Bool) true (fun a => Option.rec (motive := fun _ => Bool) false (fun b => aoEq a b) v') v) = true := h
    cases h0 : (Option.rec (motive := fun _ => Bool) true (fun a => Option.rec (motive := fun _ => Bool) false (fun b => aoEq a b) v') v : Bool) with
    | false => rw [h0] at h'; cases h'
    | true =>
      rw [h0] at h'
      have h1 : Bool.rec (motive := fun _ => Bool) false (subT r r') (subT l l') = true := h'
      cases h2 : subT l l' with
      | false => rw [h2] at h1; cases h1
      | true =>
        rw [h2] at h1
        cases k with
        | zero =>
          have e : v = some o := hk
          subst e
          cases v' with
          | none => cases h0
          | some b => rw [aoEq_eq (show aoEq o b = true from h0)]; rfl
        | succ k =>
          have e : Nat.rec (motive := fun _ => Option AO) (l.get (Nat.div k 2)) (fun _ _ => r.get (Nat.div k 2)) (Nat.mod k 2) = some o := hk
          show Nat.rec (motive := fun _ => Option AO) (l'.get (Nat.div k 2)) (fun _ _ => r'.get (Nat.div k 2)) (Nat.mod k 2) = some o
          cases hm : Nat.mod k 2 with
          | zero => rw [hm] at e; exact subT_get h2 _ _ e
          | succ m => rw [hm] at e; exact subT_get h1 _ _ e
theorem Stp.part {H H' K K' : Hp} {M M' : Pm} {w w' : World} {lo hi : Nat} (h : Stp P K M w K' M' w' lo hi) (hK : ∀ b o, K b = some o → H b = some o) (hK' : ∀ b o, H' b = some o → K' b = some o) : Stp P H M w H' M' w' lo hi :=
  ⟨h.sim.sub hK', h.ext, h.size, fun c hc hn => h.keep c hc fun b o mi hb ho hm => hn b o mi (hK b o hb) ho hm, fun b o mi hb hm => by
    rcases h.born b o mi (hK' b o hb) hm with h1 | ⟨b0, o0, mi0, h1, h2, h3, h4⟩
    · exact .inl h1
    · exact .inr ⟨b0, o0, mi0, hK _ _ h1, h2, h3, h4⟩, fun b hb => by
    obtain ⟨o, ho⟩ := Option.ne_none_iff_exists'.1 hb
    rcases h.dom b (by rw [hK' b o ho]; simp) with h1 | h1
    · obtain ⟨o2, ho2⟩ := Option.ne_none_iff_exists'.1 h1
      exact .inl (by rw [hK b o2 ho2]; simp)
    · exact .inr h1, h.os, h.tape, h.output, h.le⟩
def EnOk (P : Program) (en : En) : Prop := CallOk P en.f en.args en.s en.v en.s'
theorem enChk_ok {f : FuncId} {args : List Value} {s s' : St} {v : Value} {ca : CaF} (hca : CaOk P ca) (h : enChk (ca f args s) v s' = true) : EnOk P ⟨f, args, s, v, s'⟩ := by
  cases hr : ca f args s with
  | none => rw [hr] at h; cases h
  | some p =>
    obtain ⟨u, t⟩ := p
    rw [hr] at h
    obtain ⟨h1, h2⟩ := and2 (show Bool.and (Bool.and (vEqN v u) (Nat.beq t.nx s'.nx)) (subT s'.h t.h) = true from h)
    obtain ⟨h3, h4⟩ := and2 h1
    have e1 := vEqN_eq h3
    have e2 := beq_nat.1 h4
    subst e1
    obtain ⟨k1, k2, k3⟩ := hca f args s v t hr
    refine ⟨e2 ▸ k1, k2, fun M A w hl hS hf hg R hR => k3 M A w hl hS (e2 ▸ hf) hg R fun M' v' w' hv hst => hR M' v' w' hv ?_⟩
    have := hst.part (H' := s'.h.get) (fun _ _ h => h) (subT_get h2)
    rw [e2] at this
    exact this
theorem callT_ok {tab : List En} {ca : CaF} (ht : ∀ en ∈ tab, EnOk P en) (hca : CaOk P ca) : CaOk P (callT tab ca) := by
  intro f args s v s' h
  induction tab with
  | nil => exact hca f args s v s' h
  | cons en tab ih =>
    have h' : Bool.rec (motive := fun _ => Option (Value × St)) (callT tab ca f args s) (some (en.v, en.s')) (enFits en f args s) = some (v, s') := h
    cases hq : enFits en f args s with
    | false => rw [hq] at h'; exact ih (fun en he => ht en (List.mem_cons_of_mem _ he)) h'
    | true =>
      rw [hq] at h'
      cases (show some (en.v, en.s') = some (v, s') from h')
      have hq' : Bool.rec (motive := fun _ => Bool) false (Bool.rec (motive := fun _ => Bool) false (subT en.s.h s.h) (vEqNL en.args args)) (Bool.and (Nat.beq en.f f) (Nat.beq en.s.nx s.nx)) = true := hq
      cases q1 : Bool.and (Nat.beq en.f f) (Nat.beq en.s.nx s.nx) with
      | false => rw [q1] at hq'; cases hq'
      | true =>
        rw [q1] at hq'
        obtain ⟨q2, q3⟩ := and2 q1
        have hq2 : Bool.rec (motive := fun _ => Bool) false (subT en.s.h s.h) (vEqNL en.args args) = true := hq'
        cases q4 : vEqNL en.args args with
        | false => rw [q4] at hq2; cases hq2
        | true =>
          rw [q4] at hq2
          have q5 : subT en.s.h s.h = true := hq2
          have e1 := beq_nat.1 q2
          have e2 := beq_nat.1 q3
          have e3 := vEqNL_eq q4
          obtain ⟨k1, k2, k3⟩ := ht en (List.mem_cons_self)
          subst e1 e3
          refine ⟨e2 ▸ k1, k2, fun M A w hl hS hf hg R hR => k3 M A w hl (hS.sub (subT_get q5)) (e2 ▸ hf) hg R fun M' v' w' hv hst => hR M' v' w' hv ?_⟩
          have := hst.part (H := s.h.get) (subT_get q5) (fun _ _ h => h)
          rw [e2] at this
          exact this
theorem exec_ok {tab : List En} (ht : ∀ en ∈ tab, EnOk P en) (hmix : P.follows .mixedOrders = true) (hng : NoNG P) : ∀ n, ExOk P (exec P tab n) ∧ LoopOk P (exec P tab n) := by
  intro n
  induction n with
  | zero => exact ⟨fun c s φ N e s' φ' h => (nomatch h), fun b s φ N e s' φ' h => (nomatch h)⟩
  | succ n ih =>
    obtain ⟨hex, hlp⟩ := ih
    have hca := callT_ok ht (callW_ok hex)
    have loop : LoopOk P (exec P tab (n + 1)) := by
      intro b s φ N e s' φ' h
      obtain ⟨r, hr, h1⟩ := bnd_some.1 (show bnd (exec P tab n b s φ N) (fun r => thenO r fun s φ => exec P tab n (.loop b) s φ N) = some (.mk e s' φ') from h)
      rcases thenO_some h1 with ⟨s1, φ1, rfl, h2⟩ | ⟨rfl, hne⟩
      · obtain ⟨hle, k, hk⟩ := hlp b s1 φ1 N e s' φ' h2
        obtain ⟨hle1, _⟩ := hex b s φ N .normal s1 φ1 hr
        refine ⟨by omega, k + 1, fun M a w hS hf hfr Q hQ => ?_⟩
        rw [rounds_succ]
        exact two hex hr hle hS hf hfr fun M1 a1 w1 hst hS1 hf1 hfr1 => hk M1 a1 w1 hS1 hf1 hfr1 Q fun M' a' w' hst2 hf2 => hQ M' a' w' (hst.trans hst2) hf2
      · obtain ⟨hle1, hk⟩ := hex b s φ N e s' φ' hr
        refine ⟨hle1, 1, fun M a w hS hf hfr Q hQ => ?_⟩
        rw [rounds_succ]
        exact hk M a w hS hf hfr _ fun M' a' w' hst hf2 => then_ne hne (hQ M' a' w' hst hf2)
    refine ⟨fun c s φ N e s' φ' h => ?_, loop⟩
    cases c with
    | skip =>
      cases (show some (Out.mk .normal s φ) = some (.mk e s' φ') from h)
      exact ⟨Nat.le_refl _, fun M a w hS hf _ Q hQ => wp_skip (hQ M a w (.refl hS _) hf)⟩
    | label l =>
      cases (show some (Out.mk .normal s φ) = some (.mk e s' φ') from h)
      exact ⟨Nat.le_refl _, fun M a w hS hf _ Q hQ => wp_label (hQ M a w (.refl hS _) hf)⟩
    | exit id =>
      cases (show some (Out.mk (.exit id) s φ) = some (.mk e s' φ') from h)
      exact ⟨Nat.le_refl _, fun M a w hS hf _ Q hQ => wp_exit (hQ M a w (.refl hS _) hf)⟩
    | ret =>
      cases (show some (Out.mk .ret s φ) = some (.mk e s' φ') from h)
      exact ⟨Nat.le_refl _, fun M a w hS hf _ Q hQ => wp_ret (hQ M a w (.refl hS _) hf)⟩
    | seq x y =>
      obtain ⟨r, hr, h1⟩ := bnd_some.1 (show bnd (exec P tab n x s φ N) (fun r => thenO r fun s φ => exec P tab n y s φ N) = some (.mk e s' φ') from h)
      rcases thenO_some h1 with ⟨s1, φ1, rfl, h2⟩ | ⟨rfl, hne⟩
      · obtain ⟨hle, hk⟩ := hex y s1 φ1 N e s' φ' h2
        obtain ⟨hle1, _⟩ := hex x s φ N .normal s1 φ1 hr
        refine ⟨by omega, fun M a w hS hf hfr Q hQ => wp_seq ?_⟩
        exact two hex hr hle hS hf hfr fun M1 a1 w1 hst hS1 hf1 hfr1 => hk M1 a1 w1 hS1 hf1 hfr1 Q fun M' a' w' hst2 hf2 => hQ M' a' w' (hst.trans hst2) hf2
      · obtain ⟨hle1, hk⟩ := hex x s φ N e s' φ' hr
        exact ⟨hle1, fun M a w hS hf hfr Q hQ => wp_seq (hk M a w hS hf hfr _ fun M' a' w' hst hf2 => then_ne hne (hQ M' a' w' hst hf2))⟩
    | cond c x y =>
      obtain ⟨v, hv, h1⟩ := bnd_some.1 (show bnd (ev P φ c) (fun v => bnd (asBool v) fun t => bE t (exec P tab n x s φ N) (exec P tab n y s φ N)) = some (.mk e s' φ') from h)
      obtain ⟨t, ht, h2⟩ := bnd_some.1 h1
      rcases bE_some.1 h2 with ⟨rfl, h3⟩ | ⟨rfl, h3⟩
      · obtain ⟨hle, hk⟩ := hex x s φ N e s' φ' h3
        exact ⟨hle, fun M a w hS hf hfr Q hQ => wp_cond_true (asBool_VR ht (ev_VR hv hf)).2 (hk M a w hS hf hfr Q hQ)⟩
      · obtain ⟨hle, hk⟩ := hex y s φ N e s' φ' h3
        exact ⟨hle, fun M a w hS hf hfr Q hQ => wp_cond_false (asBool_VR ht (ev_VR hv hf)).2 (hk M a w hS hf hfr Q hQ)⟩
    | block id b =>
      obtain ⟨⟨e0, s0, φ0⟩, hr, h1⟩ := bnd_some.1 (show bnd (exec P tab n b s φ N) (fun r => blockO id r) = some (.mk e s' φ') from h)
      obtain ⟨hle, hk⟩ := hex b s φ N e0 s0 φ0 hr
      cases e0 with
      | normal =>
        cases (show some (Out.mk .normal s0 φ0) = some (.mk e s' φ') from h1)
        exact ⟨hle, fun M a w hS hf hfr Q hQ => wp_block (hk M a w hS hf hfr _ fun M' a' w' hst hf2 => hQ M' a' w' hst hf2)⟩
      | ret =>
        cases (show some (Out.mk .ret s0 φ0) = some (.mk e s' φ') from h1)
        exact ⟨hle, fun M a w hS hf hfr Q hQ => wp_block (hk M a w hS hf hfr _ fun M' a' w' hst hf2 => hQ M' a' w' hst hf2)⟩
      | exit id' =>
        rcases bE_some.1 (show bE (Nat.beq id' id) (some (Out.mk .normal s0 φ0)) (some (.mk (.exit id') s0 φ0)) = some (.mk e s' φ') from h1) with ⟨he, h2⟩ | ⟨he, h2⟩
        · cases h2
          have : id' = id := beq_nat.1 he
          subst this
          exact ⟨hle, fun M a w hS hf hfr Q hQ => wp_block (hk M a w hS hf hfr _ fun M' a' w' hst hf2 => by
            show Exit.inBlock id' Q (.exit id') a' w'
            simp only [Exit.inBlock, if_true]
            exact hQ M' a' w' hst hf2)⟩
        · cases h2
          have hne : id' ≠ id := fun e => by subst e; rw [Nat.beq_refl] at he; cases he
          exact ⟨hle, fun M a w hS hf hfr Q hQ => wp_block (hk M a w hS hf hfr _ fun M' a' w' hst hf2 => by
            show Exit.inBlock id Q (.exit id') a' w'
            simp only [Exit.inBlock, if_neg hne]
            exact hQ M' a' w' hst hf2)⟩
    | loop b =>
      obtain ⟨hle, k, hk⟩ := loop b s φ N e s' φ' h
      exact ⟨hle, fun M a w hS hf hfr Q hQ => wp_loop_rounds k (hk M a w hS hf hfr Q hQ)⟩
    | region id ops draw =>
      rcases bE_some.1 (show bE draw (outN (drawW P (callT tab (callW P (exec P tab n))) ops.toList N s φ)) (outN (runOps P (callT tab (callW P (exec P tab n))) ops.toList N ops.toList s φ)) = some (.mk e s' φ') from h) with ⟨rfl, h1⟩ | ⟨rfl, h1⟩
      · obtain ⟨s1, φ1, h2, h3⟩ := bnd2_some.1 h1
        cases h3
        exact drawW_ok hmix hng hca h2
      · obtain ⟨s1, φ1, h2, h3⟩ := bnd2_some.1 h1
        cases h3
        obtain ⟨hle, hk⟩ := runOps_ok hng hca _ _ _ _ _ h2
        exact ⟨hle, fun M a w hS hf hfr Q hQ => wp_region_list (hk M a w hS hf hfr Q hQ)⟩
    | _ => exact (nomatch h)
end
end Go.Proofs.YtjdehneddakpnaaGreatDoor.ev
namespace Go.Proofs.YtjdehneddakpnaaGreatDoor.ev
open Go Go.RowKit
section
variable {P : Program}
def okRun (r : Option (Value × St)) : Bool := match r with
  | some (.bool b, _) => b
  | _ => false
/-- likewise, from a world of which some cells are known, not to be written -/
theorem below_from {f : FuncId} {n : Nat} {s0 : St} {M0 : Pm} {tab : List En} (ht : ∀ en ∈ tab, EnOk P en) (hmix : P.follows .mixedOrders = true) (hng : NoNG P) (h : okRun (callW P (exec P tab n) f [] s0) = true) (W : World)
    (hS : Sim P M0 s0.h.get W) (hfr : ∀ b, s0.nx ≤ b → M0 b = none) (hg : ∀ g, g < P.globals.size → ∃ mi, M0 g = some mi ∧ mi.blk = g ∧ mi.sh = 0) (hro : ∀ b o, s0.h.get b = some o → o.wr = false) :
    Calls P f #[] W fun e W' => e = .returned (.bool true) ∧ Below W.heap.size W W' := by
  obtain ⟨s', h1⟩ : ∃ s', callW P (exec P tab n) f [] s0 = some (.bool true, s') := by
    unfold okRun at h
    split at h
    · rename_i b s' e; subst h; exact ⟨s', e⟩
    · cases h
  obtain ⟨_, _, hcall⟩ := callW_ok (exec_ok ht hmix hng n).1 _ _ _ _ _ h1
  have hcall := hcall M0 #[] W .nil hS (fun b h2 _ => hfr b h2) hg
  refine hcall _ fun M' v' w' hv hst => ⟨?_, hst.os, hst.tape, hst.output, hst.size, fun c hc => hst.keep c hc fun b o mi hb hw => ?_⟩
  · cases hv; rfl
  · rw [hro b o hb] at hw; cases hw
/-- likewise, where two package variables hold errors whose pointers are all that is known -/
theorem below_two {f : FuncId} {n g1 g2 : Nat} {TE TI : TypeId} {h1 h0 : T AO} {tab : List En}
    (e1 : T.put .nil g1 (some (.cells [.iface TE (.pointer (some ⟨998, 0, none⟩))] TI true)) = some h1) (e2 : T.put h1 g2 (some (.cells [.iface TE (.pointer (some ⟨999, 0, none⟩))] TI true)) = some h0)
    (hgs : Nat.ble P.globals.size 900 = true) (hl1 : Nat.ble (g1 + 1) P.globals.size = true) (hl2 : Nat.ble (g2 + 1) P.globals.size = true) (hne : Nat.beq g1 g2 = false) (hsz : szOf P TI = some 1) (hTB : Nat.beq TI TB = false)
    (ht : ∀ en ∈ tab, EnOk P en) (hmix : P.follows .mixedOrders = true) (hng : NoNG P) (h : okRun (callW P (exec P tab n) f [] ⟨h0, 1000⟩) = true) (W : World)
    {a1 a2 : Addr} {fz1 fz2 : Nat × Nat} (w1 : W.heap[g1]? = some (.cells #[.iface TE (.pointer (some a1))] TI fz1)) (w2 : W.heap[g2]? = some (.cells #[.iface TE (.pointer (some a2))] TI fz2)) (s1 : a1.spot = none) (s2 : a2.spot = none) :
    Calls P f #[] W fun e W' => e = .returned (.bool true) ∧ Below W.heap.size W W' := by
  have hgs' := ble_nat.1 hgs
  have hl1' := ble_nat.1 hl1
  have hl2' := ble_nat.1 hl2
  have hne' : g1 ≠ g2 := fun e => by rw [beq_nat.2 e] at hne; cases hne
  have hTB' : TI ≠ TB := fun e => by rw [beq_nat.2 e] at hTB; cases hTB
  let M0 : Pm := fun b => if b < P.globals.size then some ⟨b, 0, 1, 1⟩ else if b = 998 then some ⟨a1.block, a1.off, 0, 0⟩ else if b = 999 then some ⟨a2.block, a2.off, 0, 0⟩ else none
  have m1 : ∀ b, b < P.globals.size → M0 b = some ⟨b, 0, 1, 1⟩ := fun b hb => if_pos hb
  have m8 : M0 998 = some ⟨a1.block, a1.off, 0, 0⟩ := by
    show (if _ then _ else _) = _
    rw [if_neg (by omega), if_pos rfl]
  have m9 : M0 999 = some ⟨a2.block, a2.off, 0, 0⟩ := by
    show (if _ then _ else _) = _
    rw [if_neg (by omega), if_neg (by omega), if_pos rfl]
  have hget : ∀ b o, h0.get b = some o → (b = g1 ∧ o = .cells [.iface TE (.pointer (some ⟨998, 0, none⟩))] TI true) ∨ (b = g2 ∧ o = .cells [.iface TE (.pointer (some ⟨999, 0, none⟩))] TI true) := by
    intro b o hb
    rw [T.put_spec _ _ _ _ e2] at hb
    split at hb
    · rename_i q; cases hb; exact Or.inr ⟨q, rfl⟩
    · rw [T.put_spec _ _ _ _ e1] at hb
      split at hb
      · rename_i q; cases hb; exact Or.inl ⟨q, rfl⟩
      · exact nomatch (T.get_nil b).symm.trans hb
  have one : ∀ {g m : Nat} {a : Addr} {fz : Nat × Nat}, g < P.globals.size → M0 m = some ⟨a.block, a.off, 0, 0⟩ → a.spot = none → W.heap[g]? = some (.cells #[.iface TE (.pointer (some a))] TI fz) →
      OR P M0 (.cells [.iface TE (.pointer (some ⟨m, 0, none⟩))] TI true) ⟨g, 0, 1, 1⟩ W := by
    intro g m a fz _ hm hs hw
    refine ⟨_, _, hw, rfl, by simp, ?_, ?_, fun e => (nomatch e), fun e => absurd e hTB'⟩
    · intro i v hi
      cases i with
      | zero =>
        cases hi
        refine ⟨_, rfl, .iface TE ?_⟩
        have := VR.ptr (o := 0) hm
        rcases a with ⟨ab, ao, sp⟩
        cases (show sp = none from hs)
        exact this
      | succ i => cases hi
    · intro k hk
      rw [hsz] at hk
      cases hk
      rfl
  refine below_from ht hmix hng h W (M0 := M0) ⟨?_, ?_⟩ ?_ (fun g hg => ⟨_, m1 g hg, rfl, rfl⟩) ?_
  · intro b o hb
    rcases hget b o hb with ⟨rfl, rfl⟩ | ⟨rfl, rfl⟩
    · exact ⟨_, m1 _ hl1', one hl1' m8 s1 w1⟩
    · exact ⟨_, m1 _ hl2', one hl2' m9 s2 w2⟩
  · intro b b' o o' mi mi' hb hb' hm hm' he
    have q : ∀ b o, h0.get b = some o → b < P.globals.size := fun b o hb => by
      rcases hget b o hb with ⟨rfl, _⟩ | ⟨rfl, _⟩
      · exact hl1'
      · exact hl2'
    rw [m1 _ (q b o hb)] at hm
    rw [m1 _ (q b' o' hb')] at hm'
    cases hm
    cases hm'
    exact he
  · intro b hb
    have hb' : 1000 ≤ b := hb
    show (if _ then _ else _) = _
    rw [if_neg (by omega), if_neg (by omega), if_neg (by omega)]
  · intro b o hb
    rcases hget b o hb with ⟨_, rfl⟩ | ⟨_, rfl⟩ <;> rfl
/-- no function that counts goroutines has a body: as a computation -/
noncomputable def noNG (fs : List Func) : Bool := allL (fun fn => Bool.not (fn.name == "runtime.NumGoroutine" && fn.body.isSome)) fs
theorem noNG_spec (h : noNG P.funcs.toList = true) : ∀ (f : FuncId) (fn : Func), P.funcs[f]? = some fn → (fn.name == "runtime.NumGoroutine" && fn.body.isSome) = false := fun f fn hf => by
  have := allL_iff.1 h fn (List.mem_of_getElem? (i := f) (by rw [Array.getElem?_toList]; exact hf))
  exact Bool.not_eq_true' _ |>.mp this
end
end Go.Proofs.YtjdehneddakpnaaGreatDoor.ev
