/- An evaluator of closed calls: operators, maps. -/
import Derived.Test.YtgdlfecppecooaaGreatDoorEvOp7
set_option linter.all false
namespace Go.Proofs.YtgdlfecppecooaaGreatDoor.ev
open Go Go.RowKit
section
variable {P : Program} {M M' : Pm} {φ : T Value} {a : Act} {N : Nat} {w : World} {s s' : St}
theorem eqA_run {t : TypeId} {x y x' y' : Value} {r : Bool} (h : eqA P t x y = some r) (hx : VR M x x') (hy : VR M y y') (w : World) : (Op.equal t x' y').run P w = .ok r w :=
  eqT_run 4 9996 t x y x' y' r h hx hy w
def plainEq (x y : Value) : Bool := match x with
  | .agg _ => match y with
    | .agg _ => false
    | _ => true
  | .nilIface => match y with
    | .nilIface => false
    | _ => true
  | _ => true
theorem eqGuard_plain (op : BinOp) (t : TypeId) (ox oy : Operand) (x y : Value) (h : plainEq x y = true) (w : World) : (eqGuard op t ox oy x y).run P w = .ok () w := by
  cases op <;> first | rfl | (cases x <;> first | rfl | (cases y <;> first | rfl | cases h))
theorem eqPtr_run {t : TypeId} {d : TypeDesc} {x y x' y' : Value} {r : Bool} (h : eqPtr P s d x y = some r) (hd : P.underlying t = some d) (hx : VR M x x') (hy : VR M y y') (w : World) : (Op.equal t x' y').run P w = .ok r w ∧ plainEq x' y' = true := by
  cases d <;> simp only [eqPtr] at h <;> (try cases h)
  obtain ⟨b, o, h1, h2⟩ := bnd2_some.1 h
  obtain ⟨b', o', h3, h4⟩ := bnd2_some.1 h2
  obtain ⟨k, hk, h5⟩ := bnd_some.1 h4
  obtain ⟨hk1, h6⟩ := bB_some.1 h5
  obtain ⟨hb, h7⟩ := bB_some.1 h6
  obtain ⟨_, _, h8⟩ := bnd_some.1 h7
  cases h8
  obtain rfl : b = b' := beq_nat.1 hb
  obtain ⟨mi, hm, _, rfl⟩ := asPtr_VR h1 hx
  obtain ⟨mi', hm', _, rfl⟩ := asPtr_VR h3 hy
  rw [hm] at hm'; cases hm'
  have hk0 : k ≠ 0 := by have : 1 ≤ k := ble_nat.1 hk1; omega
  refine ⟨?_, rfl⟩
  show (Op.equalIn (9999 + 1) t _ _).run P w = _
  have e : ((⟨mi.blk, mi.sh + o, none⟩ : Addr) == ⟨mi.blk, mi.sh + o', none⟩) = Nat.beq o o' := by
    rw [Bool.eq_iff_iff, beq_iff_eq, beq_nat]
    constructor
    · intro e; simp only [Addr.mk.injEq, and_true, true_and] at e; omega
    · intro e; rw [e]
  unfold Op.equalIn
  simp only [Sem.run_bind, run_underlying hd, Result.andThen_ok, run_size hk, ne_eq, hk0, not_false_eq_true, if_true, sameAddr, beq_self_eq_true, Sem.run_pure, e]
theorem plain_VR {x y x' y' : Value} (h : plainEq x y = true) (hx : VR M x x') (hy : VR M y y') : plainEq x' y' = true := by
  cases hx <;> (try rfl)
  · cases hy <;> first | rfl | cases h
  · cases hy <;> first | rfl | cases h
theorem eqAll_run {t : TypeId} {x y x' y' : Value} {r : Bool} (h : eqAll P s t x y = some r) (hx : VR M x x') (hy : VR M y y') (op : BinOp) (ox oy : Operand) (w : World) : (Op.equal t x' y').run P w = .ok r w ∧ (eqGuard op t ox oy x' y').run P w = .ok () w := by
  have gen : ∀ (h1 : plainEq x y = true), Option.rec (motive := fun _ => Option Bool) (bnd (P.underlying t) fun d => eqPtr P s d x y) (fun r => some r) (eqA P t x y) = some r → (Op.equal t x' y').run P w = .ok r w ∧ (eqGuard op t ox oy x' y').run P w = .ok () w := by
    intro h1 h2
    refine ⟨?_, eqGuard_plain op t ox oy x' y' (plain_VR h1 hx hy) w⟩
    cases hq : eqA P t x y with
    | some q =>
      rw [hq] at h2
      cases (show some q = some r from h2)
      exact eqA_run hq hx hy w
    | none =>
      rw [hq] at h2
      obtain ⟨d, hd, h3⟩ := bnd_some.1 (show bnd (P.underlying t) (fun d => eqPtr P s d x y) = some r from h2)
      exact (eqPtr_run h3 hd hx hy w).1
  cases hxc : x with
  | agg cs =>
    rw [hxc] at h
    rcases bE_some.1 (show bE (P.eqGuardType P.depth t) none (eqA P t (.agg cs) y) = some r from h) with ⟨_, h9⟩ | ⟨h8, h9⟩
    · cases h9
    · rw [← hxc] at h9
      refine ⟨eqA_run h9 hx hy w, ?_⟩
      cases hy with
      | agg _ _ =>
        rw [hxc] at hx
        cases hx
        exact run_eqGuard_agg w op t ox oy _ _ h8
      | _ => exact eqGuard_plain op t ox oy _ _ (by rw [hxc] at hx; cases hx; rfl) w
  | nilIface =>
    rw [hxc] at h
    cases hyc : y with
    | nilIface => rw [hyc] at h; cases h
    | _ =>
      have h2 : eqA P t x y = some r := by rw [hxc]; rw [hyc] at h ⊢; exact h
      exact ⟨eqA_run h2 hx hy w, eqGuard_plain op t ox oy x' y' (plain_VR (by rw [hxc, hyc]; rfl) hx hy) w⟩
  | _ => exact gen (by rw [hxc]; rfl) (by rw [hxc] at h ⊢; exact h)
theorem toL (b : ByteArray) : b.toList = b.data.toList := ByteArray.toList_eq b
theorem str_of {x y : ByteArray} {l : List UInt8} (h : l = x.data.toList ++ y.data.toList) : (⟨⟨l⟩⟩ : ByteArray) = x ++ y := by
  have e : (x ++ y).data = ⟨l⟩ := by
    apply Array.ext'
    rw [h, ByteArray.data_append, Array.toList_append]
  cases hh : x ++ y
  rw [hh] at e
  simp only at e
  rw [e]
theorem binStr_run {op : BinOp} {t : TypeId} {x y : ByteArray} {v : Value} (h : binStr op x.data.toList y.data.toList = some v) (w : World) : (binOp op t (.string x) (.string y)).run P w = .ok v w ∧ clean0 v = true := by
  cases op <;> simp only [binStr] at h <;> (try cases h)
  case add =>
    obtain ⟨l, hl, h1⟩ := bnd_some.1 h
    obtain ⟨h2, h3⟩ := bB_some.1 h1
    cases h3
    rw [sApp_eq] at hl
    cases hl
    rw [lLen_eq] at h2
    have h2' : (x.data.toList ++ y.data.toList).length ≤ 9223372036854775807 := ble_nat.1 h2
    have hx : x.data.toList.length = x.size := by rw [Array.length_toList]; rfl
    have hy : y.data.toList.length = y.size := by rw [Array.length_toList]; rfl
    rw [List.length_append, hx, hy] at h2'
    refine ⟨?_, rfl⟩
    have hc : ¬ (((x.size + y.size : Nat) : Int) > IntKind.i64.max) := by rw [IntKind.max_i64]; omega
    simp only [binOp, Op.stringOp, if_neg hc, Sem.run_pure, strOf]
    rw [str_of rfl]
  all_goals (refine ⟨?_, rfl⟩; simp [binOp, Op.stringOp, bEq_eq, bLt_eq, toL])
theorem binA_run {op : BinOp} {t : TypeId} {x y x' y' v : Value} (h : binA P s op t x y = some v) (hx : VR M x x') (hy : VR M y y') (ox oy : Operand) (w : World) :
    (do eqGuard op t ox oy x' y'; binOp op t x' y' : Sem Value).run P w = .ok v w ∧ clean0 v = true := by
  have eqs : ∀ (hb : ∀ (z : Value), (binOp .eql t x' z) = (do Pure.pure (.bool (← Op.equal t x' z))) ∧ (binOp .neq t x' z) = (do Pure.pure (.bool (!(← Op.equal t x' z))))), binEq P s op t x y = some v →
      (do eqGuard op t ox oy x' y'; binOp op t x' y' : Sem Value).run P w = .ok v w ∧ clean0 v = true := by
    intro hb h1
    cases op <;> simp only [binEq] at h1 <;> (try cases h1)
    · obtain ⟨r, hr, h2⟩ := bnd_some.1 h1
      cases h2
      obtain ⟨e1, e2⟩ := eqAll_run hr hx hy .eql ox oy w
      exact ⟨by simp only [Sem.run_bind, e2, Result.andThen_ok, (hb y').1, e1, Sem.run_pure], rfl⟩
    · obtain ⟨r, hr, h2⟩ := bnd_some.1 h1
      cases h2
      obtain ⟨e1, e2⟩ := eqAll_run hr hx hy .neq ox oy w
      exact ⟨by simp only [Sem.run_bind, e2, Result.andThen_ok, (hb y').2, e1, Sem.run_pure], rfl⟩
  cases hx with
  | int k n =>
    cases hy <;> first | (cases (show none = some v from h); done) | skip
    rename_i k' n'
    obtain ⟨e1, e2⟩ := binInt_run (P := P) (show binInt op k k' n n' = some v from h) t w
    exact ⟨by simp only [Sem.run_bind, eqGuard_plain op t ox oy (.int k n) (.int k' n') rfl w, Result.andThen_ok, e1], e2⟩
  | string b =>
    cases hy <;> first | (cases (show none = some v from h); done) | skip
    rename_i b'
    obtain ⟨e1, e2⟩ := binStr_run (P := P) (t := t) (show binStr op b.data.toList b'.data.toList = some v from h) w
    exact ⟨by simp only [Sem.run_bind, eqGuard_plain op t ox oy (.string b) (.string b') rfl w, Result.andThen_ok, e1], e2⟩
  | _ => exact eqs (fun z => ⟨rfl, rfl⟩) h
theorem nilNil_some {ox oy : Operand} {x y : Value} (h : nilNil ox oy x y = true) : x = .nilIface ∧ y = .nilIface ∧ ((∃ v, ox = .const v) ∨ (∃ v, oy = .const v)) := by
  cases x <;> first | (cases (show false = true from h); done) | skip
  cases y <;> first | (cases (show false = true from h); done) | skip
  refine ⟨rfl, rfl, ?_⟩
  cases ox <;> first | exact Or.inl ⟨_, rfl⟩ | skip
  all_goals (cases oy <;> first | exact Or.inr ⟨_, rfl⟩ | (cases (show false = true from h); done))
theorem nn_guard {op : BinOp} {t : TypeId} {ox oy : Operand} (hc : (∃ v, ox = .const v) ∨ (∃ v, oy = .const v)) (w : World) : (eqGuard op t ox oy .nilIface .nilIface).run P w = .ok () w := by
  rcases hc with ⟨v, rfl⟩ | ⟨v, rfl⟩
  · cases op <;> rfl
  · cases ox <;> cases op <;> rfl
theorem nn_run {op : BinOp} {t : TypeId} {v : Value} {ms : _} (hd : P.underlying t = some (.interface ms)) (h : binNN op (.interface ms) = some v) {ox oy : Operand} (hc : (∃ v, ox = .const v) ∨ (∃ v, oy = .const v)) (w : World) :
    (do eqGuard op t ox oy .nilIface .nilIface; binOp op t .nilIface .nilIface : Sem Value).run P w = .ok v w ∧ clean0 v = true := by
  have e : (Op.equal t .nilIface .nilIface).run P w = .ok true w := by
    show (Op.equalIn (9999 + 1) t _ _).run P w = _
    unfold Op.equalIn
    simp only [Sem.run_bind, run_underlying hd, Result.andThen_ok, Sem.run_pure]
  have g : (eqGuard op t ox oy .nilIface .nilIface).run P w = .ok () w := nn_guard hc w
  cases op <;> first | (cases (show none = some v from h); done) | skip
  · cases (show some (Value.bool true) = some v from h)
    refine ⟨?_, rfl⟩
    have hb : binOp .eql t .nilIface .nilIface = (do Pure.pure (.bool (← Op.equal t .nilIface .nilIface))) := rfl
    simp only [Sem.run_bind, g, Result.andThen_ok, hb, e, Sem.run_pure]
  · cases (show some (Value.bool false) = some v from h)
    refine ⟨?_, rfl⟩
    have hb : binOp .neq t .nilIface .nilIface = (do Pure.pure (.bool (!(← Op.equal t .nilIface .nilIface)))) := rfl
    simp only [Sem.run_bind, g, Result.andThen_ok, hb, e, Sem.run_pure, Bool.not_true]
theorem binO_run {op : BinOp} {t : TypeId} {x y x' y' v : Value} {ox oy : Operand} (h : binO P s op t ox oy x y = some v) (hx : VR M x x') (hy : VR M y y') (w : World) :
    (do eqGuard op t ox oy x' y'; binOp op t x' y' : Sem Value).run P w = .ok v w ∧ clean0 v = true := by
  rcases bE_some.1 (show bE (nilNil ox oy x y) (bnd (P.underlying t) fun d => binNN op d) (binA P s op t x y) = some v from h) with ⟨h1, h2⟩ | ⟨_, h2⟩
  · obtain ⟨rfl, rfl, hc⟩ := nilNil_some h1
    obtain ⟨d, hd, h3⟩ := bnd_some.1 h2
    cases hx
    cases hy
    cases d <;> first | (cases (show none = some v from h3); done) | skip
    exact nn_run hd h3 hc w
  · exact binA_run h2 hx hy ox oy w
theorem unA_run {op : UnOp} {x x' v : Value} (h : unA op x = some v) (hx : VR M x x') (w : World) : (Op.unary op x').run P w = .ok v w ∧ clean0 v = true := by
  cases op <;> simp only [unA] at h <;> (try cases h)
  case neg =>
    obtain ⟨k, n, h1, h2⟩ := bnd2_some.1 h
    rw [mkI_some, wrapA_eq] at h2
    subst h2
    obtain ⟨_, rfl⟩ := asInt_VR h1 hx
    refine ⟨?_, rfl⟩
    simp [Op.unary, Op.intArith]
    rfl
  case xor =>
    obtain ⟨k, n, h1, h2⟩ := bnd2_some.1 h
    have h3 := bitA_some h2
    subst h3
    obtain ⟨_, rfl⟩ := asInt_VR h1 hx
    refine ⟨?_, rfl⟩
    have e : (BitVec.ofInt k.bits (if k.signed then -1 else k.max)).toNat = Nat.sub (kMod k) 1 := by cases k <;> decide
    show (Op.intBits .xor k (if k.signed then -1 else k.max) n).run P w = _
    simp only [Op.intBits, BitVec.toNat_xor, e, toN_eq, Sem.run_pure]
    rfl
  case not =>
    obtain ⟨b, h1, h2⟩ := bnd_some.1 h
    cases h2
    obtain ⟨_, rfl⟩ := asBool_VR h1 hx
    exact ⟨by simp [Op.unary], rfl⟩
end
end Go.Proofs.YtgdlfecppecooaaGreatDoor.ev
