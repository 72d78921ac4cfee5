/- An evaluator of closed calls: equality. -/
import Derived.Test.YtgdlfecppecooaaGreatDoorEvOp6
import Derived.Laws.StructEq
set_option linter.all false
namespace Go.Proofs.YtgdlfecppecooaaGreatDoor.ev
open Go Go.RowKit
section
variable {P : Program} {M M' : Pm} {φ : T Value} {a : Act} {N : Nat} {w : World} {s s' : St}
theorem nilish_VR {v v' : Value} {b : Bool} (h : nilish v = some b) (hv : VR M v v') : nilish v' = some b := by
  cases hv with
  | sle a c =>
    obtain ⟨h1, _⟩ := bB_some.1 (show bB (Nat.beq OPEN 0) (some true) = some b from h)
    have := beq_nat.1 h1
    rw [OPEN_eq] at this; omega
  | snil => exact h
  | sl _ _ => cases h; rfl
  | slo _ _ _ _ => cases h; rfl
  | pnil => exact h
  | ptr _ => cases h; rfl
  | mnil => exact h
  | map _ => cases h; rfl
  | nilFunc => exact h
  | nilIface => exact h
  | iface _ _ => cases h; rfl
  | func _ _ _ _ _ => cases h; rfl
  | _ => cases h
theorem sameForm_VR {d : TypeDesc} {x y x' y' : Value} (h : sameForm d x y = true) (hx : VR M x x') (hy : VR M y y') : sameForm d x' y' = true := by
  cases d <;> simp only [sameForm] at h ⊢ <;> (try cases h) <;> cases hx <;> simp only at h ⊢ <;> (try cases h) <;> cases hy <;> simp only at h ⊢ <;> (try cases h)
theorem eqNil_run {t : TypeId} {d : TypeDesc} {x y x' y' : Value} {r : Bool} (h : eqNil d x y = some r) (hd : P.underlying t = some d) (hx : VR M x x') (hy : VR M y y') (n : Nat) (w : World) : (Op.equalIn (n + 1) t x' y').run P w = .ok r w := by
  obtain ⟨h1, h2⟩ := bB_some.1 h
  obtain ⟨b1, e1, h3⟩ := bnd_some.1 h2
  obtain ⟨b2, e2, h4⟩ := bnd_some.1 h3
  have f := sameForm_VR h1 hx hy
  have g1 := nilish_VR e1 hx
  have g2 := nilish_VR e2 hy
  have h5 : r = (b1 && b2) ∧ (b1 || b2) = true := by
    rcases bE_some.1 h4 with ⟨h6, h7⟩ | ⟨_, h7⟩
    · cases h7; exact ⟨rfl, h6⟩
    · cases h7
  obtain ⟨rfl, hor⟩ := h5
  cases d with
  | pointer e =>
    cases x' <;> simp only [sameForm] at f <;> (try cases f)
    cases y' <;> simp only at f <;> (try cases f)
    rename_i a1 a2
    cases a1 <;> cases a2 <;> simp only [nilish, Option.some.injEq] at g1 g2 <;> subst g1 <;> subst g2 <;> (try cases hor) <;> simp [Op.equalIn, run_underlying hd]
  | slice e =>
    cases x' <;> simp only [sameForm] at f <;> (try cases f)
    cases y' <;> simp only at f <;> (try cases f)
    rename_i a1 l1 c1 a2 l2 c2
    cases a1 <;> cases a2 <;> simp only [nilish, Option.some.injEq] at g1 g2
    · obtain ⟨_, g1⟩ := bB_some.1 g1; obtain ⟨_, g2⟩ := bB_some.1 g2; cases g1; cases g2; simp [Op.equalIn, run_underlying hd]
    · obtain ⟨_, g1⟩ := bB_some.1 g1; cases g1; subst g2; simp [Op.equalIn, run_underlying hd]
    · obtain ⟨_, g2⟩ := bB_some.1 g2; cases g2; subst g1; simp [Op.equalIn, run_underlying hd]
    · subst g1; subst g2; cases hor
  | map k e =>
    cases x' <;> simp only [sameForm] at f <;> (try cases f)
    cases y' <;> simp only at f <;> (try cases f)
    rename_i a1 a2
    cases a1 <;> cases a2 <;> simp only [nilish, Option.some.injEq] at g1 g2 <;> subst g1 <;> subst g2 <;> (try cases hor) <;> simp [Op.equalIn, run_underlying hd]
  | interface ms =>
    cases x' <;> simp only [sameForm] at f <;> (try cases f) <;> cases y' <;> simp only at f <;> (try cases f) <;> simp only [nilish, Option.some.injEq] at g1 g2 <;> subst g1 <;> subst g2 <;> (try cases hor) <;> simp [Op.equalIn, run_underlying hd]
  | func ps rs vr =>
    cases x' <;> simp only [sameForm] at f <;> (try cases f) <;> cases y' <;> simp only at f <;> (try cases f) <;> simp only [nilish, Option.some.injEq] at g1 g2 <;> subst g1 <;> subst g2 <;> (try cases hor) <;> simp [Op.equalIn, run_underlying hd]
  | _ => cases f
theorem eqBase_run {t : TypeId} {d : TypeDesc} {x y x' y' : Value} {r : Bool} (h : eqBase d x y = some r) (hd : P.underlying t = some d) (hx : VR M x x') (hy : VR M y y') (n : Nat) (w : World) : (Op.equalIn (n + 1) t x' y').run P w = .ok r w := by
  cases d with
  | bool =>
    obtain ⟨a, ha, h1⟩ := bnd_some.1 (show bnd (asBool x) (fun a => bnd (asBool y) fun b => some (Bool.rec (motive := fun _ => Bool) (Bool.not b) b a)) = some r from h)
    obtain ⟨b, hb, h2⟩ := bnd_some.1 h1
    cases h2
    obtain ⟨_, rfl⟩ := asBool_VR ha hx
    obtain ⟨_, rfl⟩ := asBool_VR hb hy
    cases a <;> cases b <;> simp [Op.equalIn, run_underlying hd]
  | int k0 =>
    obtain ⟨k, a, ha, h1⟩ := bnd2_some.1 (show bnd2 (asInt x) (fun k a => bnd2 (asInt y) fun k' b => bB (kEq k k') (some (iEq a b))) = some r from h)
    obtain ⟨k', b, hb, h2⟩ := bnd2_some.1 h1
    obtain ⟨hk, h3⟩ := bB_some.1 h2
    cases h3
    obtain rfl := kEq_iff.1 hk
    obtain ⟨_, rfl⟩ := asInt_VR ha hx
    obtain ⟨_, rfl⟩ := asInt_VR hb hy
    simp [Op.equalIn, run_underlying hd, iEq_eq]
  | string =>
    obtain ⟨a, ha, h1⟩ := bnd_some.1 (show bnd (asStr x) (fun a => bnd (asStr y) fun b => some (bEq a b)) = some r from h)
    obtain ⟨b, hb, h2⟩ := bnd_some.1 h1
    cases h2
    obtain ⟨sa, _, rfl, rfl⟩ := asStr_VR ha hx
    obtain ⟨sb, _, rfl, rfl⟩ := asStr_VR hb hy
    rw [run_equalIn_string w n t sa sb hd, bEq_eq, ByteArray.toList_eq, ByteArray.toList_eq]
  | _ => exact eqNil_run h hd hx hy n w
/-- the loop over fields -/
theorem eqFields_run {ih : TypeId → Value → Value → Option Bool} {n : Nat} {xs ys : List Value} {X Y : Array Value} (hX : LR M xs X.toList) (hY : LR M ys Y.toList)
    (hih : ∀ (t : TypeId) (x y x' y' : Value) (r : Bool), ih t x y = some r → VR M x x' → VR M y y' → ∀ w, (Op.equalIn n t x' y').run P w = .ok r w) : ∀ {fs : List Field} {r : Bool}, eqFields P ih xs ys fs = some r → ∀ w,
    (forIn fs ((none, ()) : Option Bool × Unit) fun f __s => (if f.name ≠ "_" then do
        let __do_lift ← part f.type X f.offset
        let __do_lift_1 ← part f.type Y f.offset
        let __do_lift ← Op.equalIn n f.type __do_lift __do_lift_1
        if (!__do_lift) = true then Pure.pure (ForInStep.done (some false, ())) else Pure.pure (ForInStep.yield (none, ()))
      else Pure.pure (ForInStep.yield (none, ())) : Sem (ForInStep (Option Bool × Unit)))).run P w = .ok (if r then (none, ()) else (some false, ())) w
  | [], r, h, w => by cases (show some true = some r from h); simp
  | f :: fs, r, h, w => by
    obtain ⟨hn, h1⟩ : decide (f.name = "_") = false ∧ bnd (partC P f.type xs f.offset) (fun x => bnd (partC P f.type ys f.offset) fun y => bnd (ih f.type x y) fun r => bE r (eqFields P ih xs ys fs) (some false)) = some r := by
      rcases bE_some.1 (show bE (decide (f.name = "_")) none _ = some r from h) with ⟨_, h9⟩ | ⟨h8, h9⟩
      · cases h9
      · exact ⟨h8, h9⟩
    have hn' : f.name ≠ "_" := by simpa using hn
    obtain ⟨x, hx, h2⟩ := bnd_some.1 h1
    obtain ⟨y, hy, h3⟩ := bnd_some.1 h2
    obtain ⟨q, hq, h4⟩ := bnd_some.1 h3
    obtain ⟨x', rx, vx⟩ := partC_run hx hX
    obtain ⟨y', ry, vy⟩ := partC_run hy hY
    have he := hih _ _ _ _ _ _ hq vx vy w
    rw [List.forIn_cons]
    rcases bE_some.1 h4 with ⟨rfl, h5⟩ | ⟨rfl, h5⟩
    · have ihf := eqFields_run hX hY hih h5 w
      simp only [if_pos hn', Sem.run_bind, rx, ry, he, Result.andThen_ok, Bool.not_true, Bool.false_eq_true, if_false, Sem.run_pure]
      exact ihf
    · cases h5
      simp only [if_pos hn', Sem.run_bind, rx, ry, he, Result.andThen_ok, Bool.not_false, if_true, Sem.run_pure, Bool.false_eq_true, if_false]
theorem eqElems_run {ih : TypeId → Value → Value → Option Bool} {n k : Nat} {e : TypeId} {xs ys : List Value} {X Y : Array Value} (hX : LR M xs X.toList) (hY : LR M ys Y.toList)
    (hih : ∀ (t : TypeId) (x y x' y' : Value) (r : Bool), ih t x y = some r → VR M x x' → VR M y y' → ∀ w, (Op.equalIn n t x' y').run P w = .ok r w) : ∀ {m i : Nat} {r : Bool}, eqElems P ih e k xs ys m i = some r → ∀ w,
    (forIn (List.range' i m) ((none, ()) : Option Bool × Unit) fun i __s => (do
        let __do_lift ← part e X (i * k)
        let __do_lift_1 ← part e Y (i * k)
        let __do_lift ← Op.equalIn n e __do_lift __do_lift_1
        if (!__do_lift) = true then Pure.pure (ForInStep.done (some false, ())) else Pure.pure (ForInStep.yield (none, ())) : Sem (ForInStep (Option Bool × Unit)))).run P w = .ok (if r then (none, ()) else (some false, ())) w
  | 0, i, r, h, w => by cases (show some true = some r from h); simp
  | m + 1, i, r, h, w => by
    obtain ⟨x, hx, h2⟩ := bnd_some.1 (show bnd (partC P e xs (i * k)) (fun x => bnd (partC P e ys (i * k)) fun y => bnd (ih e x y) fun r => bE r (eqElems P ih e k xs ys m (i + 1)) (some false)) = some r from h)
    obtain ⟨y, hy, h3⟩ := bnd_some.1 h2
    obtain ⟨q, hq, h4⟩ := bnd_some.1 h3
    obtain ⟨x', rx, vx⟩ := partC_run hx hX
    obtain ⟨y', ry, vy⟩ := partC_run hy hY
    have he := hih _ _ _ _ _ _ hq vx vy w
    rw [List.range'_succ, List.forIn_cons]
    rcases bE_some.1 h4 with ⟨rfl, h5⟩ | ⟨rfl, h5⟩
    · have ihf := eqElems_run hX hY hih h5 w
      simp only [Sem.run_bind, rx, ry, he, Result.andThen_ok, Bool.not_true, Bool.false_eq_true, if_false, Sem.run_pure]
      exact ihf
    · cases h5
      simp only [Sem.run_bind, rx, ry, he, Result.andThen_ok, Bool.not_false, if_true, Sem.run_pure, Bool.false_eq_true, if_false]
theorem eqT_run : ∀ (m : Nat) (n : Nat) (t : TypeId) (x y x' y' : Value) (r : Bool), eqT P m t x y = some r → VR M x x' → VR M y y' → ∀ w, (Op.equalIn (n + m) t x' y').run P w = .ok r w
  | 0, n, t, x, y, x', y', r, h, _, _, w => by cases (show none = some r from h)
  | m + 1, n, t, x, y, x', y', r, h, hx, hy, w => by
    obtain ⟨d, hd, h1⟩ := bnd_some.1 (show bnd (P.underlying t) (fun d => eqD P (eqT P m) t d x y) = some r from h)
    have hih := fun t x y x' y' r h hx hy w => eqT_run m n t x y x' y' r h hx hy w
    have base : ∀ d', d' = d → eqBase d' x y = some r → (Op.equalIn (n + (m + 1)) t x' y').run P w = .ok r w := fun d' e hb => eqBase_run hb (e ▸ hd) hx hy (n + m) w
    cases d with
    | struct fs =>
      obtain ⟨xs, hxs, h2⟩ := bnd_some.1 (show bnd (asAgg x) (fun xs => bnd (asAgg y) fun ys => bE (P.stoodInHeld t) none (eqFields P (eqT P m) xs ys fs.toList)) = some r from h1)
      obtain ⟨ys, hys, h3⟩ := bnd_some.1 h2
      obtain ⟨hst, h4⟩ : P.stoodInHeld t = false ∧ eqFields P (eqT P m) xs ys fs.toList = some r := by
        rcases bE_some.1 h3 with ⟨_, h9⟩ | ⟨h8, h9⟩
        · cases h9
        · exact ⟨h8, h9⟩
      obtain ⟨X, _, rfl, hX⟩ := asAgg_VR hxs hx
      obtain ⟨Y, _, rfl, hY⟩ := asAgg_VR hys hy
      have hl := eqFields_run hX hY hih h4 w
      rw [Nat.add_succ]
      unfold Op.equalIn
      simp only [Sem.run_bind, run_underlying hd, Result.andThen_ok, program, Sem.run, hst, Bool.false_eq_true, if_false]
      rw [← Array.forIn_toList]
      rw [hl]
      cases r <;> simp
    | array len e =>
      obtain ⟨xs, hxs, h2⟩ := bnd_some.1 (show bnd (asAgg x) (fun xs => bnd (asAgg y) fun ys => bnd (szOf P e) fun k => eqElems P (eqT P m) e k xs ys len 0) = some r from h1)
      obtain ⟨ys, hys, h3⟩ := bnd_some.1 h2
      obtain ⟨k, hk, h4⟩ := bnd_some.1 h3
      obtain ⟨X, _, rfl, hX⟩ := asAgg_VR hxs hx
      obtain ⟨Y, _, rfl, hY⟩ := asAgg_VR hys hy
      have hl := eqElems_run hX hY hih h4 w
      rw [Nat.add_succ]
      unfold Op.equalIn
      simp only [Sem.run_bind, run_underlying hd, Result.andThen_ok, run_size hk]
      rw [Std.Legacy.Range.forIn_eq_forIn_range']
      simp only [Std.Legacy.Range.size]
      rw [show (len - 0 + 1 - 1) / 1 = len by simp, hl]
      cases r <;> simp
    | interface ms =>
      rcases bE_some.1 (show bE (Bool.and (Option.isSome (ifOf x)) (Option.isSome (ifOf y))) (bnd2 (ifOf x) fun t u => bnd2 (ifOf y) fun t' u' => bE (Nat.beq t t') (bnd (P.info? t) fun i => bB i.comparable (eqT P m t u u')) (some false)) (eqBase (.interface ms) x y) = some r from h1) with ⟨_, h2⟩ | ⟨_, h2⟩
      · obtain ⟨tx, ux, hx1, h3⟩ := bnd2_some.1 h2
        obtain ⟨ty, uy, hy1, h4⟩ := bnd2_some.1 h3
        have ex : x = .iface tx ux := by cases x <;> simp only [ifOf] at hx1 <;> (try cases hx1); rfl
        have ey : y = .iface ty uy := by cases y <;> simp only [ifOf] at hy1 <;> (try cases hy1); rfl
        subst ex ey
        cases hx with
        | iface _ hvx =>
          cases hy with
          | iface _ hvy =>
            rw [Nat.add_succ]
            unfold Op.equalIn
            rcases bE_some.1 h4 with ⟨ht, h5⟩ | ⟨ht, h5⟩
            · obtain rfl := beq_nat.1 ht
              obtain ⟨i, hi, h6⟩ := bnd_some.1 h5
              obtain ⟨hc, h7⟩ := bB_some.1 h6
              have := hih _ _ _ _ _ _ h7 hvx hvy w
              simp [run_underlying hd, typeInfo, hi, hc, this]
            · cases h5
              have hne : tx ≠ ty := beq_natF.1 ht
              simp [run_underlying hd, hne]
      · exact base _ rfl h2
    | _ => exact base _ rfl h1
end
end Go.Proofs.YtgdlfecppecooaaGreatDoor.ev
