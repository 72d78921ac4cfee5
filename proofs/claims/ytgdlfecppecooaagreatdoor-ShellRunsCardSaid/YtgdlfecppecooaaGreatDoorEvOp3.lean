/- An evaluator of closed calls: fields, elements, lengths, conversions, what is made. -/
import Derived.Test.YtgdlfecppecooaaGreatDoorEvOp2
set_option linter.all false
namespace Go.Proofs.YtgdlfecppecooaaGreatDoor.ev
open Go Go.RowKit
section
variable {P : Program} {M M' : Pm} {φ : T Value} {a : Act} {N : Nat} {w : World} {s s' : St}
theorem opFieldAddr_run {t : TypeId} {x x' v : Value} {f : Nat} (h : opFieldAddr P t x f = some v) (hx : VR M x x') : ∃ v', (∀ w, (Instr.fieldAt t x' f).run P w = .ok v' w) ∧ VR M v v' := by
  obtain ⟨d, hd, h1⟩ := bnd_some.1 h
  obtain ⟨fs, hfs, h2⟩ := bnd_some.1 h1
  obtain ⟨b, o, hp, h3⟩ := bnd2_some.1 h2
  obtain ⟨fd, hfd, h4⟩ := bnd_some.1 h3
  obtain ⟨k, hk, h5⟩ := bnd_some.1 h4
  obtain ⟨hk1, h6⟩ := bB_some.1 h5
  cases h6
  have hk1' : 1 ≤ k := ble_nat.1 hk1
  obtain ⟨mi, hm, rfl, rfl⟩ := asPtr_VR hp hx
  cases d <;> first | cases hfs | skip
  rename_i fs
  rw [lGet_eq, Array.getElem?_toList] at hfd
  have hk0 : ¬ k = 0 := by omega
  refine ⟨.pointer (some ⟨mi.blk, mi.sh + o + fd.offset, none⟩), fun w => ?_, ?_⟩
  · simp only [Instr.fieldAt, Sem.run_bind, run_underlying hd, Result.andThen_ok, hfd, Instr.sureAddr, Sem.run_pure, fieldPlace, run_size hk, if_neg hk0, addA]
  · have := VR.ptr (M := M) (b := b) (o := o + fd.offset) hm
    rw [show mi.sh + (o + fd.offset) = mi.sh + o + fd.offset by omega] at this
    exact this
theorem opField_run {t : TypeId} {x x' v : Value} {f : Nat} (h : opField P t x f = some v) (hx : VR M x x') : ∃ v', (∀ w, (Instr.field t x' f).run P w = .ok v' w) ∧ VR M v v' := by
  obtain ⟨d, hd, h1⟩ := bnd_some.1 h
  obtain ⟨fs, hfs, h2⟩ := bnd_some.1 h1
  obtain ⟨cs, hc, h3⟩ := bnd_some.1 h2
  obtain ⟨fd, hfd, h4⟩ := bnd_some.1 h3
  obtain ⟨c', rfl, rfl, hl⟩ := asAgg_VR hc hx
  cases d <;> first | cases hfs | skip
  rename_i fs
  rw [lGet_eq, Array.getElem?_toList] at hfd
  obtain ⟨v', hr, hv⟩ := partC_run h4 hl
  exact ⟨v', fun w => by simp only [Instr.field, Sem.run_bind, run_underlying hd, Result.andThen_ok, hfd, Go.asAgg, Sem.run_pure, hr], hv⟩
theorem opIdxAddr_run {t : TypeId} {x x' v i i' : Value} (h : opIdxAddr P t x i = some v) (hx : VR M x x') (hi : VR M i i') : ∃ v', (∀ w, (Instr.indexAt t x' i').run P w = .ok v' w) ∧ VR M v v' := by
  obtain ⟨d, hd, h1⟩ := bnd_some.1 h
  obtain ⟨n, hn, h2⟩ := bnd_some.1 h1
  obtain ⟨k0, _, rfl⟩ := asNat_VR hn hi
  have fin : ∀ {b o len k : Nat} {mi : MI}, M b = some mi → bB (Nat.ble (n + 1) len) (some (ptrV b (Nat.add o (Nat.mul n k)))) = some v → n < len ∧ VR M v (.pointer (some ⟨mi.blk, mi.sh + o + n * k, none⟩)) := by
    intro b o len k mi hm hb
    obtain ⟨hlt, hv⟩ := bB_some.1 hb
    cases hv
    refine ⟨ble_nat.1 hlt, ?_⟩
    have := VR.ptr (M := M) (b := b) (o := o + n * k) hm
    rw [show mi.sh + (o + n * k) = mi.sh + o + n * k by omega] at this
    exact this
  cases d <;> simp only at h2 <;> (try cases h2)
  case slice e =>
    obtain ⟨k, hk, h3⟩ := bnd_some.1 h2
    obtain ⟨y, hy, h4⟩ := bnd_some.1 h3
    have hsl := (asSl_VR hy hx).1
    cases hsl with
    | nil => cases h4
    | emp _ _ => cases h4
    | @at_ _ _ len _ _ hm hc =>
      obtain ⟨hlt, hv⟩ := fin hm h4
      refine ⟨_, fun w => ?_, hv⟩
      have hcond : 0 ≤ (n : Int) ∧ (n : Int) < (len : Int) := ⟨by omega, by exact_mod_cast hlt⟩
      simp only [Instr.indexAt, asIntOf, Sem.run_bind, Sem.run_pure, run_underlying hd, Result.andThen_ok, if_pos hcond, run_size hk, addA, Int.toNat_natCast]
    | @open_ _ _ len _ _ hm _ _ _ =>
      obtain ⟨hlt, hv⟩ := fin hm h4
      refine ⟨_, fun w => ?_, hv⟩
      have hcond : 0 ≤ (n : Int) ∧ (n : Int) < (len : Int) := ⟨by omega, by exact_mod_cast hlt⟩
      simp only [Instr.indexAt, asIntOf, Sem.run_bind, Sem.run_pure, run_underlying hd, Result.andThen_ok, if_pos hcond, run_size hk, addA, Int.toNat_natCast]
  case array len e =>
    obtain ⟨k, hk, h3⟩ := bnd_some.1 h2
    obtain ⟨b, o, hp, h4⟩ := bnd2_some.1 h3
    obtain ⟨mi, hm, rfl, rfl⟩ := asPtr_VR hp hx
    obtain ⟨hlt, hv⟩ := fin hm h4
    refine ⟨_, fun w => ?_, hv⟩
    have hcond : 0 ≤ (n : Int) ∧ (n : Int) < (len : Int) := ⟨by omega, by exact_mod_cast hlt⟩
    simp only [Instr.indexAt, asIntOf, Sem.run_bind, Sem.run_pure, run_underlying hd, Result.andThen_ok, Instr.sureAddr, if_pos hcond, run_size hk, addA, Int.toNat_natCast]
theorem opIndex_run {t : TypeId} {x x' v i i' : Value} (h : opIndex P t x i = some v) (hx : VR M x x') (hi : VR M i i') : ∃ v', (∀ w, (Instr.index t x' i').run P w = .ok v' w) ∧ VR M v v' := by
  obtain ⟨d, hd, h1⟩ := bnd_some.1 h
  obtain ⟨n, hn, h2⟩ := bnd_some.1 h1
  obtain ⟨k0, _, rfl⟩ := asNat_VR hn hi
  cases d <;> simp only at h2 <;> (try cases h2)
  case string =>
    obtain ⟨l, hl, h3⟩ := bnd_some.1 h2
    obtain ⟨c, hc, h4⟩ := bnd_some.1 h3
    rw [mkI_some] at h4
    subst h4
    obtain ⟨b, rfl, rfl, rfl⟩ := asStr_VR hl hx
    rw [lGet_eq, Array.getElem?_toList] at hc
    have hb : b[n]? = some c := by
      rw [← hc]
      have hlt := (Array.getElem?_eq_some_iff.1 hc).1
      rw [getElem?_pos b n hlt, getElem?_pos b.data n hlt]
      rfl
    exact ⟨_, fun w => by simp [Instr.index, asIntOf, run_underlying hd, hb], .int _ _⟩
  case array len e =>
    obtain ⟨k, hk, h3⟩ := bnd_some.1 h2
    obtain ⟨cs, hc, h4⟩ := bnd_some.1 h3
    obtain ⟨hlt, h5⟩ := bB_some.1 h4
    obtain ⟨c', rfl, rfl, hl⟩ := asAgg_VR hc hx
    have hlt' : n < len := ble_nat.1 hlt
    obtain ⟨v', hr, hv⟩ := partC_run h5 hl
    have hcond : 0 ≤ (n : Int) ∧ (n : Int) < (len : Int) := ⟨by omega, by exact_mod_cast hlt'⟩
    refine ⟨v', fun w => ?_, hv⟩
    simp only [Instr.index, asIntOf, Sem.run_bind, Sem.run_pure, run_underlying hd, Result.andThen_ok, if_pos hcond, run_size hk, Int.toNat_natCast]
    exact hr w
theorem opExtract_run {x x' v : Value} {i : Nat} (h : opExtract x i = some v) (hx : VR M x x') : ∃ v', (∀ w, (Instr.extract x' i).run P w = .ok v' w) ∧ VR M v v' := by
  obtain ⟨l, hl, h1⟩ := bnd_some.1 h
  obtain ⟨c', rfl, hlr⟩ := asTup_VR hl hx
  rw [lGet_eq] at h1
  obtain ⟨v', hv, hr⟩ := hlr.get h1
  rw [Array.getElem?_toList] at hv
  exact ⟨v', fun w => by simp [Instr.extract, hv], hr⟩
theorem opNil_run {x x' v : Value} (h : opNil x = some v) (hx : VR M x x') : ∀ w, ((match x' with
    | .pointer none | .nilIface | .nilFunc => runtimePanic .nilDeref
    | .func (.method name) first captured =>
      match (first[0]? : Option Value) with
      | some .nilIface => runtimePanic .nilDeref
      | some (.iface t w) => do
        if (← nilAhead ((← program).types.size + Made.depth) t w name) != some false then
          unsupported (.noEntry "op/nilCheck.the method's receiver behind this interface value is a nil pointer, or cannot be seen to be none, and the arguments act or may panic (ledger 612)")
        Pure.pure (.value (.func (.method name) first captured))
      | _ => Pure.pure (.value (.func (.method name) first captured))
    | x => Pure.pure (.value x) : Sem Next)).run P w = .ok (.value x') w ∧ v = x := by
  intro w
  unfold opNil at h
  cases hx <;> simp only at h <;> (try cases h)
  · exact ⟨rfl, rfl⟩
  · rename_i fn _ _ _ _ _ _ _ _
    cases fn <;> simp only at h <;> (try cases h)
    exact ⟨rfl, rfl⟩
theorem opIface_run {t : TypeId} {x x' v : Value} (h : opIface P t x = some v) (hx : VR M x x') : ∃ v', (∀ w, (Instr.makeInterface t x').run P w = .ok v' w) ∧ VR M v v' := by
  obtain ⟨d, hd, h1⟩ := bnd_some.1 h
  cases d <;> simp only at h1 <;> (try cases h1)
  all_goals exact ⟨_, fun w => by simp only [Instr.makeInterface, Sem.run_bind, run_underlying hd, Result.andThen_ok, Sem.run_pure], .iface t hx⟩
theorem pick2_eq (mn : Bool) (x y : Int) : pick2 mn x y = if mn then (if y < x then y else x) else (if x < y then y else x) := by
  cases mn
  · show Bool.rec (motive := fun _ => Int) x y (iLt x y) = _
    rw [iLt_eq]
    by_cases h : x < y <;> simp [h]
  · show Bool.rec (motive := fun _ => Int) x y (iLt y x) = _
    rw [iLt_eq]
    by_cases h : y < x <;> simp [h]
theorem foldMM_run {mn : Bool} {F : Value → Value → Sem Value} (hF : ∀ (k : IntKind) (x y : Int) (w : World), (F (.int k x) (.int k y)).run P w = .ok (.int k (pick2 mn x y)) w) : ∀ {vs vs' : List Value} {x x' v : Value}, foldMM mn vs x = some v → LR M vs vs' → VR M x x' →
    ∃ v', (∀ w, (vs'.foldlM F x').run P w = .ok v' w) ∧ VR M v v'
  | [], vs', x, x', v, h, hl, hx => by
    cases (show some x = some v from h)
    rw [hl.nil_l]
    exact ⟨x', fun w => by simp, hx⟩
  | y :: vs, vs', x, x', v, h, hl, hx => by
    obtain ⟨k, a, e1, h1⟩ := bnd2_some.1 (show bnd2 (asInt x) (fun k a => bnd2 (asInt y) fun k' b => bB (kEq k k') (foldMM mn vs (.int k (pick2 mn a b)))) = some v from h)
    obtain ⟨k', b, e2, h2⟩ := bnd2_some.1 h1
    obtain ⟨e3, h3⟩ := bB_some.1 h2
    obtain rfl := kEq_iff.1 e3
    obtain ⟨y', r, rfl, hy, hr⟩ := hl.uncons
    obtain ⟨_, rfl⟩ := asInt_VR e1 hx
    obtain ⟨_, rfl⟩ := asInt_VR e2 hy
    obtain ⟨v', h4, h5⟩ := foldMM_run hF h3 hr (.int k _)
    exact ⟨v', fun w => by simp only [List.foldlM_cons, Sem.run_bind, hF, Result.andThen_ok]; exact h4 w, h5⟩
theorem min_run {vs : List Value} {A : Array Value} {x v : Value} {ts : Array TypeId} {ty : TypeId} (h : foldMM true (sDrop 1 vs) x = some v) (h0 : lGet vs 0 = some x) (hl : LR M vs A.toList) : ∃ v', (∀ w, (Builtin.min_ ts ty A).run P w = .ok v' w) ∧ VR M v v' := by
  cases vs with
  | nil => cases h0
  | cons y vs =>
    cases (show some y = some x from h0)
    obtain ⟨y', r, e, hy, hr⟩ := hl.uncons
    obtain ⟨v', h1, h2⟩ := foldMM_run (P := P) (F := Builtin.min2) (fun k x y w => by simp [Builtin.min2, pick2_eq]) (show foldMM true vs x = some v from h) hr hy
    exact ⟨v', fun w => by simp only [Builtin.min_, e]; exact h1 w, h2⟩
theorem max_run {vs : List Value} {A : Array Value} {x v : Value} {ts : Array TypeId} {ty : TypeId} (h : foldMM false (sDrop 1 vs) x = some v) (h0 : lGet vs 0 = some x) (hl : LR M vs A.toList) : ∃ v', (∀ w, (Builtin.max_ ts ty A).run P w = .ok v' w) ∧ VR M v v' := by
  cases vs with
  | nil => cases h0
  | cons y vs =>
    cases (show some y = some x from h0)
    obtain ⟨y', r, e, hy, hr⟩ := hl.uncons
    obtain ⟨v', h1, h2⟩ := foldMM_run (P := P) (F := Builtin.max2) (fun k x y w => by simp [Builtin.max2, pick2_eq]) (show foldMM false vs x = some v from h) hr hy
    exact ⟨v', fun w => by simp only [Builtin.max_, e]; exact h1 w, h2⟩
theorem lenA_run {t ty : TypeId} {x x' v : Value} (h : lenA P s t x = some v) (hx : VR M x x') (hS : Sim P M s.h.get w) (ts : Array TypeId) (vs : Array Value) (h0 : ts[0]? = some t) (h1 : vs[0]? = some x') :
    (Builtin.len_ ts ty vs).run P w = .ok v w ∧ VR M v v := by
  obtain ⟨d, hd, h2⟩ := bnd_some.1 h
  cases d <;> simp only at h2 <;> (try cases h2)
  case string =>
    obtain ⟨l, hl, h3⟩ := bnd_some.1 h2
    rw [mkN_some, lLen_eq] at h3
    subst h3
    obtain ⟨b, rfl, rfl, rfl⟩ := asStr_VR hl hx
    refine ⟨?_, .int _ _⟩
    simp [Builtin.len_, h0, h1, run_underlying hd, goInt]
  case array n e =>
    rw [mkN_some] at h2
    subst h2
    refine ⟨?_, .int _ _⟩
    simp [Builtin.len_, h0, h1, run_underlying hd, goInt]
  case slice e =>
    obtain ⟨y, hy, h3⟩ := bnd_some.1 h2
    rw [mkN_some] at h3
    subst h3
    obtain ⟨a, c, rfl⟩ := (asSl_VR hy hx).1.len
    refine ⟨?_, .int _ _⟩
    simp [Builtin.len_, h0, h1, run_underlying hd, goInt]
  case map k e =>
    cases hx with
    | mnil =>
      have h3 : mkN 0 = some v := h2
      rw [mkN_some] at h3
      subst h3
      refine ⟨?_, .int _ _⟩
      simp [Builtin.len_, h0, h1, run_underlying hd, goInt]
    | @map r mi hm =>
      obtain ⟨es, c, hmap, h4⟩ := bnd2_some.1 (show bnd2 (mapAt s r) (fun es _ => mkN (lLen es)) = some v from h2)
      rw [mkN_some, lLen_eq] at h4
      subst h4
      obtain ⟨mi', hm', es', he, her⟩ := hS.obj r _ (mapAt_some hmap)
      rw [hm] at hm'; cases hm'
      refine ⟨?_, .int _ _⟩
      simp [Builtin.len_, h0, h1, run_underlying hd, goInt, getObj, Sem.run, he, her.1]
    | _ => cases h2
theorem capA_run {t ty : TypeId} {x x' v : Value} {e : TypeId} (h : capA x = some v) (hx : VR M x x') (hd : P.underlying t = some (.slice e)) (ts : Array TypeId) (vs : Array Value) (h0 : ts[0]? = some t) (h1 : vs[0]? = some x') :
    (Builtin.cap_ ts ty vs).run P w = .ok v w ∧ VR M v v := by
  obtain ⟨y, hy, h2⟩ := bnd_some.1 h
  have hsl := (asSl_VR hy hx).1
  have hn : ∀ c, bE (Nat.ble OPEN c) none (mkN c) = some v → c < OPEN ∧ v = .int .i64 (c : Int) := fun c hc => by
    rcases bE_some.1 hc with ⟨_, h9⟩ | ⟨h8, h9⟩
    · cases h9
    · exact ⟨ble_natF.1 h8, mkN_some.1 h9⟩
  cases hsl with
  | nil => obtain ⟨_, rfl⟩ := hn _ h2; exact ⟨by simp [Builtin.cap_, h0, h1, run_underlying hd, goInt], .int _ _⟩
  | emp _ _ => have := (hn _ h2).1; omega
  | at_ hm hc => obtain ⟨_, rfl⟩ := hn _ h2; exact ⟨by simp [Builtin.cap_, h0, h1, run_underlying hd, goInt], .int _ _⟩
  | open_ _ _ _ _ => have := (hn _ h2).1; omega
end
end Go.Proofs.YtgdlfecppecooaaGreatDoor.ev
