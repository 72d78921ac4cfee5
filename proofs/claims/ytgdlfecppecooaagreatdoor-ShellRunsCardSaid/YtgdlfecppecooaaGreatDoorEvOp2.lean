/- An evaluator of closed calls: slices, fields, elements, conversions. -/
import Derived.Test.YtgdlfecppecooaaGreatDoorEvOp1
set_option linter.all false
namespace Go.Proofs.YtgdlfecppecooaaGreatDoor.ev
open Go Go.RowKit
theorem or_none {P : Program} {t : TypeId} {d : TypeDesc} (h : P.underlying t = some d) (w : World) : (underlying t).run P w = .ok d w := run_underlying h w
section
variable {P : Program} {M M' : Pm} {φ : T Value} {a : Act} {N : Nat} {w : World} {s s' : St}
/-- An optional value. -/
def OVR (M : Pm) (x x' : Option Value) : Prop := (x = none ∧ x' = none) ∨ ∃ u u', x = some u ∧ x' = some u' ∧ VR M u u'
theorem boundA_run {x x' : Option Value} {d hi m : Nat} (h : boundA x d hi = some m) (hx : OVR M x x') : (x = none ∧ x' = none ∧ m = d) ∨ ∃ k, x' = some (.int k (m : Int)) ∧ m ≤ hi ∧ x ≠ none := by
  rcases hx with ⟨rfl, rfl⟩ | ⟨u, u', rfl, rfl, hv⟩
  · cases (show some d = some m from h); exact .inl ⟨rfl, rfl, rfl⟩
  · obtain ⟨n, hn, h1⟩ := bnd_some.1 (show bnd (asNat u) (fun m => bB (Nat.ble m hi) (some m)) = some m from h)
    obtain ⟨h2, h3⟩ := bB_some.1 h1
    cases h3
    obtain ⟨k, _, rfl⟩ := asNat_VR hn hv
    exact .inr ⟨k, rfl, ble_nat.1 h2, by simp⟩
theorem boundA_run0 {x x' : Option Value} {hi m : Nat} (h : boundA x (nat_lit 0) hi = some m) (hx : OVR M x x') : (x = none ∧ x' = none ∧ m = 0) ∨ ∃ k, x' = some (.int k (m : Int)) ∧ m ≤ hi ∧ x ≠ none := boundA_run h hx
theorem sliceBound_run {k : IntKind} {m y : Nat} (h : m ≤ y) (code : BoundsCode) (w : World) : (Instr.sliceBound (.int k (m : Int)) y code).run P w = .ok m w := by
  have h2 : 0 ≤ (m : Int) ∧ (m : Int) ≤ (y : Int) := ⟨by omega, by omega⟩
  simp only [Instr.sliceBound, asIntOf, Sem.run_bind, Sem.run_pure, Result.andThen_ok, if_pos h2, Int.toNat_natCast]
theorem sliceBounds_run {b : Bool} {len cap l h m : Nat} {lo hi mx : Option Value} (hm : (mx = none ∧ m = cap) ∨ ∃ k, mx = some (.int k (m : Int)) ∧ m ≤ cap)
    (hh : (hi = none ∧ mx = none ∧ h = len) ∨ ∃ k, hi = some (.int k (h : Int)) ∧ h ≤ m) (hl : (lo = none ∧ l = 0) ∨ ∃ k, lo = some (.int k (l : Int)) ∧ l ≤ h) (w : World) :
    (Instr.sliceBounds b len cap lo hi mx).run P w = .ok (l, h, m) w := by
  rcases hm with ⟨rfl, rfl⟩ | ⟨k1, rfl, hm⟩ <;> rcases hh with ⟨rfl, h0, rfl⟩ | ⟨k2, rfl, hh⟩ <;> rcases hl with ⟨rfl, rfl⟩ | ⟨k3, rfl, hl⟩
  all_goals first
    | (cases h0; done)
    | (simp only [Instr.sliceBounds, Sem.run_bind, Sem.run_pure, Result.andThen_ok, sliceBound_run hm, sliceBound_run hh, sliceBound_run hl])
    | (simp only [Instr.sliceBounds, Sem.run_bind, Sem.run_pure, Result.andThen_ok, sliceBound_run hm, sliceBound_run hh])
    | (simp only [Instr.sliceBounds, Sem.run_bind, Sem.run_pure, Result.andThen_ok, sliceBound_run hh, sliceBound_run hl])
    | (simp only [Instr.sliceBounds, Sem.run_bind, Sem.run_pure, Result.andThen_ok, sliceBound_run hh])
    | (simp only [Instr.sliceBounds, Sem.run_bind, Sem.run_pure, Result.andThen_ok, sliceBound_run hl])
    | (simp only [Instr.sliceBounds, Sem.run_bind, Sem.run_pure, Result.andThen_ok])
theorem addA (b o n : Nat) : Addr.add ⟨b, o, none⟩ n = ⟨b, o + n, none⟩ := Addr.add_lit b o n
/-- the cut of a slice at a known place -/
theorem mkSl_VR {b o l h m size : Nat} {v : Value} {mi : MI} (hk : mkSl b o l h m size = some v) (hm : M b = some mi) (hc : m - l < OPEN) :
    VR M v (.slice (some (if m = l then ⟨mi.blk, mi.sh + o, none⟩ else ⟨mi.blk, mi.sh + o + l * size, none⟩)) (h - l) (m - l)) := by
  rcases bE_some.1 hk with ⟨e, h1⟩ | ⟨e, h1⟩
  · cases h1
    rw [if_pos (beq_nat.1 e)]
    exact .sl hm hc
  · cases h1
    rw [if_neg (beq_natF.1 e)]
    have := VR.sl (M := M) (b := b) (o := o + l * size) (l := h - l) (c := m - l) hm hc
    rw [show mi.sh + (o + l * size) = mi.sh + o + l * size by omega] at this
    exact this
theorem OPEN_le {c : Nat} (h : c < OPEN) : Nat.ble OPEN c = false := ble_natF.2 h
theorem run_slice_sl {t e : TypeId} {size len cap l h m : Nat} {base : Option Addr} {lo hi mx : Option Value} (ht : P.underlying t = some (.slice e)) (hs : szOf P e = some size)
    (hb : ∀ w, (Instr.sliceBounds true len cap lo hi mx).run P w = .ok (l, h, m) w) (w : World) :
    (Instr.sliceAt t (.slice base len cap) lo hi mx).run P w = .ok (.slice (if m = l then base else base.map (·.add (l * size))) (h - l) (m - l)) w := by
  simp only [Instr.sliceAt, Sem.run_bind, run_underlying ht, Result.andThen_ok, Instr.slice, hb, run_size hs, Sem.run_pure]
theorem hOf {x x' : Option Value} {len m h : Nat} (h1 : (x = none ∧ x' = none ∧ h = len) ∨ ∃ k, x' = some (.int k (h : Int)) ∧ h ≤ m ∧ x ≠ none) {mx : Option Value} (hn : mx = none ∨ x ≠ none) :
    (x' = none ∧ mx = none ∧ h = len) ∨ ∃ k, x' = some (.int k (h : Int)) ∧ h ≤ m := by
  rcases h1 with ⟨e1, e2, e3⟩ | ⟨k, e1, e2, _⟩
  · rcases hn with hn | hn
    · exact .inl ⟨e2, hn, e3⟩
    · exact absurd e1 hn
  · exact .inr ⟨k, e1, e2⟩
theorem lOf {x x' : Option Value} {l h : Nat} (h1 : (x = none ∧ x' = none ∧ l = 0) ∨ ∃ k, x' = some (.int k (l : Int)) ∧ l ≤ h ∧ x ≠ none) : (x' = none ∧ l = 0) ∨ ∃ k, x' = some (.int k (l : Int)) ∧ l ≤ h := by
  rcases h1 with ⟨_, e2, e3⟩ | ⟨k, e1, e2, _⟩
  · exact .inl ⟨e2, e3⟩
  · exact .inr ⟨k, e1, e2⟩
theorem isNone_of {α : Type} {mx hi : Option α} (h : Bool.and (Option.isSome mx) (Option.isNone hi) = false) : mx = none ∨ hi ≠ none := by
  cases mx <;> cases hi <;> simp_all [Bool.and]
theorem sliceSl_run {t e : TypeId} {size : Nat} {x : SlV} {x' v : Value} {lo hi mx lo' hi' mx' : Option Value} (h : sliceSl size x lo hi mx = some v) (ht : P.underlying t = some (.slice e)) (hs : szOf P e = some size) (hx : SlR M x x')
    (hlo : OVR M lo lo') (hhi : OVR M hi hi') (hmx : OVR M mx mx') : ∃ v', (∀ w, (Instr.sliceAt t x' lo' hi' mx').run P w = .ok v' w) ∧ VR M v v' := by
  obtain ⟨a, len, cap⟩ := x
  rcases bE_some.1 (show bE (Nat.ble OPEN cap) _ _ = some v from h) with ⟨ho, h1⟩ | ⟨ho, h1⟩
  · -- open
    have hcap : OPEN ≤ cap := ble_nat.1 ho
    cases mx with
    | none =>
      obtain ⟨hn, hh, h2⟩ := bnd_some.1 h1
      obtain ⟨l, hl, h3⟩ := bnd_some.1 h2
      have rh := boundA_run hh hhi
      have rl := boundA_run0 hl hlo
      have hmx' : mx' = none := by rcases hmx with ⟨_, e⟩ | ⟨u, u', e, _⟩; exact e; cases e
      subst hmx'
      have hhl : hn ≤ len := by rcases rh with ⟨_, _, e⟩ | ⟨_, _, e, _⟩ <;> omega
      have hll : l ≤ hn := by rcases rl with ⟨_, _, e⟩ | ⟨_, _, e, _⟩ <;> omega
      cases hx with
      | nil => rw [OPEN_eq] at hcap; omega
      | at_ _ hc => omega
      | emp ad c =>
        have hv : v = .slice none 0 OPEN := by
          obtain ⟨_, h4⟩ := bB_some.1 (show bB (Nat.beq 0 0) (some (Value.slice none 0 OPEN)) = some v from h3)
          cases h4; rfl
        subst hv
        obtain rfl : hn = 0 := by omega
        obtain rfl : l = 0 := by omega
        have hb := fun w => sliceBounds_run (P := P) (b := true) (len := 0) (cap := c) (l := 0) (h := 0) (m := c) (lo := lo') (hi := hi') (mx := none) (.inl ⟨rfl, rfl⟩)
          (by rcases rh with ⟨_, e2, _⟩ | ⟨k, e, _⟩; exact .inl ⟨e2, rfl, rfl⟩; exact .inr ⟨k, e, Nat.zero_le _⟩) (lOf rl) w
        refine ⟨_, fun w => run_slice_sl ht hs hb w, ?_⟩
        by_cases hc0 : c = 0
        · rw [if_pos hc0]; exact .sle _ _
        · rw [if_neg hc0]; exact .sle _ _
      | @open_ b o _ c mi hm hlc hc htot =>
        obtain ⟨hce, h4⟩ := bB_some.1 (show bB (Nat.beq _ (OPEN + size)) _ = some v from h3)
        have hes : mi.esz = size := by have := beq_nat.1 hce; omega
        have hb := fun w => sliceBounds_run (P := P) (b := true) (len := len) (cap := c) (l := l) (h := hn) (m := c) (lo := lo') (hi := hi') (mx := none) (.inl ⟨rfl, rfl⟩)
          (by rcases rh with ⟨_, e2, e3⟩ | ⟨k, e, _⟩; exact .inl ⟨e2, rfl, e3⟩; exact .inr ⟨k, e, by omega⟩) (lOf rl) w
        refine ⟨_, fun w => run_slice_sl ht hs hb w, ?_⟩
        rcases bE_some.1 h4 with ⟨hlt, h5⟩ | ⟨hlt, h5⟩
        · cases h5
          have hlt' : l < len := ble_nat.1 hlt
          rw [if_neg (by omega), Option.map_some, addA]
          have := VR.slo (M := M) (b := b) (o := o + l * size) (l := hn - l) (c := c - l) hm (by omega) (by omega) (by
            rw [← hes] at *
            have : l * mi.esz + (c - l) * mi.esz = c * mi.esz := by rw [← Nat.add_mul]; congr 1; omega
            omega)
          rw [show mi.sh + (o + l * size) = mi.sh + o + l * size by omega] at this
          exact this
        · have hge : len ≤ l := by have h9 : len < l + 1 := ble_natF.1 hlt; omega
          cases l with
          | zero =>
            cases (show some (slV b o hn _) = some v from h5)
            have e : (if c = 0 then some (⟨mi.blk, mi.sh + o, none⟩ : Addr) else (some (⟨mi.blk, mi.sh + o, none⟩ : Addr)).map (·.add (0 * size))) = some ⟨mi.blk, mi.sh + o, none⟩ := by
              split
              · rfl
              · rw [Option.map_some, addA]; simp
            rw [e]
            exact .slo hm (by omega) (by omega) htot
          | succ l =>
            cases (show some (Value.slice none 0 OPEN) = some v from h5)
            rw [show hn - (l + 1) = 0 by omega]
            split
            · exact .sle _ _
            · rw [Option.map_some]; exact .sle _ _
    | some u =>
      obtain ⟨m, hm0, h2⟩ := bnd_some.1 h1
      obtain ⟨hi0, hhi0, h2⟩ := bnd_some.1 h2
      obtain ⟨hn, hh, h2⟩ := bnd_some.1 h2
      obtain ⟨l, hl, h3⟩ := bnd_some.1 h2
      cases hhi0
      have rm := boundA_run0 hm0 hmx
      have rh := boundA_run hh hhi
      have rl := boundA_run0 hl hlo
      obtain ⟨k1, rfl, hmle, _⟩ : ∃ k, mx' = some (.int k (m : Int)) ∧ m ≤ len ∧ some u ≠ none := by rcases rm with ⟨e, _⟩ | r; cases e; exact r
      have hll : l ≤ hn := by rcases rl with ⟨_, _, e⟩ | ⟨_, _, e, _⟩ <;> omega
      cases hx with
      | nil => rw [OPEN_eq] at hcap; omega
      | at_ _ hc => omega
      | emp ad c => cases (show none = some v from h3)
      | @open_ b o _ c mi hm hlc hc htot =>
        have hb := fun w => sliceBounds_run (P := P) (b := true) (len := len) (cap := c) (l := l) (h := hn) (m := m) (lo := lo') (hi := hi') (mx := some (.int k1 (m : Int))) (.inr ⟨k1, rfl, by omega⟩)
          (hOf rh (.inr (by simp))) (lOf rl) w
        refine ⟨_, fun w => run_slice_sl ht hs hb w, ?_⟩
        have := mkSl_VR (show mkSl b o l hn m size = some v from h3) hm (by omega)
        split <;> simp_all [addA]
  · -- known
    have hcap : cap < OPEN := ble_natF.1 ho
    obtain ⟨m, hm0, h2⟩ := bnd_some.1 h1
    obtain ⟨hmh, h2⟩ : Bool.and (Option.isSome mx) (Option.isNone hi) = false ∧ _ := by
      rcases bE_some.1 h2 with ⟨_, h9⟩ | ⟨h8, h9⟩
      · cases h9
      · exact ⟨h8, h9⟩
    obtain ⟨hn, hh, h2⟩ := bnd_some.1 h2
    obtain ⟨l, hl, h3⟩ := bnd_some.1 h2
    have rm := boundA_run hm0 hmx
    have rh := boundA_run hh hhi
    have rl := boundA_run0 hl hlo
    have hmc : m ≤ cap := by rcases rm with ⟨_, _, e⟩ | ⟨_, _, e, _⟩ <;> omega
    have hmx2 : (mx' = none ∧ m = cap) ∨ ∃ k, mx' = some (.int k (m : Int)) ∧ m ≤ cap := by
      rcases rm with ⟨_, e1, e2⟩ | ⟨k, e1, e2, _⟩
      · exact .inl ⟨e1, e2⟩
      · exact .inr ⟨k, e1, e2⟩
    have hnone : mx' = none ∨ hi ≠ none := by
      rcases isNone_of hmh with e | e
      · rcases hmx with ⟨_, e2⟩ | ⟨u, u', e3, _⟩
        · exact .inl e2
        · rw [e] at e3; cases e3
      · exact .inr e
    cases hx with
    | nil =>
      have hb := fun w => sliceBounds_run (P := P) (b := true) (len := 0) (cap := 0) (l := l) (h := hn) (m := m) hmx2 (hOf rh hnone) (lOf rl) w
      refine ⟨_, fun w => run_slice_sl ht hs hb w, ?_⟩
      obtain rfl : m = 0 := by omega
      have hn0 : hn = 0 := by rcases rh with ⟨_, _, e⟩ | ⟨_, _, e, _⟩ <;> omega
      have hl0 : l = 0 := by rcases rl with ⟨_, _, e⟩ | ⟨_, _, e, _⟩ <;> omega
      subst hn0; subst hl0
      cases (show some (Value.slice none (0 - 0) (0 - 0)) = some v from h3)
      simp
      exact .snil
    | emp ad c => omega
    | @at_ b o _ _ mi hm hc =>
      have hb := fun w => sliceBounds_run (P := P) (b := true) (len := len) (cap := cap) (l := l) (h := hn) (m := m) hmx2 (hOf rh hnone) (lOf rl) w
      refine ⟨_, fun w => run_slice_sl ht hs hb w, ?_⟩
      have := mkSl_VR (show mkSl b o l hn m size = some v from h3) hm (by omega)
      split <;> simp_all [addA]
    | @open_ b o _ c mi hm hlc hc htot => omega
theorem OVR.map {x : Option Operand} {v : Option Value} (h : evO P φ x = some v) (hf : FR P M φ a N) : OVR M v (x.map a.eval) := by
  rcases evO_VR h hf with ⟨rfl, rfl⟩ | ⟨y, u, rfl, rfl, hv⟩
  · exact .inl ⟨rfl, rfl⟩
  · exact .inr ⟨u, _, rfl, rfl, hv⟩
theorem extract_str (b : ByteArray) (l h : Nat) (_hlh : l ≤ h) (_hh : h ≤ b.data.toList.length) : b.extract l h = ⟨⟨(b.data.toList.drop l).take (h - l)⟩⟩ := by
  have e : (b.extract l h).data = ⟨(b.data.toList.drop l).take (h - l)⟩ := by
    rw [ByteArray.data_extract]
    apply Array.ext'
    rw [Array.toList_extract, List.extract_eq_take_drop]
  cases hx : b.extract l h
  rw [hx] at e
  simp only at e
  rw [e]
theorem sliceStr_run {t : TypeId} {b : ByteArray} {v : Value} {lo hi mx lo' hi' mx' : Option Value} (h : sliceStr b.data.toList lo hi mx = some v) (ht : P.underlying t = some .string)
    (hlo : OVR M lo lo') (hhi : OVR M hi hi') (hmx : OVR M mx mx') : ∀ w, (Instr.sliceAt t (.string b) lo' hi' mx').run P w = .ok v w := by
  cases mx with
  | some u => cases h
  | none =>
    obtain ⟨hn, hh, h1⟩ := bnd_some.1 h
    obtain ⟨l, hl, h2⟩ := bnd_some.1 h1
    obtain ⟨r, hr, h3⟩ := bnd_some.1 h2
    cases h3
    have rh := boundA_run hh hhi
    have rl := boundA_run0 hl hlo
    have hmx' : mx' = none := by rcases hmx with ⟨_, e⟩ | ⟨u, u', e, _⟩; exact e; cases e
    subst hmx'
    rw [lLen_eq] at rh hh
    have hsz : b.data.toList.length = b.size := by rw [Array.length_toList]; rfl
    have hhl : hn ≤ b.size := by rcases rh with ⟨_, _, e⟩ | ⟨_, _, e, _⟩ <;> omega
    have hll : l ≤ hn := by rcases rl with ⟨_, _, e⟩ | ⟨_, _, e, _⟩ <;> omega
    rw [hsz] at rh
    intro w
    have hb := sliceBounds_run (P := P) (b := false) (len := b.size) (cap := b.size) (l := l) (h := hn) (m := b.size) (lo := lo') (hi := hi') (mx := none) (.inl ⟨rfl, rfl⟩) (hOf rh (.inl rfl)) (lOf rl) w
    obtain ⟨_, rfl⟩ := sTake_some hr
    rw [sDrop_eq] at *
    simp only [Instr.sliceAt, Sem.run_bind, run_underlying ht, Result.andThen_ok, Instr.slice, Option.isSome_none, Bool.false_eq_true, if_false, hb, Sem.run_pure, strOf, extract_str b l hn hll (by rw [hsz]; exact hhl)]
    rfl
theorem sliceA_run {t : TypeId} {x x' v : Value} {lo hi mx lo' hi' mx' : Option Value} (h : sliceA P t x lo hi mx = some v) (hx : VR M x x') (hlo : OVR M lo lo') (hhi : OVR M hi hi') (hmx : OVR M mx mx') :
    ∃ v', (∀ w, (Instr.sliceAt t x' lo' hi' mx').run P w = .ok v' w) ∧ VR M v v' := by
  obtain ⟨d, hd, h1⟩ := bnd_some.1 h
  cases d <;> simp only at h1 <;> (try cases h1)
  case string =>
    obtain ⟨l, hl, h2⟩ := bnd_some.1 h1
    obtain ⟨b, rfl, rfl, rfl⟩ := asStr_VR hl hx
    refine ⟨v, sliceStr_run h2 hd hlo hhi hmx, ?_⟩
    cases mx with
    | some u => cases h2
    | none =>
      obtain ⟨_, _, h3⟩ := bnd_some.1 h2
      obtain ⟨_, _, h4⟩ := bnd_some.1 h3
      obtain ⟨_, _, h5⟩ := bnd_some.1 h4
      cases h5
      exact .string _
  case slice e =>
    obtain ⟨size, hs, h2⟩ := bnd_some.1 h1
    obtain ⟨y, hy, h3⟩ := bnd_some.1 h2
    exact sliceSl_run h3 hd hs (asSl_VR hy hx).1 hlo hhi hmx
  case array n e =>
    obtain ⟨b, o, hp, h2⟩ := bnd2_some.1 h1
    obtain ⟨size, hs, h3⟩ := bnd_some.1 h2
    obtain ⟨hn40, h3⟩ := bB_some.1 h3
    have hn40 : n ≤ 1099511627776 := ble_nat.1 hn40
    obtain ⟨m, hm0, h4⟩ := bnd_some.1 h3
    obtain ⟨hmh, h5⟩ : Bool.and (Option.isSome mx) (Option.isNone hi) = false ∧ _ := by
      rcases bE_some.1 h4 with ⟨_, h9⟩ | ⟨h8, h9⟩
      · cases h9
      · exact ⟨h8, h9⟩
    obtain ⟨hn, hh, h6⟩ := bnd_some.1 h5
    obtain ⟨l, hl, h7⟩ := bnd_some.1 h6
    obtain ⟨mi, hm, rfl, rfl⟩ := asPtr_VR hp hx
    have rm := boundA_run hm0 hmx
    have rh := boundA_run hh hhi
    have rl := boundA_run0 hl hlo
    have hmx2 : (mx' = none ∧ m = n) ∨ ∃ k, mx' = some (.int k (m : Int)) ∧ m ≤ n := by
      rcases rm with ⟨_, e1, e2⟩ | ⟨k, e1, e2, _⟩
      · exact .inl ⟨e1, e2⟩
      · exact .inr ⟨k, e1, e2⟩
    have hnone : mx' = none ∨ hi ≠ none := by
      rcases isNone_of hmh with e | e
      · rcases hmx with ⟨_, e2⟩ | ⟨u, u', e3, _⟩
        · exact .inl e2
        · rw [e] at e3; cases e3
      · exact .inr e
    have hb := fun w => sliceBounds_run (P := P) (b := false) (len := n) (cap := n) (l := l) (h := hn) (m := m) hmx2 (hOf rh hnone) (lOf rl) w
    have hmo : m - l < OPEN := by
      have : m ≤ n := by rcases rm with ⟨_, _, e⟩ | ⟨_, _, e, _⟩ <;> omega
      rw [OPEN_eq]; omega
    refine ⟨.slice (some (if m = l then ⟨mi.blk, mi.sh + o, none⟩ else ⟨mi.blk, mi.sh + o + l * size, none⟩)) (hn - l) (m - l), fun w => ?_, ?_⟩
    · simp only [Instr.sliceAt, Sem.run_bind, run_underlying hd, Result.andThen_ok, Instr.sureAddr, Sem.run_pure, hb, run_size hs, addA]
    · exact mkSl_VR h7 hm hmo
end
end Go.Proofs.YtgdlfecppecooaaGreatDoor.ev
