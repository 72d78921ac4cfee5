/- An evaluator of closed calls: numbers, texts, values. -/
import Derived.Test.YtgdlfecppecooaaGreatDoorEvMem
import Derived.IntWalk
set_option linter.all false
namespace Go.Proofs.YtgdlfecppecooaaGreatDoor.ev
open Go Go.RowKit
theorem iEq_eq (x y : Int) : iEq x y = (x == y) := by
  cases x <;> cases y <;> rw [Bool.eq_iff_iff] <;> simp [iEq, -Int.ofNat_eq_natCast] <;> try exact Iff.rfl
theorem iLt_eq (x y : Int) : iLt x y = decide (x < y) := by
  rw [Bool.eq_iff_iff, decide_eq_true_iff]
  cases x with
  | ofNat a => cases y with
    | ofNat b => show Nat.ble (a + 1) b = true ↔ _; rw [ble_nat]; simp; omega
    | negSucc b => simp [iLt]; omega
  | negSucc a => cases y with
    | ofNat b => simp [iLt]; omega
    | negSucc b => show Nat.ble (b + 1) a = true ↔ _; rw [ble_nat]; omega
theorem kEq_iff {a b : IntKind} : kEq a b = true ↔ a = b := by
  cases a <;> cases b <;> decide
theorem mkI_some {k : IntKind} {n : Int} {v : Value} : mkI k n = some v ↔ v = .int k n := by
  cases n with
  | ofNat m => cases m with
    | zero => exact ⟨fun h => by cases (show some (Value.int k (.ofNat 0)) = some v from h); rfl, fun h => by rw [h]; rfl⟩
    | succ m => exact ⟨fun h => by cases (show some (Value.int k (.ofNat (m + 1))) = some v from h); rfl, fun h => by rw [h]; rfl⟩
  | negSucc m => cases m with
    | zero => exact ⟨fun h => by cases (show some (Value.int k (.negSucc 0)) = some v from h); rfl, fun h => by rw [h]; rfl⟩
    | succ m => exact ⟨fun h => by cases (show some (Value.int k (.negSucc (m + 1))) = some v from h); rfl, fun h => by rw [h]; rfl⟩
theorem mkN_some {n : Nat} {v : Value} : mkN n = some v ↔ v = .int .i64 (n : Int) := by
  cases n with
  | zero => exact ⟨fun h => by cases (show some (Value.int .i64 (.ofNat 0)) = some v from h); rfl, fun h => by rw [h]; rfl⟩
  | succ m => exact ⟨fun h => by cases (show some (Value.int .i64 (.ofNat (m + 1))) = some v from h); rfl, fun h => by rw [h]; rfl⟩
theorem wrap_in (k : IntKind) (n : Int) (h1 : -(kLo k : Int) ≤ n) (h2 : n ≤ (kHi k : Int)) : k.wrap n = n := by
  cases k <;> simp only [kLo, kHi] at h1 h2
  · exact IntWalk.i8_in n (by omega)
  · exact IntWalk.i16_in n (by omega)
  · exact IntWalk.i32_in n (by omega)
  · exact IntWalk.i64_in n (by omega)
  · exact IntWalk.u8_in n (by omega)
  · exact IntWalk.u16_in n (by omega)
  · exact IntWalk.u32_in n (by omega)
  · exact IntWalk.u64_in n (by omega)
theorem wrapA_eq (k : IntKind) (n : Int) : wrapA k n = k.wrap n := by
  cases n with
  | ofNat m =>
    show Bool.rec (motive := fun _ => Int) (k.wrap (.ofNat m)) (.ofNat m) (Nat.ble m (kHi k)) = _
    cases h : Nat.ble m (kHi k)
    · rfl
    · have h2 := ble_nat.1 h
      exact (wrap_in k (Int.ofNat m) (by rw [Int.ofNat_eq_natCast]; omega) (by rw [Int.ofNat_eq_natCast]; omega)).symm
  | negSucc m =>
    show Bool.rec (motive := fun _ => Int) (k.wrap (.negSucc m)) (.negSucc m) (Nat.ble (m + 1) (kLo k)) = _
    cases h : Nat.ble (m + 1) (kLo k)
    · rfl
    · have h2 := ble_nat.1 h
      exact (wrap_in k (Int.negSucc m) (by omega) (by omega)).symm
theorem kMod_eq (k : IntKind) : kMod k = 2 ^ k.bits := by cases k <;> rfl
theorem toN_eq (k : IntKind) (n : Int) : toN k n = (BitVec.ofInt k.bits n).toNat := by
  rw [BitVec.toNat_ofInt]
  cases n with
  | ofNat m =>
    show Nat.mod m (kMod k) = _
    rw [kMod_eq]
    exact (Int.toNat_natCast _).symm
  | negSucc m =>
    show Nat.sub (Nat.sub (kMod k) 1) (Nat.mod m (kMod k)) = _
    have hp : 0 < 2 ^ k.bits := Nat.two_pow_pos _
    have hm : m % 2 ^ k.bits < 2 ^ k.bits := Nat.mod_lt _ hp
    rw [kMod_eq]
    show 2 ^ k.bits - 1 - m % 2 ^ k.bits = _
    have e : (Int.negSucc m) % ((2 ^ k.bits : Nat) : Int) = ((2 ^ k.bits - 1 - m % 2 ^ k.bits : Nat) : Int) := by
      rw [Int.negSucc_emod _ (by exact_mod_cast hp)]
      have : ((m % 2 ^ k.bits : Nat) : Int) = (m : Int) % ((2 ^ k.bits : Nat) : Int) := by simp
      rw [← this]
      omega
    rw [e, Int.toNat_natCast]
theorem minN_eq (a b : Nat) : minN a b = min a b := by
  show Bool.rec (motive := fun _ => Nat) b a (Nat.ble a b) = _
  cases h : Nat.ble a b
  · have := ble_natF.1 h; simp; omega
  · have := ble_nat.1 h; simp; omega
section
variable {P : Program}
theorem bitA_some {k : IntKind} {n : Nat} {v : Value} (h : bitA k n = some v) : v = .int k (k.wrap n) := by
  unfold bitA at h
  rw [mkI_some, wrapA_eq] at h
  exact h
theorem intA_run {op : BinOp} {k : IntKind} {x y : Int} {v : Value} (h : intA op k x y = some v) (T : TypeId) (w : World) (h1 : op ≠ .shl) (h2 : op ≠ .shr) :
    (binOp op T (.int k x) (.int k y)).run P w = .ok v w ∧ clean0 v = true := by
  cases op <;> simp only [intA] at h <;> (try cases h) <;> (try exact absurd rfl h1) <;> (try exact absurd rfl h2)
  case add => rw [mkI_some, wrapA_eq] at h; subst h; simp [binOp, Op.intArith, clean0]
  case sub => rw [mkI_some, wrapA_eq] at h; subst h; simp [binOp, Op.intArith, clean0]; rfl
  case mul => rw [mkI_some, wrapA_eq] at h; subst h; simp [binOp, Op.intArith, clean0]
  case quo =>
    rw [bE_some] at h
    rcases h with ⟨_, h⟩ | ⟨h0, h⟩
    · cases h
    · rw [mkI_some, wrapA_eq] at h; subst h
      rw [iEq_eq] at h0
      have : y ≠ 0 := by simpa using h0
      simp [binOp, Op.intDiv, this, clean0]
  case rem =>
    rw [bE_some] at h
    rcases h with ⟨_, h⟩ | ⟨h0, h⟩
    · cases h
    · rw [mkI_some] at h; subst h
      rw [iEq_eq] at h0
      have : y ≠ 0 := by simpa using h0
      simp [binOp, Op.intDiv, this, clean0]
  case and => have := bitA_some h; subst this; simp [binOp, Op.intBits, clean0, toN_eq, BitVec.toNat_and]; try rfl
  case or => have := bitA_some h; subst this; simp [binOp, Op.intBits, clean0, toN_eq, BitVec.toNat_or]; try rfl
  case xor => have := bitA_some h; subst this; simp [binOp, Op.intBits, clean0, toN_eq, BitVec.toNat_xor]; try rfl
  all_goals (simp [binOp, Op.intCmp, clean0, iEq_eq, iLt_eq]; try rw [Bool.eq_iff_iff]; try simp; try omega)
theorem binInt_run {op : BinOp} {k k' : IntKind} {x y : Int} {v : Value} (h : binInt op k k' x y = some v) (T : TypeId) (w : World) :
    (binOp op T (.int k x) (.int k' y)).run P w = .ok v w ∧ clean0 v = true := by
  by_cases h1 : op = .shl
  · subst h1
    simp only [binInt] at h
    cases y with
    | negSucc m => cases h
    | ofNat m =>
      simp only [shlA] at h
      rw [mkI_some, wrapA_eq, minN_eq] at h
      subst h
      refine ⟨?_, rfl⟩
      have : ¬ ((m : Int) < 0) := by omega
      simp [binOp, Op.shift, this]
      try rfl
  · by_cases h2 : op = .shr
    · subst h2
      simp only [binInt] at h
      cases y with
      | negSucc m => cases h
      | ofNat m =>
        cases x with
        | negSucc x => cases h
        | ofNat x =>
          simp only [shrA] at h
          rw [mkI_some, minN_eq] at h
          subst h
          refine ⟨?_, rfl⟩
          have : ¬ ((m : Int) < 0) := by omega
          simp only [binOp, Op.shift]
          rw [if_neg (by simp)]
          have e : Int.fdiv (Int.ofNat x) (2 ^ min (Int.ofNat m).toNat k.bits) = Int.ofNat (Nat.div x (Nat.pow 2 (min m k.bits))) := by
            show Int.fdiv (Int.ofNat x) (2 ^ min m k.bits) = _
            rw [show (2 : Int) ^ min m k.bits = ((2 ^ min m k.bits : Nat) : Int) by simp, Int.fdiv_eq_ediv_of_nonneg _ (Int.natCast_nonneg _)]
            rfl
          rw [e]
          rfl
    · have h' : bB (kEq k k') (intA op k x y) = some v := by
        cases op <;> first | exact h | exact absurd rfl h1 | exact absurd rfl h2
      obtain ⟨e, h'⟩ := bB_some.1 h'
      obtain rfl := kEq_iff.1 e
      exact intA_run (bB_some.1 h').2 T w h1 h2
end
/-! ### Bytes -/
theorem bEq_eq : ∀ (x y : List UInt8), bEq x y = (x == y)
  | [], [] => rfl
  | [], _ :: _ => rfl
  | _ :: _, [] => rfl
  | a :: x, b :: y => by
    show Bool.rec (motive := fun _ => Bool) false (bEq x y) (Nat.beq a.toNat b.toNat) = _
    rw [bEq_eq x y, Bool.eq_iff_iff]
    cases h : Nat.beq a.toNat b.toNat
    · have := beq_natF.1 h
      have hn : a ≠ b := fun e => this (by rw [e])
      simp [hn]
    · have := UInt8.toNat_inj.1 (beq_nat.1 h)
      simp [this]
theorem bLt_eq : ∀ (x y : List UInt8), bLt x y = Op.bytesLess x y
  | [], [] => rfl
  | [], _ :: _ => rfl
  | _ :: _, [] => rfl
  | a :: x, b :: y => by
    show Bool.rec (motive := fun _ => Bool) (Bool.rec (motive := fun _ => Bool) false (bLt x y) (Nat.beq a.toNat b.toNat)) true (Nat.ble (a.toNat + 1) b.toNat) = (a < b || (a == b && Op.bytesLess x y))
    rw [bLt_eq x y]
    cases h : Nat.ble (a.toNat + 1) b.toNat
    · have h1 := ble_natF.1 h
      have hn : ¬ a < b := by rw [UInt8.lt_iff_toNat_lt]; omega
      cases h2 : Nat.beq a.toNat b.toNat
      · have := beq_natF.1 h2
        have hne : a ≠ b := fun e => this (by rw [e])
        simp [hn, hne]
      · have := UInt8.toNat_inj.1 (beq_nat.1 h2)
        subst this
        simp [hn]
    · have h1 := ble_nat.1 h
      have : a < b := by rw [UInt8.lt_iff_toNat_lt]; omega
      simp [this]
theorem bytesV_some : ∀ {l : List UInt8} {r : List Value}, bytesV l = some r → r = l.map fun b => Value.int .u8 b.toNat
  | [], r, h => by cases (show some [] = some r from h); rfl
  | b :: l, r, h => by
    obtain ⟨z, hz, h1⟩ := bnd_some.1 (show bnd (bytesV l) _ = some r from h)
    obtain ⟨v, hv, h2⟩ := bnd_some.1 h1
    cases h2
    rw [mkI_some] at hv
    rw [hv, bytesV_some hz]
    rfl
theorem byteOfV_some {v : Value} {b : UInt8} (h : byteOfV v = some b) : ∃ m : Nat, v = .int .u8 m ∧ b = UInt8.ofNat m := by
  unfold byteOfV at h
  split at h
  · split at h
    · split at h
      · rename_i m
        cases h
        exact ⟨m, rfl, rfl⟩
      · cases h
    · cases h
  · cases h
theorem vBytes_some : ∀ {l : List Value} {r : List UInt8}, vBytes l = some r → r.length = l.length ∧ ∀ (i : Nat) (v : Value), l[i]? = some v → ∃ m : Nat, v = .int .u8 m ∧ r[i]? = some (UInt8.ofNat m)
  | [], r, h => by cases (show some [] = some r from h); simp
  | v :: l, r, h => by
    obtain ⟨b, hb, h1⟩ := bnd_some.1 (show bnd (byteOfV v) _ = some r from h)
    obtain ⟨z, hz, h2⟩ := bnd_some.1 h1
    cases h2
    obtain ⟨i1, i2⟩ := vBytes_some hz
    refine ⟨by simp [i1], fun i u hu => ?_⟩
    cases i with
    | zero =>
      obtain ⟨m, e1, e2⟩ := byteOfV_some hb
      simp only [List.getElem?_cons_zero, Option.some.injEq] at hu
      exact ⟨m, hu ▸ e1, by simp [e2]⟩
    | succ i => exact i2 i u (by simpa using hu)
/-! ### What values are -/
section
variable {M : Pm} {v v' : Value}
theorem asPtr_VR {b o : Nat} (h : asPtr v = some (b, o)) (r : VR M v v') : ∃ mi, M b = some mi ∧ v = .pointer (some ⟨b, o, none⟩) ∧ v' = .pointer (some ⟨mi.blk, mi.sh + o, none⟩) := by
  cases r <;> simp only [asPtr] at h <;> (try cases h)
  exact ⟨_, ‹_›, rfl, rfl⟩
theorem asInt_VR {k : IntKind} {n : Int} (h : asInt v = some (k, n)) (r : VR M v v') : v = .int k n ∧ v' = .int k n := by
  cases r <;> simp only [asInt] at h <;> cases h
  exact ⟨rfl, rfl⟩
theorem asNat_VR {m : Nat} (h : asNat v = some m) (r : VR M v v') : ∃ k, v = .int k m ∧ v' = .int k m := by
  cases r <;> simp only [asNat] at h <;> (try cases h)
  rename_i k n
  cases n with
  | negSucc n => cases h
  | ofNat n => cases h; exact ⟨k, rfl, rfl⟩
theorem asBool_VR {b : Bool} (h : asBool v = some b) (r : VR M v v') : v = .bool b ∧ v' = .bool b := by
  cases r <;> simp only [asBool] at h <;> cases h
  exact ⟨rfl, rfl⟩
theorem asStr_VR {l : List UInt8} (h : asStr v = some l) (r : VR M v v') : ∃ s : ByteArray, v = .string s ∧ v' = .string s ∧ s.data.toList = l := by
  cases r <;> simp only [asStr] at h <;> cases h
  exact ⟨_, rfl, rfl, rfl⟩
theorem asAgg_VR {l : List Value} (h : asAgg v = some l) (r : VR M v v') : ∃ c' : Array Value, v = .agg ⟨l⟩ ∧ v' = .agg c' ∧ LR M l c'.toList := by
  cases r <;> simp only [asAgg] at h <;> cases h
  exact ⟨_, rfl, rfl, ‹_›, ‹_›⟩
theorem asTup_VR {l : List Value} (h : asTup v = some l) (r : VR M v v') : ∃ c' : Array Value, v' = .tuple c' ∧ LR M l c'.toList := by
  cases r <;> simp only [asTup] at h <;> cases h
  exact ⟨_, rfl, ‹_›, ‹_›⟩
theorem asMap_VR {b : Nat} (h : asMap v = some b) (r : VR M v v') : ∃ mi, M b = some mi ∧ v = .map (some b) ∧ v' = .map (some mi.blk) := by
  cases r <;> simp only [asMap] at h <;> (try cases h)
  exact ⟨_, ‹_›, rfl, rfl⟩
/-- A slice's parts. -/
inductive SlR (M : Pm) : SlV → Value → Prop
  | nil : SlR M (.mk none 0 0) (.slice none 0 0)
  | emp (a : Addr) (c : Nat) : SlR M (.mk none 0 OPEN) (.slice (some a) 0 c)
  | at_ {b o l c : Nat} {mi : MI} (h : M b = some mi) (hc : c < OPEN) : SlR M (.mk (some (b, o)) l c) (.slice (some ⟨mi.blk, mi.sh + o, none⟩) l c)
  | open_ {b o l c : Nat} {mi : MI} (h : M b = some mi) (hl : l ≤ c) (hc : c < OPEN) (ht : mi.sh + o + c * mi.esz = mi.tot) : SlR M (.mk (some (b, o)) l (OPEN + mi.esz)) (.slice (some ⟨mi.blk, mi.sh + o, none⟩) l c)
theorem asSl_VR {x : SlV} (h : asSl v = some x) (r : VR M v v') : SlR M x v' ∧ ∃ a l c, v = .slice a l c := by
  cases r <;> simp only [asSl] at h <;> cases h
  · exact ⟨.nil, _, _, _, rfl⟩
  · exact ⟨.at_ ‹_› ‹_›, _, _, _, rfl⟩
  · exact ⟨.open_ ‹_› ‹_› ‹_› ‹_›, _, _, _, rfl⟩
  · exact ⟨.emp _ _, _, _, _, rfl⟩
theorem SlR.len {x : SlV} (h : SlR M x v') : ∃ a c, v' = .slice a (slLen x) c := by
  cases h
  · exact ⟨_, _, rfl⟩
  · exact ⟨_, _, rfl⟩
  · exact ⟨_, _, rfl⟩
  · exact ⟨_, _, rfl⟩
end
end Go.Proofs.YtgdlfecppecooaaGreatDoor.ev
