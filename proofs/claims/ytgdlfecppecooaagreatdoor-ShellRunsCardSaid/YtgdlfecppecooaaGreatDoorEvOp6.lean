/- An evaluator of closed calls: bytes as texts, what is made, what is unsafe. -/
import Derived.Lib.Builder
import Derived.Lib.UnsafeStr
import Derived.Test.YtgdlfecppecooaaGreatDoorEvOp5
set_option linter.all false
namespace Go.Proofs.YtgdlfecppecooaaGreatDoor.ev
open Go Go.RowKit
section
variable {P : Program} {M M' : Pm} {φ : T Value} {a : Act} {N : Nat} {w : World} {s s' : St}
/-- bytes of cells -/
theorem vBytes_cells {l l' : List Value} {r : List UInt8} (h : vBytes l = some r) (hl : LR M l l') : l'.length = r.length ∧ ∀ (i : Nat) (v : Value), l'[i]? = some v → ∃ m : Nat, v = .int .u8 m ∧ r[i]? = some (UInt8.ofNat m) := by
  obtain ⟨h1, h2⟩ := vBytes_some h
  refine ⟨by rw [← hl.1, h1], fun i v' hv => ?_⟩
  have hi : i < l.length := by rw [hl.1]; exact (List.getElem?_eq_some_iff.1 hv).1
  obtain ⟨m, e1, e2⟩ := h2 i _ (List.getElem?_eq_getElem hi)
  have hr := hl.2 i _ v' (List.getElem?_eq_getElem hi) hv
  rw [e1] at hr
  cases hr
  exact ⟨m, rfl, e2⟩
theorem push_data (s : ByteArray) (b : UInt8) : (s.push b).data.toList = s.data.toList ++ [b] := by
  show (s.data.push b).toList = _
  simp
theorem bytes_forIn : ∀ (l' : List Value) (r : List UInt8) (s0 : ByteArray), l'.length = r.length → (∀ (i : Nat) (v : Value), l'[i]? = some v → ∃ m : Nat, v = .int .u8 m ∧ r[i]? = some (UInt8.ofNat m)) → ∀ w,
    ((forIn l' s0 fun c (s : ByteArray) => (match c with
      | .int .u8 n => Pure.pure (ForInStep.yield (s.push (UInt8.ofNat n.toNat)))
      | _ => do
        stuck "bytesToString: byte expected"
        Pure.pure (ForInStep.yield s) : Sem (ForInStep ByteArray)) : Sem ByteArray)).run P w = .ok ⟨⟨s0.data.toList ++ r⟩⟩ w
  | [], r, s0, hl, _, w => by
    have : r = [] := List.eq_nil_of_length_eq_zero (by simpa using hl.symm)
    subst this
    simp
  | v :: l', r, s0, hl, h, w => by
    cases r with
    | nil => simp at hl
    | cons b r =>
      obtain ⟨m, rfl, e⟩ := h 0 v rfl
      have eb : b = UInt8.ofNat m := by simpa using e
      have ih := bytes_forIn l' r (s0.push (UInt8.ofNat m)) (by simpa using hl) (fun i v hv => h (i + 1) v (by simpa using hv)) w
      rw [push_data] at ih
      simp only [List.forIn_cons, Sem.run_bind, Sem.run_pure, Result.andThen_ok, Int.toNat_natCast]
      rw [ih, eb]
      simp
theorem convSl_run {src dst : TypeId} {ds dd : TypeDesc} {x x' v : Value} (h : convSl P s src dst ds dd x = some v) (hx : VR M x x') (hs : P.underlying src = some ds) (hd : P.underlying dst = some dd) (hS : Sim P M s.h.get w) :
    Res P s M w ((convert src dst x').run P w) v s := by
  obtain ⟨y, hy, h1⟩ := bnd_some.1 h
  obtain ⟨e, he, h2⟩ := bnd_some.1 h1
  have hs' : P.underlying src = some (.slice e) := by cases ds <;> first | (cases he; exact hs) | cases he
  obtain ⟨hsl, a1, l1, c1, ex⟩ := asSl_VR hy hx
  cases dd <;> simp only at h2 <;> (try cases h2)
  case string =>
    obtain ⟨de, hde, h3⟩ := bnd_some.1 h2
    obtain ⟨hu, h4⟩ := bB_some.1 h3
    obtain ⟨cs, hcs, h5⟩ := bnd_some.1 h4
    obtain ⟨r, hr, h6⟩ := bnd_some.1 h5
    cases h6
    rw [dU8_eq hu] at hde
    obtain ⟨a0, c0, e0⟩ := hsl.len
    obtain ⟨l', g1, g2, g3⟩ := srcSl_run (n := slLen y) (size := 1) hcs hsl hS (Nat.mul_one _).symm (fun c f => by
      rw [e0] at f; simp only [Value.slice.injEq] at f; exact f.2.1) (fun ⟨_, _, f, _⟩ => by
      rw [e0] at f; simp only [Value.slice.injEq] at f; exact f.2.1)
    obtain ⟨k1, k2⟩ := vBytes_cells hr g1
    have hb := bytes_forIn (P := P) l' r ByteArray.empty k1 k2 w
    have hcells := g3 w rfl
    rw [e0] at hcells ⊢
    refine Res.pure hS (v' := strOf r) ?_ (.string _)
    cases a0 with
    | none =>
      simp only [Builtin.firstCells, Sem.run_pure, Result.ok.injEq, and_true] at hcells
      have : l' = [] := by
        have h9 := congrArg Array.toList hcells
        simpa using h9.symm
      rw [this] at k1
      have hr0 : r = [] := List.eq_nil_of_length_eq_zero (by simpa using k1.symm)
      rw [hr0]
      simp [convert, run_underlying hs', run_underlying hd, run_underlying hde, Conv.bytesToString, strOf]
      rfl
    | some ad =>
      simp only [Builtin.firstCells, Nat.mul_one] at hcells
      simp only [convert, run_underlying hs', run_underlying hd, run_underlying hde, Conv.bytesToString, Sem.run_bind, Result.andThen_ok, hcells]
      simp only [List.forIn_toArray, Sem.run_pure]
      exact (congrArg (fun r : Result ByteArray => r.andThen fun a w' => Result.ok (Value.string a) w') hb).trans rfl
  case slice e2 =>
    obtain ⟨hsd, h3⟩ := bB_some.1 h2
    obtain rfl : src = dst := beq_nat.1 hsd
    obtain ⟨de, hde, h4⟩ := bnd_some.1 h3
    obtain ⟨hu, h5⟩ := bB_some.1 h4
    rw [dU8_eq hu] at hde
    rw [hs'] at hd
    cases hd
    obtain ⟨aa, len, cap⟩ := y
    obtain ⟨b, o, hab, h6⟩ := bnd2_some.1 (show bnd2 aa (fun b _ => bnd (wrAt s b) fun _ => some x) = some v from h5)
    cases hab
    obtain ⟨⟨cs, e'⟩, hwr, h7⟩ := bnd_some.1 h6
    cases h7
    have hwr' := wrAt_some hwr
    have go : ∀ {mi : MI} {l c : Nat}, M b = some mi → x' = .slice (some ⟨mi.blk, mi.sh + o, none⟩) l c → Res P s M w ((convert src src x').run P w) x s := by
      intro mi l c hm e0
      obtain ⟨mi', hm', C, fz, hC, hCs, hshl, hcells, hesz, hfz⟩ := hS.obj b _ hwr'
      rw [hm] at hm'; cases hm'
      have hfz' := hfz.1 rfl
      obtain ⟨fz', hfr⟩ : ∃ fz', (w.freeze ⟨mi.blk, C.size, none⟩ 1).heap[mi.blk]? = some (.cells C e' fz') ∧ (fz'.1 = fz'.2 ∨ mi.tot ≤ fz'.1) := by
        obtain ⟨lo, hi⟩ := fz
        refine ⟨if lo == hi then (C.size, C.size + 1) else (min lo C.size, max hi (C.size + 1)), ?_, ?_⟩
        · simp only [World.freeze, Nat.one_ne_zero, if_false]
          rw [Array.getElem?_modify, if_pos rfl, hC]
          rfl
        · by_cases hlh : lo = hi
          · simp [hlh]; omega
          · have : (lo == hi) = false := by simpa using hlh
            rw [this]
            simp only [Bool.false_eq_true, if_false]
            rcases hfz' with hz | hz
            · exact absurd hz hlh
            · right; simp only at hz ⊢; omega
      have hkeep : ∀ c, c ≠ mi.blk → (w.freeze ⟨mi.blk, C.size, none⟩ 1).heap[c]? = w.heap[c]? := fun c hc => by
        simp only [World.freeze, Nat.one_ne_zero, if_false]
        rw [Array.getElem?_modify, if_neg (fun e => hc e.symm)]
      have hst := Stp.turn (w' := w.freeze ⟨mi.blk, C.size, none⟩ 1) (o' := .cells cs e' false) hS hwr' rfl hm (by simp [World.freeze]) hkeep ⟨C, fz', hfr.1, hCs, hshl, hcells, hesz, fun _ => hfr.2, hfz.2⟩ (by simp [World.freeze]) (by simp [World.freeze]) (by simp [World.freeze]) s.nx
      have hsame : upd s.h.get b (some (.cells cs e' false)) = s.h.get := by
        funext k
        unfold upd
        split
        · rename_i hk; rw [hk, hwr']
        · rfl
      rw [hsame] at hst
      refine ⟨M, x', _, ?_, hx, hst⟩
      have hshape : w.shape? mi.blk = some (e', C.size) := by simp [World.shape?, hC]
      rw [e0]
      simp [convert, run_underlying hs', run_underlying hde, markStringish, shape, freeze, Sem.run, hshape]
    cases hsl with
    | at_ hm hc => exact go hm rfl
    | open_ hm _ _ _ => exact go hm rfl
/-- a Builder's variable: two cells, as they lie -/
def BOk (P : Program) : Prop := ∃ j, P.info? TB = some j ∧ liesAt P P.depth TB (2 / P.cellsOf TB) 0 TB 1 = true
theorem convPtr_run {src dst : TypeId} {ds dd : TypeDesc} {x x' v : Value} (hB : BOk P) (h : convPtr P s ds dd x = some v) (hs : P.underlying src = some ds) (hd : P.underlying dst = some dd) (hx : VR M x x') (hS : Sim P M s.h.get w) : (convert src dst x').run P w = .ok x' w ∧ v = x := by
  obtain ⟨b, o, hp, h1⟩ := bnd2_some.1 h
  obtain ⟨ob, hob, h2⟩ := bnd_some.1 h1
  cases ob <;> simp only at h2 <;> (try cases h2)
  rename_i cs e ro
  obtain ⟨ho, h3⟩ := bB_some.1 h2
  have ho : o < cs.length := by rw [← lLen_eq]; exact ble_nat.1 ho
  obtain ⟨mi, hm, _, e1⟩ := asPtr_VR hp hx
  obtain ⟨mi', hm', C, fz, hC, hCs, hshl, hcells, hesz, hfz⟩ := hS.obj b _ hob
  rw [hm] at hm'; cases hm'
  have hshape : w.shape? mi.blk = some (e, C.size) := by simp [World.shape?, hC]
  rw [e1]
  rcases bE_some.1 h3 with ⟨hu, h4⟩ | ⟨_, h4⟩
  · obtain ⟨t, ht, h5⟩ := bnd_some.1 h4
    obtain ⟨k, hk, h6⟩ := bnd_some.1 h5
    obtain ⟨hk1, h7⟩ := bB_some.1 h6
    cases h7
    obtain ⟨j, hj, hjk⟩ := szOf_some hk
    have hk1 : 1 ≤ k := ble_nat.1 hk1
    have hd2 : dd = .unsafePointer := by cases dd <;> first | rfl | cases hu
    have hs2 : ds = .pointer t := by cases ds <;> first | (cases ht; rfl) | cases ht
    subst hd2 hs2
    exact ⟨Lib.run_to_unsafe w _ hs hd hj (by omega) hshape (by show mi.sh + o < C.size; omega), rfl⟩
  · obtain ⟨u, hu, h5⟩ := bnd_some.1 h4
    obtain ⟨hdu, h6⟩ := bB_some.1 h5
    obtain ⟨he, h7⟩ := bB_some.1 h6
    obtain ⟨hu2, h8⟩ := bB_some.1 h7
    obtain ⟨hl, h9⟩ := bB_some.1 h8
    obtain ⟨ho0, h10⟩ := bB_some.1 h9
    cases h10
    have he := beq_nat.1 he
    have hu2 := beq_nat.1 hu2
    have hl : cs.length = 2 := by rw [← lLen_eq]; exact beq_nat.1 hl
    have ho0 := beq_nat.1 ho0
    have hs2 : ds = .unsafePointer := by cases ds <;> first | rfl | cases hdu
    have hd2 : dd = .pointer u := by cases dd <;> first | (cases hu; rfl) | cases hu
    subst hs2 hd2 he hu2 ho0
    obtain ⟨q1, q2⟩ := hfz.2 rfl
    obtain ⟨j, hj, hlies⟩ := hB
    refine ⟨Lib.run_from_unsafe w _ hs hd hj hshape ?_, rfl⟩
    rw [hCs, ← q2, hl, q1]
    exact hlies
theorem opSlData_run {x x' v : Value} {ts : Array TypeId} {ty : TypeId} (h : opSlData x = some v) (hx : VR M x x') : ∃ v', (Builtin.unsafeSliceData_ ts ty #[x']).run P w = .ok v' w ∧ VR M v v' := by
  obtain ⟨y, hy, h1⟩ := bnd_some.1 h
  obtain ⟨a, len, cap⟩ := y
  have hsl := (asSl_VR hy hx).1
  cases a with
  | none =>
    obtain ⟨h2, h3⟩ := bB_some.1 (show bB (Nat.beq cap 0) (some (.pointer none)) = some v from h1)
    cases h3
    cases hsl with
    | nil => exact ⟨_, Lib.run_unsafeSliceData_nil w ts ty 0 0, .pnil⟩
    | emp a c => exact absurd h2 (by decide)
  | some p =>
    obtain ⟨b, o⟩ := p
    obtain ⟨h2, h3⟩ := bB_some.1 (show bB (Nat.ble 1 len) (bB (Nat.ble 1 cap) (some (ptrV b o))) = some v from h1)
    obtain ⟨h5, h4⟩ := bB_some.1 h3
    cases h4
    have h2 := ble_nat.1 h2
    have h5 := ble_nat.1 h5
    cases hsl with
    | at_ hm hc => exact ⟨_, Lib.run_unsafeSliceData_row w ts ty _ _ _ (by omega), .ptr hm⟩
    | open_ hm hl hc ht => exact ⟨_, Lib.run_unsafeSliceData_row w ts ty _ _ _ (by omega), .ptr hm⟩
theorem liesAt_off {e : TypeId} (hc : P.cellsOf e = 1) (count off n : Nat) (hn : off + n ≤ count) : liesAt P P.depth e count off e n = true := by
  have hd : P.depth = (2 * (P.types.size + Made.depth) + 1) + 1 := rfl
  rw [hd]
  simp only [liesAt, Bool.or_eq_true]
  left
  rw [hd]
  simp [rowAt, hc, hn, sameLayout, Nat.mod_one]
theorem loadBytes_run : ∀ (l : List UInt8) (a : Addr) (acc : ByteArray), (∀ j x, l[j]? = some x → ∃ m : Nat, w.cell? (a.add j) = some (.int .u8 m) ∧ x = UInt8.ofNat m) →
    (loadBytes a acc l.length).run P w = .ok ⟨acc.data ++ l.toArray⟩ w
  | [], a, acc, _ => by simp [loadBytes]
  | x :: l, a, acc, h => by
    obtain ⟨m, h0, hx⟩ := h 0 x rfl
    have h0 : w.cell? a = some (.int .u8 m) := by simpa [Addr.add] using h0
    have ih := loadBytes_run l (a.add 1) (acc.push x) (fun j y hy => by
      have := h (j + 1) y (by simpa using hy)
      have e : (a.add 1).add j = a.add (j + 1) := by
        unfold Addr.add
        by_cases hj : j = 0
        · subst hj; simp
        · simp [hj]; omega
      rw [e]; exact this)
    have hx2 : ((m : Int).toNat).toUInt8 = x := by rw [hx]; simp
    simp only [List.length_cons, loadBytes, Sem.run_bind, run_load, h0, Result.andThen, hx2]
    rw [ih]
    congr 1
    apply ByteArray.ext
    simp [ByteArray.push]
theorem run_unsafeString_at (pt it ty e : TypeId) (hp : P.underlying pt = some (.pointer e)) (hc : P.cellsOf e = 1) (g off cells : Nat) (hsh : w.shape? g = some (e, cells)) (l : List UInt8) (h0 : l ≠ []) (hn : off + l.length ≤ cells) (h63 : l.length ≤ 9223372036854775807)
    (hcell : ∀ j x, l[j]? = some x → ∃ m : Nat, w.cell? ((⟨g, off, none⟩ : Addr).add j) = some (.int .u8 m) ∧ x = UInt8.ofNat m) :
    (Builtin.unsafeString_ #[pt, it] ty #[.pointer (some ⟨g, off, none⟩), .int .i64 l.length]).run P w = .ok (.string ⟨l.toArray⟩) (w.freeze ⟨g, off, none⟩ l.length) := by
  have hl : l.length ≠ 0 := by simpa using h0
  have hlb := loadBytes_run (P := P) (w := w) l ⟨g, off, none⟩ .empty hcell
  have hlies := liesAt_off (P := P) hc (cells / P.cellsOf e) off l.length (by rw [hc]; simpa using hn)
  have h63' : ¬ (9223372036854775807 : Int) < (l.length : Int) := by omega
  have hdef : Builtin.unsafeString_ #[pt, it] ty #[.pointer (some ⟨g, off, none⟩), .int .i64 l.length] =
      (do
        let n ← Go.asInt (.int .i64 l.length)
        if n < 0 then runtimePanic (.error "unsafe.String: len out of range")
        if n > IntKind.i64.max then unsupported (.unsafePointer "String: a length above the largest int")
        if n = 0 then pure (.string .empty)
        else if ← variablesAt ⟨g, off, none⟩ (← elemOf pt) n.toNat then do
          let s ← loadBytes ⟨g, off, none⟩ .empty n.toNat
          freeze ⟨g, off, none⟩ n.toNat
          pure (.string s)
        else unsupported (.unsafePointer "String: not so many bytes at ptr")) := rfl
  rw [hdef]
  have hmax : IntKind.i64.max = 9223372036854775807 := rfl
  have hneg : ¬ (l.length : Int) < 0 := by omega
  simp [Go.asInt, asIntOf, hmax, h63', hneg, hl, variablesAt, hsh, elemOf, run_underlying hp, hlies, hlb]
theorem asN64_VR {n n' : Value} {m : Nat} (h : asN64 n = some m) (hn : VR M n n') : n' = .int .i64 m ∧ m ≤ 9223372036854775807 := by
  cases hn <;> simp only [asN64] at h <;> (try cases h)
  rename_i k z
  cases k <;> simp only at h <;> (try cases h)
  cases z <;> simp only at h <;> (try cases h)
  obtain ⟨h1, h2⟩ := bB_some.1 h
  cases h2
  exact ⟨rfl, ble_nat.1 h1⟩
theorem opUStr_run {t it ty : TypeId} {p p' n n' v : Value} (h : opUStr P s t p n = some (v, s')) (hp : VR M p p') (hn : VR M n n') (hS : Sim P M s.h.get w) : Res P s M w ((Builtin.unsafeString_ #[t, it] ty #[p', n']).run P w) v s' := by
  obtain ⟨m, hm, h1⟩ := bnd_some.1 h
  obtain ⟨rfl, h63⟩ := asN64_VR hm hn
  cases m with
  | zero =>
    have h2 : emptyS s p = some (v, s') := h1
    cases hp <;> simp only [emptyS] at h2 <;> (try cases h2)
    · exact Res.pure hS (Lib.run_unsafeString_none w t it ty none) (.string _)
    · exact Res.pure hS (Lib.run_unsafeString_none w t it ty _) (.string _)
  | succ m =>
    obtain ⟨d, hd, h2⟩ := bnd_some.1 (show bnd (P.underlying t) (fun d => bnd (dPtr d) fun e => bnd2 (asPtr p) fun b o => bnd2 (wrAt s b) fun cs e' => bB (Nat.beq e e') (bnd (szOf P e') fun k => bB (Nat.beq k 1)
      (bnd (sTake (Nat.succ m) (sDrop o cs)) fun l => bnd (vBytes l) fun r => bnd (s.set b (some (.cells cs e' true))) fun s => some (strOf r, s)))) = some (v, s') from h1)
    obtain ⟨e, he, h3⟩ := bnd_some.1 h2
    obtain ⟨b, o, hb, h4⟩ := bnd2_some.1 h3
    obtain ⟨cs, e', hwr, h5⟩ := bnd2_some.1 h4
    obtain ⟨hee, h6⟩ := bB_some.1 h5
    obtain ⟨k, hk, h7⟩ := bnd_some.1 h6
    obtain ⟨hk1, h8⟩ := bB_some.1 h7
    obtain ⟨l, hl, h9⟩ := bnd_some.1 h8
    obtain ⟨r, hr, h10⟩ := bnd_some.1 h9
    obtain ⟨s2, hset, h11⟩ := bnd_some.1 h10
    cases h11
    obtain rfl := beq_nat.1 hee
    obtain rfl := beq_nat.1 hk1
    have hd2 : P.underlying t = some (.pointer e) := by cases d <;> first | (cases he; exact hd) | cases he
    have hwr' := wrAt_some hwr
    obtain ⟨mi, hmi, _, e1⟩ := asPtr_VR hb hp
    obtain ⟨mi', hm', C, fz, hC, hCs, hshl, hcells, hesz, hfz⟩ := hS.obj b _ hwr'
    rw [hmi] at hm'; cases hm'
    obtain ⟨j, hj, hjk⟩ := szOf_some hk
    have hc1 : P.cellsOf e = 1 := by simp [Program.cellsOf, hj, hjk]
    have hshape : w.shape? mi.blk = some (e, C.size) := by simp [World.shape?, hC]
    have hln : loadN s b o (m + 1) = some l := bnd_some.2 ⟨cs, by unfold cellsAt; rw [hwr']; rfl, hl⟩
    obtain ⟨l', hol, hollen, holrun⟩ := loadN_run hln hmi hS
    obtain ⟨v1, v2⟩ := vBytes_cells hr hol
    have hrl : r.length = m + 1 := by rw [← v1, ← hol.1, hollen]
    obtain ⟨g1, _⟩ := sTake_some hl
    rw [sDrop_eq, List.length_drop] at g1
    have hrun := run_unsafeString_at (P := P) (w := w) t it ty e hd2 hc1 mi.blk (mi.sh + o) C.size hshape r (fun h0 => by rw [h0] at hrl; cases hrl) (by omega) (by omega) (fun j x hj => by
      have hj2 : j < l'.length := by rw [v1]; exact (List.getElem?_eq_some_iff.1 hj).1
      obtain ⟨q, e2, e3⟩ := v2 j l'[j] (List.getElem?_eq_getElem hj2)
      rw [hj] at e3
      have := (holrun w rfl).2 j _ (List.getElem?_eq_getElem hj2)
      rw [e2] at this
      refine ⟨q, ?_, Option.some.inj e3⟩
      rw [show (⟨mi.blk, mi.sh + o, none⟩ : Addr).add j = ⟨mi.blk, mi.sh + o + j, none⟩ by simp [Addr.add]]
      exact this)
    obtain ⟨fz2, hfr⟩ : ∃ fz2, (w.freeze ⟨mi.blk, mi.sh + o, none⟩ r.length).heap[mi.blk]? = some (.cells C e fz2) := by
      obtain ⟨lo, hi⟩ := fz
      simp only [World.freeze, hrl, Nat.succ_ne_zero, if_false]
      rw [Array.getElem?_modify, if_pos rfl, hC]
      exact ⟨_, rfl⟩
    have hkeep : ∀ c, c ≠ mi.blk → (w.freeze ⟨mi.blk, mi.sh + o, none⟩ r.length).heap[c]? = w.heap[c]? := fun c hc => by
      simp only [World.freeze, hrl, Nat.succ_ne_zero, if_false]
      rw [Array.getElem?_modify, if_neg (fun e => hc e.symm)]
    obtain ⟨g2, g3⟩ := set_some hset
    have hst := Stp.turn (w' := w.freeze ⟨mi.blk, mi.sh + o, none⟩ r.length) (o' := .cells cs e true) hS hwr' rfl hmi (by simp [World.freeze, hrl]) hkeep ⟨C, fz2, hfr, hCs, hshl, hcells, hesz, fun h => (by cases h), hfz.2⟩ (by simp [World.freeze, hrl]) (by simp [World.freeze, hrl]) (by simp [World.freeze, hrl]) s.nx
    refine ⟨M, _, _, by rw [e1, show ((m + 1 : Nat) : Int) = (r.length : Int) by rw [hrl]]; exact hrun, .string _, ?_⟩
    rw [g2, g3]
    exact hst
theorem opMakeSl_run {t : TypeId} {l l' c c' v : Value} (h : opMakeSl P s t l c = some (v, s')) (hl : VR M l l') (hc : VR M c c') (hS : Sim P M s.h.get w) (hf : Fresh M s.nx s'.nx) : Res P s M w ((Instr.makeSlice t l' c').run P w) v s' := by
  obtain ⟨d, hd, h1⟩ := bnd_some.1 h
  obtain ⟨e, he, h2⟩ := bnd_some.1 h1
  obtain ⟨ln, hln, h3⟩ := bnd_some.1 h2
  obtain ⟨cn, hcn, h4⟩ := bnd_some.1 h3
  obtain ⟨k, hk, h5⟩ := bnd_some.1 h4
  obtain ⟨by_, hby, h6⟩ := bnd_some.1 h5
  obtain ⟨z, hz, h7⟩ := bnd_some.1 h6
  obtain ⟨hzk, h8⟩ := bB_some.1 h7
  obtain ⟨hlc, h9⟩ := bB_some.1 h8
  obtain ⟨hb40, h10⟩ := bB_some.1 h9
  obtain ⟨hc40, h11⟩ := bB_some.1 h10
  obtain ⟨hk1, h12⟩ := bB_some.1 h11
  obtain ⟨zs, hzs, h13⟩ := bnd_some.1 h12
  have hd' : P.underlying t = some (.slice e) := by cases d <;> first | (cases he; exact hd) | cases he
  obtain ⟨kl, _, rfl⟩ := asNat_VR hln hl
  obtain ⟨kc, _, rfl⟩ := asNat_VR hcn hc
  obtain ⟨_, _, _, hcl⟩ := zeroOf_some hz
  obtain ⟨i, hi, hib⟩ := byOf_some hby
  have hlc' : ln ≤ cn := ble_nat.1 hlc
  have hb' : by_ * cn ≤ 1099511627776 := ble_nat.1 hb40
  have hc' : cn ≤ 1099511627776 := ble_nat.1 hc40
  have hzl := zeros_LR (M := M) (n := cn) hcl (by rw [← lLen_eq]; exact beq_nat.1 hzk) (ble_nat.1 hk1) hzs
  have hr := opNewSl_run h13 (by rw [OPEN_eq]; omega) hS hf hzl
  obtain ⟨M', v', w', hr1, hr2⟩ := hr
  refine ⟨M', v', w', ?_, hr2⟩
  rw [← hr1]
  have hwl : IntKind.i64.wrap (ln : Int) = (ln : Int) := IntWalk.i64_in _ (by omega)
  have hwc : IntKind.i64.wrap (cn : Int) = (cn : Int) := IntWalk.i64_in _ (by omega)
  have hti : (typeInfo e).run P w = .ok i w := by simp [typeInfo, hi]
  have hmulI : ((by_ : Int) * (cn : Int)) = ((by_ * cn : Nat) : Int) := by simp
  have hcond : ((decide ((cn : Int) < 0) || decide ((by_ : Int) * (cn : Int) > 2 ^ 48)) || decide ((ln : Int) < 0) || decide ((ln : Int) > (cn : Int))) = false := by
    rw [hmulI]
    simp only [Bool.or_eq_false_iff, decide_eq_false_iff_not]
    refine ⟨⟨⟨by omega, ?_⟩, by omega⟩, by omega⟩
    have h9 : ((by_ * cn : Nat) : Int) ≤ ((1099511627776 : Nat) : Int) := Int.ofNat_le.2 hb'
    omega
  have hroom : (askRoom (cn * by_)).run P w = .ok () w := by
    have hrb : roomBytes = 140737488355328 := rfl
    have : ¬ (cn * by_ > roomBytes) := by rw [Nat.mul_comm, hrb]; omega
    unfold askRoom
    rw [if_neg this]
    rfl
  subst hib
  by_cases h0 : cn * k = 0
  · simp only [Instr.makeSlice, Sem.run_bind, run_underlying hd', Result.andThen_ok, Go.asInt, asIntOf, Sem.run_pure, hti, hwl, hwc, hcond, Bool.false_eq_true, if_false, Int.toNat_natCast, hroom, run_size hk, h0, if_true]
    simp [Array.range_zero']
  · simp only [Instr.makeSlice, Sem.run_bind, run_underlying hd', Result.andThen_ok, Go.asInt, asIntOf, Sem.run_pure, hti, hwl, hwc, hcond, Bool.false_eq_true, if_false, Int.toNat_natCast, hroom, run_size hk, if_neg h0, run_zero hz]
theorem opMakeMap_run {t : TypeId} {r : Option Operand} {v : Value} (h : opMakeMap s r = some (v, s')) (hS : Sim P M s.h.get w) (hf : Fresh M s.nx s'.nx) : Res P s M w ((Instr.makeMap t (r.map a.eval)).run P w) v s' := by
  cases r with
  | some x => cases h
  | none =>
    obtain ⟨b, s2, h1, h2⟩ := bnd2_some.1 (show bnd2 (s.new (.map [] 0)) (fun b s => some (Value.map (some b), s)) = some (v, s') from h)
    cases h2
    obtain ⟨rfl, g1, g2⟩ := new_some h1
    have hfn : M s.nx = none := hf _ (Nat.le_refl _) (by omega)
    have hst := Stp.alloc (lo := s.nx) hS hfn (.map [] 0) (.map #[] 0) ⟨w.heap.size, 0, 0, 0⟩ rfl (fun M2 _ => ⟨#[], by show (w.heap.push _)[w.heap.size]? = _; simp, rfl, fun i e e' f => by simp at f⟩)
    refine ⟨_, .map (some w.heap.size), w.alloc (.map #[] 0), by simp [Instr.makeMap, newObj, Sem.run], ?_, by rw [g2, g1]; exact hst⟩
    exact VR.map (M := fun c => if c = s.nx then some ⟨w.heap.size, 0, 0, 0⟩ else M c) (mi := ⟨w.heap.size, 0, 0, 0⟩) (by simp)
theorem opMakeChan_run {t : TypeId} {x x' v : Value} (h : opMakeChan P s t x = some (v, s')) (hx : VR M x x') (hS : Sim P M s.h.get w) (hf : Fresh M s.nx s'.nx) : Res P s M w ((Instr.makeChan t x').run P w) v s' := by
  obtain ⟨n, hn, h1⟩ := bnd_some.1 h
  obtain ⟨d, hd, h2⟩ := bnd_some.1 h1
  obtain ⟨e, he, h3⟩ := bnd_some.1 h2
  obtain ⟨by_, hby, h4⟩ := bnd_some.1 h3
  obtain ⟨hn1, h5⟩ := bB_some.1 h4
  obtain ⟨hb1, h6⟩ := bB_some.1 h5
  obtain ⟨b, s2, h7, h8⟩ := bnd2_some.1 h6
  cases h8
  obtain ⟨rfl, g1, g2⟩ := new_some h7
  obtain ⟨k, _, rfl⟩ := asNat_VR hn hx
  obtain ⟨i, hi, hib⟩ := byOf_some hby
  have hfn : M s.nx = none := hf _ (Nat.le_refl _) (by omega)
  have hn1' : n ≤ 1000 := ble_nat.1 hn1
  have hb1' : by_ ≤ 65536 := ble_nat.1 hb1
  have hst := Stp.alloc (lo := s.nx) hS hfn (.chan n) (.chan n #[] false 0 0 false) ⟨w.heap.size, 0, 0, 0⟩ rfl (fun M2 _ => ⟨_, by show (w.heap.push _)[w.heap.size]? = _; simp, rfl⟩)
  have hd' : ∃ dir, P.underlying t = some (.chan dir e) := by cases d <;> first | (cases he; exact ⟨_, hd⟩) | cases he
  obtain ⟨dir, hd'⟩ := hd'
  have hm : by_ * n ≤ 65536 * 1000 := Nat.mul_le_mul hb1' hn1'
  have hti : (typeInfo e).run P w = .ok i w := by simp [typeInfo, hi]
  have hmulI : ((by_ : Int) * (n : Int)) = ((by_ * n : Nat) : Int) := by simp
  have hcond : ¬ ((n : Int) < 0 ∨ (n : Int) > IntKind.i64.max ∨ (by_ : Int) * (n : Int) > 2 ^ 48 - 112) := by
    rw [hmulI, IntKind.max_i64]
    omega
  subst hib
  refine ⟨_, .chan (some w.heap.size), w.alloc (.chan n #[] false 0 0 false), ?_, ?_, by rw [g2, g1]; exact hst⟩
  · simp only [Instr.makeChan, Sem.run_bind, Go.asInt, asIntOf, Sem.run_pure, Result.andThen_ok, run_underlying hd', hti, if_neg hcond, Int.toNat_natCast]
    simp [newObj, Sem.run]
  · exact VR.chan (M := fun c => if c = s.nx then some ⟨w.heap.size, 0, 0, 0⟩ else M c) (mi := ⟨w.heap.size, 0, 0, 0⟩) (by simp)
end
end Go.Proofs.YtgdlfecppecooaaGreatDoor.ev
