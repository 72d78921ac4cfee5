/- An evaluator of closed calls: bytes as texts, what is made, what is unsafe. -/
import Derived.Test.YtimfmipjhgonhaaGreatEvOp5
namespace Go.Proofs.YtimfmipjhgonhaaGreat.ev
open Go Go.RowKit
section
variable {P : Program} {M M' : Pm} {φ : T Value} {a : Act} {N : Nat} {w : World} {s s' : St}
/-- bytes of cells -/
theorem vBytes_cells {l l' : List Value} {r : List UInt8} (h : vBytes l = some r) (hl : LR M l l') : l'.length = r.length ∧ ∀ (i : Nat) (v : Value), l'[i]? = some v → ∃ m : Nat, v = .int .u8 m ∧ r[i]? = some (UInt8.ofNat m) := by
  obtain ⟨h1, h2⟩ := vBytes_some h
  refine ⟨by rw [← hl.1, h1], fun i v' hv => ?_⟩
  have hi : i < l.length := by rw [hl.1]; exact (List.getElem?_eq_some_iff.1 hv).1
  obtain ⟨m, e1, e2⟩ := h2 i _ (List.getElem?_eq_getElem hi)
  have hr := hl.2 i _ v' (List.getElem?_eq_getElem hi) hv
  rw [e1] at hr
  cases hr
  exact ⟨m, rfl, e2⟩
theorem push_data (s : ByteArray) (b : UInt8) : (s.push b).data.toList = s.data.toList ++ [b] := by
  show (s.data.push b).toList = _
  simp
theorem bytes_forIn : ∀ (l' : List Value) (r : List UInt8) (s0 : ByteArray), l'.length = r.length → (∀ (i : Nat) (v : Value), l'[i]? = some v → ∃ m : Nat, v = .int .u8 m ∧ r[i]? = some (UInt8.ofNat m)) → ∀ w,
    ((forIn l' s0 fun c (s : ByteArray) => (match c with
      | .int .u8 n => Pure.pure (ForInStep.yield (s.push (UInt8.ofNat n.toNat)))
      | _ => do
        stuck "bytesToString: byte expected"
        Pure.pure (ForInStep.yield s) : Sem (ForInStep ByteArray)) : Sem ByteArray)).run P w = .ok ⟨⟨s0.data.toList ++ r⟩⟩ w
  | [], r, s0, hl, _, w => by
    have : r = [] := List.eq_nil_of_length_eq_zero (by simpa using hl.symm)
    subst this
    simp
  | v :: l', r, s0, hl, h, w => by
    cases r with
    | nil => simp at hl
    | cons b r =>
      obtain ⟨m, rfl, e⟩ := h 0 v rfl
      have eb : b = UInt8.ofNat m := by simpa using e
      have ih := bytes_forIn l' r (s0.push (UInt8.ofNat m)) (by simpa using hl) (fun i v hv => h (i + 1) v (by simpa using hv)) w
      rw [push_data] at ih
      simp only [List.forIn_cons, Sem.run_bind, Sem.run_pure, Result.andThen_ok, Int.toNat_natCast]
      rw [ih, eb]
      simp
theorem convSl_run {src dst : TypeId} {ds dd : TypeDesc} {x x' v : Value} (h : convSl P s src dst ds dd x = some v) (hx : VR M x x') (hs : P.underlying src = some ds) (hd : P.underlying dst = some dd) (hS : Sim P M s.h.get w) :
    Res P s M w ((convert src dst x').run P w) v s := by
  obtain ⟨y, hy, h1⟩ := bnd_some.1 h
  obtain ⟨e, he, h2⟩ := bnd_some.1 h1
  have hs' : P.underlying src = some (.slice e) := by cases ds <;> first | (cases he; exact hs) | cases he
  obtain ⟨hsl, a1, l1, c1, ex⟩ := asSl_VR hy hx
  cases dd <;> simp only at h2 <;> (try cases h2)
  case string =>
    obtain ⟨de, hde, h3⟩ := bnd_some.1 h2
    obtain ⟨hu, h4⟩ := bB_some.1 h3
    obtain ⟨cs, hcs, h5⟩ := bnd_some.1 h4
    obtain ⟨r, hr, h6⟩ := bnd_some.1 h5
    cases h6
    rw [dU8_eq hu] at hde
    obtain ⟨a0, c0, e0⟩ := hsl.len
    obtain ⟨l', g1, g2, g3⟩ := srcSl_run (n := slLen y) (size := 1) hcs hsl hS (Nat.mul_one _).symm (fun c f => by
      rw [e0] at f; simp only [Value.slice.injEq] at f; exact f.2.1) (fun ⟨_, _, f, _⟩ => by
      rw [e0] at f; simp only [Value.slice.injEq] at f; exact f.2.1)
    obtain ⟨k1, k2⟩ := vBytes_cells hr g1
    have hb := bytes_forIn (P := P) l' r ByteArray.empty k1 k2 w
    have hcells := g3 w rfl
    rw [e0] at hcells ⊢
    refine Res.pure hS (v' := strOf r) ?_ (.string _)
    cases a0 with
    | none =>
      simp only [Builtin.firstCells, Sem.run_pure, Result.ok.injEq, and_true] at hcells
      have : l' = [] := by
        have h9 := congrArg Array.toList hcells
        simpa using h9.symm
      rw [this] at k1
      have hr0 : r = [] := List.eq_nil_of_length_eq_zero (by simpa using k1.symm)
      rw [hr0]
      simp [convert, run_underlying hs', run_underlying hd, run_underlying hde, Conv.bytesToString, strOf]
      rfl
    | some ad =>
      simp only [Builtin.firstCells, Nat.mul_one] at hcells
      simp only [convert, run_underlying hs', run_underlying hd, run_underlying hde, Conv.bytesToString, Sem.run_bind, Result.andThen_ok, hcells]
      simp only [List.forIn_toArray, Sem.run_pure]
      exact (congrArg (fun r : Result ByteArray => r.andThen fun a w' => Result.ok (Value.string a) w') hb).trans rfl
  case slice e2 =>
    obtain ⟨hsd, h3⟩ := bB_some.1 h2
    obtain rfl : src = dst := beq_nat.1 hsd
    obtain ⟨de, hde, h4⟩ := bnd_some.1 h3
    obtain ⟨hu, h5⟩ := bB_some.1 h4
    rw [dU8_eq hu] at hde
    rw [hs'] at hd
    cases hd
    obtain ⟨aa, len, cap⟩ := y
    obtain ⟨b, o, hab, h6⟩ := bnd2_some.1 (show bnd2 aa (fun b _ => bnd (wrAt s b) fun _ => some x) = some v from h5)
    cases hab
    obtain ⟨⟨cs, e'⟩, hwr, h7⟩ := bnd_some.1 h6
    cases h7
    have hwr' := wrAt_some hwr
    have go : ∀ {mi : MI} {l c : Nat}, M b = some mi → x' = .slice (some ⟨mi.blk, mi.sh + o, none⟩) l c → Res P s M w ((convert src src x').run P w) x s := by
      intro mi l c hm e0
      obtain ⟨mi', hm', C, fz, hC, hCs, hshl, hcells, hesz, hfz⟩ := hS.obj b _ hwr'
      rw [hm] at hm'; cases hm'
      have hfz' := hfz rfl
      obtain ⟨fz', hfr⟩ : ∃ fz', (w.freeze ⟨mi.blk, C.size, none⟩ 1).heap[mi.blk]? = some (.cells C e' fz') ∧ (fz'.1 = fz'.2 ∨ mi.tot ≤ fz'.1) := by
        obtain ⟨lo, hi⟩ := fz
        refine ⟨if lo == hi then (C.size, C.size + 1) else (min lo C.size, max hi (C.size + 1)), ?_, ?_⟩
        · simp only [World.freeze, Nat.one_ne_zero, if_false]
          rw [Array.getElem?_modify, if_pos rfl, hC]
          rfl
        · by_cases hlh : lo = hi
          · simp [hlh]; omega
          · have : (lo == hi) = false := by simpa using hlh
            rw [this]
            simp only [Bool.false_eq_true, if_false]
            rcases hfz' with hz | hz
            · exact absurd hz hlh
            · right; simp only at hz ⊢; omega
      have hkeep : ∀ c, c ≠ mi.blk → (w.freeze ⟨mi.blk, C.size, none⟩ 1).heap[c]? = w.heap[c]? := fun c hc => by
        simp only [World.freeze, Nat.one_ne_zero, if_false]
        rw [Array.getElem?_modify, if_neg (fun e => hc e.symm)]
      have hst := Stp.turn (w' := w.freeze ⟨mi.blk, C.size, none⟩ 1) (o' := .cells cs e' false) hS hwr' rfl hm (by simp [World.freeze]) hkeep ⟨C, fz', hfr.1, hCs, hshl, hcells, hesz, fun _ => hfr.2⟩ (by simp [World.freeze]) (by simp [World.freeze]) (by simp [World.freeze]) s.nx
      have hsame : upd s.h.get b (some (.cells cs e' false)) = s.h.get := by
        funext k
        unfold upd
        split
        · rename_i hk; rw [hk, hwr']
        · rfl
      rw [hsame] at hst
      refine ⟨M, x', _, ?_, hx, hst⟩
      have hshape : w.shape? mi.blk = some (e', C.size) := by simp [World.shape?, hC]
      rw [e0]
      simp [convert, run_underlying hs', run_underlying hde, markStringish, shape, freeze, Sem.run, hshape]
    cases hsl with
    | at_ hm hc => exact go hm rfl
    | open_ hm _ _ _ => exact go hm rfl
theorem opMakeSl_run {t : TypeId} {l l' c c' v : Value} (h : opMakeSl P s t l c = some (v, s')) (hl : VR M l l') (hc : VR M c c') (hS : Sim P M s.h.get w) (hf : Fresh M s.nx s'.nx) : Res P s M w ((Instr.makeSlice t l' c').run P w) v s' := by
  obtain ⟨d, hd, h1⟩ := bnd_some.1 h
  obtain ⟨e, he, h2⟩ := bnd_some.1 h1
  obtain ⟨ln, hln, h3⟩ := bnd_some.1 h2
  obtain ⟨cn, hcn, h4⟩ := bnd_some.1 h3
  obtain ⟨k, hk, h5⟩ := bnd_some.1 h4
  obtain ⟨by_, hby, h6⟩ := bnd_some.1 h5
  obtain ⟨z, hz, h7⟩ := bnd_some.1 h6
  obtain ⟨hzk, h8⟩ := bB_some.1 h7
  obtain ⟨hlc, h9⟩ := bB_some.1 h8
  obtain ⟨hb40, h10⟩ := bB_some.1 h9
  obtain ⟨hc40, h11⟩ := bB_some.1 h10
  obtain ⟨hk1, h12⟩ := bB_some.1 h11
  obtain ⟨zs, hzs, h13⟩ := bnd_some.1 h12
  have hd' : P.underlying t = some (.slice e) := by cases d <;> first | (cases he; exact hd) | cases he
  obtain ⟨kl, _, rfl⟩ := asNat_VR hln hl
  obtain ⟨kc, _, rfl⟩ := asNat_VR hcn hc
  obtain ⟨_, _, _, hcl⟩ := zeroOf_some hz
  obtain ⟨i, hi, hib⟩ := byOf_some hby
  have hlc' : ln ≤ cn := ble_nat.1 hlc
  have hb' : by_ * cn ≤ 1099511627776 := ble_nat.1 hb40
  have hc' : cn ≤ 1099511627776 := ble_nat.1 hc40
  have hzl := zeros_LR (M := M) (n := cn) hcl (by rw [← lLen_eq]; exact beq_nat.1 hzk) (ble_nat.1 hk1) hzs
  have hr := opNewSl_run h13 (by rw [OPEN_eq]; omega) hS hf hzl
  obtain ⟨M', v', w', hr1, hr2⟩ := hr
  refine ⟨M', v', w', ?_, hr2⟩
  rw [← hr1]
  have hwl : IntKind.i64.wrap (ln : Int) = (ln : Int) := IntWalk.i64_in _ (by omega)
  have hwc : IntKind.i64.wrap (cn : Int) = (cn : Int) := IntWalk.i64_in _ (by omega)
  have hti : (typeInfo e).run P w = .ok i w := by simp [typeInfo, hi]
  have hmulI : ((by_ : Int) * (cn : Int)) = ((by_ * cn : Nat) : Int) := by simp
  have hcond : ((decide ((cn : Int) < 0) || decide ((by_ : Int) * (cn : Int) > 2 ^ 48)) || decide ((ln : Int) < 0) || decide ((ln : Int) > (cn : Int))) = false := by
    rw [hmulI]
    simp only [Bool.or_eq_false_iff, decide_eq_false_iff_not]
    refine ⟨⟨⟨by omega, ?_⟩, by omega⟩, by omega⟩
    have h9 : ((by_ * cn : Nat) : Int) ≤ ((1099511627776 : Nat) : Int) := Int.ofNat_le.2 hb'
    omega
  have hroom : (askRoom (cn * by_)).run P w = .ok () w := by
    have hrb : roomBytes = 140737488355328 := rfl
    have : ¬ (cn * by_ > roomBytes) := by rw [Nat.mul_comm, hrb]; omega
    unfold askRoom
    rw [if_neg this]
    rfl
  subst hib
  by_cases h0 : cn * k = 0
  · simp only [Instr.makeSlice, Sem.run_bind, run_underlying hd', Result.andThen_ok, Go.asInt, asIntOf, Sem.run_pure, hti, hwl, hwc, hcond, Bool.false_eq_true, if_false, Int.toNat_natCast, hroom, run_size hk, h0, if_true]
    simp [h0, Array.range_zero']
  · simp only [Instr.makeSlice, Sem.run_bind, run_underlying hd', Result.andThen_ok, Go.asInt, asIntOf, Sem.run_pure, hti, hwl, hwc, hcond, Bool.false_eq_true, if_false, Int.toNat_natCast, hroom, run_size hk, if_neg h0, run_zero hz]
theorem opMakeMap_run {t : TypeId} {r : Option Operand} {v : Value} (h : opMakeMap s r = some (v, s')) (hS : Sim P M s.h.get w) (hf : Fresh M s.nx s'.nx) : Res P s M w ((Instr.makeMap t (r.map a.eval)).run P w) v s' := by
  cases r with
  | some x => cases h
  | none =>
    obtain ⟨b, s2, h1, h2⟩ := bnd2_some.1 (show bnd2 (s.new (.map [] 0)) (fun b s => some (Value.map (some b), s)) = some (v, s') from h)
    cases h2
    obtain ⟨rfl, g1, g2⟩ := new_some h1
    have hfn : M s.nx = none := hf _ (Nat.le_refl _) (by omega)
    have hst := Stp.alloc (lo := s.nx) hS hfn (.map [] 0) (.map #[] 0) ⟨w.heap.size, 0, 0, 0⟩ rfl (fun M2 _ => ⟨#[], by show (w.heap.push _)[w.heap.size]? = _; simp, rfl, fun i e e' f => by simp at f⟩)
    refine ⟨_, .map (some w.heap.size), w.alloc (.map #[] 0), by simp [Instr.makeMap, newObj, Sem.run], ?_, by rw [g2, g1]; exact hst⟩
    exact VR.map (M := fun c => if c = s.nx then some ⟨w.heap.size, 0, 0, 0⟩ else M c) (mi := ⟨w.heap.size, 0, 0, 0⟩) (by simp)
theorem opMakeChan_run {t : TypeId} {x x' v : Value} (h : opMakeChan P s t x = some (v, s')) (hx : VR M x x') (hS : Sim P M s.h.get w) (hf : Fresh M s.nx s'.nx) : Res P s M w ((Instr.makeChan t x').run P w) v s' := by
  obtain ⟨n, hn, h1⟩ := bnd_some.1 h
  obtain ⟨d, hd, h2⟩ := bnd_some.1 h1
  obtain ⟨e, he, h3⟩ := bnd_some.1 h2
  obtain ⟨by_, hby, h4⟩ := bnd_some.1 h3
  obtain ⟨hn1, h5⟩ := bB_some.1 h4
  obtain ⟨hb1, h6⟩ := bB_some.1 h5
  obtain ⟨b, s2, h7, h8⟩ := bnd2_some.1 h6
  cases h8
  obtain ⟨rfl, g1, g2⟩ := new_some h7
  obtain ⟨k, _, rfl⟩ := asNat_VR hn hx
  obtain ⟨i, hi, hib⟩ := byOf_some hby
  have hfn : M s.nx = none := hf _ (Nat.le_refl _) (by omega)
  have hn1' : n ≤ 1000 := ble_nat.1 hn1
  have hb1' : by_ ≤ 65536 := ble_nat.1 hb1
  have hst := Stp.alloc (lo := s.nx) hS hfn (.chan n) (.chan n #[] false 0 0 false) ⟨w.heap.size, 0, 0, 0⟩ rfl (fun M2 _ => ⟨_, by show (w.heap.push _)[w.heap.size]? = _; simp, rfl⟩)
  have hd' : ∃ dir, P.underlying t = some (.chan dir e) := by cases d <;> first | (cases he; exact ⟨_, hd⟩) | cases he
  obtain ⟨dir, hd'⟩ := hd'
  have hm : by_ * n ≤ 65536 * 1000 := Nat.mul_le_mul hb1' hn1'
  have hti : (typeInfo e).run P w = .ok i w := by simp [typeInfo, hi]
  have hmulI : ((by_ : Int) * (n : Int)) = ((by_ * n : Nat) : Int) := by simp
  have hcond : ¬ ((n : Int) < 0 ∨ (n : Int) > IntKind.i64.max ∨ (by_ : Int) * (n : Int) > 2 ^ 48 - 112) := by
    rw [hmulI, IntKind.max_i64]
    omega
  subst hib
  refine ⟨_, .chan (some w.heap.size), w.alloc (.chan n #[] false 0 0 false), ?_, ?_, by rw [g2, g1]; exact hst⟩
  · simp only [Instr.makeChan, Sem.run_bind, Go.asInt, asIntOf, Sem.run_pure, Result.andThen_ok, run_underlying hd', hti, if_neg hcond, Int.toNat_natCast]
    simp [newObj, Sem.run]
  · exact VR.chan (M := fun c => if c = s.nx then some ⟨w.heap.size, 0, 0, 0⟩ else M c) (mi := ⟨w.heap.size, 0, 0, 0⟩) (by simp)
end
end Go.Proofs.YtimfmipjhgonhaaGreat.ev
