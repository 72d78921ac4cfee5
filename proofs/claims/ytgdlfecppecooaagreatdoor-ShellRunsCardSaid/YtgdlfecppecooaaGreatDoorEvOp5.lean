/- An evaluator of closed calls: copy, clear, conversions, what is made. -/
import Derived.Test.YtgdlfecppecooaaGreatDoorEvOp4
set_option linter.all false
namespace Go.Proofs.YtgdlfecppecooaaGreatDoor.ev
open Go Go.RowKit
section
variable {P : Program} {M M' : Pm} {φ : T Value} {a : Act} {N : Nat} {w : World} {s s' : St}
theorem copyA_run {t ty : TypeId} {d d' x x' v : Value} {ts : Array TypeId} {vs : Array Value} (h : copyA P s t d x = some (v, s')) (hd : VR M d d') (hx : VR M x x') (hS : Sim P M s.h.get w) (h0 : ts[0]? = some t) (h1 : vs[0]? = some d') (h2 : vs[1]? = some x') :
    Res P s M w ((Builtin.copy_ ts ty vs).run P w) v s' := by
  obtain ⟨dt, hdt, h3⟩ := bnd_some.1 h
  obtain ⟨e, he, h4⟩ := bnd_some.1 h3
  obtain ⟨size, hsz, h5⟩ := bnd_some.1 h4
  obtain ⟨xl, hxl, h6⟩ := bnd_some.1 h5
  obtain ⟨y, hy, h7⟩ := bnd_some.1 h6
  obtain ⟨aa, dl, cap⟩ := y
  obtain ⟨cs, hcs, h8⟩ := bnd_some.1 (show bnd (srcA s size (minN xl dl) x) _ = some (v, s') from h7)
  obtain ⟨hone, h9⟩ := bB_some.1 h8
  have hdt' : P.underlying t = some (.slice e) := by cases dt <;> first | (cases he; exact hdt) | cases he
  have hsl := (asSl_VR hy hd).1
  obtain ⟨a0, c0, e0⟩ := hsl.len
  have e1 : slLen (.mk aa dl cap) = dl := rfl
  rw [e1] at e0
  -- the source
  obtain ⟨l', hl, hlen, hlo, hfirst⟩ : ∃ l', LR M cs l' ∧ cs.length = minN xl dl * size ∧ (∀ w2 : World, (Builtin.lenOf x').run P w2 = .ok xl w2) ∧ (Builtin.firstCells size (minN xl dl) x').run P w = .ok l'.toArray w := by
    rcases srcA_cases (s := s) (size := size) (n := minN xl dl) x with ⟨b, rfl⟩ | ⟨q1, q2⟩
    · cases hx
      obtain ⟨k1, k2⟩ := bB_some.1 (show bB (Nat.beq size 1) _ = some cs from hcs)
      obtain rfl : size = 1 := beq_nat.1 k1
      obtain ⟨r, hr, k3⟩ := bnd_some.1 k2
      obtain ⟨hle, rfl⟩ := sTake_some hr
      have k4 := bytesV_some k3
      have hn' : b.data.toList.length = xl := by
        have : some (lLen b.data.toList) = some xl := hxl
        rw [lLen_eq] at this; simpa using this
      have hsz2 : b.size = xl := by rw [← hn', Array.length_toList]; rfl
      have hcl : cs.length = minN xl dl := by rw [k4, List.length_map, List.length_take]; omega
      refine ⟨cs, ⟨rfl, fun i v v' f f' => ?_⟩, by rw [hcl, Nat.mul_one], fun w2 => by simp [Builtin.lenOf, hsz2], ?_⟩
      · rw [f] at f'; cases f'
        rw [k4, List.getElem?_map] at f
        cases hb : (b.data.toList.take (minN xl dl))[i]? with
        | none => rw [hb] at f; cases f
        | some c => rw [hb] at f; cases f; exact .int _ _
      · simp only [Builtin.firstCells, Sem.run_pure]
        congr 1
        rw [k4]
        apply Array.ext'
        have := extract_str b 0 (minN xl dl) (Nat.zero_le _) hle
        rw [this]
        simp
    · rw [q1] at hcs
      have q2' : lenOfA x = bnd (asSl x) fun y => some (slLen y) := q2
      rw [q2'] at hxl
      obtain ⟨z, hz, k1⟩ := bnd_some.1 hcs
      obtain ⟨z2, hz2, k2⟩ := bnd_some.1 hxl
      rw [hz] at hz2; cases hz2
      have hr := (asSl_VR hz hx).1
      obtain ⟨a1, c1, f0⟩ := hr.len
      have k2' : slLen z = xl := by simpa using k2
      obtain ⟨l', g1, g2, g3⟩ := srcSl_run (n := minN xl dl) (size := size) k1 hr hS rfl (fun c f => by
        rw [f0] at f; simp only [Value.slice.injEq] at f; rw [minN_eq, ← k2', f.2.1]; simp) (fun ⟨_, _, f, _⟩ => by
        rw [f0] at f; simp only [Value.slice.injEq] at f; rw [minN_eq, ← k2', f.2.1]; simp)
      refine ⟨l', g1, g2, fun w2 => by rw [f0, k2']; simp [Builtin.lenOf], g3 w rfl⟩
  have hmin : Nat.min xl dl = minN xl dl := by rw [minN_eq]
  have fin : ∀ n' : Nat, mkN n' = some v → v = .int .i64 n' := fun n' h => mkN_some.1 h
  cases hsl with
  | nil =>
    obtain ⟨k0, k1⟩ := bB_some.1 (show bB (Nat.beq (minN xl 0) 0) _ = some (v, s') from h9)
    obtain ⟨v2, k2, k3⟩ := bnd_some.1 k1
    cases k3
    rw [mkN_some] at k2; subst k2
    refine Res.pure hS ?_ (.int _ _)
    have hz : minN xl 0 = 0 := beq_nat.1 k0
    rw [hz] at hfirst ⊢
    simp [Builtin.copy_, h0, h1, h2, run_underlying hdt', hlo, run_size hsz, hfirst, goInt]
  | emp ad c =>
    obtain ⟨k0, k1⟩ := bB_some.1 (show bB (Nat.beq (minN xl 0) 0) _ = some (v, s') from h9)
    obtain ⟨v2, k2, k3⟩ := bnd_some.1 k1
    cases k3
    rw [mkN_some] at k2; subst k2
    have hl0 : l' = [] := by
      have k0' : minN xl 0 = 0 := beq_nat.1 k0
      rw [k0'] at hlen
      exact List.eq_nil_of_length_eq_zero (by rw [← hl.1, hlen]; simp)
    rw [hl0] at hfirst
    refine Res.pure hS ?_ (.int _ _)
    have hz : minN xl 0 = 0 := beq_nat.1 k0
    rw [hz] at hfirst ⊢
    simp [Builtin.copy_, h0, h1, h2, run_underlying hdt', hlo, run_size hsz, hfirst, goInt, storeCells]
  | @at_ b o _ _ mi hm hc =>
    obtain ⟨s2, k1, k2⟩ := bnd_some.1 (show bnd (storeN s b o cs) _ = some (v, s') from h9)
    obtain ⟨v2, k3, k4⟩ := bnd_some.1 k2
    cases k4
    rw [mkN_some] at k3; subst k3
    obtain ⟨r1, _, _, r2⟩ := storeN_run k1 hm hS hl hone
    refine ⟨M, _, _, ?_, .int _ _, r2⟩
    simp only [Builtin.copy_, h0, h1, h2, Sem.run_bind, Result.andThen_ok, run_underlying hdt', hlo, run_size hsz, hmin, hfirst, goInt, Sem.run_pure]
    rw [r1 0 rfl rfl]
    rfl
  | @open_ b o _ _ mi hm _ _ _ =>
    obtain ⟨s2, k1, k2⟩ := bnd_some.1 (show bnd (storeN s b o cs) _ = some (v, s') from h9)
    obtain ⟨v2, k3, k4⟩ := bnd_some.1 k2
    cases k4
    rw [mkN_some] at k3; subst k3
    obtain ⟨r1, _, _, r2⟩ := storeN_run k1 hm hS hl hone
    refine ⟨M, _, _, ?_, .int _ _, r2⟩
    simp only [Builtin.copy_, h0, h1, h2, Sem.run_bind, Result.andThen_ok, run_underlying hdt', hlo, run_size hsz, hmin, hfirst, goInt, Sem.run_pure]
    rw [r1 0 rfl rfl]
    rfl
theorem zeroCells_LR {z : Value} {n k : Nat} {zs : List Value} (hc : clean z = true) (hz : (cellsV z).length = k) (hk : 1 ≤ k) (h : sRep n (cellsV z) = some zs) : LR M zs (Builtin.zeroCells z.cells n).toList := by
  have hl := zeros_LR (M := M) hc hz hk h
  have hsz : z.cells.size = k := by rw [← hz, (cells_zero (M := M) hc).1, Array.length_toList]
  rw [← hsz] at hl
  exact hl
theorem opClear_run {t ty : TypeId} {x x' v : Value} {ts : Array TypeId} {vs : Array Value} (h : opClear P s t x = some (v, s')) (hx : VR M x x') (hS : Sim P M s.h.get w) (h0 : ts[0]? = some t) (h1 : vs[0]? = some x') :
    Res P s M w ((Builtin.clear_ ts ty vs).run P w) v s' := by
  obtain ⟨dt, hdt, h3⟩ := bnd_some.1 h
  obtain ⟨e, he, h4⟩ := bnd_some.1 h3
  obtain ⟨y, hy, h5⟩ := bnd_some.1 h4
  have hdt' : P.underlying t = some (.slice e) := by cases dt <;> first | (cases he; exact hdt) | cases he
  have hsl := (asSl_VR hy hx).1
  obtain ⟨aa, len, cap⟩ := y
  obtain ⟨a0, c0, e0⟩ := hsl.len
  have e1 : slLen (.mk aa len cap) = len := rfl
  rw [e1] at e0
  have ht : VR M (.tuple ⟨[]⟩) (.tuple #[]) := .tuple rfl (fun i v v' e => by simp at e)
  cases len with
  | zero =>
    cases (show some (Value.tuple ⟨[]⟩, s) = some (v, s') from h5)
    refine Res.pure hS ?_ ht
    rw [e0] at h1
    cases a0 <;> simp [Builtin.clear_, h0, h1, run_underlying hdt']
  | succ n =>
    obtain ⟨b, o, hab, h6⟩ := bnd2_some.1 (show bnd2 aa _ = some (v, s') from h5)
    cases hab
    obtain ⟨z, hz, h7⟩ := bnd_some.1 h6
    obtain ⟨k, hk, h8⟩ := bnd_some.1 h7
    obtain ⟨hzk, h9⟩ := bB_some.1 h8
    obtain ⟨hk1, h10⟩ := bB_some.1 h9
    obtain ⟨zs, hzs, h11⟩ := bnd_some.1 h10
    obtain ⟨hone, h12⟩ := bB_some.1 h11
    obtain ⟨s2, hst, h13⟩ := bnd_some.1 h12
    cases h13
    obtain ⟨_, _, _, hcl⟩ := zeroOf_some hz
    have hlr := zeroCells_LR (M := M) hcl (by rw [← lLen_eq]; exact beq_nat.1 hzk) (ble_nat.1 hk1) hzs
    have go : ∀ {mi : MI} {c : Nat}, M b = some mi → x' = .slice (some ⟨mi.blk, mi.sh + o, none⟩) (n + 1) c → Res P s M w ((Builtin.clear_ ts ty vs).run P w) (.tuple ⟨[]⟩) s' := by
      intro mi c hm ex
      rw [ex] at h1
      obtain ⟨r1, _, _, r2⟩ := storeN_run hst hm hS hlr hone
      refine ⟨M, .tuple #[], _, ?_, ht, r2⟩
      simp only [Builtin.clear_, h0, h1, Sem.run_bind, Result.andThen_ok, run_underlying hdt', run_zero hz, Sem.run_pure]
      rw [r1 0 rfl rfl]
      rfl
    cases hsl with
    | at_ hm hc => exact go hm rfl
    | open_ hm _ _ _ => exact go hm rfl
/-! ### Conversions -/
theorem convInt_run {src dst : TypeId} {ds dd : TypeDesc} {k : IntKind} {n : Int} {v : Value} (h : convInt dd n = some v) (hs : P.underlying src = some ds) (hd : P.underlying dst = some dd) : (∀ w, (convert src dst (.int k n)).run P w = .ok v w) ∧ clean0 v = true := by
  cases dd <;> simp only [convInt] at h <;> (try cases h)
  case int kk =>
    rw [mkI_some, wrapA_eq] at h
    subst h
    exact ⟨fun w => by simp [convert, run_underlying hs, run_underlying hd, Conv.intToInt], rfl⟩
  case string => exact ⟨fun w => by simp [convert, run_underlying hs, run_underlying hd, Conv.intToString], rfl⟩
theorem dU8_eq {d : TypeDesc} (h : dU8 d = true) : d = .int .u8 := by
  cases d <;> simp only [dU8] at h <;> (try cases h)
  rename_i k
  cases k <;> first | rfl | cases h
theorem convStr_run {src dst : TypeId} {ds dd : TypeDesc} {b : ByteArray} {v : Value} (h : convStr P s dd b.data.toList = some (v, s')) (hs : P.underlying src = some ds) (hd : P.underlying dst = some dd) (hS : Sim P M s.h.get w) (hf : Fresh M s.nx s'.nx) :
    Res P s M w ((convert src dst (.string b)).run P w) v s' := by
  cases dd <;> simp only [convStr] at h <;> (try cases h)
  case string =>
    refine Res.pure hS (v' := .string b) ?_ (.string b)
    cases ds <;> simp [convert, run_underlying hs, run_underlying hd]
  case slice e =>
    obtain ⟨hTB, h⟩ := bB_some.1 h
    have hTB : e ≠ TB := fun h => by rw [h, Nat.beq_refl] at hTB; cases hTB
    obtain ⟨de, hde, h1⟩ := bnd_some.1 h
    obtain ⟨hu, h2⟩ := bB_some.1 h1
    obtain ⟨k, hk, h3⟩ := bnd_some.1 h2
    obtain ⟨hk1, h4⟩ := bB_some.1 h3
    obtain ⟨cs, hcs, h5⟩ := bnd_some.1 h4
    obtain ⟨hc40, h5⟩ := bB_some.1 h5
    obtain ⟨nb, s2, hnb, h6⟩ := bnd2_some.1 h5
    cases h6
    rw [dU8_eq hu] at hde
    have hkk : k = 1 := beq_nat.1 hk1
    subst hkk
    have hcs' := bytesV_some hcs
    obtain ⟨rfl, g1, g2⟩ := new_some hnb
    have hfn : M s.nx = none := hf _ (Nat.le_refl _) (by omega)
    have hrun := Lib.run_convert_string_bytes (P := P) w src dst e b hs hd hde
    have hbs : b.data.toList.length = b.size := by rw [Array.length_toList]; rfl
    have hge := grownCap_ge w b.size 0 e
    have hcl : cs.length = b.size := by rw [hcs', List.length_map, hbs]
    have hCs : (Lib.bytesCells w e b).size = grownCap w b.size 0 e := by
      unfold Lib.bytesCells
      rw [Array.size_append, Array.size_map, Array.size_replicate]
      show b.size + _ = _
      omega
    have hcap : grownCap w b.size 0 e < OPEN := grown_lt w _ _ e (by rw [← hcl, ← lLen_eq]; exact ble_nat.1 hc40)
    let mi : MI := ⟨w.heap.size, 0, (Lib.bytesCells w e b).size, 1⟩
    have hor : ∀ M2, Le M M2 → OR P M2 (.cells cs e false) mi (Lib.bytesWorld w e b) := fun M2 _ => by
      refine ⟨_, _, Lib.bytesWorld_at_new w e b, rfl, by show 0 + cs.length ≤ (Lib.bytesCells w e b).size; omega, fun i v hi => ?_, fun k hk' => by rw [hk] at hk'; simpa using hk', fun _ => .inr (Nat.le_refl _), fun ht => absurd ht hTB⟩
      have hib : i < b.size := by rw [← hcl]; exact (List.getElem?_eq_some_iff.1 hi).1
      rw [hcs', List.getElem?_map] at hi
      refine ⟨v, ?_, ?_⟩
      · show (Lib.bytesCells w e b)[0 + i]? = some v
        rw [Nat.zero_add]
        unfold Lib.bytesCells
        rw [Array.getElem?_append_left (by rw [Array.size_map]; exact hib), Array.getElem?_map]
        rw [Array.getElem?_toList] at hi
        exact hi
      · cases hb : b.data.toList[i]? with
        | none => rw [hb] at hi; cases hi
        | some c => rw [hb] at hi; cases hi; exact .int _ _
    have hst := Stp.allocW (w' := Lib.bytesWorld w e b) (lo := s.nx) hS hfn (.cells cs e false) mi rfl (Lib.bytesWorld_size w e b) (fun c hc => Lib.bytesWorld_at_old w e b c hc) rfl rfl rfl hor
    refine ⟨_, _, _, hrun, ?_, by rw [g2, g1]; exact hst⟩
    have := VR.slo (M := fun c => if c = s.nx then some mi else M c) (b := s.nx) (o := 0) (l := b.size) (c := grownCap w b.size 0 e) (mi := mi) (by simp) hge hcap (by show 0 + 0 + _ * 1 = (Lib.bytesCells w e b).size; rw [hCs]; omega)
    rw [lLen_eq, hcl]
    exact this
end
end Go.Proofs.YtgdlfecppecooaaGreatDoor.ev
