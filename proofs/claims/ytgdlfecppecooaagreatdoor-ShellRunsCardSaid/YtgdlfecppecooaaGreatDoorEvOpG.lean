/- An evaluator of closed calls: every operation; a run of operations. -/
import Derived.Laws.Externs
import Derived.Test.YtgdlfecppecooaaGreatDoorEvOpF
set_option linter.all false
namespace Go.Proofs.YtgdlfecppecooaaGreatDoor.ev
open Go Go.RowKit
section
variable {P : Program} {M M' : Pm} {φ φ' : T Value} {a : Act} {N : Nat} {w : World} {s s' : St}
theorem run_u {x : Sem Unit} {w w' : World} (h : x.run P w = .ok () w') : (do x; Pure.pure .skip : Sem Next).run P w = .ok .skip w' := by
  simp only [Sem.run_bind, h, Result.andThen_ok, Sem.run_pure]
theorem convert_ok {src dst : TypeId} {x x' v : Value} (hB : BOk P) (h : opConv P s src dst x = some (v, s')) (hx : VR M x x') (hS : Sim P M s.h.get w) (hfr : Fresh M s.nx s'.nx) : Res P s M w ((convert src dst x').run P w) v s' := by
  obtain ⟨ds, hds, h1⟩ := bnd_some.1 h
  obtain ⟨dd, hdd, h2⟩ := bnd_some.1 h1
  cases hxc : x <;> rw [hxc] at h2 <;> simp only at h2 <;> (try cases h2)
  case int k n =>
    obtain ⟨h3, rfl⟩ := pureS_some h2
    rw [hxc] at hx
    cases hx
    obtain ⟨h4, h5⟩ := convInt_run (P := P) (k := k) h3 hds hdd
    exact Res.pure hS (h4 w) (clean0_VR h5)
  case string b =>
    rw [hxc] at hx
    cases hx
    exact convStr_run h2 hds hdd hS hfr
  case slice a0 l0 c0 =>
    obtain ⟨h3, rfl⟩ := pureS_some h2
    rw [hxc] at hx
    exact convSl_run h3 hx hds hdd hS
  case pointer a =>
    obtain ⟨h3, rfl⟩ := pureS_some h2
    rw [hxc] at hx
    obtain ⟨h4, h5⟩ := convPtr_run hB h3 hds hdd hx hS
    exact Res.pure hS h4 (h5 ▸ hx)
/-- the functions without a body -/
def XOk (P : Program) : Prop := (∃ fn, P.funcs[NE]? = some fn ∧ (fn.name == "runtime.NumGoroutine") = false ∧ fn.body.isNone = true ∧ Extern.findNext fn = none ∧ Extern.find fn = some Extern.AbiNoEscape.same) ∧
  (∃ fn, P.funcs[IBS]? = some fn ∧ (fn.name == "runtime.NumGoroutine") = false ∧ fn.body.isNone = true ∧ Extern.findNext fn = none ∧ Extern.find fn = some Extern.BytealgIndexByte.indexByte)
theorem callX_cases {ex : CaF} {f : FuncId} {args : List Value} {v : Value} (h : callX ex f args s = some (v, s')) : (xA f args = some v ∧ s = s') ∨ ex f args s = some (v, s') := by
  unfold callX at h
  cases hx : xA f args with
  | none => rw [hx] at h; exact .inr h
  | some u => rw [hx] at h; cases (show some (u, s) = some (v, s') from h); exact .inl ⟨rfl, rfl⟩
theorem idxB_eq (c : Nat) (b : ByteArray) (hc : c ≤ 255) : idxB c b.data.toList 0 = firstIdx b (UInt8.ofNat c) := by
  have hs : b.size = b.data.toList.length := by rw [Array.length_toList]; rfl
  have key : ∀ (m k : Nat), k + m = b.size → idxB c (b.data.toList.drop k) k = match (List.range' k m).find? (fun i => b[i]! == UInt8.ofNat c) with
      | some i => (i : Int)
      | none => -1 := by
    intro m
    induction m with
    | zero => intro k hk; rw [List.drop_eq_nil_of_le (by omega)]; rfl
    | succ m ih =>
      intro k hk
      have hk2 : k < b.data.toList.length := by omega
      have hk3 : k < b.data.size := by rw [Array.length_toList] at hk2; exact hk2
      rw [List.drop_eq_getElem_cons hk2, List.range'_succ, List.find?_cons]
      have e : b[k]! = b.data.toList[k] := by
        rw [Array.getElem_toList, getElem!_pos b k hk3]
        rfl
      show Bool.rec (motive := fun _ => Int) (idxB c (b.data.toList.drop (k + 1)) (k + 1)) (.ofNat k) (Nat.beq (b.data.toList[k]).toNat c) = _
      rw [e]
      cases hq : Nat.beq (b.data.toList[k]).toNat c with
      | true =>
        have h1 : (b.data.toList[k] == UInt8.ofNat c) = true := by
          have := beq_nat.1 hq
          rw [beq_iff_eq, ← this]; simp
        rw [h1]; rfl
      | false =>
        have h1 : (b.data.toList[k] == UInt8.ofNat c) = false := by
          have := beq_natF.1 hq
          rw [beq_eq_false_iff_ne]
          intro h2
          apply this
          rw [h2, UInt8.toNat_ofNat']
          omega
        rw [h1]
        exact ih (k + 1) (by omega)
  have := key b.size 0 (by omega)
  rw [List.drop_zero] at this
  unfold firstIdx
  rw [List.range_eq_range']
  exact this
theorem asU8_VR {x x' : Value} {m : Nat} (h : asU8 x = some m) (hx : VR M x x') : x' = .int .u8 m ∧ m ≤ 255 := by
  cases hx <;> simp only [asU8] at h <;> (try cases h)
  rename_i k z
  cases k <;> simp only at h <;> (try cases h)
  cases z <;> simp only at h <;> (try cases h)
  obtain ⟨h1, h2⟩ := bB_some.1 h
  cases h2
  exact ⟨rfl, ble_nat.1 h1⟩
theorem xA_run {f : FuncId} {vs : List Value} {v : Value} {A : Array Value} (hX : XOk P) (h : xA f vs = some v) (hl : LR M vs A.toList) : ∃ v', (callFunc f A).run P w = .ok (.value v') w ∧ VR M v v' := by
  obtain ⟨⟨fn, a1, a2, a3, a4, a5⟩, ⟨fn2, b1, b2, b3, b4, b5⟩⟩ := hX
  rcases bE_some.1 h with ⟨hf, h1⟩ | ⟨_, h1⟩
  · obtain rfl := beq_nat.1 hf
    obtain ⟨hlen, h2⟩ := bB_some.1 h1
    have hlen : vs.length = 1 := by rw [← lLen_eq]; exact beq_nat.1 hlen
    obtain ⟨x, rfl⟩ : ∃ x, vs = [x] := by
      match vs, hlen with
      | [x], _ => exact ⟨x, rfl⟩
    cases (show some x = some v from h2)
    obtain ⟨x', r, e, hx, hr⟩ := hl.uncons
    obtain rfl := hr.nil_l
    obtain rfl : A = #[x'] := by cases A; simp_all
    exact ⟨x', by rw [run_callFunc_extern a1 a2 a3 a4 a5]; rfl, hx⟩
  · rcases bE_some.1 h1 with ⟨hf, h2⟩ | ⟨_, h2⟩
    · obtain rfl := beq_nat.1 hf
      obtain ⟨hlen, h2⟩ := bB_some.1 h2
      have hlen : vs.length = 2 := by rw [← lLen_eq]; exact beq_nat.1 hlen
      obtain ⟨x, y, rfl⟩ : ∃ x y, vs = [x, y] := by
        match vs, hlen with
        | [x, y], _ => exact ⟨x, y, rfl⟩
      obtain ⟨x0, hx0, h3⟩ := bnd_some.1 h2
      cases (show some x = some x0 from hx0)
      obtain ⟨l, hl1, h4⟩ := bnd_some.1 h3
      obtain ⟨y0, hy0, h5⟩ := bnd_some.1 h4
      cases (show some y = some y0 from hy0)
      obtain ⟨n, hn, h6⟩ := bnd_some.1 h5
      obtain ⟨x', r, e, hx, hr⟩ := hl.uncons
      obtain ⟨y', r2, e2, hy, hr2⟩ := hr.uncons
      obtain rfl := hr2.nil_l
      subst e2
      obtain rfl : A = #[x', y'] := by cases A; simp_all
      obtain ⟨sb, rfl, rfl, e3⟩ := asStr_VR hl1 hx
      obtain ⟨rfl, hn2⟩ := asU8_VR hn hy
      have e5 := idxB_eq n sb hn2
      refine ⟨.int .i64 (firstIdx sb (n : Int).toNat.toUInt8), by rw [run_callFunc_extern b1 b2 b3 b4 b5, run_indexByte_string]; rfl, ?_⟩
      have e6 := mkI_some.1 h6
      rw [e6, Int.toNat_natCast]
      rw [← e3, e5]
      exact .int _ _
    · cases h2
/-- no function that counts goroutines has a body -/
structure NoNG (P : Program) : Prop where
  ng : ∀ (f : FuncId) (fn : Func), P.funcs[f]? = some fn → (fn.name == "runtime.NumGoroutine" && fn.body.isSome) = false
  bok : BOk P
  xok : XOk P
theorem opF_ok {ex : CaF} {o : Oper} {v : Value} (hng : NoNG P) (hex : CaOk P ex) (h : opF o.op P ex s φ = some (v, s')) (hS : Sim P M s.h.get w) (hf : FR P M φ a N) (hfr : Fresh M s.nx s'.nx) : OpOk P o a s M w v s' := by
  cases ho : o.op <;> rw [ho] at h <;> simp only [opF] at h <;> (try cases h)
  case move x =>
    obtain ⟨h1, rfl⟩ := pureS_some h
    exact OpOk.pure hS (by unfold execOp; rw [ho]; rfl) (ev_VR h1 hf)
  case assign x =>
    obtain ⟨h1, rfl⟩ := pureS_some h
    exact OpOk.pure hS (by unfold execOp; rw [ho]; rfl) (ev_VR h1 hf)
  case pick c x y =>
    obtain ⟨vc, hc, h1⟩ := bnd_some.1 h
    obtain ⟨vx, hx, h2⟩ := bnd_some.1 h1
    obtain ⟨vy, hy, h3⟩ := bnd_some.1 h2
    obtain ⟨t, ht, h4⟩ := bnd_some.1 h3
    obtain ⟨_, et⟩ := asBool_VR ht (ev_VR hc hf)
    rcases bE_some.1 h4 with ⟨rfl, h5⟩ | ⟨rfl, h5⟩
    · cases h5
      exact OpOk.pure hS (by unfold execOp; rw [ho]; simp only [Sem.run_bind, et, Go.asBool, Sem.run_pure, Result.andThen_ok, if_true]) (ev_VR hx hf)
    · cases h5
      exact OpOk.pure hS (by unfold execOp; rw [ho]; simp only [Sem.run_bind, et, Go.asBool, Sem.run_pure, Result.andThen_ok, Bool.false_eq_true, if_false]) (ev_VR hy hf)
  case alloc e =>
    obtain ⟨z, hz, h1⟩ := bnd_some.1 h
    obtain ⟨_, _, _, hcl⟩ := zeroOf_some hz
    refine OpOk.res (opNew_run (C := z.cells) h1 hS hfr (cells_zero hcl)) fun v' w' e1 => ?_
    unfold execOp; rw [ho]
    refine run_v ?_
    unfold Instr.alloc newVar
    simp only [Sem.run_bind, run_zero hz, Result.andThen_ok]
    exact e1
  case box e x =>
    obtain ⟨u, hu, h1⟩ := bnd_some.1 h
    refine OpOk.res (opNew_run (C := (a.eval x).cells) h1 hS hfr (cellsV_LR (ev_VR hu hf))) fun v' w' e1 => ?_
    unfold execOp; rw [ho]
    exact run_v e1
  case build t parts =>
    obtain ⟨h1, rfl⟩ := pureS_some h
    obtain ⟨v', h2, h3⟩ := opBuild_run h1 hf
    exact OpOk.pure hS (by unfold execOp; rw [ho]; exact run_v (h2 w)) h3
  case buildSlice t len parts =>
    exact OpOk.res (opBuildSl_run h hf hS hfr) fun v' w' e1 => by unfold execOp; rw [ho]; exact run_v e1
  case load t x =>
    obtain ⟨u, hu, h1⟩ := bnd_some.1 h
    obtain ⟨b, o2, hp, h2⟩ := bnd2_some.1 h1
    obtain ⟨h3, rfl⟩ := pureS_some h2
    obtain ⟨mi, hm, _, e⟩ := asPtr_VR hp (ev_VR hu hf)
    obtain ⟨v', h4, _, h5⟩ := loadA_run h3 hm hS
    exact OpOk.pure hS (by unfold execOp; rw [ho]; simp only [e]; exact run_v h4) h5
  case store t x y =>
    obtain ⟨vx, hx, h1⟩ := bnd_some.1 h
    obtain ⟨vy, hy, h2⟩ := bnd_some.1 h1
    obtain ⟨h3, rfl⟩ := undS_some h2
    exact OpOk.skip (opStore_run h3 (ev_VR hx hf) (ev_VR hy hf) hS) fun w' e1 => by unfold execOp; rw [ho]; exact run_u e1
  case nilCheck x =>
    obtain ⟨u, hu, h1⟩ := bnd_some.1 h
    obtain ⟨h2, rfl⟩ := pureS_some h1
    obtain ⟨h3, rfl⟩ := opNil_run (P := P) h2 (ev_VR hu hf) w
    exact OpOk.pure hS (by unfold execOp; rw [ho]; exact h3) (ev_VR hu hf)
  case binOp op t x y yt =>
    obtain ⟨vx, hx, h1⟩ := bnd_some.1 h
    obtain ⟨vy, hy, h2⟩ := bnd_some.1 h1
    obtain ⟨h3, rfl⟩ := pureS_some h2
    obtain ⟨h4, h5⟩ := binO_run h3 (ev_VR hx hf) (ev_VR hy hf) w
    exact OpOk.pure hS (by unfold execOp; rw [ho]; exact run_v h4) (clean0_VR h5)
  case unOp op t x =>
    obtain ⟨vx, hx, h1⟩ := bnd_some.1 h
    obtain ⟨h3, rfl⟩ := pureS_some h1
    obtain ⟨h4, h5⟩ := unA_run (P := P) h3 (ev_VR hx hf) w
    exact OpOk.pure hS (by unfold execOp; rw [ho]; exact run_v h4) (clean0_VR h5)
  case convert src dst x =>
    obtain ⟨vx, hx, h1⟩ := bnd_some.1 h
    exact OpOk.res (convert_ok hng.bok h1 (ev_VR hx hf) hS hfr) fun v' w' e1 => by unfold execOp; rw [ho]; exact run_v e1
  case makeInterface t x =>
    obtain ⟨vx, hx, h1⟩ := bnd_some.1 h
    obtain ⟨h3, rfl⟩ := pureS_some h1
    obtain ⟨v', h4, h5⟩ := opIface_run h3 (ev_VR hx hf)
    exact OpOk.pure hS (by unfold execOp; rw [ho]; exact run_v (h4 w)) h5
  case makeFunc fn first captured =>
    obtain ⟨vf, h1, h2⟩ := bnd_some.1 h
    obtain ⟨vc, h3, h4⟩ := bnd_some.1 h2
    cases h4
    have l1 := evs_arr h1 hf
    have l2 := evs_arr h3 hf
    exact OpOk.pure hS (by unfold execOp; rw [ho]; exact run_v rfl) (.func fn l1.1 l1.2 l2.1 l2.2)
  case makeMap t r =>
    exact OpOk.res (opMakeMap_run (P := P) (a := a) (t := t) h hS hfr) fun v' w' e1 => by unfold execOp; rw [ho]; exact run_v e1
  case makeChan t x =>
    obtain ⟨vx, hx, h1⟩ := bnd_some.1 h
    exact OpOk.res (opMakeChan_run h1 (ev_VR hx hf) hS hfr) fun v' w' e1 => by unfold execOp; rw [ho]; exact run_v e1
  case makeSlice t l c =>
    obtain ⟨vl, hl, h1⟩ := bnd_some.1 h
    obtain ⟨vc, hc, h2⟩ := bnd_some.1 h1
    exact OpOk.res (opMakeSl_run h2 (ev_VR hl hf) (ev_VR hc hf) hS hfr) fun v' w' e1 => by unfold execOp; rw [ho]; exact run_v e1
  case slice t x lo hi mx =>
    obtain ⟨vx, hx, h1⟩ := bnd_some.1 h
    obtain ⟨vl, hl, h2⟩ := bnd_some.1 h1
    obtain ⟨vh, hh, h3⟩ := bnd_some.1 h2
    obtain ⟨vm, hm, h4⟩ := bnd_some.1 h3
    obtain ⟨h5, rfl⟩ := pureS_some h4
    obtain ⟨v', h6, h7⟩ := sliceA_run h5 (ev_VR hx hf) (.map hl hf) (.map hh hf) (.map hm hf)
    exact OpOk.pure hS (by unfold execOp; rw [ho]; exact run_v (h6 w)) h7
  case fieldAddr t x f =>
    obtain ⟨vx, hx, h1⟩ := bnd_some.1 h
    obtain ⟨h3, rfl⟩ := pureS_some h1
    obtain ⟨v', h4, h5⟩ := opFieldAddr_run h3 (ev_VR hx hf)
    exact OpOk.pure hS (by unfold execOp; rw [ho]; exact run_v (h4 w)) h5
  case field t x f =>
    obtain ⟨vx, hx, h1⟩ := bnd_some.1 h
    obtain ⟨h3, rfl⟩ := pureS_some h1
    obtain ⟨v', h4, h5⟩ := opField_run h3 (ev_VR hx hf)
    exact OpOk.pure hS (by unfold execOp; rw [ho]; exact run_v (h4 w)) h5
  case indexAddr t x i =>
    obtain ⟨vx, hx, h1⟩ := bnd_some.1 h
    obtain ⟨vi, hi, h2⟩ := bnd_some.1 h1
    obtain ⟨h3, rfl⟩ := pureS_some h2
    obtain ⟨v', h4, h5⟩ := opIdxAddr_run h3 (ev_VR hx hf) (ev_VR hi hf)
    exact OpOk.pure hS (by unfold execOp; rw [ho]; exact run_v (h4 w)) h5
  case index t x i =>
    obtain ⟨vx, hx, h1⟩ := bnd_some.1 h
    obtain ⟨vi, hi, h2⟩ := bnd_some.1 h1
    obtain ⟨h3, rfl⟩ := pureS_some h2
    obtain ⟨v', h4, h5⟩ := opIndex_run h3 (ev_VR hx hf) (ev_VR hi hf)
    exact OpOk.pure hS (by unfold execOp; rw [ho]; exact run_v (h4 w)) h5
  case lookup t x i ok =>
    obtain ⟨vx, hx, h1⟩ := bnd_some.1 h
    obtain ⟨vi, hi, h2⟩ := bnd_some.1 h1
    obtain ⟨h3, rfl⟩ := pureS_some h2
    obtain ⟨v', h4, h5⟩ := lookA_run h3 (ev_VR hx hf) (ev_VR hi hf) hS
    exact OpOk.pure hS (by unfold execOp; rw [ho]; exact run_v h4) h5
  case mapUpdate t m k x =>
    obtain ⟨vm, hm, h1⟩ := bnd_some.1 h
    obtain ⟨vk, hk, h2⟩ := bnd_some.1 h1
    obtain ⟨vx, hx, h3⟩ := bnd_some.1 h2
    obtain ⟨h4, rfl⟩ := undS_some h3
    exact OpOk.skip (mapSet_run h4 (ev_VR hm hf) (ev_VR hk hf) (ev_VR hx hf) hS) fun w' e1 => by unfold execOp; rw [ho]; exact run_u e1
  case insert t m k x =>
    obtain ⟨vm, hm, h1⟩ := bnd_some.1 h
    obtain ⟨vk, hk, h2⟩ := bnd_some.1 h1
    obtain ⟨vx, hx, h3⟩ := bnd_some.1 h2
    obtain ⟨h4, rfl⟩ := undS_some h3
    exact OpOk.skip (mapSet_run h4 (ev_VR hm hf) (ev_VR hk hf) (ev_VR hx hf) hS) fun w' e1 => by unfold execOp; rw [ho]; exact run_u e1
  case extract x i =>
    obtain ⟨vx, hx, h1⟩ := bnd_some.1 h
    obtain ⟨h3, rfl⟩ := pureS_some h1
    obtain ⟨v', h4, h5⟩ := opExtract_run (P := P) h3 (ev_VR hx hf)
    exact OpOk.pure hS (by unfold execOp; rw [ho]; exact run_v (h4 w)) h5
  case call c =>
    cases hc : c.callee with
    | builtin b =>
      rw [hc] at h
      obtain ⟨vs, hvs, h1⟩ := bnd_some.1 (show bnd (evs P φ c.args.toList) (fun vs => opBuiltin b P s c.argTypes.toList vs) = some (v, s') from h)
      exact opBuiltin_ok ho hc hvs h1 hS hf hfr
    | invoke r m => rw [hc] at h; cases h
    | value x =>
      rw [hc] at h
      obtain ⟨f, args, h1, h2⟩ := bnd2_some.1 (show bnd2 (callA P φ x c) (fun f args => callX ex f args s) = some (v, s') from h)
      obtain ⟨u, hu, h3⟩ := bnd_some.1 h1
      obtain ⟨f', p, hfn, h4⟩ := bnd2_some.1 h3
      obtain ⟨as, has, h5⟩ := bnd_some.1 h4
      obtain ⟨r1, hr1, h6⟩ := bnd_some.1 h5
      obtain ⟨r2, hr2, h7⟩ := bnd_some.1 h6
      cases h7
      rw [sApp_eq] at hr1 hr2
      cases hr1; cases hr2
      have hv := ev_VR hu hf
      have hfun : ∃ (F C : Array Value), a.eval x = .func (.func f) F C ∧ LR M p.1 F.toList ∧ LR M p.2 C.toList := by
        generalize a.eval x = xv at hv
        cases hv <;> simp only [asFn] at hfn <;> (try cases hfn)
        rename_i fn _ _ _ _ g1 g2 g3 g4
        cases fn <;> simp only at hfn <;> (try cases hfn)
        exact ⟨_, _, rfl, ⟨g1, g2⟩, ⟨g3, g4⟩⟩
      obtain ⟨F, C, e1, l1, l2⟩ := hfun
      have hl : LR M (p.1 ++ (as ++ p.2)) (F ++ c.args.map a.eval ++ C).toList := by
        rw [Array.toList_append, Array.toList_append, List.append_assoc]
        exact l1.app ((evs_arr has hf).app l2)
      rcases callX_cases h2 with ⟨hxv, rfl⟩ | h2
      · obtain ⟨v', hr, hvr⟩ := xA_run hng.xok hxv hl (w := w)
        refine .inl ⟨M, v', w, .inl ?_, hvr, .refl hS _⟩
        unfold execOp
        rw [ho]
        simp only [resolve, hc, e1, Deferred.ofValue, Sem.run_bind, Sem.run_pure, Result.andThen_ok, invoke]
        exact hr
      obtain ⟨_, ⟨fn, body, g1, g2⟩, hcall⟩ := hex f _ s v s' h2
      have hcall := hcall M _ w hl hS hfr hf.glob
      have hn : (fn.name == "runtime.NumGoroutine") = false := by
        have := hng.ng f fn g1
        rw [g2] at this
        simpa using this
      have hrun : (execOp a.eval o).run P w = .ok (.enter f (F ++ c.args.map a.eval ++ C)) w := by
        unfold execOp
        rw [ho]
        simp only [resolve, hc, e1, Deferred.ofValue, Sem.run_bind, Sem.run_pure, Result.andThen_ok, invoke, callFunc, program, Sem.run, g1, hn, Bool.false_eq_true, if_false, g2, Option.isNone_some]
      exact .inr ⟨f, _, hrun, hcall⟩
theorem opF_le {_ex : CaF} : True := trivial
end
end Go.Proofs.YtgdlfecppecooaaGreatDoor.ev
