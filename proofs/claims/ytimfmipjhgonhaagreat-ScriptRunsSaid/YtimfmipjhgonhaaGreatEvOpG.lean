/- An evaluator of closed calls: every operation; a run of operations. -/
import Derived.Test.YtimfmipjhgonhaaGreatEvOpF
namespace Go.Proofs.YtimfmipjhgonhaaGreat.ev
open Go Go.RowKit
section
variable {P : Program} {M M' : Pm} {φ φ' : T Value} {a : Act} {N : Nat} {w : World} {s s' : St}
theorem run_u {x : Sem Unit} {w w' : World} (h : x.run P w = .ok () w') : (do x; Pure.pure .skip : Sem Next).run P w = .ok .skip w' := by
  simp only [Sem.run_bind, h, Result.andThen_ok, Sem.run_pure]
theorem convert_ok {src dst : TypeId} {x x' v : Value} (h : opConv P s src dst x = some (v, s')) (hx : VR M x x') (hS : Sim P M s.h.get w) (hfr : Fresh M s.nx s'.nx) : Res P s M w ((convert src dst x').run P w) v s' := by
  obtain ⟨ds, hds, h1⟩ := bnd_some.1 h
  obtain ⟨dd, hdd, h2⟩ := bnd_some.1 h1
  cases hxc : x <;> rw [hxc] at h2 <;> simp only at h2 <;> (try cases h2)
  case int k n =>
    obtain ⟨h3, rfl⟩ := pureS_some h2
    rw [hxc] at hx
    cases hx
    obtain ⟨h4, h5⟩ := convInt_run (P := P) (k := k) h3 hds hdd
    exact Res.pure hS (h4 w) (clean0_VR h5)
  case string b =>
    rw [hxc] at hx
    cases hx
    exact convStr_run h2 hds hdd hS hfr
  case slice a0 l0 c0 =>
    obtain ⟨h3, rfl⟩ := pureS_some h2
    rw [hxc] at hx
    exact convSl_run h3 hx hds hdd hS
/-- no function that counts goroutines has a body -/
def NoNG (P : Program) : Prop := ∀ (f : FuncId) (fn : Func), P.funcs[f]? = some fn → (fn.name == "runtime.NumGoroutine" && fn.body.isSome) = false
theorem opF_ok {ex : CaF} {o : Oper} {v : Value} (hng : NoNG P) (hex : CaOk P ex) (h : opF o.op P ex s φ = some (v, s')) (hS : Sim P M s.h.get w) (hf : FR P M φ a N) (hfr : Fresh M s.nx s'.nx) : OpOk P o a s M w v s' := by
  cases ho : o.op <;> rw [ho] at h <;> simp only [opF] at h <;> (try cases h)
  case move x =>
    obtain ⟨h1, rfl⟩ := pureS_some h
    exact OpOk.pure hS (by unfold execOp; rw [ho]; rfl) (ev_VR h1 hf)
  case assign x =>
    obtain ⟨h1, rfl⟩ := pureS_some h
    exact OpOk.pure hS (by unfold execOp; rw [ho]; rfl) (ev_VR h1 hf)
  case pick c x y =>
    obtain ⟨vc, hc, h1⟩ := bnd_some.1 h
    obtain ⟨vx, hx, h2⟩ := bnd_some.1 h1
    obtain ⟨vy, hy, h3⟩ := bnd_some.1 h2
    obtain ⟨t, ht, h4⟩ := bnd_some.1 h3
    obtain ⟨_, et⟩ := asBool_VR ht (ev_VR hc hf)
    rcases bE_some.1 h4 with ⟨rfl, h5⟩ | ⟨rfl, h5⟩
    · cases h5
      exact OpOk.pure hS (by unfold execOp; rw [ho]; simp only [Sem.run_bind, et, Go.asBool, Sem.run_pure, Result.andThen_ok, if_true]) (ev_VR hx hf)
    · cases h5
      exact OpOk.pure hS (by unfold execOp; rw [ho]; simp only [Sem.run_bind, et, Go.asBool, Sem.run_pure, Result.andThen_ok, Bool.false_eq_true, if_false]) (ev_VR hy hf)
  case alloc e =>
    obtain ⟨z, hz, h1⟩ := bnd_some.1 h
    obtain ⟨_, _, _, hcl⟩ := zeroOf_some hz
    refine OpOk.res (opNew_run (C := z.cells) h1 hS hfr (cells_zero hcl)) fun v' w' e1 => ?_
    unfold execOp; rw [ho]
    refine run_v ?_
    unfold Instr.alloc newVar
    simp only [Sem.run_bind, run_zero hz, Result.andThen_ok]
    exact e1
  case box e x =>
    obtain ⟨u, hu, h1⟩ := bnd_some.1 h
    refine OpOk.res (opNew_run (C := (a.eval x).cells) h1 hS hfr (cellsV_LR (ev_VR hu hf))) fun v' w' e1 => ?_
    unfold execOp; rw [ho]
    exact run_v e1
  case build t parts =>
    obtain ⟨h1, rfl⟩ := pureS_some h
    obtain ⟨v', h2, h3⟩ := opBuild_run h1 hf
    exact OpOk.pure hS (by unfold execOp; rw [ho]; exact run_v (h2 w)) h3
  case buildSlice t len parts =>
    exact OpOk.res (opBuildSl_run h hf hS hfr) fun v' w' e1 => by unfold execOp; rw [ho]; exact run_v e1
  case load t x =>
    obtain ⟨u, hu, h1⟩ := bnd_some.1 h
    obtain ⟨b, o2, hp, h2⟩ := bnd2_some.1 h1
    obtain ⟨h3, rfl⟩ := pureS_some h2
    obtain ⟨mi, hm, _, e⟩ := asPtr_VR hp (ev_VR hu hf)
    obtain ⟨v', h4, _, h5⟩ := loadA_run h3 hm hS
    exact OpOk.pure hS (by unfold execOp; rw [ho]; simp only [e]; exact run_v h4) h5
  case store t x y =>
    obtain ⟨vx, hx, h1⟩ := bnd_some.1 h
    obtain ⟨vy, hy, h2⟩ := bnd_some.1 h1
    obtain ⟨h3, rfl⟩ := undS_some h2
    exact OpOk.skip (opStore_run h3 (ev_VR hx hf) (ev_VR hy hf) hS) fun w' e1 => by unfold execOp; rw [ho]; exact run_u e1
  case nilCheck x =>
    obtain ⟨u, hu, h1⟩ := bnd_some.1 h
    obtain ⟨h2, rfl⟩ := pureS_some h1
    obtain ⟨h3, rfl⟩ := opNil_run (P := P) h2 (ev_VR hu hf) w
    exact OpOk.pure hS (by unfold execOp; rw [ho]; exact h3) (ev_VR hu hf)
  case binOp op t x y yt =>
    obtain ⟨vx, hx, h1⟩ := bnd_some.1 h
    obtain ⟨vy, hy, h2⟩ := bnd_some.1 h1
    obtain ⟨h3, rfl⟩ := pureS_some h2
    obtain ⟨h4, h5⟩ := binA_run h3 (ev_VR hx hf) (ev_VR hy hf) x y w
    exact OpOk.pure hS (by unfold execOp; rw [ho]; exact run_v h4) (clean0_VR h5)
  case unOp op t x =>
    obtain ⟨vx, hx, h1⟩ := bnd_some.1 h
    obtain ⟨h3, rfl⟩ := pureS_some h1
    obtain ⟨h4, h5⟩ := unA_run (P := P) h3 (ev_VR hx hf) w
    exact OpOk.pure hS (by unfold execOp; rw [ho]; exact run_v h4) (clean0_VR h5)
  case convert src dst x =>
    obtain ⟨vx, hx, h1⟩ := bnd_some.1 h
    exact OpOk.res (convert_ok h1 (ev_VR hx hf) hS hfr) fun v' w' e1 => by unfold execOp; rw [ho]; exact run_v e1
  case makeInterface t x =>
    obtain ⟨vx, hx, h1⟩ := bnd_some.1 h
    obtain ⟨h3, rfl⟩ := pureS_some h1
    obtain ⟨v', h4, h5⟩ := opIface_run h3 (ev_VR hx hf)
    exact OpOk.pure hS (by unfold execOp; rw [ho]; exact run_v (h4 w)) h5
  case makeFunc fn first captured =>
    obtain ⟨vf, h1, h2⟩ := bnd_some.1 h
    obtain ⟨vc, h3, h4⟩ := bnd_some.1 h2
    cases h4
    have l1 := evs_arr h1 hf
    have l2 := evs_arr h3 hf
    exact OpOk.pure hS (by unfold execOp; rw [ho]; exact run_v rfl) (.func fn l1.1 l1.2 l2.1 l2.2)
  case makeMap t r =>
    exact OpOk.res (opMakeMap_run (P := P) (a := a) (t := t) h hS hfr) fun v' w' e1 => by unfold execOp; rw [ho]; exact run_v e1
  case makeChan t x =>
    obtain ⟨vx, hx, h1⟩ := bnd_some.1 h
    exact OpOk.res (opMakeChan_run h1 (ev_VR hx hf) hS hfr) fun v' w' e1 => by unfold execOp; rw [ho]; exact run_v e1
  case makeSlice t l c =>
    obtain ⟨vl, hl, h1⟩ := bnd_some.1 h
    obtain ⟨vc, hc, h2⟩ := bnd_some.1 h1
    exact OpOk.res (opMakeSl_run h2 (ev_VR hl hf) (ev_VR hc hf) hS hfr) fun v' w' e1 => by unfold execOp; rw [ho]; exact run_v e1
  case slice t x lo hi mx =>
    obtain ⟨vx, hx, h1⟩ := bnd_some.1 h
    obtain ⟨vl, hl, h2⟩ := bnd_some.1 h1
    obtain ⟨vh, hh, h3⟩ := bnd_some.1 h2
    obtain ⟨vm, hm, h4⟩ := bnd_some.1 h3
    obtain ⟨h5, rfl⟩ := pureS_some h4
    obtain ⟨v', h6, h7⟩ := sliceA_run h5 (ev_VR hx hf) (.map hl hf) (.map hh hf) (.map hm hf)
    exact OpOk.pure hS (by unfold execOp; rw [ho]; exact run_v (h6 w)) h7
  case fieldAddr t x f =>
    obtain ⟨vx, hx, h1⟩ := bnd_some.1 h
    obtain ⟨h3, rfl⟩ := pureS_some h1
    obtain ⟨v', h4, h5⟩ := opFieldAddr_run h3 (ev_VR hx hf)
    exact OpOk.pure hS (by unfold execOp; rw [ho]; exact run_v (h4 w)) h5
  case field t x f =>
    obtain ⟨vx, hx, h1⟩ := bnd_some.1 h
    obtain ⟨h3, rfl⟩ := pureS_some h1
    obtain ⟨v', h4, h5⟩ := opField_run h3 (ev_VR hx hf)
    exact OpOk.pure hS (by unfold execOp; rw [ho]; exact run_v (h4 w)) h5
  case indexAddr t x i =>
    obtain ⟨vx, hx, h1⟩ := bnd_some.1 h
    obtain ⟨vi, hi, h2⟩ := bnd_some.1 h1
    obtain ⟨h3, rfl⟩ := pureS_some h2
    obtain ⟨v', h4, h5⟩ := opIdxAddr_run h3 (ev_VR hx hf) (ev_VR hi hf)
    exact OpOk.pure hS (by unfold execOp; rw [ho]; exact run_v (h4 w)) h5
  case index t x i =>
    obtain ⟨vx, hx, h1⟩ := bnd_some.1 h
    obtain ⟨vi, hi, h2⟩ := bnd_some.1 h1
    obtain ⟨h3, rfl⟩ := pureS_some h2
    obtain ⟨v', h4, h5⟩ := opIndex_run h3 (ev_VR hx hf) (ev_VR hi hf)
    exact OpOk.pure hS (by unfold execOp; rw [ho]; exact run_v (h4 w)) h5
  case lookup t x i ok =>
    obtain ⟨vx, hx, h1⟩ := bnd_some.1 h
    obtain ⟨vi, hi, h2⟩ := bnd_some.1 h1
    obtain ⟨h3, rfl⟩ := pureS_some h2
    obtain ⟨v', h4, h5⟩ := lookA_run h3 (ev_VR hx hf) (ev_VR hi hf) hS
    exact OpOk.pure hS (by unfold execOp; rw [ho]; exact run_v h4) h5
  case mapUpdate t m k x =>
    obtain ⟨vm, hm, h1⟩ := bnd_some.1 h
    obtain ⟨vk, hk, h2⟩ := bnd_some.1 h1
    obtain ⟨vx, hx, h3⟩ := bnd_some.1 h2
    obtain ⟨h4, rfl⟩ := undS_some h3
    exact OpOk.skip (mapSet_run h4 (ev_VR hm hf) (ev_VR hk hf) (ev_VR hx hf) hS) fun w' e1 => by unfold execOp; rw [ho]; exact run_u e1
  case insert t m k x =>
    obtain ⟨vm, hm, h1⟩ := bnd_some.1 h
    obtain ⟨vk, hk, h2⟩ := bnd_some.1 h1
    obtain ⟨vx, hx, h3⟩ := bnd_some.1 h2
    obtain ⟨h4, rfl⟩ := undS_some h3
    exact OpOk.skip (mapSet_run h4 (ev_VR hm hf) (ev_VR hk hf) (ev_VR hx hf) hS) fun w' e1 => by unfold execOp; rw [ho]; exact run_u e1
  case extract x i =>
    obtain ⟨vx, hx, h1⟩ := bnd_some.1 h
    obtain ⟨h3, rfl⟩ := pureS_some h1
    obtain ⟨v', h4, h5⟩ := opExtract_run (P := P) h3 (ev_VR hx hf)
    exact OpOk.pure hS (by unfold execOp; rw [ho]; exact run_v (h4 w)) h5
  case call c =>
    cases hc : c.callee with
    | builtin b =>
      rw [hc] at h
      obtain ⟨vs, hvs, h1⟩ := bnd_some.1 (show bnd (evs P φ c.args.toList) (fun vs => opBuiltin b P s c.argTypes.toList vs) = some (v, s') from h)
      exact opBuiltin_ok ho hc hvs h1 hS hf hfr
    | invoke r m => rw [hc] at h; cases h
    | value x =>
      rw [hc] at h
      obtain ⟨f, args, h1, h2⟩ := bnd2_some.1 (show bnd2 (callA P φ x c) (fun f args => ex f args s) = some (v, s') from h)
      obtain ⟨u, hu, h3⟩ := bnd_some.1 h1
      obtain ⟨f', p, hfn, h4⟩ := bnd2_some.1 h3
      obtain ⟨as, has, h5⟩ := bnd_some.1 h4
      obtain ⟨r1, hr1, h6⟩ := bnd_some.1 h5
      obtain ⟨r2, hr2, h7⟩ := bnd_some.1 h6
      cases h7
      rw [sApp_eq] at hr1 hr2
      cases hr1; cases hr2
      have hv := ev_VR hu hf
      have hfun : ∃ (F C : Array Value), a.eval x = .func (.func f) F C ∧ LR M p.1 F.toList ∧ LR M p.2 C.toList := by
        generalize a.eval x = xv at hv
        cases hv <;> simp only [asFn] at hfn <;> (try cases hfn)
        rename_i fn _ _ _ _ g1 g2 g3 g4
        cases fn <;> simp only at hfn <;> (try cases hfn)
        exact ⟨_, _, rfl, ⟨g1, g2⟩, ⟨g3, g4⟩⟩
      obtain ⟨F, C, e1, l1, l2⟩ := hfun
      have hl : LR M (p.1 ++ (as ++ p.2)) (F ++ c.args.map a.eval ++ C).toList := by
        rw [Array.toList_append, Array.toList_append, List.append_assoc]
        exact l1.app ((evs_arr has hf).app l2)
      obtain ⟨_, ⟨fn, body, g1, g2⟩, hcall⟩ := hex f _ s v s' h2
      have hcall := hcall M _ w hl hS hfr hf.glob
      have hn : (fn.name == "runtime.NumGoroutine") = false := by
        have := hng f fn g1
        rw [g2] at this
        simpa using this
      have hrun : (execOp a.eval o).run P w = .ok (.enter f (F ++ c.args.map a.eval ++ C)) w := by
        unfold execOp
        rw [ho]
        simp only [resolve, hc, e1, Deferred.ofValue, Sem.run_bind, Sem.run_pure, Result.andThen_ok, invoke, callFunc, program, Sem.run, g1, hn, Bool.false_eq_true, if_false, g2, Option.isNone_some]
      exact .inr ⟨f, _, hrun, hcall⟩
theorem opF_le {ex : CaF} : True := trivial
end
end Go.Proofs.YtimfmipjhgonhaaGreat.ev
