/- spoorref10: class. -/
import Derived.Test.YtooockbfagkknaaGreatDoorRab
import Derived.Deep.RegionLaw
namespace Go.Proofs.YtooockbfagkknaaGreatDoor.syn
open Go.RowKit Go.Proofs.YtooockbfagkknaaGreatDoor.sl Go.Proofs.YtooockbfagkknaaGreatDoor.cls
variable {c : Cx} {w : World} {s : Ps}
section
variable {G : List Gt}
theorem rEsc_i (f : Nat) : s.i ≤ (rEsc G s f).1.i ∧ (rEsc G s f).1.i ≤ s.i + 1 := by
  by_cases hn : G.length ≤ s.i
  · rw [rEsc_end hn]; simp
  · cases hb : badB G s.i
    · rw [rEsc_go hn hb]
      unfold rEsc1
      repeat' split
      all_goals simp
    · rw [rEsc_bad hn hb]; simp
theorem rItem_i : s.i + 1 ≤ (rItem G s).1.i ∧ (rItem G s).1.i ≤ s.i + 2 := by
  cases hb : badB G s.i
  · rw [rItem_go hb]
    split
    · have := rEsc_i (G := G) (s := s.next) s.i
      simp only [next_i] at this
      omega
    · split <;> simp
  · rw [rItem_bad hb]; simp
theorem rEsc_len (f : Nat) : (rEsc G s f).2.length ≤ 8 := by
  by_cases hn : G.length ≤ s.i
  · rw [rEsc_end hn]; simp
  · cases hb : badB G s.i
    · rw [rEsc_go hn hb]
      unfold rEsc1
      repeat' split
      all_goals first | exact Nat.le_trans (makeF_len _) (by simp) | simp
    · rw [rEsc_bad hn hb]; simp
theorem rItem_len : (rItem G s).2.length ≤ 8 := by
  cases hb : badB G s.i
  · rw [rItem_go hb]
    split
    · exact rEsc_len _
    · split <;> simp
  · rw [rItem_bad hb]; simp
theorem rMore_i (frm : Nat) (a l : List Rg) : s.i ≤ (rMore G s frm a l).1.i ∧ (rMore G s frm a l).1.i ≤ s.i + 3 := by
  unfold rMore
  split
  · simp
  · simp only
    have := rItem_i (G := G) (s := s.next)
    simp only [next_i] at this
    repeat' split
    all_goals (try simp)
    all_goals omega
theorem rClsGo_stop {n : Nat} {l : List Rg} {any : Bool} (h : ¬ (s.err = 0 ∧ s.i < G.length ∧ isR G s 93 = false)) : rClsGo G n s l any = (s, l, any) := by
  cases n with
  | zero => rfl
  | succ n => rw [rClsGo, if_neg h]
theorem rClsGo_go {n : Nat} {l : List Rg} {any : Bool} (h : s.err = 0 ∧ s.i < G.length ∧ isR G s 93 = false) : rClsGo G (n + 1) s l any = if (rMore G (rItem G s).1 s.i (rItem G s).2 l).2.2 = true then ((rMore G (rItem G s).1 s.i (rItem G s).2 l).1, (rMore G (rItem G s).1 s.i (rItem G s).2 l).2.1, true) else rClsGo G n (rMore G (rItem G s).1 s.i (rItem G s).2 l).1 (rMore G (rItem G s).1 s.i (rItem G s).2 l).2.1 true := by
  rw [rClsGo, if_pos h]
theorem more_plain {frm : Nat} {a l : List Rg} (h : s.err ≠ 0 ∨ isR G s 45 = false) : rMore G s frm a l = (s, l ++ a, false) := by
  unfold rMore
  rw [if_pos h]
theorem more_end {frm : Nat} {a l : List Rg} (h : ¬ (s.err ≠ 0 ∨ isR G s 45 = false)) (h2 : G.length ≤ s.next.i ∨ isR G s.next 93 = true ∨ isR G s.next 91 = true ∨ isR G s.next 45 = true) : rMore G s frm a l = (s.next.wrong G frm 4, l, true) := by
  unfold rMore
  rw [if_neg h]
  simp only
  rw [if_pos h2]
/-- Behind the second item. -/
def more2 (G : List Gt) (frm : Nat) (a l : List Rg) (b : Ps × List Rg) : Ps × List Rg × Bool :=
  if b.1.err = 0 ∧ (rSingle a = false ∨ rSingle b.2 = false ∨ lo0 b.2 < lo0 a) then (b.1.wrong G frm 4, l, true)
  else if b.1.err = 0 then (b.1, l ++ [(lo0 a, lo0 b.2)], false)
  else (b.1, l, false)
theorem more_two {frm : Nat} {a l : List Rg} (h : ¬ (s.err ≠ 0 ∨ isR G s 45 = false)) (h2 : ¬ (G.length ≤ s.next.i ∨ isR G s.next 93 = true ∨ isR G s.next 91 = true ∨ isR G s.next 45 = true)) : rMore G s frm a l = more2 G frm a l (rItem G s.next) := by
  unfold rMore more2
  rw [if_neg h]
  simp only
  rw [if_neg h2]
end
theorem single_cell {w : World} {a : Option Addr} {l : List Rg} {cap : Nat} (h : Rd er w a l cap) (hs : rSingle l = true) : ∃ b off, a = some ⟨b, off, none⟩ ∧ l.length = 1 ∧ w.cell? ⟨b, off, none⟩ = some (.int .i32 (lo0 l)) := by
  unfold rSingle at hs
  simp only [Bool.and_eq_true, decide_eq_true_eq] at hs
  obtain ⟨x, rfl⟩ := List.length_eq_one_iff.1 hs.1
  obtain ⟨b, off, rfl, _, q0, _⟩ := Rd.pair h (i := 0) (x := x) rfl
  simp only [Nat.zero_mul, Nat.add_zero] at q0
  exact ⟨b, off, rfl, rfl, q0⟩
/-- What the loop of a class comes to. -/
def ClsR (c : Cx) (w : World) (C : Ps × List Rg × Bool) (v a : Value) (wx : World) : Prop :=
  ∃ (t : Ps) (ls : List Rg) (any : Bool), a = .bool any ∧ Qz c wx t ∧ Kp c.P w wx ∧ OwnR w.heap.size wx v ls ∧ (t, ls, any) = C ∧ ls.length ≤ 2000 ∧ t.i ≤ c.G.length
theorem step_app1 {α : Type} {enc : α → List Value} {k : Nat} {P : Program} {ops : Array Oper} {w : World} {o : Oper} {a : Act} {K : Act → World → Prop} {Q : Exit → Act → World → Prop} {C : Prop} {T E E' : TypeId} {bytes B : Nat} {s x : Operand} {v : Value} {cs : Array Value} {l : List α} {n : Nat}
    (ET : ElemTy P T E k bytes) (hgd : o.guard = none) (ho : o.op = .call { callee := .builtin .append, args := #[s, x], argTypes := #[T, T] })
    (hs : a.eval s = v) (hx : a.eval x = .slice (some ⟨n, 0, none⟩) 1 1) (hn : n = w.heap.size) (hown : Own enc k E B w v l) (y : α) (hy : cs.toList = enc y) (hk : ∀ x, (enc x).length = k) (h1 : ∀ x, ∀ u ∈ enc x, u.oneCell' = true)
    (hmax : l.length < 1000000000) (hby : bytes ≤ 65536) (hB : B ≤ w.heap.size)
    (h : ∀ v' w', Own enc k E B w' v' (l ++ [y]) → (w.alloc (.cells cs E')).grownBy w' v.ownBlock → K (a.put o.dst v') w') : if Region.wanted o (yielded ops a.tmps) = true then Oper.wp P o a (w.alloc (.cells cs E')) K Q else C := by
  have hw : Region.wanted o (yielded ops a.tmps) = true := by simp [Region.wanted, hgd]
  rw [if_pos hw]
  subst hn
  have hmul : (l.length + 1) * bytes ≤ 1000000000 * 65536 := Nat.mul_le_mul (by omega) hby
  have hrd := Rd.built (w := w) (E := E') (cs := cs) (enc := enc) [y] 1 rfl (by simp [hy, flat]) (by omega)
  obtain ⟨_, _, hc⟩ := hrd.at_ _ rfl (by omega)
  obtain ⟨v', w', hr, h2, h3, h4⟩ := run_app (P := P) (ty := o.type) (m := 1) (c := 1) (w.alloc (.cells cs E')) (flat enc [y]) ET (hown.alloc _) (by rw [flat_len hk]; rfl) hc (fun u hu => by
    obtain ⟨z, _, hz⟩ := List.mem_flatMap.1 hu
    exact h1 z u hz) (by unfold maxLen; omega) (by omega) (by simp; omega)
  unfold Oper.wp execOp
  simp only [ho, resolve, invoke, builtin, Sem.run_bind, Sem.run_pure, Result.andThen_ok, List.map_toArray, List.map_cons, List.map_nil, hs, hx, hr]
  refine h v' w' ?_ h3
  unfold Own
  rw [flat_append, List.length_append]
  exact h2
theorem more2_bad {G : List Gt} {f : Nat} {a l : List Rg} {b : Ps × List Rg} (h : b.1.err = 0 ∧ (rSingle a = false ∨ rSingle b.2 = false ∨ lo0 b.2 < lo0 a)) : more2 G f a l b = (b.1.wrong G f 4, l, true) := by rw [more2, if_pos h]
theorem more2_ok {G : List Gt} {f : Nat} {a l : List Rg} {b : Ps × List Rg} (he : b.1.err = 0) (h : ¬ (rSingle a = false ∨ rSingle b.2 = false ∨ lo0 b.2 < lo0 a)) : more2 G f a l b = (b.1, l ++ [(lo0 a, lo0 b.2)], false) := by rw [more2, if_neg (fun x => h x.2), if_pos he]
theorem more2_err {G : List Gt} {f : Nat} {a l : List Rg} {b : Ps × List Rg} (h : b.1.err ≠ 0) : more2 G f a l b = (b.1, l, false) := by rw [more2, if_neg (fun x => h x.1), if_neg h]
theorem rMore_len (G : List Gt) (s : Ps) (f : Nat) (a l : List Rg) (h : a.length ≤ 8) : (rMore G s f a l).2.1.length ≤ l.length + 8 := by
  unfold rMore
  simp only
  repeat' split
  all_goals (simp; try omega)
set_option maxHeartbeats 8000000 in
set_option maxRecDepth 100000 in
theorem classRC (hG : Pos c.G) (h : Qz c w s) (hi : s.i ≤ c.G.length) (f : Nat) (he : s.err = 0) : Calls Tryz.prog 87 #[.pointer (some ⟨c.P, 0, none⟩), .int .i64 (place c.G f)] w (QlPost c w (rCls c.G s f)) := by
  have hln := h.len
  have hPw := h.lt
  have hHw := h.hH
  have P := Lib.hid h
  have H0 := Lib.hid he
  clear h he
  suffices key : ∀ r pf, rCls c.G s f = r → place c.G f = pf → Calls Tryz.prog 87 #[.pointer (some ⟨c.P, 0, none⟩), .int .i64 pf] w (QlPost c w r) from key _ _ rfl rfl
  intro r pf hr hpf
  have HQ := Lib.hid hr
  have HPF := Lib.hid hpf
  clear hr hpf
  have I94 := Lib.hid (isRC P.out 94 (by decide) (by decide))
  have SI := Lib.hid ((Inn.refl hi).skip 94)
  have hs3 : (skipS c.G s 94).err = 0 := by unfold skipS; split <;> exact H0.out
  have SK : Hid ((isR c.G s 94 = false → skipS c.G s 94 = s) ∧ (isR c.G s 94 = true → skipS c.G s 94 = s.next)) := Lib.hid (by
    unfold skipS
    exact ⟨fun e => by rw [e]; rfl, fun e => by rw [e]; rfl⟩)
  go_enter Tryz.func87, Tryz.ntmps87
  go_wp2_with fail
  refine I94.out.mono ?_
  rintro e w1 ⟨rfl, n1, rfl⟩
  have P1 := Lib.hid (P.out.drewN n1)
  have K1 := Lib.hid (Kp.below (P := c.P) (drewN_below (Below.refl w.heap.size w) n1))
  clear P I94 H0
  generalize w.drewN n1 = w1 at P1 K1 ⊢
  have hcls : rCls c.G s f = ((if (rClsGo c.G (c.G.length + 2 - (skipS c.G s 94).i) (skipS c.G s 94) [] false).1.err = 0 ∧ ((rClsGo c.G (c.G.length + 2 - (skipS c.G s 94).i) (skipS c.G s 94) [] false).2.2 = false ∨ isR c.G (rClsGo c.G (c.G.length + 2 - (skipS c.G s 94).i) (skipS c.G s 94) [] false).1 93 = false) then (rClsGo c.G (c.G.length + 2 - (skipS c.G s 94).i) (skipS c.G s 94) [] false).1.wrong c.G f 4 else (rClsGo c.G (c.G.length + 2 - (skipS c.G s 94).i) (skipS c.G s 94) [] false).1).next, if isR c.G s 94 = true then notF (rClsGo c.G (c.G.length + 2 - (skipS c.G s 94).i) (skipS c.G s 94) [] false).2.1 else makeF (rClsGo c.G (c.G.length + 2 - (skipS c.G s 94).i) (skipS c.G s 94) [] false).2.1) := rfl
  rw [hcls] at HQ
  clear hcls
  generalize skipS c.G s 94 = t0 at hs3 SK HQ SI
  generalize hC : rClsGo c.G (c.G.length + 2 - t0.i) t0 [] false = C at HQ
  have HC := Lib.hid hC
  have H3 := Lib.hid hs3
  clear hC hs3
  go_upto_if 13 with fail
  go_cut [5] (fun nv wx => nv = .bool (isR c.G s 94) ∧ Qz c wx t0 ∧ Kp c.P w wx)
  case first =>
    cases h94 : isR c.G s 94
    · have E0 := Lib.hid (SK.out.1 h94)
      have H94 := Lib.hid h94
      clear h94
      go_wp2_with fail
      go_meet
      exact ⟨by rw [H94.out], by rw [E0.out]; exact P1.out, K1.out⟩
    · have E0 := Lib.hid (SK.out.2 h94)
      have c2 := P1.out.c2
      have f2 := P1.out.fz 2
      have hlt := isR_lt h94
      have H94 := Lib.hid h94
      clear h94
      go_wp2_with fail
      go_meet
      exact ⟨by rw [H94.out], by rw [E0.out]; exact P1.out.step (by omega), K1.out.trans (Kp.set c.P 2 w1 (.int .i64 ((s.i : Int) + 1)))⟩
  case rest =>
    obtain ⟨rfl, p, k⟩ := hcut
    have P := Lib.hid p
    have K := Lib.hid k
    clear p k P1 K1 SK
    generalize isR c.G s 94 = neg at HQ ⊢
    generalize wc = w2 at P K ⊢
    go_upto_block 0 with fail
    go_cut [6, 7] (fun lv av wx => ClsR c w C lv av wx)
    case first =>
      have hti0 := SI.out.top
      go_wp2_with fail
      go_loopg [6, 7] (c.G.length + 2 - t0.i) (fun g lv av wr => ∃ (g0 : Nat) (t : Ps) (ls : List Rg) (any : Bool), g0 = g ∧ av = .bool any ∧ Qz c wr t ∧ Kp c.P w wr ∧ OwnR w.heap.size wr lv ls ∧ rClsGo c.G g t ls any = C ∧ t.i ≤ c.G.length ∧ c.G.length + 2 ≤ g + t.i ∧ ls.length ≤ 8 * t.i)
      case atStart => exact ⟨_, t0, [], false, rfl, rfl, P.out, K.out, Own.nil _ _ _ _ _, HC.out, hti0, by omega, by simp⟩
      case round =>
        clear P K HC SI hti0 H3
        obtain ⟨g, t, ls, any, rfl, rfl, p, k, o, hgo, hti, hn, hll⟩ := hrel
        obtain ⟨ap, cp, rfl, -, -⟩ := o.rd
        have P := Lib.hid p
        have K := Lib.hid k
        have O := Lib.hid o
        have GO := Lib.hid hgo
        have c0 := p.c0
        have c2 := p.c2
        have c4 := p.c4
        clear p k o hgo
        obtain ⟨n, rfl⟩ : ∃ n, g = n + 1 := ⟨g - 1, by omega⟩
        by_cases he : t.err = 0
        · rw [he] at c4
          have HE := Lib.hid he
          clear he
          by_cases hi : t.i < c.G.length
          · have i1 : (t.i : Int) < (c.G.length : Int) := by omega
            have IA : Hid (∀ n, Calls Tryz.prog 35 #[.pointer (some ⟨c.P, 0, none⟩), .int .i32 93] (wr.drewN n) fun e w' => e = .returned (.bool (isR c.G t 93)) ∧ ∃ m, w' = (wr.drewN n).drewN m) := Lib.hid fun n => isRC (P.out.drewN n) 93 (by decide) (by decide)
            cases h93 : isR c.G t 93
            · rw [h93] at IA
              have HC3 : Hid (t.err = 0 ∧ t.i < c.G.length ∧ isR c.G t 93 = false) := Lib.hid ⟨HE.out, hi, h93⟩
              clear h93
              go_wp2_with fail
              go_quiet ((go_at_call_of 35 (93 : Int); exact Calls.quiet_of (IA.out _)))
              have P_ := Lib.hid (P.out.drewN nq)
              have K_ := Lib.hid (K.out.trans (Kp.below (drewN_below (Below.refl wr.heap.size wr) nq)))
              have O_ := Lib.hid (O.out.drewN nq)
              clear P K O c0 c2 c4 IA
              generalize wr.drewN nq = w4 at P_ K_ O_ ⊢
              have P := P_
              have K := K_
              have O := O_
              clear P_ K_ O_
              have e1 := GO.out
              rw [rClsGo_go HC3.out] at e1
              have E := Lib.hid e1
              have RI := Lib.hid (rItem_inn (G := c.G) (s := t) hi)
              clear e1 GO HC3 HE
              go_wp2_with fail
              refine (itemRC hG P.out hi).mono ?_
              rintro e w5 ⟨va, rfl, p5, k5, o5⟩
              have FC : Hid (∀ (w' : World) (u : Ps), Qz c w' u → Calls Tryz.prog 20 #[.pointer (some ⟨c.P, 0, none⟩), .int .i64 4, .int .i64 (place c.G t.i)] w' fun e w' => e = .returned (.tuple #[]) ∧ Qz c w' (u.wrong c.G t.i 4) ∧ Kp c.P _ w') := Lib.hid fun w' u p => failRC p t.i 4
              generalize rItem c.G t = q at p5 o5 E RI
              obtain ⟨t5, la⟩ := q
              simp only at p5 o5 E RI
              have ri := RI.out
              have hla : la.length ≤ 8 := ri.2
              have hi5 : t.i + 1 ≤ t5.i := by have := ri.1.le; simpa using this
              have ht5 : t5.i ≤ c.G.length := ri.1.top
              have P_ := Lib.hid p5
              have K_ := Lib.hid (K.out.trans k5)
              have O_ := Lib.hid (Own.kp O.out k5 hPw)
              have A_ := Lib.hid (o5.mono (Nat.le_trans (Nat.le_refl _) K.out.size))
              clear P K O p5 k5 o5 ri RI
              have P := P_
              have K := K_
              have O := O_
              have A := A_
              clear P_ K_ O_ A_
              obtain ⟨aa, ac, rfl, hrd, -⟩ := A.out.rd
              have RA := Lib.hid hrd
              clear hrd
              generalize place c.G t.i = pl at FC ⊢
              have c4 := P.out.c4
              by_cases he5 : t5.err = 0
              · rw [he5] at c4
                have HE5 := Lib.hid he5
                clear he5
                have IA := Lib.hid (isRC P.out 45 (by decide) (by decide))
                cases h45 : isR c.G t5 45
                · rw [h45] at IA
                  have H45 := Lib.hid h45
                  clear h45
                  have MO := more_plain (G := c.G) (s := t5) (frm := t.i) (a := la) (l := ls) (.inr H45.out)
                  have e1 := E.out
                  rw [MO] at e1
                  simp only at e1
                  have E1 := Lib.hid e1
                  clear e1 E MO
                  go_wp2_with fail
                  refine IA.out.mono ?_
                  rintro e w5' ⟨rfl, n5, rfl⟩
                  have P_ := Lib.hid (P.out.drewN n5)
                  have K_ := Lib.hid (K.out.trans (Kp.below (drewN_below (Below.refl w5.heap.size w5) n5)))
                  have O_ := Lib.hid (O.out.drewN n5)
                  have RA_ := Lib.hid (RA.out.drewN' n5)
                  clear P K O RA c4 IA A
                  generalize w5.drewN n5 = w5b at P_ K_ O_ RA_ ⊢
                  have P := P_
                  have K := K_
                  have O := O_
                  have RA := RA_
                  clear P_ K_ O_ RA_

                  have hs5 := K.out.size
                  have hmx : ls.length + la.length ≤ 1000000000 := by omega
                  go_wp2_with (at_builtin; go_must (refine wpList_app elem_rg rfl rfl rfl rfl O.out RA.out rfl er_len er_one hmx (by omega) hs5 ?_; intro v6 w6 o6 g6))
                  have b6 := Below.grow (Below.refl w.heap.size w5b) O.out g6 (Nat.le_refl _) hs5
                  have P6 := Lib.hid (P.out.keepB b6 hHw)
                  have K6 := Lib.hid (K.out.thenB b6 (Nat.le_refl _))
                  have O6 := Lib.hid o6
                  clear P K O b6 g6 o6
                  have P := P6
                  have K := K6
                  have O := O6
                  go_roundg n
                  case measure => omega
                  case rel => exact ⟨_, t5, ls ++ la, true, rfl, rfl, P.out, K.out, O.out, E1.out, by omega, by omega, by rw [List.length_append]; omega⟩
                · rw [h45] at IA
                  have hlt5 := isR_lt h45
                  have NP : Hid (¬ (t5.err ≠ 0 ∨ isR c.G t5 45 = false)) := Lib.hid (by rw [h45]; simp [HE5.out])
                  clear h45
                  go_wp2_with fail
                  refine IA.out.mono ?_
                  rintro e w5' ⟨rfl, n5, rfl⟩
                  have P_ := Lib.hid (P.out.drewN n5)
                  have K_ := Lib.hid (K.out.trans (Kp.below (drewN_below (Below.refl w5.heap.size w5) n5)))
                  have O_ := Lib.hid (O.out.drewN n5)
                  have A_ := Lib.hid (A.out.drewN n5)
                  have RA_ := Lib.hid (RA.out.drewN' n5)
                  clear P K O A RA c4 IA
                  generalize w5.drewN n5 = w6 at P_ K_ O_ A_ RA_ ⊢
                  have P := P_
                  have K := K_
                  have O := O_
                  have A := A_
                  have RA := RA_
                  clear P_ K_ O_ A_ RA_
                  have c2 := P.out.c2
                  have f2 := P.out.fz 2
                  have P_ := Lib.hid (P.out.step (by omega))
                  have k6 := Kp.set c.P 2 w6 (.int .i64 ((t5.i : Int) + 1))
                  have K_ := Lib.hid (K.out.trans k6)
                  have O_ := Lib.hid (Own.kp O.out k6 hPw)
                  have A_ := Lib.hid (Own.kp A.out k6 hPw)
                  go_upto_region 13 with fail
                  clear P K O A RA c2 f2 k6
                  generalize w6.setCell ⟨c.P, 2, none⟩ (.int .i64 ((t5.i : Int) + 1)) = w7 at P_ K_ O_ A_ ⊢
                  have P := P_
                  have K := K_
                  have O := O_
                  have A := A_
                  clear P_ K_ O_ A_
                  have hu5 : t5.next.i ≤ t5.i + 1 ∧ t5.i + 1 ≤ t5.next.i := ⟨Nat.le_refl _, Nat.le_refl _⟩
                  have hue : t5.next.err = 0 := HE5.out
                  have HUE := Lib.hid hue
                  have ME := Lib.hid (more_end (G := c.G) (s := t5) (frm := t.i) (a := la) (l := ls) NP.out)
                  have MT := Lib.hid (more_two (G := c.G) (s := t5) (frm := t.i) (a := la) (l := ls) NP.out)
                  clear hue NP HE5
                  generalize t5.next = u at hu5 HUE ME MT P
                  obtain ⟨hu5a, hu5b⟩ := hu5
                  have c0 := P.out.c0
                  have c2 := P.out.c2
                  by_cases hlu : c.G.length ≤ u.i
                  · have i2 : (c.G.length : Int) ≤ (u.i : Int) := by omega
                    have MO := ME.out (.inl hlu)
                    have e1 := E.out
                    rw [MO] at e1
                    simp only [if_true] at e1
                    have E1 := Lib.hid e1
                    have htop : u.i ≤ c.G.length := by omega
                    clear e1 E MO ME MT
                    go_wp2_with fail
                    go_quiet (fail)
                    have P_ := Lib.hid (P.out.drewN nq)
                    have K_ := Lib.hid (K.out.trans (Kp.below (drewN_below (Below.refl w7.heap.size w7) nq)))
                    have O_ := Lib.hid (O.out.drewN nq)
                    clear P K O c0 c2 A
                    generalize w7.drewN nq = w9 at P_ K_ O_ ⊢
                    have P := P_
                    have K := K_
                    have O := O_
                    clear P_ K_ O_
                    go_wp2_with fail
                    refine (FC.out _ _ P.out).mono ?_
                    rintro e w8 ⟨rfl, p8, k8⟩
                    go_wp2_with fail
                    go_meet
                    exact ⟨_, _, true, rfl, p8, K.out.trans k8, Own.kp O.out k8 hPw, E1.out, by omega, by simpa using htop⟩
                  · have hui : u.i < c.G.length := by omega
                    have i2 : (u.i : Int) < (c.G.length : Int) := by omega
                    have IB : Hid (∀ n, Calls Tryz.prog 35 #[.pointer (some ⟨c.P, 0, none⟩), .int .i32 93] (w7.drewN n) fun e w' => e = .returned (.bool (isR c.G u 93)) ∧ ∃ m, w' = (w7.drewN n).drewN m) := Lib.hid fun n => isRC (P.out.drewN n) 93 (by decide) (by decide)
                    cases h93 : isR c.G u 93
                    · rw [h93] at IB
                      have N93 := Lib.hid h93
                      clear h93
                      have IC : Hid (∀ n, Calls Tryz.prog 35 #[.pointer (some ⟨c.P, 0, none⟩), .int .i32 91] (w7.drewN n) fun e w' => e = .returned (.bool (isR c.G u 91)) ∧ ∃ m, w' = (w7.drewN n).drewN m) := Lib.hid fun n => isRC (P.out.drewN n) 91 (by decide) (by decide)
                      cases h91 : isR c.G u 91
                      · rw [h91] at IC
                        have N91 := Lib.hid h91
                        clear h91
                        have ID : Hid (∀ n, Calls Tryz.prog 35 #[.pointer (some ⟨c.P, 0, none⟩), .int .i32 45] (w7.drewN n) fun e w' => e = .returned (.bool (isR c.G u 45)) ∧ ∃ m, w' = (w7.drewN n).drewN m) := Lib.hid fun n => isRC (P.out.drewN n) 45 (by decide) (by decide)
                        cases h45 : isR c.G u 45
                        · rw [h45] at ID
                          have NE : Hid (¬ (c.G.length ≤ u.i ∨ isR c.G u 93 = true ∨ isR c.G u 91 = true ∨ isR c.G u 45 = true)) := Lib.hid (by rw [N93.out, N91.out, h45]; simp; omega)
                          clear h45 N93 N91
                          go_wp2_with fail
                          go_quiet (first | (go_at_call_of 35 (93 : Int); exact Calls.quiet_of (IB.out _)) | (go_at_call_of 35 (91 : Int); exact Calls.quiet_of (IC.out _)) | (go_at_call_of 35 (45 : Int); exact Calls.quiet_of (ID.out _)))
                          have P_ := Lib.hid (P.out.drewN nq)
                          have K_ := Lib.hid (K.out.trans (Kp.below (drewN_below (Below.refl w7.heap.size w7) nq)))
                          have O_ := Lib.hid (O.out.drewN nq)
                          have A_ := Lib.hid (A.out.drewN nq)
                          clear P K O A c0 c2 IB IC ID
                          generalize w7.drewN nq = w9 at P_ K_ O_ A_ ⊢
                          have P := P_
                          have K := K_
                          have O := O_
                          have A := A_
                          clear P_ K_ O_ A_
                          have e1 := E.out
                          rw [MT.out NE.out] at e1
                          have E2 := Lib.hid e1
                          have RI := Lib.hid (rItem_inn (G := c.G) (s := u) hui)
                          clear e1 E ME MT NE
                          go_wp2_with fail
                          refine (itemRC hG P.out hui).mono ?_
                          rintro e w10 ⟨vb, rfl, p5, k5, o5⟩
                          generalize rItem c.G u = q at p5 o5 E2 RI
                          obtain ⟨t6, lb⟩ := q
                          simp only at p5 o5 E2 RI
                          have ri := RI.out
                          have hlb : lb.length ≤ 8 := ri.2
                          have hi6 : u.i + 1 ≤ t6.i := by have := ri.1.le; simpa using this
                          have htop : t6.i ≤ c.G.length := ri.1.top
                          have P_ := Lib.hid p5
                          have K_ := Lib.hid (K.out.trans k5)
                          have O_ := Lib.hid (Own.kp O.out k5 hPw)
                          have A_ := Lib.hid (Own.kp A.out k5 hPw)
                          have B_ := Lib.hid (o5.mono K.out.size)
                          clear P K O A p5 k5 o5 ri RI
                          have P := P_
                          have K := K_
                          have O := O_
                          have A := A_
                          have B := B_
                          clear P_ K_ O_ A_ B_
                          obtain ⟨aa', ac', ev, hrd, -⟩ := A.out.rd
                          simp only [Value.slice.injEq] at ev
                          obtain ⟨rfl, -, rfl⟩ := ev
                          have RA := Lib.hid hrd
                          obtain ⟨ba, bc, rfl, hrd2, -⟩ := B.out.rd
                          have RB := Lib.hid hrd2
                          clear hrd hrd2
                          have c4 := P.out.c4
                          by_cases he6 : t6.err = 0
                          · rw [he6] at c4
                            have HE6 := Lib.hid he6
                            clear he6
                            have SA : Hid (∀ n, Calls Tryz.prog 44 #[.slice aa la.length ac] (w10.drewN n) fun e w' => e = .returned (.bool (rSingle la)) ∧ ∃ m, w' = (w10.drewN n).drewN m) := Lib.hid fun n => singleRC aa la ac _ (RA.out.drewN' n)
                            have SB : Hid (∀ n, Calls Tryz.prog 44 #[.slice ba lb.length bc] (w10.drewN n) fun e w' => e = .returned (.bool (rSingle lb)) ∧ ∃ m, w' = (w10.drewN n).drewN m) := Lib.hid fun n => singleRC ba lb bc _ (RB.out.drewN' n)
                            cases hsa : rSingle la
                            · rw [hsa] at SA
                              have HSA := Lib.hid hsa
                              clear hsa SB
                              have e1 := E2.out
                              rw [more2_bad (show t6.err = 0 ∧ (rSingle la = false ∨ rSingle lb = false ∨ lo0 lb < lo0 la) from ⟨HE6.out, .inl HSA.out⟩)] at e1
                              simp only [if_true] at e1
                              have E1 := Lib.hid e1
                              clear e1 E2
                              go_wp2_with fail
                              go_quiet (exact Calls.quiet_of (SA.out _))
                              have P_ := Lib.hid (P.out.drewN nq)
                              have K_ := Lib.hid (K.out.trans (Kp.below (drewN_below (Below.refl w10.heap.size w10) nq)))
                              have O_ := Lib.hid (O.out.drewN nq)
                              clear P K O c4 A B RA RB SA
                              generalize w10.drewN nq = w11 at P_ K_ O_ ⊢
                              have P := P_
                              have K := K_
                              have O := O_
                              clear P_ K_ O_
                              go_wp2_with fail
                              refine (FC.out _ _ P.out).mono ?_
                              rintro e w8 ⟨rfl, p8, k8⟩
                              go_wp2_with fail
                              go_meet
                              exact ⟨_, _, true, rfl, p8, K.out.trans k8, Own.kp O.out k8 hPw, E1.out, by omega, by simpa using htop⟩
                            · rw [hsa] at SA
                              have HSA := Lib.hid hsa
                              clear hsa
                              cases hsb : rSingle lb
                              · rw [hsb] at SB
                                have HSB := Lib.hid hsb
                                clear hsb
                                have e1 := E2.out
                                rw [more2_bad (show t6.err = 0 ∧ (rSingle la = false ∨ rSingle lb = false ∨ lo0 lb < lo0 la) from ⟨HE6.out, .inr (.inl HSB.out)⟩)] at e1
                                simp only [if_true] at e1
                                have E1 := Lib.hid e1
                                clear e1 E2
                                go_wp2_with fail
                                go_quiet (first | (go_at_call_has 44 (aa); exact Calls.quiet_of (SA.out _)) | (go_at_call_has 44 (ba); exact Calls.quiet_of (SB.out _)))
                                have P_ := Lib.hid (P.out.drewN nq)
                                have K_ := Lib.hid (K.out.trans (Kp.below (drewN_below (Below.refl w10.heap.size w10) nq)))
                                have O_ := Lib.hid (O.out.drewN nq)
                                clear P K O c4 A B RA RB SA SB
                                generalize w10.drewN nq = w11 at P_ K_ O_ ⊢
                                have P := P_
                                have K := K_
                                have O := O_
                                clear P_ K_ O_
                                go_wp2_with fail
                                refine (FC.out _ _ P.out).mono ?_
                                rintro e w8 ⟨rfl, p8, k8⟩
                                go_wp2_with fail
                                go_meet
                                exact ⟨_, _, true, rfl, p8, K.out.trans k8, Own.kp O.out k8 hPw, E1.out, by omega, by simpa using htop⟩
                              · rw [hsb] at SB
                                have HSB := Lib.hid hsb
                                clear hsb
                                obtain ⟨g1, o1, rfl, hl1, q1⟩ := single_cell RA.out HSA.out
                                obtain ⟨g2, o2, rfl, hl2, q2⟩ := single_cell RB.out HSB.out
                                have hl1' : 0 < la.length := by omega
                                have hl2' : 0 < lb.length := by omega
                                clear hl1 hl2
                                by_cases hlo : lo0 lb < lo0 la
                                · have HLO := Lib.hid hlo
                                  have e1 := E2.out
                                  rw [more2_bad (show t6.err = 0 ∧ (rSingle la = false ∨ rSingle lb = false ∨ lo0 lb < lo0 la) from ⟨HE6.out, .inr (.inr HLO.out)⟩)] at e1
                                  simp only [if_true] at e1
                                  have E1 := Lib.hid e1
                                  clear e1 E2 HLO
                                  generalize lo0 la = xa at q1 hlo
                                  generalize lo0 lb = xb at q2 hlo
                                  go_wp2_with fail
                                  go_quiet (first | (go_at_call_has 44 (g1); exact Calls.quiet_of (SA.out _)) | (go_at_call_has 44 (g2); exact Calls.quiet_of (SB.out _)))
                                  have P_ := Lib.hid (P.out.drewN nq)
                                  have K_ := Lib.hid (K.out.trans (Kp.below (drewN_below (Below.refl w10.heap.size w10) nq)))
                                  have O_ := Lib.hid (O.out.drewN nq)
                                  clear P K O c4 A B RA RB q1 q2 SA SB
                                  generalize w10.drewN nq = w11 at P_ K_ O_ ⊢
                                  have P := P_
                                  have K := K_
                                  have O := O_
                                  clear P_ K_ O_
                                  go_wp2_with fail
                                  refine (FC.out _ _ P.out).mono ?_
                                  rintro e w8 ⟨rfl, p8, k8⟩
                                  go_wp2_with fail
                                  go_meet
                                  exact ⟨_, _, true, rfl, p8, K.out.trans k8, Own.kp O.out k8 hPw, E1.out, by omega, by simpa using htop⟩
                                · have e1 := E2.out
                                  rw [more2_ok HE6.out (show ¬ (rSingle la = false ∨ rSingle lb = false ∨ lo0 lb < lo0 la) by rw [HSA.out, HSB.out]; simp; omega)] at e1
                                  simp only [Bool.false_eq_true, if_false] at e1
                                  have E1 := Lib.hid e1
                                  clear e1 E2
                                  generalize lo0 la = xa at q1 hlo E1
                                  generalize lo0 lb = xb at q2 hlo E1
                                  have hlo' : ¬ xa > xb := hlo
                                  go_wp2_with fail
                                  go_quiet (first | (go_at_call_has 44 (g1); exact Calls.quiet_of (SA.out _)) | (go_at_call_has 44 (g2); exact Calls.quiet_of (SB.out _)))
                                  have P_ := Lib.hid (P.out.drewN nq)
                                  have K_ := Lib.hid (K.out.trans (Kp.below (drewN_below (Below.refl w10.heap.size w10) nq)))
                                  have O_ := Lib.hid (O.out.drewN nq)
                                  have Q1_ := Lib.hid (show (w10.drewN nq).cell? ⟨g1, o1, none⟩ = some (.int .i32 xa) from q1)
                                  have Q2_ := Lib.hid (show (w10.drewN nq).cell? ⟨g2, o2, none⟩ = some (.int .i32 xb) from q2)
                                  clear P K O q1 q2 c4 A B RA RB SA SB
                                  generalize w10.drewN nq = w11 at P_ K_ O_ Q1_ Q2_ ⊢
                                  have P := P_
                                  have K := K_
                                  have O := O_
                                  have Q1 := Q1_
                                  have Q2 := Q2_
                                  clear P_ K_ O_ Q1_ Q2_
                                  have c4 := P.out.c4
                                  rw [HE6.out] at c4
                                  have q1 := Q1.out
                                  have q2 := Q2.out
                                  go_wp2_with fail
                                  have P_ : Hid (Qz c w11.drew t6) := Lib.hid (P.out.drewN 1)
                                  have K_ : Hid (Kp c.P w w11.drew) := Lib.hid (K.out.trans (Kp.below (drewN_below (Below.refl w11.heap.size w11) 1)))
                                  have O_ : Hid (OwnR w.heap.size w11.drew (.slice ap ls.length cp) ls) := Lib.hid (O.out.drewN 1)
                                  clear P K O c4 Q1 Q2
                                  have hs12 := K_.out.size
                                  have hl12 : ls.length < 1000000000 := by omega
                                  go_region_law (refine step_app1 (w := w11.drew) (E' := 58) (cs := #[.int .i32 xa, .int .i32 xb]) (v := .slice ap ls.length cp) elem_rg rfl rfl (by simp [Act.eval, Act.put]) (by simp [Act.eval, Act.put]) rfl O_.out (xa, xb) rfl er_len er_one hl12 (by omega) hs12 ?_; intro v6 w6' o6 g6; have O6 := Lib.hid o6; have B6 := Lib.hid (grow_below (Below.refl w.heap.size w11.drew) O_.out g6 (Nat.le_refl _) hs12); clear o6 g6)
                                  all_goals go_wp2_with fail
                                  all_goals clear q1 q2
                                  all_goals have P := Lib.hid (P_.out.keepB B6.out hHw)
                                  all_goals have K := Lib.hid (K_.out.thenB B6.out (Nat.le_refl _))
                                  all_goals have O := O6
                                  all_goals (
                                    clear P_ K_ O_ O6 B6
                                    go_roundg n
                                    case measure => omega
                                    case rel => exact ⟨_, t6, ls ++ [(xa, xb)], true, rfl, rfl, P.out, K.out, O.out, E1.out, by omega, by omega, by rw [List.length_append, List.length_singleton]; omega⟩)
                          · have he6' : (t6.err == 0) = false := by simpa using he6
                            have e1 := E2.out
                            rw [more2_err (show (t6, lb).1.err ≠ 0 from he6)] at e1
                            simp only [Bool.false_eq_true, if_false] at e1
                            have E1 := Lib.hid e1
                            clear e1 E2 he6
                            generalize hee : t6.err = ee at c4 he6'
                            have HEE := Lib.hid hee
                            clear hee
                            go_wp2_with fail
                            go_quiet (fail)
                            have P_ := Lib.hid (P.out.drewN nq)
                            have K_ := Lib.hid (K.out.trans (Kp.below (drewN_below (Below.refl w10.heap.size w10) nq)))
                            have O_ := Lib.hid (O.out.drewN nq)
                            clear P K O c4 A B RA RB
                            generalize w10.drewN nq = w11 at P_ K_ O_ ⊢
                            have P := P_
                            have K := K_
                            have O := O_
                            clear P_ K_ O_
                            have c4 := P.out.c4
                            rw [HEE.out] at c4
                            go_wp2_with fail
                            go_roundg n
                            case measure => omega
                            case rel => exact ⟨_, t6, ls, true, rfl, rfl, P.out, K.out, O.out, E1.out, by omega, by omega, by omega⟩
                        · rw [h45] at ID
                          have Y := Lib.hid h45
                          clear h45
                          have MO := ME.out (.inr (.inr (.inr Y.out)))
                          have e1 := E.out
                          rw [MO] at e1
                          simp only [if_true] at e1
                          have E1 := Lib.hid e1
                          have htop : u.i ≤ c.G.length := by omega
                          clear e1 E MO ME MT
                          go_wp2_with fail
                          go_quiet (first | (go_at_call_of 35 (93 : Int); exact Calls.quiet_of (IB.out _)) | (go_at_call_of 35 (91 : Int); exact Calls.quiet_of (IC.out _)) | (go_at_call_of 35 (45 : Int); exact Calls.quiet_of (ID.out _)))
                          have P_ := Lib.hid (P.out.drewN nq)
                          have K_ := Lib.hid (K.out.trans (Kp.below (drewN_below (Below.refl w7.heap.size w7) nq)))
                          have O_ := Lib.hid (O.out.drewN nq)
                          clear P K O c0 c2 A
                          generalize w7.drewN nq = w9 at P_ K_ O_ ⊢
                          have P := P_
                          have K := K_
                          have O := O_
                          clear P_ K_ O_
                          go_wp2_with fail
                          refine (FC.out _ _ P.out).mono ?_
                          rintro e w8 ⟨rfl, p8, k8⟩
                          go_wp2_with fail
                          go_meet
                          exact ⟨_, _, true, rfl, p8, K.out.trans k8, Own.kp O.out k8 hPw, E1.out, by omega, by simpa using htop⟩
                      · rw [h91] at IC
                        have Y := Lib.hid h91
                        clear h91
                        have MO := ME.out (.inr (.inr (.inl Y.out)))
                        have e1 := E.out
                        rw [MO] at e1
                        simp only [if_true] at e1
                        have E1 := Lib.hid e1
                        have htop : u.i ≤ c.G.length := by omega
                        clear e1 E MO ME MT
                        go_wp2_with fail
                        go_quiet (first | (go_at_call_of 35 (93 : Int); exact Calls.quiet_of (IB.out _)) | (go_at_call_of 35 (91 : Int); exact Calls.quiet_of (IC.out _)))
                        have P_ := Lib.hid (P.out.drewN nq)
                        have K_ := Lib.hid (K.out.trans (Kp.below (drewN_below (Below.refl w7.heap.size w7) nq)))
                        have O_ := Lib.hid (O.out.drewN nq)
                        clear P K O c0 c2 A
                        generalize w7.drewN nq = w9 at P_ K_ O_ ⊢
                        have P := P_
                        have K := K_
                        have O := O_
                        clear P_ K_ O_
                        go_wp2_with fail
                        refine (FC.out _ _ P.out).mono ?_
                        rintro e w8 ⟨rfl, p8, k8⟩
                        go_wp2_with fail
                        go_meet
                        exact ⟨_, _, true, rfl, p8, K.out.trans k8, Own.kp O.out k8 hPw, E1.out, by omega, by simpa using htop⟩
                    · rw [h93] at IB
                      have Y := Lib.hid h93
                      clear h93
                      have MO := ME.out (.inr (.inl Y.out))
                      have e1 := E.out
                      rw [MO] at e1
                      simp only [if_true] at e1
                      have E1 := Lib.hid e1
                      have htop : u.i ≤ c.G.length := by omega
                      clear e1 E MO ME MT
                      go_wp2_with fail
                      go_quiet (first | (go_at_call_of 35 (93 : Int); exact Calls.quiet_of (IB.out _)))
                      have P_ := Lib.hid (P.out.drewN nq)
                      have K_ := Lib.hid (K.out.trans (Kp.below (drewN_below (Below.refl w7.heap.size w7) nq)))
                      have O_ := Lib.hid (O.out.drewN nq)
                      clear P K O c0 c2 A
                      generalize w7.drewN nq = w9 at P_ K_ O_ ⊢
                      have P := P_
                      have K := K_
                      have O := O_
                      clear P_ K_ O_
                      go_wp2_with fail
                      refine (FC.out _ _ P.out).mono ?_
                      rintro e w8 ⟨rfl, p8, k8⟩
                      go_wp2_with fail
                      go_meet
                      exact ⟨_, _, true, rfl, p8, K.out.trans k8, Own.kp O.out k8 hPw, E1.out, by omega, by simpa using htop⟩
              · have he5' : (t5.err == 0) = false := by simpa using he5
                have he5'' : (t5.err != 0) = true := by simpa using he5
                have HE5 := Lib.hid he5
                clear he5
                have MO := more_plain (G := c.G) (s := t5) (frm := t.i) (a := la) (l := ls) (.inl HE5.out)
                have e1 := E.out
                rw [MO] at e1
                simp only at e1
                have E1 := Lib.hid e1
                clear e1 E MO
                generalize hee : t5.err = ee at c4 he5' he5''
                clear hee
                have hs5 := K.out.size
                have hmx : ls.length + la.length ≤ 1000000000 := by omega
                go_wp2_with (at_builtin; go_must (refine wpList_app elem_rg rfl rfl rfl rfl O.out RA.out rfl er_len er_one hmx (by omega) hs5 ?_; intro v6 w6 o6 g6))
                have b6 := Below.grow (Below.refl w.heap.size w5) O.out g6 (Nat.le_refl _) hs5
                have P6 := Lib.hid (P.out.keepB b6 hHw)
                have K6 := Lib.hid (K.out.thenB b6 (Nat.le_refl _))
                have O6 := Lib.hid o6
                clear P K O b6 g6 o6
                have P := P6
                have K := K6
                have O := O6
                go_roundg n
                case measure => omega
                case rel => exact ⟨_, t5, ls ++ la, true, rfl, rfl, P.out, K.out, O.out, E1.out, by omega, by omega, by rw [List.length_append]; omega⟩
            · rw [h93] at IA
              have H93 := Lib.hid h93
              clear h93
              have e1 := GO.out
              rw [rClsGo_stop (fun h => by rw [H93.out] at h; cases h.2.2)] at e1
              have E1 := Lib.hid e1
              clear e1 GO
              go_wp2_with fail
              go_quiet ((go_at_call_of 35 (93 : Int); exact Calls.quiet_of (IA.out _)))
              have P_ := Lib.hid (P.out.drewN nq)
              have K_ := Lib.hid (K.out.trans (Kp.below (drewN_below (Below.refl wr.heap.size wr) nq)))
              have O_ := Lib.hid (O.out.drewN nq)
              clear P K O c0 c2 c4
              generalize wr.drewN nq = w4 at P_ K_ O_ ⊢
              have P := P_
              have K := K_
              have O := O_
              clear P_ K_ O_
              go_wp2_with fail
              go_meet
              exact ⟨t, ls, any, rfl, P.out, K.out, O.out, E1.out, by omega, hti⟩
          · have i1 : ¬ (t.i : Int) < (c.G.length : Int) := by omega
            have e1 := GO.out
            rw [rClsGo_stop (fun h => hi h.2.1)] at e1
            have E1 := Lib.hid e1
            clear e1 GO
            go_wp2_with fail
            go_quiet (fail)
            have P_ := Lib.hid (P.out.drewN nq)
            have K_ := Lib.hid (K.out.trans (Kp.below (drewN_below (Below.refl wr.heap.size wr) nq)))
            have O_ := Lib.hid (O.out.drewN nq)
            clear P K O c0 c2 c4
            generalize wr.drewN nq = w4 at P_ K_ O_ ⊢
            have P := P_
            have K := K_
            have O := O_
            clear P_ K_ O_
            go_wp2_with fail
            go_meet
            exact ⟨t, ls, any, rfl, P.out, K.out, O.out, E1.out, by omega, hti⟩
        · have he' : (t.err == 0) = false := by simpa using he
          have HE := Lib.hid he
          clear he
          have e1 := GO.out
          rw [rClsGo_stop (fun h => HE.out h.1)] at e1
          have E1 := Lib.hid e1
          clear e1 GO
          generalize t.err = ee at c4 he'
          go_wp2_with fail
          go_quiet (fail)
          have P_ := Lib.hid (P.out.drewN nq)
          have K_ := Lib.hid (K.out.trans (Kp.below (drewN_below (Below.refl wr.heap.size wr) nq)))
          have O_ := Lib.hid (O.out.drewN nq)
          clear P K O c0 c2 c4
          generalize wr.drewN nq = w4 at P_ K_ O_ ⊢
          have P := P_
          have K := K_
          have O := O_
          clear P_ K_ O_
          go_wp2_with fail
          go_meet
          exact ⟨t, ls, any, rfl, P.out, K.out, O.out, E1.out, by omega, hti⟩
    case rest =>
      as_aux_lemma =>
        obtain ⟨t, ls, any, rfl, p, k, o, hC, hll, hti⟩ := hcut
        have P := Lib.hid p
        have K := Lib.hid k
        have O := Lib.hid o
        rw [← hC] at HQ
        have HQ2 := HQ.out
        simp only at HQ2
        have HQ3 := Lib.hid HQ2
        clear p k o hC HC HQ HQ2 SI H3
        generalize wc = w3 at P K O ⊢
        obtain ⟨u, hu⟩ : ∃ u : Ps, (if t.err = 0 ∧ (any = false ∨ isR c.G t 93 = false) then t.wrong c.G f 4 else t) = u := ⟨_, rfl⟩
        rw [hu] at HQ3
        have hui : u.i ≤ t.i := by rw [← hu]; split <;> simp
        have HU := Lib.hid hu
        clear hu
        obtain ⟨ap, cp, rfl, -, -⟩ := O.out.rd
        have c4 := P.out.c4
        have FC : Hid (∀ w', Qz c w' t → Calls Tryz.prog 20 #[.pointer (some ⟨c.P, 0, none⟩), .int .i64 4, .int .i64 pf] w' fun e w'' => e = .returned (.tuple #[]) ∧ Qz c w'' (t.wrong c.G f 4) ∧ Kp c.P w' w'') := Lib.hid fun w' p => by rw [← HPF.out]; exact failRC p f 4
        have IA := Lib.hid (isRC P.out 93 (by decide) (by decide))
        go_upto_region 20 with fail
        go_cut [157] (fun bv wx => ∃ b : Bool, bv = .bool b ∧ (b = true ↔ t.err = 0 ∧ (any = false ∨ isR c.G t 93 = false)) ∧ Qz c wx t ∧ Kp c.P w wx ∧ OwnR w.heap.size wx (.slice ap ls.length cp) ls)
        case first =>
          by_cases he : t.err = 0
          · rw [he] at c4
            have HE := Lib.hid he
            clear he
            cases any
            · go_wp2_with fail
              go_meet
              exact ⟨true, rfl, by simp [HE.out], P.out, K.out, O.out⟩
            · cases h93 : isR c.G t 93
              · rw [h93] at IA
                have H93 := Lib.hid h93
                clear h93
                go_wp2_with fail
                refine IA.out.mono ?_
                rintro e w4 ⟨rfl, n4, rfl⟩
                go_wp2_with fail
                go_meet
                exact ⟨true, rfl, by simp [HE.out, H93.out], P.out.drewN n4, K.out.trans (Kp.below (drewN_below (Below.refl _ _) n4)), O.out.drewN n4⟩
              · rw [h93] at IA
                have H93 := Lib.hid h93
                clear h93
                go_wp2_with fail
                refine IA.out.mono ?_
                rintro e w4 ⟨rfl, n4, rfl⟩
                go_wp2_with fail
                go_meet
                exact ⟨false, rfl, by simp [H93.out], P.out.drewN n4, K.out.trans (Kp.below (drewN_below (Below.refl _ _) n4)), O.out.drewN n4⟩
          · have he' : (t.err == 0) = false := by simpa using he
            have HE := Lib.hid he
            clear he
            generalize t.err = ee at c4 he'
            go_wp2_with fail
            go_meet
            exact ⟨false, rfl, by simp [HE.out], P.out, K.out, O.out⟩
        case rest =>
          obtain ⟨b, rfl, hb, p, k, o⟩ := hcut
          have P1 := Lib.hid p
          have K1 := Lib.hid k
          have O1 := Lib.hid o
          have HB := Lib.hid hb
          clear P K O c4 p k o hb IA
          generalize wc = w3b at P1 K1 O1 ⊢
          go_upto_if 157 with fail
          go_cut [] (fun wx => Qz c wx u ∧ Kp c.P w wx ∧ OwnR w.heap.size wx (.slice ap ls.length cp) ls)
          case first =>
            cases b
            · have e0 : t = u := by rw [← HU.out, if_neg (fun h => by have := HB.out.2 h; cases this)]
              have E0 := Lib.hid e0
              clear e0
              go_wp2_with fail
              go_meet
              rw [← E0.out]
              exact ⟨P1.out, K1.out, O1.out⟩
            · have e0 : t.wrong c.G f 4 = u := by rw [← HU.out, if_pos (HB.out.1 rfl)]
              rw [e0] at FC
              clear e0
              go_wp2_with fail
              refine (FC.out _ P1.out).mono ?_
              rintro e w4 ⟨rfl, p4, k4⟩
              have P4 := Lib.hid p4
              have K4 := Lib.hid (K1.out.trans k4)
              have O4 := Lib.hid (Own.kp O1.out k4 hPw)
              clear p4 k4
              go_wp2_with fail
              go_meet
              exact ⟨P4.out, K4.out, O4.out⟩
          case rest =>
            obtain ⟨p, k, o⟩ := hcut
            have P_ := Lib.hid p
            have K_ := Lib.hid k
            have O_ := Lib.hid o
            clear P1 K1 O1 p k o
            generalize wc = w4 at P_ K_ O_ ⊢
            have c2 := P_.out.c2
            have f2 := P_.out.fz 2
            have k5 := Kp.set c.P 2 w4 (.int .i64 ((u.i : Int) + 1))
            have P := Lib.hid (P_.out.step (by omega))
            have K := Lib.hid (K_.out.trans k5)
            have O := Lib.hid (Own.kp O_.out k5 hPw)
            go_upto_region 23 with fail
            clear P_ K_ O_ k5 c2 f2
            generalize w4.setCell ⟨c.P, 2, none⟩ (.int .i64 ((u.i : Int) + 1)) = w5 at P K O ⊢
            obtain ⟨ap', cp', ev, rd, -⟩ := O.out.rd
            simp only [Value.slice.injEq] at ev
            obtain ⟨rfl, -, rfl⟩ := ev
            have RD := Lib.hid rd
            have hKs := K.out.size
            clear rd
            cases neg
            · go_wp2_with fail
              refine (refMakeC ap ls cp w5 RD.out (by omega)).mono ?_
              rintro e w6 ⟨v6, rfl, o6, b6⟩
              go_wp2_with fail
              go_ret
              rw [← HQ3.out]
              exact ⟨_, rfl, P.out.keep b6, K.out.trans (Kp.below b6), o6.mono hKs⟩
            · go_wp2_with fail
              refine (refNotC ap ls (notF ls) cp w5 RD.out (by omega) (notF_nots _)).mono ?_
              rintro e w6 ⟨v6, rfl, o6, b6⟩
              go_wp2_with fail
              go_ret
              rw [← HQ3.out]
              exact ⟨_, rfl, P.out.keep b6, K.out.trans (Kp.below b6), o6.mono hKs⟩
end Go.Proofs.YtooockbfagkknaaGreatDoor.syn
