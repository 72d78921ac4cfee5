/- An evaluator of closed calls: code. -/
import Derived.Test.YtgdlfecppecooaaGreatDoorEvDraw
import Derived.LoopN
set_option linter.all false
namespace Go.Proofs.YtgdlfecppecooaaGreatDoor.ev
open Go Go.RowKit
section
variable {P : Program}
theorem thenO_some {r : Out} {f : St → T Value → Option Out} {e : Ex} {s' : St} {φ' : T Value} (h : thenO r f = some (.mk e s' φ')) : (∃ s φ, r = .mk .normal s φ ∧ f s φ = some (.mk e s' φ')) ∨ (r = .mk e s' φ' ∧ e ≠ .normal) := by
  obtain ⟨e0, s, φ⟩ := r
  cases e0 with
  | normal => exact .inl ⟨s, φ, rfl, h⟩
  | exit id => cases (show some (Out.mk (.exit id) s φ) = some (.mk e s' φ') from h); exact .inr ⟨rfl, by simp⟩
  | ret => cases (show some (Out.mk .ret s φ) = some (.mk e s' φ') from h); exact .inr ⟨rfl, by simp⟩
theorem then_ne {e : Ex} (he : e ≠ .normal) {K : Act → World → Prop} {Q : Exit → Act → World → Prop} {a : Act} {w : World} (h : Q (exOf e) a w) : Exit.then K Q (exOf e) a w := by
  cases e with
  | normal => exact absurd rfl he
  | exit id => exact h
  | ret => exact h
/-- a loop that ends is a number of rounds -/
def LoopOk (P : Program) (ex : ExF) : Prop := ∀ (b : Code) (s : St) (φ : T Value) (N : Nat) (e : Ex) (s' : St) (φ' : T Value), ex (.loop b) s φ N = some (.mk e s' φ') → s.nx ≤ s'.nx ∧
  ∃ k, ∀ (M : Pm) (a : Act) (w : World), Sim P M s.h.get w → FR P M φ a N → Fresh M s.nx s'.nx → ∀ Q : Exit → Act → World → Prop,
    (∀ M' a' w', Stp P s.h.get M w s'.h.get M' w' s.nx s'.nx → FR P M' φ' a' N → Q (exOf e) a' w') → Code.rounds P b Q k a w
/-- a piece of code, then another -/
theorem two {c : Code} {ex : ExF} {s : St} {φ : T Value} {N : Nat} {s1 : St} {φ1 : T Value} {s' : St} {M : Pm} {a : Act} {w : World} {K : Act → World → Prop} {Q : Exit → Act → World → Prop} (hex : ExOk P ex) (h1 : ex c s φ N = some (.mk .normal s1 φ1)) (hle : s1.nx ≤ s'.nx)
    (hS : Sim P M s.h.get w) (hf : FR P M φ a N) (hfr : Fresh M s.nx s'.nx)
    (hK : ∀ M1 a1 w1, Stp P s.h.get M w s1.h.get M1 w1 s.nx s1.nx → Sim P M1 s1.h.get w1 → FR P M1 φ1 a1 N → Fresh M1 s1.nx s'.nx → K a1 w1) : c.wp P (Exit.then K Q) a w := by
  obtain ⟨hl1, hk⟩ := hex c s φ N .normal s1 φ1 h1
  refine hk M a w hS hf (fun b h2 h3 => hfr b h2 (by omega)) _ fun M1 a1 w1 hst hf1 => hK M1 a1 w1 hst hst.sim hf1 fun b h2 h3 => ?_
  rw [hst.ext b (by omega)]
  exact hfr b (by omega) h3
theorem vEqN_eq {x y : Value} (h : vEqN x y = true) : x = y := by
  unfold vEqN at h
  split at h
  · cases y <;> simp only at h <;> (try cases h)
    obtain ⟨h1, h2⟩ := and2 h
    rw [beq_nat.1 h1, vEq_eq h2]
  · exact vEq_eq h
theorem vEqNL_eq : ∀ {xs ys : List Value}, vEqNL xs ys = true → xs = ys
  | [], [], _ => rfl
  | [], _ :: _, h => by cases h
  | _ :: _, [], h => by cases h
  | x :: xs, y :: ys, h => by
    have h' : Bool.rec (motive := fun _ => Bool) false (vEqNL xs ys) (vEqN x y) = true := h
    cases h0 : vEqN x y with
    | false => rw [h0] at h'; cases h'
    | true => rw [h0] at h'; rw [vEqN_eq h0, vEqNL_eq h']
theorem meEqL_eq : ∀ {xs ys : List MapEntry}, meEqL xs ys = true → xs = ys
  | [], [], _ => rfl
  | [], _ :: _, h => by cases h
  | _ :: _, [], h => by cases h
  | x :: xs, y :: ys, h => by
    have h' : Bool.rec (motive := fun _ => Bool) false (meEqL xs ys) (Bool.and (Nat.beq x.born y.born) (Bool.and (vEqN x.key y.key) (vEqN x.val y.val))) = true := h
    cases h0 : Bool.and (Nat.beq x.born y.born) (Bool.and (vEqN x.key y.key) (vEqN x.val y.val)) with
    | false => rw [h0] at h'; cases h'
    | true =>
      rw [h0] at h'
      obtain ⟨h1, h2⟩ := and2 h0
      obtain ⟨h3, h4⟩ := and2 h2
      obtain ⟨k1, v1, b1⟩ := x
      obtain ⟨k2, v2, b2⟩ := y
      simp only at h1 h3 h4
      rw [beq_nat.1 h1, vEqN_eq h3, vEqN_eq h4, meEqL_eq h']
theorem aoEq_eq : ∀ {x y : AO}, aoEq x y = true → x = y
  | .cells a t r, .cells b u q, h => by
    obtain ⟨h1, h2⟩ := and2 (show Bool.and (Bool.and (Nat.beq t u) (Bool.rec (motive := fun _ => Bool) (Bool.not q) q r)) (vEqNL a b) = true from h)
    obtain ⟨h3, h4⟩ := and2 h1
    have e : r = q := by cases r <;> cases q <;> first | rfl | cases h4
    rw [beq_nat.1 h3, vEqNL_eq h2, e]
  | .chan a, .chan b, h => by rw [beq_nat.1 (show Nat.beq a b = true from h)]
  | .map a c, .map b d, h => by
    obtain ⟨h1, h2⟩ := and2 (show Bool.and (Nat.beq c d) (meEqL a b) = true from h)
    rw [beq_nat.1 h1, meEqL_eq h2]
  | .cells .., .map .., h => by cases h
  | .cells .., .chan .., h => by cases h
  | .map .., .cells .., h => by cases h
  | .map .., .chan .., h => by cases h
  | .chan .., .cells .., h => by cases h
  | .chan .., .map .., h => by cases h
theorem subT_get : ∀ {x y : T AO}, subT x y = true → ∀ k o, x.get k = some o → y.get k = some o
  | .nil, y, _, k, o, h => by rw [T.get_nil] at h; cases h
  | .node v l r, .nil, h, _, _, _ => by cases h
  | .node v l r, .node v' l' r', h, k, o, hk => by
    have h' : Bool.rec (motive := fun _ => Bool) false (Bool.rec (motive := fun _ => Bool) false (subT r r') (subT l l')) (Option.rec (motive := fun _ => Bool) true (fun a => Option.rec (motive := fun _ => Bool) false (fun b => aoEq a b) v') v) = true := h
    cases h0 : (Option.rec (motive := fun _ => Bool) true (fun a => Option.rec (motive := fun _ => Bool) false (fun b => aoEq a b) v') v : Bool) with
    | false => rw [h0] at h'; cases h'
    | true =>
      rw [h0] at h'
      have h1 : Bool.rec (motive := fun _ => Bool) false (subT r r') (subT l l') = true := h'
      cases h2 : subT l l' with
      | false => rw [h2] at h1; cases h1
      | true =>
        rw [h2] at h1
        cases k with
        | zero =>
          have e : v = some o := hk
          subst e
          cases v' with
          | none => cases h0
          | some b => rw [aoEq_eq (show aoEq o b = true from h0)]; rfl
        | succ k =>
          have e : Nat.rec (motive := fun _ => Option AO) (l.get (Nat.div k 2)) (fun _ _ => r.get (Nat.div k 2)) (Nat.mod k 2) = some o := hk
          show Nat.rec (motive := fun _ => Option AO) (l'.get (Nat.div k 2)) (fun _ _ => r'.get (Nat.div k 2)) (Nat.mod k 2) = some o
          cases hm : Nat.mod k 2 with
          | zero => rw [hm] at e; exact subT_get h2 _ _ e
          | succ m => rw [hm] at e; exact subT_get h1 _ _ e
theorem Stp.part {H H' K K' : Hp} {M M' : Pm} {w w' : World} {lo hi : Nat} (h : Stp P K M w K' M' w' lo hi) (hK : ∀ b o, K b = some o → H b = some o) (hK' : ∀ b o, H' b = some o → K' b = some o) : Stp P H M w H' M' w' lo hi :=
  ⟨h.sim.sub hK', h.ext, h.size, fun c hc hn => h.keep c hc fun b o mi hb ho hm => hn b o mi (hK b o hb) ho hm, fun b o mi hb hm => by
    rcases h.born b o mi (hK' b o hb) hm with h1 | ⟨b0, o0, mi0, h1, h2, h3, h4⟩
    · exact .inl h1
    · exact .inr ⟨b0, o0, mi0, hK _ _ h1, h2, h3, h4⟩, fun b hb => by
    obtain ⟨o, ho⟩ := Option.ne_none_iff_exists'.1 hb
    rcases h.dom b (by rw [hK' b o ho]; simp) with h1 | h1
    · obtain ⟨o2, ho2⟩ := Option.ne_none_iff_exists'.1 h1
      exact .inl (by rw [hK b o2 ho2]; simp)
    · exact .inr h1, h.os, h.tape, h.output, h.le⟩
def EnOk (P : Program) (en : En) : Prop := CallOk P en.f en.args en.s en.v en.s'
theorem enChk_ok {f : FuncId} {args : List Value} {s s' : St} {v : Value} {ca : CaF} (hca : CaOk P ca) (h : enChk (ca f args s) v s' = true) : EnOk P ⟨f, args, s, v, s'⟩ := by
  cases hr : ca f args s with
  | none => rw [hr] at h; cases h
  | some p =>
    obtain ⟨u, t⟩ := p
    rw [hr] at h
    obtain ⟨h1, h2⟩ := and2 (show Bool.and (Bool.and (vEqN v u) (Nat.beq t.nx s'.nx)) (subT s'.h t.h) = true from h)
    obtain ⟨h3, h4⟩ := and2 h1
    have e1 := vEqN_eq h3
    have e2 := beq_nat.1 h4
    subst e1
    obtain ⟨k1, k2, k3⟩ := hca f args s v t hr
    refine ⟨e2 ▸ k1, k2, fun M A w hl hS hf hg R hR => k3 M A w hl hS (e2 ▸ hf) hg R fun M' v' w' hv hst => hR M' v' w' hv ?_⟩
    have := hst.part (H' := s'.h.get) (fun _ _ h => h) (subT_get h2)
    rw [e2] at this
    exact this
theorem callT_ok {tab : List En} {ca : CaF} (ht : ∀ en ∈ tab, EnOk P en) (hca : CaOk P ca) : CaOk P (callT tab ca) := by
  intro f args s v s' h
  induction tab with
  | nil => exact hca f args s v s' h
  | cons en tab ih =>
    have h' : Bool.rec (motive := fun _ => Option (Value × St)) (callT tab ca f args s) (some (en.v, en.s')) (enFits en f args s) = some (v, s') := h
    cases hq : enFits en f args s with
    | false => rw [hq] at h'; exact ih (fun en he => ht en (List.mem_cons_of_mem _ he)) h'
    | true =>
      rw [hq] at h'
      cases (show some (en.v, en.s') = some (v, s') from h')
      have hq' : Bool.rec (motive := fun _ => Bool) false (Bool.rec (motive := fun _ => Bool) false (subT en.s.h s.h) (vEqNL en.args args)) (Bool.and (Nat.beq en.f f) (Nat.beq en.s.nx s.nx)) = true := hq
      cases q1 : Bool.and (Nat.beq en.f f) (Nat.beq en.s.nx s.nx) with
      | false => rw [q1] at hq'; cases hq'
      | true =>
        rw [q1] at hq'
        obtain ⟨q2, q3⟩ := and2 q1
        have hq2 : Bool.rec (motive := fun _ => Bool) false (subT en.s.h s.h) (vEqNL en.args args) = true := hq'
        cases q4 : vEqNL en.args args with
        | false => rw [q4] at hq2; cases hq2
        | true =>
          rw [q4] at hq2
          have q5 : subT en.s.h s.h = true := hq2
          have e1 := beq_nat.1 q2
          have e2 := beq_nat.1 q3
          have e3 := vEqNL_eq q4
          obtain ⟨k1, k2, k3⟩ := ht en (List.mem_cons_self)
          subst e1 e3
          refine ⟨e2 ▸ k1, k2, fun M A w hl hS hf hg R hR => k3 M A w hl (hS.sub (subT_get q5)) (e2 ▸ hf) hg R fun M' v' w' hv hst => hR M' v' w' hv ?_⟩
          have := hst.part (H := s.h.get) (subT_get q5) (fun _ _ h => h)
          rw [e2] at this
          exact this
theorem exec_ok {tab : List En} (ht : ∀ en ∈ tab, EnOk P en) (hmix : P.follows .mixedOrders = true) (hng : NoNG P) : ∀ n, ExOk P (exec P tab n) ∧ LoopOk P (exec P tab n) := by
  intro n
  induction n with
  | zero => exact ⟨fun c s φ N e s' φ' h => (nomatch h), fun b s φ N e s' φ' h => (nomatch h)⟩
  | succ n ih =>
    obtain ⟨hex, hlp⟩ := ih
    have hca := callT_ok ht (callW_ok hex)
    have loop : LoopOk P (exec P tab (n + 1)) := by
      intro b s φ N e s' φ' h
      obtain ⟨r, hr, h1⟩ := bnd_some.1 (show bnd (exec P tab n b s φ N) (fun r => thenO r fun s φ => exec P tab n (.loop b) s φ N) = some (.mk e s' φ') from h)
      rcases thenO_some h1 with ⟨s1, φ1, rfl, h2⟩ | ⟨rfl, hne⟩
      · obtain ⟨hle, k, hk⟩ := hlp b s1 φ1 N e s' φ' h2
        obtain ⟨hle1, _⟩ := hex b s φ N .normal s1 φ1 hr
        refine ⟨by omega, k + 1, fun M a w hS hf hfr Q hQ => ?_⟩
        rw [rounds_succ]
        exact two hex hr hle hS hf hfr fun M1 a1 w1 hst hS1 hf1 hfr1 => hk M1 a1 w1 hS1 hf1 hfr1 Q fun M' a' w' hst2 hf2 => hQ M' a' w' (hst.trans hst2) hf2
      · obtain ⟨hle1, hk⟩ := hex b s φ N e s' φ' hr
        refine ⟨hle1, 1, fun M a w hS hf hfr Q hQ => ?_⟩
        rw [rounds_succ]
        exact hk M a w hS hf hfr _ fun M' a' w' hst hf2 => then_ne hne (hQ M' a' w' hst hf2)
    refine ⟨fun c s φ N e s' φ' h => ?_, loop⟩
    cases c with
    | skip =>
      cases (show some (Out.mk .normal s φ) = some (.mk e s' φ') from h)
      exact ⟨Nat.le_refl _, fun M a w hS hf _ Q hQ => wp_skip (hQ M a w (.refl hS _) hf)⟩
    | label l =>
      cases (show some (Out.mk .normal s φ) = some (.mk e s' φ') from h)
      exact ⟨Nat.le_refl _, fun M a w hS hf _ Q hQ => wp_label (hQ M a w (.refl hS _) hf)⟩
    | exit id =>
      cases (show some (Out.mk (.exit id) s φ) = some (.mk e s' φ') from h)
      exact ⟨Nat.le_refl _, fun M a w hS hf _ Q hQ => wp_exit (hQ M a w (.refl hS _) hf)⟩
    | ret =>
      cases (show some (Out.mk .ret s φ) = some (.mk e s' φ') from h)
      exact ⟨Nat.le_refl _, fun M a w hS hf _ Q hQ => wp_ret (hQ M a w (.refl hS _) hf)⟩
    | seq x y =>
      obtain ⟨r, hr, h1⟩ := bnd_some.1 (show bnd (exec P tab n x s φ N) (fun r => thenO r fun s φ => exec P tab n y s φ N) = some (.mk e s' φ') from h)
      rcases thenO_some h1 with ⟨s1, φ1, rfl, h2⟩ | ⟨rfl, hne⟩
      · obtain ⟨hle, hk⟩ := hex y s1 φ1 N e s' φ' h2
        obtain ⟨hle1, _⟩ := hex x s φ N .normal s1 φ1 hr
        refine ⟨by omega, fun M a w hS hf hfr Q hQ => wp_seq ?_⟩
        exact two hex hr hle hS hf hfr fun M1 a1 w1 hst hS1 hf1 hfr1 => hk M1 a1 w1 hS1 hf1 hfr1 Q fun M' a' w' hst2 hf2 => hQ M' a' w' (hst.trans hst2) hf2
      · obtain ⟨hle1, hk⟩ := hex x s φ N e s' φ' hr
        exact ⟨hle1, fun M a w hS hf hfr Q hQ => wp_seq (hk M a w hS hf hfr _ fun M' a' w' hst hf2 => then_ne hne (hQ M' a' w' hst hf2))⟩
    | cond c x y =>
      obtain ⟨v, hv, h1⟩ := bnd_some.1 (show bnd (ev P φ c) (fun v => bnd (asBool v) fun t => bE t (exec P tab n x s φ N) (exec P tab n y s φ N)) = some (.mk e s' φ') from h)
      obtain ⟨t, ht, h2⟩ := bnd_some.1 h1
      rcases bE_some.1 h2 with ⟨rfl, h3⟩ | ⟨rfl, h3⟩
      · obtain ⟨hle, hk⟩ := hex x s φ N e s' φ' h3
        exact ⟨hle, fun M a w hS hf hfr Q hQ => wp_cond_true (asBool_VR ht (ev_VR hv hf)).2 (hk M a w hS hf hfr Q hQ)⟩
      · obtain ⟨hle, hk⟩ := hex y s φ N e s' φ' h3
        exact ⟨hle, fun M a w hS hf hfr Q hQ => wp_cond_false (asBool_VR ht (ev_VR hv hf)).2 (hk M a w hS hf hfr Q hQ)⟩
    | block id b =>
      obtain ⟨⟨e0, s0, φ0⟩, hr, h1⟩ := bnd_some.1 (show bnd (exec P tab n b s φ N) (fun r => blockO id r) = some (.mk e s' φ') from h)
      obtain ⟨hle, hk⟩ := hex b s φ N e0 s0 φ0 hr
      cases e0 with
      | normal =>
        cases (show some (Out.mk .normal s0 φ0) = some (.mk e s' φ') from h1)
        exact ⟨hle, fun M a w hS hf hfr Q hQ => wp_block (hk M a w hS hf hfr _ fun M' a' w' hst hf2 => hQ M' a' w' hst hf2)⟩
      | ret =>
        cases (show some (Out.mk .ret s0 φ0) = some (.mk e s' φ') from h1)
        exact ⟨hle, fun M a w hS hf hfr Q hQ => wp_block (hk M a w hS hf hfr _ fun M' a' w' hst hf2 => hQ M' a' w' hst hf2)⟩
      | exit id' =>
        rcases bE_some.1 (show bE (Nat.beq id' id) (some (Out.mk .normal s0 φ0)) (some (.mk (.exit id') s0 φ0)) = some (.mk e s' φ') from h1) with ⟨he, h2⟩ | ⟨he, h2⟩
        · cases h2
          have : id' = id := beq_nat.1 he
          subst this
          exact ⟨hle, fun M a w hS hf hfr Q hQ => wp_block (hk M a w hS hf hfr _ fun M' a' w' hst hf2 => by
            show Exit.inBlock id' Q (.exit id') a' w'
            simp only [Exit.inBlock, if_true]
            exact hQ M' a' w' hst hf2)⟩
        · cases h2
          have hne : id' ≠ id := fun e => by subst e; rw [Nat.beq_refl] at he; cases he
          exact ⟨hle, fun M a w hS hf hfr Q hQ => wp_block (hk M a w hS hf hfr _ fun M' a' w' hst hf2 => by
            show Exit.inBlock id Q (.exit id') a' w'
            simp only [Exit.inBlock, if_neg hne]
            exact hQ M' a' w' hst hf2)⟩
    | loop b =>
      obtain ⟨hle, k, hk⟩ := loop b s φ N e s' φ' h
      exact ⟨hle, fun M a w hS hf hfr Q hQ => wp_loop_rounds k (hk M a w hS hf hfr Q hQ)⟩
    | region id ops draw =>
      rcases bE_some.1 (show bE draw (outN (drawW P (callT tab (callW P (exec P tab n))) ops.toList N s φ)) (outN (runOps P (callT tab (callW P (exec P tab n))) ops.toList N ops.toList s φ)) = some (.mk e s' φ') from h) with ⟨rfl, h1⟩ | ⟨rfl, h1⟩
      · obtain ⟨s1, φ1, h2, h3⟩ := bnd2_some.1 h1
        cases h3
        exact drawW_ok hmix hng hca h2
      · obtain ⟨s1, φ1, h2, h3⟩ := bnd2_some.1 h1
        cases h3
        obtain ⟨hle, hk⟩ := runOps_ok hng hca _ _ _ _ _ h2
        exact ⟨hle, fun M a w hS hf hfr Q hQ => wp_region_list (hk M a w hS hf hfr Q hQ)⟩
    | _ => exact (nomatch h)
end
end Go.Proofs.YtgdlfecppecooaaGreatDoor.ev
