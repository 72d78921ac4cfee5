/- An evaluator of closed calls: code. -/
import Derived.Test.YtimfmipjhgonhaaGreatEvDraw
import Derived.LoopN
namespace Go.Proofs.YtimfmipjhgonhaaGreat.ev
open Go Go.RowKit
section
variable {P : Program}
theorem thenO_some {r : Out} {f : St → T Value → Option Out} {e : Ex} {s' : St} {φ' : T Value} (h : thenO r f = some (.mk e s' φ')) : (∃ s φ, r = .mk .normal s φ ∧ f s φ = some (.mk e s' φ')) ∨ (r = .mk e s' φ' ∧ e ≠ .normal) := by
  obtain ⟨e0, s, φ⟩ := r
  cases e0 with
  | normal => exact .inl ⟨s, φ, rfl, h⟩
  | exit id => cases (show some (Out.mk (.exit id) s φ) = some (.mk e s' φ') from h); exact .inr ⟨rfl, by simp⟩
  | ret => cases (show some (Out.mk .ret s φ) = some (.mk e s' φ') from h); exact .inr ⟨rfl, by simp⟩
theorem then_ne {e : Ex} (he : e ≠ .normal) {K : Act → World → Prop} {Q : Exit → Act → World → Prop} {a : Act} {w : World} (h : Q (exOf e) a w) : Exit.then K Q (exOf e) a w := by
  cases e with
  | normal => exact absurd rfl he
  | exit id => exact h
  | ret => exact h
/-- a loop that ends is a number of rounds -/
def LoopOk (P : Program) (ex : ExF) : Prop := ∀ (b : Code) (s : St) (φ : T Value) (N : Nat) (e : Ex) (s' : St) (φ' : T Value), ex (.loop b) s φ N = some (.mk e s' φ') → s.nx ≤ s'.nx ∧
  ∃ k, ∀ (M : Pm) (a : Act) (w : World), Sim P M s.h.get w → FR P M φ a N → Fresh M s.nx s'.nx → ∀ Q : Exit → Act → World → Prop,
    (∀ M' a' w', Stp P s.h.get M w s'.h.get M' w' s.nx s'.nx → FR P M' φ' a' N → Q (exOf e) a' w') → Code.rounds P b Q k a w
/-- a piece of code, then another -/
theorem two {c : Code} {ex : ExF} {s : St} {φ : T Value} {N : Nat} {s1 : St} {φ1 : T Value} {s' : St} {M : Pm} {a : Act} {w : World} {K : Act → World → Prop} {Q : Exit → Act → World → Prop} (hex : ExOk P ex) (h1 : ex c s φ N = some (.mk .normal s1 φ1)) (hle : s1.nx ≤ s'.nx)
    (hS : Sim P M s.h.get w) (hf : FR P M φ a N) (hfr : Fresh M s.nx s'.nx)
    (hK : ∀ M1 a1 w1, Stp P s.h.get M w s1.h.get M1 w1 s.nx s1.nx → Sim P M1 s1.h.get w1 → FR P M1 φ1 a1 N → Fresh M1 s1.nx s'.nx → K a1 w1) : c.wp P (Exit.then K Q) a w := by
  obtain ⟨hl1, hk⟩ := hex c s φ N .normal s1 φ1 h1
  refine hk M a w hS hf (fun b h2 h3 => hfr b h2 (by omega)) _ fun M1 a1 w1 hst hf1 => hK M1 a1 w1 hst hst.sim hf1 fun b h2 h3 => ?_
  rw [hst.ext b (by omega)]
  exact hfr b (by omega) h3
theorem exec_ok (hmix : P.follows .mixedOrders = true) (hng : NoNG P) : ∀ n, ExOk P (exec P n) ∧ LoopOk P (exec P n) := by
  intro n
  induction n with
  | zero => exact ⟨fun c s φ N e s' φ' h => (nomatch h), fun b s φ N e s' φ' h => (nomatch h)⟩
  | succ n ih =>
    obtain ⟨hex, hlp⟩ := ih
    have loop : LoopOk P (exec P (n + 1)) := by
      intro b s φ N e s' φ' h
      obtain ⟨r, hr, h1⟩ := bnd_some.1 (show bnd (exec P n b s φ N) (fun r => thenO r fun s φ => exec P n (.loop b) s φ N) = some (.mk e s' φ') from h)
      rcases thenO_some h1 with ⟨s1, φ1, rfl, h2⟩ | ⟨rfl, hne⟩
      · obtain ⟨hle, k, hk⟩ := hlp b s1 φ1 N e s' φ' h2
        obtain ⟨hle1, _⟩ := hex b s φ N .normal s1 φ1 hr
        refine ⟨by omega, k + 1, fun M a w hS hf hfr Q hQ => ?_⟩
        rw [rounds_succ]
        exact two hex hr hle hS hf hfr fun M1 a1 w1 hst hS1 hf1 hfr1 => hk M1 a1 w1 hS1 hf1 hfr1 Q fun M' a' w' hst2 hf2 => hQ M' a' w' (hst.trans hst2) hf2
      · obtain ⟨hle1, hk⟩ := hex b s φ N e s' φ' hr
        refine ⟨hle1, 1, fun M a w hS hf hfr Q hQ => ?_⟩
        rw [rounds_succ]
        exact hk M a w hS hf hfr _ fun M' a' w' hst hf2 => then_ne hne (hQ M' a' w' hst hf2)
    refine ⟨fun c s φ N e s' φ' h => ?_, loop⟩
    cases c with
    | skip =>
      cases (show some (Out.mk .normal s φ) = some (.mk e s' φ') from h)
      exact ⟨Nat.le_refl _, fun M a w hS hf _ Q hQ => wp_skip (hQ M a w (.refl hS _) hf)⟩
    | label l =>
      cases (show some (Out.mk .normal s φ) = some (.mk e s' φ') from h)
      exact ⟨Nat.le_refl _, fun M a w hS hf _ Q hQ => wp_label (hQ M a w (.refl hS _) hf)⟩
    | exit id =>
      cases (show some (Out.mk (.exit id) s φ) = some (.mk e s' φ') from h)
      exact ⟨Nat.le_refl _, fun M a w hS hf _ Q hQ => wp_exit (hQ M a w (.refl hS _) hf)⟩
    | ret =>
      cases (show some (Out.mk .ret s φ) = some (.mk e s' φ') from h)
      exact ⟨Nat.le_refl _, fun M a w hS hf _ Q hQ => wp_ret (hQ M a w (.refl hS _) hf)⟩
    | seq x y =>
      obtain ⟨r, hr, h1⟩ := bnd_some.1 (show bnd (exec P n x s φ N) (fun r => thenO r fun s φ => exec P n y s φ N) = some (.mk e s' φ') from h)
      rcases thenO_some h1 with ⟨s1, φ1, rfl, h2⟩ | ⟨rfl, hne⟩
      · obtain ⟨hle, hk⟩ := hex y s1 φ1 N e s' φ' h2
        obtain ⟨hle1, _⟩ := hex x s φ N .normal s1 φ1 hr
        refine ⟨by omega, fun M a w hS hf hfr Q hQ => wp_seq ?_⟩
        exact two hex hr hle hS hf hfr fun M1 a1 w1 hst hS1 hf1 hfr1 => hk M1 a1 w1 hS1 hf1 hfr1 Q fun M' a' w' hst2 hf2 => hQ M' a' w' (hst.trans hst2) hf2
      · obtain ⟨hle1, hk⟩ := hex x s φ N e s' φ' hr
        exact ⟨hle1, fun M a w hS hf hfr Q hQ => wp_seq (hk M a w hS hf hfr _ fun M' a' w' hst hf2 => then_ne hne (hQ M' a' w' hst hf2))⟩
    | cond c x y =>
      obtain ⟨v, hv, h1⟩ := bnd_some.1 (show bnd (ev P φ c) (fun v => bnd (asBool v) fun t => bE t (exec P n x s φ N) (exec P n y s φ N)) = some (.mk e s' φ') from h)
      obtain ⟨t, ht, h2⟩ := bnd_some.1 h1
      rcases bE_some.1 h2 with ⟨rfl, h3⟩ | ⟨rfl, h3⟩
      · obtain ⟨hle, hk⟩ := hex x s φ N e s' φ' h3
        exact ⟨hle, fun M a w hS hf hfr Q hQ => wp_cond_true (asBool_VR ht (ev_VR hv hf)).2 (hk M a w hS hf hfr Q hQ)⟩
      · obtain ⟨hle, hk⟩ := hex y s φ N e s' φ' h3
        exact ⟨hle, fun M a w hS hf hfr Q hQ => wp_cond_false (asBool_VR ht (ev_VR hv hf)).2 (hk M a w hS hf hfr Q hQ)⟩
    | block id b =>
      obtain ⟨⟨e0, s0, φ0⟩, hr, h1⟩ := bnd_some.1 (show bnd (exec P n b s φ N) (fun r => blockO id r) = some (.mk e s' φ') from h)
      obtain ⟨hle, hk⟩ := hex b s φ N e0 s0 φ0 hr
      cases e0 with
      | normal =>
        cases (show some (Out.mk .normal s0 φ0) = some (.mk e s' φ') from h1)
        exact ⟨hle, fun M a w hS hf hfr Q hQ => wp_block (hk M a w hS hf hfr _ fun M' a' w' hst hf2 => hQ M' a' w' hst hf2)⟩
      | ret =>
        cases (show some (Out.mk .ret s0 φ0) = some (.mk e s' φ') from h1)
        exact ⟨hle, fun M a w hS hf hfr Q hQ => wp_block (hk M a w hS hf hfr _ fun M' a' w' hst hf2 => hQ M' a' w' hst hf2)⟩
      | exit id' =>
        rcases bE_some.1 (show bE (Nat.beq id' id) (some (Out.mk .normal s0 φ0)) (some (.mk (.exit id') s0 φ0)) = some (.mk e s' φ') from h1) with ⟨he, h2⟩ | ⟨he, h2⟩
        · cases h2
          have : id' = id := beq_nat.1 he
          subst this
          exact ⟨hle, fun M a w hS hf hfr Q hQ => wp_block (hk M a w hS hf hfr _ fun M' a' w' hst hf2 => by
            show Exit.inBlock id' Q (.exit id') a' w'
            simp only [Exit.inBlock, if_true]
            exact hQ M' a' w' hst hf2)⟩
        · cases h2
          have hne : id' ≠ id := fun e => by subst e; rw [Nat.beq_refl] at he; cases he
          exact ⟨hle, fun M a w hS hf hfr Q hQ => wp_block (hk M a w hS hf hfr _ fun M' a' w' hst hf2 => by
            show Exit.inBlock id Q (.exit id') a' w'
            simp only [Exit.inBlock, if_neg hne]
            exact hQ M' a' w' hst hf2)⟩
    | loop b =>
      obtain ⟨hle, k, hk⟩ := loop b s φ N e s' φ' h
      exact ⟨hle, fun M a w hS hf hfr Q hQ => wp_loop_rounds k (hk M a w hS hf hfr Q hQ)⟩
    | region id ops draw =>
      rcases bE_some.1 (show bE draw (outN (drawW P (exec P n) ops.toList N s φ)) (outN (runOps P (exec P n) ops.toList N ops.toList s φ)) = some (.mk e s' φ') from h) with ⟨rfl, h1⟩ | ⟨rfl, h1⟩
      · obtain ⟨s1, φ1, h2, h3⟩ := bnd2_some.1 h1
        cases h3
        exact drawW_ok hmix hng hex h2
      · obtain ⟨s1, φ1, h2, h3⟩ := bnd2_some.1 h1
        cases h3
        obtain ⟨hle, hk⟩ := runOps_ok hng hex _ _ _ _ _ h2
        exact ⟨hle, fun M a w hS hf hfr Q hQ => wp_region_list (hk M a w hS hf hfr Q hQ)⟩
    | _ => exact (nomatch h)
end
end Go.Proofs.YtimfmipjhgonhaaGreat.ev
