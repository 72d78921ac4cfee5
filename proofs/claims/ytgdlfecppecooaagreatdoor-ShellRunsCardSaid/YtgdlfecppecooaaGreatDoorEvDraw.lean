/- An evaluator of closed calls: a region whose order is drawn. -/
import Derived.Test.YtgdlfecppecooaaGreatDoorEvDraw4
set_option linter.all false
namespace Go.Proofs.YtgdlfecppecooaaGreatDoor.ev
open Go Go.RowKit
section
variable {P : Program} {ex : CaF} {ops : Array Oper} {N : Nat} {ms : List Nat} {φ0 : T Value} {s : St} {d : Ds} {M0 : Pm} {w0 : World}
theorem ready_nil {listed : Array Bool} (hL : StOk P ops.toList ms) (hsz : listed.size = ops.size) (h : Region.ready .any ops listed = []) : ∀ j, j < ops.size → listed.getD j false = true := by
  intro j
  induction j using Nat.strongRecOn with
  | _ j ih =>
    intro hj
    cases hq : listed.getD j false with
    | true => rfl
    | false =>
      have hlt : j < listed.size := by omega
      have : j ∈ Region.ready .any ops listed := mem_ready.2 ⟨by
        rw [Array.getD_eq_getD_getElem?, Array.getElem?_eq_getElem hlt] at hq ⊢
        exact hq, ops[j], Array.getElem?_eq_getElem hj, fun e he hb => by
          have ho : ops.toList[j]? = some ops[j] := by rw [Array.getElem?_toList]; exact Array.getElem?_eq_getElem hj
          obtain ⟨h1, _, _⟩ := hL.edge j _ e ho (by simpa using he) hb
          exact ih e.on h1 (by omega)⟩
      rw [h] at this; cases this
theorem count_set {l : Array Bool} {i : Nat} (h : i < l.size) (hf : l.getD i true = false) : (l.setIfInBounds i true).toList.count false + 1 = l.toList.count false := by
  rw [Array.toList_setIfInBounds]
  have h1 : l.toList[i]'(by simpa using h) = false := by
    rw [Array.getD_eq_getD_getElem?, Array.getElem?_eq_getElem h] at hf
    simpa using hf
  have h2 := List.count_set (l := l.toList) (i := i) (a := true) (b := false) (by simpa using h)
  have e1 : (if (l.toList[i]'(by simpa using h) == false) = true then 1 else 0) = 1 := by rw [h1]; rfl
  have e2 : (if ((true : Bool) == false) = true then 1 else 0) = 0 := rfl
  have h3 : 0 < l.toList.count false := List.count_pos_iff.2 (by rw [← h1]; exact List.getElem_mem _)
  omega
theorem count_zero {l : Array Bool} (h : l.toList.count false = 0) : ∀ j, j < l.size → l.getD j false = true := by
  intro j hj
  have h1 : l.toList[j]'(by simpa using hj) ≠ false := fun e => by
    have := List.count_eq_zero.1 h
    exact this (by rw [← e]; exact List.getElem_mem _)
  rw [Array.getD_eq_getD_getElem?, Array.getElem?_eq_getElem hj]
  simpa using h1
theorem Inv.done (hd : DsOk P ex ops.toList N ms φ0 s ops.toList.length d) {h' : T AO} (hadd : addPcs (notBefore ms d.last) d.rs 0 d.h = some h') {E : Nat → Bool} {a : Act} {w : World} {k : Nat} {M : Pm} (h : Inv P ops N ms φ0 s d M0 w0 E a w k M) (hall : ∀ j, j < ops.size → E j = true) :
    Stp P s.h.get M0 w0 h'.get M w s.nx d.nx ∧ FR P M d.φ a N := by
  have hA : Apart d.rs := hd.apart
  have hk : k = d.es.length := by
    have := h.kle
    by_cases hlt : k < d.es.length
    · have e1 := List.getElem?_eq_getElem hlt
      have h2 := (hd.esr k _ e1).1
      have := (h.ek k _ e1).1 (hall _ (by simpa using h2))
      omega
    · omega
  subst hk
  have hcur : d.hs.getD d.es.length .nil = d.h := hs_at hd.cur
  have hE : ∀ (j : Nat) (q : Rc), d.rs[j]? = some q → E j = true := fun j q hq => hall j (by
    have := (List.getElem?_eq_some_iff.1 hq).1
    rw [hd.len] at this
    simpa using this)
  refine ⟨?_, fun t => ?_, h.size, h.defers, h.glob⟩
  · have : h'.get = SG d ms E d.es.length := by
      funext b
      rw [addPcs_iff hadd hA b]
      refine Option.ext fun ob => ?_
      rw [SG_iff hA, hcur]
      cases hg : pcsG (notBefore ms d.last) d.rs 0 b with
      | some ob2 =>
        obtain ⟨j, q, g1, g2, g3, g4, g5⟩ := (pcsG_iff hA).1 hg
        rw [Nat.zero_add, hd.last] at g3
        have hz := h.i1 j q (hE j q g1) g1 g2 g3
        rw [hcur, g4] at hz
        constructor
        · intro e
          cases e
          exact .inr ⟨hz, j, q, g1, g2, hE j q g1, g3, g4, g5⟩
        · rintro (g | ⟨_, j2, q2, k1, k2, k3, k4, k5, k6⟩)
          · rw [hz] at g; cases g
          · have := hA.uniq k1 g1 k2 g2 (k5.trans g4.symm)
            subst this
            rw [g1] at k1; cases k1
            rw [g5] at k6; exact k6
      | none =>
        constructor
        · exact fun e => .inl e
        · rintro (g | ⟨_, j2, q2, k1, k2, k3, k4, k5, k6⟩)
          · exact g
          · have : pcsG (notBefore ms d.last) d.rs 0 b = some ob := (pcsG_iff hA).2 ⟨j2, q2, k1, k2, by rw [Nat.zero_add, hd.last]; exact k4, k5, k6⟩
            rw [hg] at this; cases this
    rw [this]
    exact h.stp
  · by_cases hex : ∃ (j : Nat) (oj : Oper), ops.toList[j]? = some oj ∧ oj.dst = some t
    · obtain ⟨j, oj, h1, h2⟩ := hex
      have hjl : j < d.rs.length := by rw [hd.len]; exact (List.getElem?_eq_some_iff.1 h1).1
      have h4 := List.getElem?_eq_getElem hjl
      rw [hd.phi.1 j _ oj t h4 h1 h2]
      exact h.fr1 j oj _ t h1 h4 h2 (hE j _ h4)
    · rw [hd.phi.2 t fun j q oj hq hoj e => hex ⟨j, oj, hoj, e⟩]
      exact h.fr2 t fun j oj hoj _ e => hex ⟨j, oj, hoj, e⟩
theorem any_ok {Q : Exit → Act → World → Prop} {h' : T AO} (hng : NoNG P) (hex : CaOk P ex) (hd : DsOk P ex ops.toList N ms φ0 s ops.toList.length d) (hL : StOk P ops.toList ms) (hlc : ∀ (i : Nat) (r : Rc), d.rs[i]? = some r → r.cls = 2 → loadChk P ms d.rs i r d.hs 0 d.es = true)
    (hadd : addPcs (notBefore ms d.last) d.rs 0 d.h = some h') (hQ : ∀ M' a' w', Stp P s.h.get M0 w0 h'.get M' w' s.nx d.nx → FR P M' d.φ a' N → Q .normal a' w') :
    ∀ (fuel : Nat) (listed : Array Bool) (a : Act) (w : World) (k : Nat) (M : Pm), listed.size = ops.size → listed.toList.count false ≤ fuel → Inv P ops N ms φ0 s d M0 w0 (fun j => listed.getD j false) a w k M → wpAny P .any ops Q fuel listed a w := by
  intro fuel
  induction fuel with
  | zero =>
    intro listed a w k M hsz hc h
    have hall := count_zero (Nat.le_zero.1 hc)
    have hdone := h.done hd hadd (fun j hj => hall j (by omega))
    refine ⟨?_, hQ M a w hdone.1 hdone.2⟩
    refine List.eq_nil_iff_forall_not_mem.2 fun j hj => ?_
    obtain ⟨h1, o, h2, _⟩ := mem_ready.1 hj
    have hlt : j < listed.size := by rw [hsz]; exact (Array.getElem?_eq_some_iff.1 h2).1
    have := hall j hlt
    rw [Array.getD_eq_getD_getElem?, Array.getElem?_eq_getElem hlt] at h1 this
    simp at h1 this
    rw [this] at h1; cases h1
  | succ fuel ih =>
    intro listed a w k M hsz hc h
    refine ⟨fun hr => ?_, fun i hi => ?_⟩
    · have hdone := h.done hd hadd (ready_nil hL hsz hr)
      exact hQ M a w hdone.1 hdone.2
    · obtain ⟨h1, o, h2, h3⟩ := mem_ready.1 hi
      have hlt0 : i < ops.size := (Array.getElem?_eq_some_iff.1 h2).1
      have hlt : i < listed.size := by omega
      have ho : ops.toList[i]? = some o := by rw [Array.getElem?_toList]; exact h2
      have hrl : i < d.rs.length := by rw [hd.len]; simpa using hlt0
      have hno : listed.getD i false = false := by
        rw [Array.getD_eq_getD_getElem?, Array.getElem?_eq_getElem hlt] at h1 ⊢
        exact h1
      have n : Nx P ops ms (fun j => listed.getD j false) i o d.rs[i] d := ⟨ho, List.getElem?_eq_getElem hrl, hno, fun j hj => by
        obtain ⟨o2, e, g1, g2, g3, _, g4⟩ := hL.back j i hj
        rw [ho] at g1; cases g1
        have g5 := h3 e (by simpa using g2) g3
        rcases g4 with rfl | g4
        · exact g5
        · exact h.down j e.on g4 g5⟩
      refine h.step hng hex hd hL hlc n fun a' w' k' M' h' => ?_
      have hE : ins (fun j => listed.getD j false) i = fun j => (listed.setIfInBounds i true).getD j false := by
        funext j
        unfold ins
        by_cases e : j = i
        · subst e
          have e3 : (listed.setIfInBounds j true).getD j false = true := by
            rw [Array.getD_eq_getD_getElem?, Array.getElem?_setIfInBounds_self_of_lt hlt]; rfl
          rw [e3]
          simp
        · rw [getD_set_ne false (Ne.symm e)]
          simp [e]
      rw [hE] at h'
      refine ih _ a' w' k' M' (by simpa using hsz) ?_ h'
      have := count_set hlt h1
      omega
theorem drawW_ok {id : Nat} {s' : St} {φ φ' : T Value} (hmix : P.follows .mixedOrders = true) (hng : NoNG P) (hex : CaOk P ex) (h : drawW P ex ops.toList N s φ = some (s', φ')) : s.nx ≤ s'.nx ∧
    ∀ (M : Pm) (a : Act) (w : World), Sim P M s.h.get w → FR P M φ a N → Fresh M s.nx s'.nx → ∀ Q : Exit → Act → World → Prop,
      (∀ M' a' w', Stp P s.h.get M w s'.h.get M' w' s.nx s'.nx → FR P M' φ' a' N → Q .normal a' w') → (Code.region id ops true).wp P Q a w := by
  obtain ⟨ms, hst, h1⟩ := bnd_some.1 h
  obtain ⟨d, hdr, h2⟩ := bnd_some.1 h1
  obtain ⟨hck, h3⟩ := bB_some.1 h2
  obtain ⟨h', hadd, h4⟩ := bnd_some.1 h3
  cases h4
  have hL := staticOk_spec hst
  have hd := drawAll_ok (pre := []) hL rfl (DsOk.start s φ) hdr
  have hlc : ∀ (i : Nat) (r : Rc), d.rs[i]? = some r → r.cls = 2 → loadChk P ms d.rs i r d.hs 0 d.es = true := fun i r hr hc => by
    have := allIx_spec hck i r hr
    rw [Nat.zero_add] at this
    rcases or2 this with h5 | h5
    · rw [hc] at h5; cases h5
    · exact h5
  refine ⟨hd.lo0.1, fun M a w hS hf hfr Q hQ => ?_⟩
  have hE : (fun j => (Array.replicate ops.size false).getD j false) = fun _ => false := by
    funext j
    rw [Array.getD_eq_getD_getElem?, Array.getElem?_replicate]
    split <;> rfl
  refine wp_region_any hmix (any_ok (M0 := M) (w0 := w.drew) hng hex hd hL hlc hadd (fun M' a' w' hs hf' => hQ M' a' w' ((Stp.drewStp hS s.nx).trans hs) hf') _ _ _ _ 0 M (by simp) (by simp) ?_)
  rw [hE]
  have h0 : d.hs.getD 0 .nil = s.h := hs_at hd.h0
  refine ⟨Nat.zero_le _, fun l e _ => ⟨fun h => (by cases h), fun h => (by omega)⟩, ?_, fun i r hr _ b h5 h6 => ?_, fun i o r t _ _ _ h => (by cases h), fun t _ => hf.at_ t, hf.size, hf.defers, hf.glob, fun j r h => (by cases h), fun i j _ h => (by cases h)⟩
  · have : SG d ms (fun _ => false) 0 = s.h.get := by
      funext b
      refine Option.ext fun ob => ?_
      rw [SG_iff hd.apart, h0]
      exact ⟨fun h => h.elim (fun h => h) fun ⟨_, j, r, _, _, h, _⟩ => (by cases h), .inl⟩
    rw [this]
    exact (Stp.refl (Stp.drewStp hS s.nx).sim s.nx).widen (.inr rfl) (.inr rfl) hd.lo0.1
  · have := hd.lo0.2 i r hr
    exact hfr b (by omega) (by show b < d.nx; omega)
end
end Go.Proofs.YtgdlfecppecooaaGreatDoor.ev
