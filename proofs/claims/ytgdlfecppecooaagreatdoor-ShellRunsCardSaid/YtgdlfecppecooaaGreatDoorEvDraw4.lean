/- An evaluator of closed calls: a region whose order is drawn: one operation more, in every order. -/
import Derived.Test.YtgdlfecppecooaaGreatDoorEvDraw3
import Derived.Orders
set_option linter.all false
namespace Go.Proofs.YtgdlfecppecooaaGreatDoor.ev
open Go Go.RowKit
section
variable {P : Program} {ex : CaF} {ops : Array Oper} {N : Nat} {ms : List Nat} {φ0 : T Value} {s : St} {d : Ds} {M0 : Pm} {w0 : World}
theorem SG_ins_ne {E : Nat → Bool} {i k : Nat} {r : Rc} (hA : Apart d.rs) (hr : d.rs[i]? = some r) (hp : piece r = false) : SG d ms (ins E i) k = SG d ms E k := by
  funext b
  refine Option.ext fun o => ?_
  rw [SG_iff hA, SG_iff hA]
  refine or_congr Iff.rfl (and_congr Iff.rfl ⟨?_, ?_⟩)
  · rintro ⟨j, q, h1, h2, h3, h4⟩
    by_cases e : j = i
    · subst e; rw [hr] at h1; cases h1; rw [hp] at h2; cases h2
    · rw [ins_ne e] at h3; exact ⟨j, q, h1, h2, h3, h4⟩
  · rintro ⟨j, q, h1, h2, h3, h4⟩
    exact ⟨j, q, h1, h2, ins_of h3, h4⟩
theorem SG_ins_pc {E : Nat → Bool} {i k : Nat} {r : Rc} (hA : Apart d.rs) (hr : d.rs[i]? = some r) (hp : piece r = true) (hnb : notBefore ms (lastOf d.es k) i = true) (hz : SG d ms E k r.lo = none) (b : Nat) :
    SG d ms (ins E i) k b = if b = r.lo then r.pc.get r.lo else SG d ms E k b := by
  have hz1 : (d.hs.getD k .nil).get r.lo = none := by
    cases hg : (d.hs.getD k .nil).get r.lo with
    | none => rfl
    | some o => rw [(SG_iff hA).2 (.inl hg)] at hz; cases hz
  refine Option.ext fun o => ?_
  rw [SG_iff hA]
  by_cases hb : b = r.lo
  · subst hb
    rw [if_pos rfl]
    constructor
    · rintro (h | ⟨_, j, q, h1, h2, h3, h4, h5, h6⟩)
      · rw [hz1] at h; cases h
      · have := hA.uniq h1 hr h2 hp h5
        subst this
        rw [hr] at h1; cases h1
        exact h6
    · intro h
      exact .inr ⟨hz1, i, r, hr, hp, ins_self E i, hnb, rfl, h⟩
  · rw [if_neg hb, SG_iff hA]
    refine or_congr Iff.rfl (and_congr Iff.rfl ⟨?_, ?_⟩)
    · rintro ⟨j, q, h1, h2, h3, h4, h5, h6⟩
      by_cases e : j = i
      · subst e; rw [hr] at h1; cases h1; exact absurd h5.symm hb
      · rw [ins_ne e] at h3; exact ⟨j, q, h1, h2, h3, h4, h5, h6⟩
    · rintro ⟨j, q, h1, h2, h3, h4⟩
      exact ⟨j, q, h1, h2, ins_of h3, h4⟩
theorem nbs {es : List Nat} {k i j : Nat} (e : es[k]? = some i) : notBefore ms (lastOf es (k + 1)) j = true ↔ inM ms j i = false := by
  rw [nb_iff]
  have : es.getD (k + 1 - 1) 0 = i := by rw [Nat.add_sub_cancel, List.getD_eq_getElem?_getD, e]; rfl
  rw [this]
  exact ⟨fun h => h.resolve_left (by omega), .inr⟩
theorem cls_of_rc {i : Nat} {o : Oper} {r : Rc} {rs : List Rc} {hs : List (T AO)} {es : List Nat} (h : RcOk P ex ops.toList ms φ0 rs hs es i o r) (hc : r.cls = 3) : clsOf P o = 3 := by
  rcases h.kind with ⟨e, _⟩ | ⟨e, _⟩ | ⟨e, _⟩ | ⟨_, _, e, _⟩
  · rw [e] at hc; cases hc
  · rw [e] at hc; cases hc
  · rw [e] at hc; cases hc
  · exact e
/-- effects stand in the order of the text -/
theorem eff_lt (hd : DsOk P ex ops.toList N ms φ0 s ops.toList.length d) (hL : StOk P ops.toList ms) {k l e f : Nat} (hkl : k < l) (he : d.es[k]? = some e) (hf : d.es[l]? = some f) : inM ms e f = true := by
  have hlt := hd.inc k l e f hkl he hf
  obtain ⟨h1, r, h2, h3⟩ := hd.esr k e he
  obtain ⟨h4, q, h5, h6⟩ := hd.esr l f hf
  have o1 := List.getElem?_eq_getElem h1
  have o2 := List.getElem?_eq_getElem h4
  have c1 := cls_of_rc (hd.rc e _ r o1 h2) h3
  have c2 := cls_of_rc (hd.rc f _ q o2 h5) h6
  rcases hL.eff e f _ _ o1 o2 (by omega) c1 c2 with h | h
  · exact h
  · have := hL.toMaskOk.lt h; omega
theorem nbk (hd : DsOk P ex ops.toList N ms φ0 s ops.toList.length d) (hL : StOk P ops.toList ms) {k i j : Nat} (e : d.es[k]? = some i) (hj : inM ms j i = false) : notBefore ms (lastOf d.es k) j = true := by
  rw [nb_iff]
  cases k with
  | zero => exact .inl rfl
  | succ k =>
    right
    have hk : k < d.es.length := by have := (List.getElem?_eq_some_iff.1 e).1; omega
    have e1 := List.getElem?_eq_getElem hk
    have e2 : d.es.getD (k + 1 - 1) 0 = d.es[k] := by rw [Nat.add_sub_cancel, List.getD_eq_getElem?_getD, e1]; rfl
    rw [e2]
    cases hq : inM ms j d.es[k] with
    | false => rfl
    | true =>
      have := hL.toMaskOk.trans hq (eff_lt hd hL (Nat.lt_succ_self k) e1 e)
      rw [hj] at this; cases this
theorem Inv.step {E : Nat → Bool} {i k : Nat} {o : Oper} {r : Rc} {a : Act} {w : World} {M : Pm} {K : Act → World → Prop} {Q : Exit → Act → World → Prop} (hng : NoNG P) (hex : CaOk P ex)
    (hd : DsOk P ex ops.toList N ms φ0 s ops.toList.length d) (hL : StOk P ops.toList ms) (hlc : ∀ (i : Nat) (r : Rc), d.rs[i]? = some r → r.cls = 2 → loadChk P ms d.rs i r d.hs 0 d.es = true)
    (h : Inv P ops N ms φ0 s d M0 w0 E a w k M) (n : Nx P ops ms E i o r d) (hK : ∀ a' w' k' M', Inv P ops N ms φ0 s d M0 w0 (ins E i) a' w' k' M' → K a' w') : wpOp P ops Q i K a w := by
  obtain ⟨a2, hf, he, hw⟩ := h.frame hd hL n
  have rc := hd.rc i o r n.o n.r
  have hA : Apart d.rs := hd.apart
  have hS := h.stp.sim
  have hnb := n.eff h
  unfold wpOp
  rw [show ops[i]? = some o by rw [← Array.getElem?_toList]; exact n.o]
  simp only
  rcases rc.kind with ⟨c, hwant, hv, hhi⟩ | ⟨c, hwant, _, hop, hhi⟩ | ⟨c, hwant, hcls, hhi⟩ | ⟨c, hwant, hcls, k', h0, h1, H, last, he1, hh0, hh1, _, hadd, hop⟩
  · rw [if_neg (by rw [← hw, hwant]; simp)]
    have hp : piece r = false := by unfold piece; rw [c]; rfl
    refine hK _ _ k M (h.put hd hL n (by rw [hv]; exact .undef) ?_ (.inl ⟨rfl, by rw [c]; simp⟩) fun j q hj hq hpq hnq => ?_)
    · rw [SG_ins_ne hA n.r hp, hhi]
      exact .refl hS _
    · by_cases e : j = i
      · subst e; rw [n.r] at hq; cases hq; rw [hp] at hpq; cases hpq
      · rw [ins_ne e] at hj; exact h.i1 j q hj hq hpq hnq
  · rw [if_pos (by rw [← hw, hwant])]
    have hfr := h.fresh i r n.r n.no
    have hz : r.lo < r.hi → SG d ms E k r.lo = none := fun hlt => by
      cases hg : SG d ms E k r.lo with
      | none => rfl
      | some ob =>
        obtain ⟨mi, hm, _⟩ := hS.obj _ _ hg
        rw [hfr r.lo (Nat.le_refl _) hlt] at hm; cases hm
    have hok := opF_ok (s := ⟨.nil, r.lo⟩) (s' := ⟨r.pc, r.hi⟩) hng ca0_ok hop (hS.sub (K := (T.nil : T AO).get) fun b ob hb => by rw [T.get_nil] at hb; cases hb) hf hfr
    refine .inl (hok.wp he.symm _ _ fun M' v' w' hv hst => hK _ _ k M' (h.put hd hL n hv ?_ (.inl ⟨rfl, by rw [c]; simp⟩) fun j q hj hq hpq hnq => ?_))
    · refine hst.frame hS hfr (fun b ob hb => by rw [T.get_nil] at hb; cases hb) fun b => ?_
      have hdom : r.pc.get b ≠ none → b = r.lo ∧ r.lo < r.hi := fun hb => by
        rcases hst.dom b hb with h2 | h2
        · exact absurd (T.get_nil b) h2
        · have h3 : r.lo ≤ b := h2.1
          have h4 : b < r.hi := h2.2
          omega
      show SG d ms (ins E i) k b = if (T.nil : T AO).get b = none ∧ r.pc.get b = none then SG d ms E k b else r.pc.get b
      by_cases hp : piece r = true
      · rw [SG_ins_pc hA n.r hp hnb (hz (piece_lt hp).2)]
        by_cases hb : b = r.lo
        · subst hb
          rw [if_pos rfl]
          cases hg : r.pc.get r.lo with
          | none => rw [if_pos ⟨T.get_nil _, rfl⟩, hz (piece_lt hp).2]
          | some ob => rw [if_neg (by simp)]
        · rw [if_neg hb]
          cases hg : r.pc.get b with
          | none => rw [if_pos ⟨T.get_nil _, rfl⟩]
          | some ob => exact absurd (hdom (by rw [hg]; simp)).1 hb
      · have hp' : piece r = false := by simpa using hp
        rw [SG_ins_ne hA n.r hp']
        cases hg : r.pc.get b with
        | none => rw [if_pos ⟨T.get_nil _, rfl⟩]
        | some ob =>
          have h5 := (hdom (by rw [hg]; simp)).2
          exact absurd (show piece r = true by unfold piece; rw [c, ble_nat.2 h5]; rfl) hp
    · by_cases e : j = i
      · subst e; rw [n.r] at hq; cases hq
        cases hg : (d.hs.getD k .nil).get r.lo with
        | none => rfl
        | some ob => have := hz (piece_lt hpq).2; rw [(SG_iff hA).2 (.inl hg)] at this; cases this
      · rw [ins_ne e] at hj; exact h.i1 j q hj hq hpq hnq
  · rw [if_pos (by rw [← hw, hwant])]
    have hp : piece r = false := by unfold piece; rw [c]; rfl
    have hkl : k < d.hs.length := by rw [hd.hsl]; have := h.kle; omega
    have hh := List.getElem?_eq_getElem hkl
    have hms : mayStand ms i (lastOf d.es k) (d.es.drop k) = true := by
      unfold mayStand
      rw [hnb]
      cases hdr : d.es.drop k with
      | nil => rfl
      | cons e es =>
        have he1 : d.es[k]? = some e := by
          have := List.getElem?_drop (xs := d.es) (i := k) (j := 0)
          rw [hdr] at this
          simpa using this.symm
        show Bool.not (inM ms e i) = true
        cases hq : inM ms e i with
        | false => rfl
        | true =>
          have := (h.ek k e he1).1 (n.pre e hq)
          omega
    have hhere : hereOk P ms d.rs i (lastOf d.es k) r d.hs[k] = true := by
      have := loadChk_spec (hlc i r n.r c) k _ hh h.kle
      cases k with
      | zero => exact this hms
      | succ k => exact this hms
    have hload : loadAtH P r.φ o (fun j => Bool.and (inM ms j i) (notBefore ms (lastOf d.es k) j)) d.rs d.hs[k] = some r.v := by
      unfold hereOk at hhere
      rw [rc.op] at hhere
      generalize loadAtH P r.φ o (fun j => Bool.and (inM ms j i) (notBefore ms (lastOf d.es k) j)) d.rs d.hs[k] = x at hhere ⊢
      cases x with
      | none => cases hhere
      | some v => rw [vEq_eq hhere]
    have key : ∀ H : T AO, (∀ b ob, H.get b = some ob → SG d ms E k b = some ob) → opF o.op P ca0 ⟨H, 0⟩ r.φ = some (r.v, ⟨H, 0⟩) → o.wp P a w K Q := by
      intro H hsub hop
      have hok := opF_ok (s := ⟨H, 0⟩) (s' := ⟨H, 0⟩) hng ca0_ok hop (hS.sub hsub) hf (fun b _ hb => by cases hb)
      refine hok.wp he.symm _ _ fun M' v' w' hv hst => hK _ _ k M' (h.put hd hL n hv ?_ (.inl ⟨rfl, by rw [c]; simp⟩) fun j q hj hq hpq hnq => ?_)
      · have := hst.frame hS (fun b _ hb => by cases hb) hsub (H' := SG d ms (ins E i) k) fun b => by
          rw [SG_ins_ne hA n.r hp]
          show _ = if H.get b = none ∧ H.get b = none then _ else H.get b
          cases hg : H.get b with
          | none => rw [if_pos ⟨rfl, rfl⟩]
          | some ob => rw [if_neg (by simp), hsub b ob hg]
        exact this.widen (.inr rfl) (.inr rfl) rc.le
      · by_cases e : j = i
        · subst e; rw [n.r] at hq; cases hq; rw [hp] at hpq; cases hpq
        · rw [ins_ne e] at hj; exact h.i1 j q hj hq hpq hnq
    left
    rcases loadAtH_some hcls hload with hop | ⟨j, q, ob, H, hq, hpq, hsel, hpc, hH, hop⟩
    · exact key _ (fun b ob hb => (SG_iff hA).2 (.inl (by rw [hs_at hh]; exact hb))) hop
    · obtain ⟨s1, s2⟩ := and2 hsel
      refine key H (fun b ob2 hb => ?_) hop
      rw [hH b] at hb
      by_cases e : b = q.lo
      · subst e
        rw [if_pos rfl] at hb
        cases hb
        have hE := n.pre j s1
        exact (SG_iff hA).2 (.inr ⟨h.i1 j q hE hq hpq s2, j, q, hq, hpq, hE, s2, rfl, hpc⟩)
      · rw [if_neg e] at hb; cases hb
  · rw [if_pos (by rw [← hw, hwant])]
    have hkk : k' = k := by
      have e1 : ¬ k' < k := fun hlt => by
        have := (h.ek k' i he1).2 hlt
        rw [n.no] at this; cases this
      by_cases e2 : k < k'
      · have hk : k < d.es.length := by have := (List.getElem?_eq_some_iff.1 he1).1; omega
        have e3 := List.getElem?_eq_getElem hk
        have := (h.ek k _ e3).1 (n.pre _ (eff_lt hd hL e2 e3 he1))
        omega
      · omega
    subst hkk
    have hp : piece r = false := by unfold piece; rw [c]; rfl
    have hfr := h.fresh i r n.r n.no
    have hg0 := hs_at hh0
    have hg1 := hs_at hh1
    have hAt : Apart (d.rs.take i) := fun x y q q2 hxy hq hq2 => by
      rw [List.getElem?_take] at hq hq2
      split at hq
      · split at hq2
        · exact hA x y q q2 hxy hq hq2
        · cases hq2
      · cases hq
    have hKiff := addPcs_iff hadd hAt
    have hKsome : ∀ b ob, H.get b = some ob → (h0.get b = some ob ∧ True) ∨ ∃ (j : Nat) (q : Rc), d.rs[j]? = some q ∧ piece q = true ∧ inM ms j i = true ∧ notBefore ms (lastOf d.es k') j = true ∧ q.lo = b ∧ q.pc.get b = some ob := by
      intro b ob hb
      rw [hKiff b] at hb
      cases hg : pcsG (fun j => Bool.and (inM ms j i) (notBefore ms last j)) (d.rs.take i) 0 b with
      | none => rw [hg] at hb; exact .inl ⟨hb, trivial⟩
      | some ob2 =>
        rw [hg] at hb
        cases hb
        obtain ⟨j, q, g1, g2, g3, g4, g5⟩ := (pcsG_iff hAt).1 hg
        rw [Nat.zero_add] at g3
        obtain ⟨g6, g7⟩ := and2 g3
        rw [List.getElem?_take] at g1
        split at g1
        · exact .inr ⟨j, q, g1, g2, g6, by subst_vars; exact g7, g4, g5⟩
        · cases g1
    have hsub : ∀ b ob, H.get b = some ob → SG d ms E k' b = some ob := by
      intro b ob hb
      rcases hKsome b ob hb with ⟨hb, _⟩ | ⟨j, q, g1, g2, g3, g4, g5, g6⟩
      · exact (SG_iff hA).2 (.inl (by rw [hg0]; exact hb))
      · have hE := n.pre j g3
        refine (SG_iff hA).2 (.inr ⟨?_, j, q, g1, g2, hE, g4, g5, g6⟩)
        rw [← g5]; exact h.i1 j q hE g1 g2 g4
    have hnone : ∀ (j : Nat) (q : Rc), d.rs[j]? = some q → piece q = true → E j = true → inM ms j i = false → H.get q.lo = none := by
      intro j q hq hpq hE hj
      cases hg : H.get q.lo with
      | none => rfl
      | some ob =>
        exfalso
        rcases hKsome _ _ hg with ⟨hb, _⟩ | ⟨j2, q2, g1, g2, g3, g4, g5, g6⟩
        · have := h.i1 j q hE hq hpq (nbk hd hL he1 hj)
          rw [hg0, hb] at this; cases this
        · have := hA.uniq g1 hq g2 hpq g5
          subst this
          rw [hj] at g3; cases g3
    have hok := opF_ok (s := ⟨H, r.lo⟩) (s' := ⟨h1, r.hi⟩) hng hex hop (hS.sub hsub) hf hfr
    refine .inl (hok.wp he.symm _ _ fun M' v' w' hv hst => hK _ _ (k' + 1) M' (h.put hd hL n hv ?_ (.inr ⟨rfl, he1⟩) fun j q hj hq hpq hnq => ?_))
    · refine hst.frame hS hfr hsub fun b => ?_
      show SG d ms (ins E i) (k' + 1) b = if H.get b = none ∧ h1.get b = none then SG d ms E k' b else h1.get b
      have hins : ∀ (j : Nat) (q : Rc), d.rs[j]? = some q → piece q = true → ins E i j = true → E j = true := fun j q hq hpq hj => by
        by_cases e : j = i
        · subst e; rw [n.r] at hq; cases hq; rw [hp] at hpq; cases hpq
        · rw [ins_ne e] at hj; exact hj
      cases hg : h1.get b with
      | some ob => rw [if_neg (by simp)]; exact (SG_iff hA).2 (.inl (by rw [hg1]; exact hg))
      | none =>
        cases hgK : H.get b with
        | some ob =>
          rw [if_neg (by simp)]
          cases hgS : SG d ms (ins E i) (k' + 1) b with
          | none => rfl
          | some ob2 =>
            rcases (SG_iff hA).1 hgS with g | ⟨_, j, q, g1, g2, g3, g4, g5, g6⟩
            · rw [hg1, hg] at g; cases g
            · have := hnone j q g1 g2 (hins j q g1 g2 g3) ((nbs he1).1 g4)
              rw [g5, hgK] at this; cases this
        | none =>
          rw [if_pos ⟨rfl, rfl⟩]
          have hz := hKiff b
          rw [hgK] at hz
          have hz1 : pcsG (fun j => Bool.and (inM ms j i) (notBefore ms last j)) (d.rs.take i) 0 b = none ∧ h0.get b = none := by
            cases hq : pcsG (fun j => Bool.and (inM ms j i) (notBefore ms last j)) (d.rs.take i) 0 b with
            | none => rw [hq] at hz; exact ⟨rfl, hz.symm⟩
            | some _ => rw [hq] at hz; cases hz
          refine Option.ext fun ob => ?_
          rw [SG_iff hA, SG_iff hA, hg0, hg1, hg, hz1.2]
          constructor
          · rintro (g | ⟨_, j, q, g1, g2, g3, g4, g5⟩)
            · cases g
            · exact .inr ⟨rfl, j, q, g1, g2, hins j q g1 g2 g3, nbk hd hL he1 ((nbs he1).1 g4), g5⟩
          · rintro (g | ⟨_, j, q, g1, g2, g3, g4, g5, g6⟩)
            · cases g
            · refine .inr ⟨rfl, j, q, g1, g2, ins_of g3, (nbs he1).2 ?_, g5, g6⟩
              cases hm : inM ms j i with
              | false => rfl
              | true =>
                have hlt := hL.toMaskOk.lt hm
                have : pcsG (fun j => Bool.and (inM ms j i) (notBefore ms last j)) (d.rs.take i) 0 b = some ob :=
                  (pcsG_iff hAt).2 ⟨j, q, by rw [List.getElem?_take, if_pos hlt]; exact g1, g2, by rw [Nat.zero_add]; subst_vars; rw [hm, g4]; rfl, g5, g6⟩
                rw [hz1.1] at this; cases this
    · have e : j ≠ i := fun e => by subst e; rw [n.r] at hq; cases hq; rw [hp] at hpq; cases hpq
      rw [ins_ne e] at hj
      have hm := (nbs he1).1 hnq
      rw [hg1]
      cases hg : h1.get q.lo with
      | none => rfl
      | some ob =>
        exfalso
        rcases hst.dom q.lo (show h1.get q.lo ≠ none by rw [hg]; simp) with g | g
        · exact g (hnone j q hq hpq hj hm)
        · have g1 : r.lo ≤ q.lo := g.1
          have g2 : q.lo < r.hi := g.2
          have g3 := (piece_lt hpq).2
          rcases Nat.lt_or_gt_of_ne e with g4 | g4
          · have := hA j i q r g4 hq n.r; omega
          · have := hA i j r q g4 n.r hq; omega
end
end Go.Proofs.YtgdlfecppecooaaGreatDoor.ev
