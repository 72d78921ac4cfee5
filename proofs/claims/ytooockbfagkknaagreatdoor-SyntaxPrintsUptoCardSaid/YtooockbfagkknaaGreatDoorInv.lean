/- How far a parser goes, and how much it makes. -/
import Derived.Test.YtooockbfagkknaaGreatDoorSpec
namespace Go.Proofs.YtooockbfagkknaaGreatDoor.syn
open Go.RowKit Go.Proofs.YtooockbfagkknaaGreatDoor.sl Go.Proofs.YtooockbfagkknaaGreatDoor.cls
section
variable {G : List Gt}
@[simp] theorem wrong_i (s : Ps) (k : Nat) (e : Int) : (s.wrong G k e).i = s.i := by unfold Ps.wrong; split <;> rfl
@[simp] theorem wrong_opens (s : Ps) (k : Nat) (e : Int) : (s.wrong G k e).opens = s.opens := by unfold Ps.wrong; split <;> rfl
@[simp] theorem wrong_groups (s : Ps) (k : Nat) (e : Int) : (s.wrong G k e).groups = s.groups := by unfold Ps.wrong; split <;> rfl
theorem wrong_err (s : Ps) (k : Nat) {e : Int} (he : e ≠ 0) : (s.wrong G k e).err ≠ 0 := by
  unfold Ps.wrong
  split
  · exact he
  · assumption
@[simp] theorem next_i (s : Ps) : s.next.i = s.i + 1 := rfl
@[simp] theorem next_opens (s : Ps) : s.next.opens = s.opens := rfl
@[simp] theorem next_groups (s : Ps) : s.next.groups = s.groups := rfl
@[simp] theorem next_err (s : Ps) : s.next.err = s.err := rfl
theorem isR_lt {s : Ps} {r : Int} (h : isR G s r = true) : s.i < G.length := by
  unfold isR at h
  rcases hg : G[s.i]? with _ | g
  · rw [hg] at h; cases h
  · exact lt_of_some hg
theorem isR_next (s : Ps) (r : Int) : isR G s.next r = match G[s.i + 1]? with
  | some g => g.1 == r
  | none => false := rfl
/-- From s on to t. -/
structure Adv (G : List Gt) (s t : Ps) : Prop where
  le : s.i ≤ t.i
  len : t.i ≤ G.length
  op : t.opens = s.opens
  gr : s.groups ≤ t.groups
  gm : t.groups ≤ 4
theorem Adv.trans {s t u : Ps} (h : Adv G s t) (h' : Adv G t u) : Adv G s u :=
  ⟨Nat.le_trans h.le h'.le, h'.len, h'.op.trans h.op, Nat.le_trans h.gr h'.gr, h'.gm⟩
theorem Adv.refl {s : Ps} (h : s.i ≤ G.length) (hg : s.groups ≤ 4) : Adv G s s := ⟨Nat.le_refl _, h, rfl, Nat.le_refl _, hg⟩
theorem Adv.wrong {s t : Ps} (h : Adv G s t) (k : Nat) (e : Int) : Adv G s (t.wrong G k e) := ⟨by simpa using h.le, by simpa using h.len, by simpa using h.op, by simpa using h.gr, by simpa using h.gm⟩
theorem Adv.next {s t : Ps} (h : Adv G s t) (hl : t.i < G.length) : Adv G s t.next := ⟨by have := h.le; simp; omega, by simp; omega, h.op, h.gr, h.gm⟩
theorem Adv.skip {s t : Ps} (h : Adv G s t) (r : Int) : Adv G s (skipS G t r) := by
  unfold skipS
  split
  · rename_i h'
    exact h.next (isR_lt h')
  · exact h
theorem len4_r (s : Ps) (frm : Nat) (r : Int) : (sign1 G s frm r).1 = s ∨ (sign1 G s frm r).1 = s.wrong G frm 4 := by
  unfold sign1
  repeat' split
  all_goals first | exact .inl rfl | exact .inr rfl
theorem makeF_len (l : List Rg) : (makeF l).length ≤ 2 * l.length := (makeF_makes l).2.2
theorem sign1_len (s : Ps) (frm : Nat) (r : Int) : (sign1 G s frm r).2.1.length ≤ 8 := by
  unfold sign1 singleF
  repeat' split
  all_goals first | exact Nat.le_trans (makeF_len _) (by simp) | simp
theorem signF_adv {s t : Ps} (h : Adv G s t) (hl : t.i < G.length) : Adv G s (signF G t).1 ∧ t.i < (signF G t).1.i ∧ (signF G t).2.1.length ≤ 8 := by
  unfold signF
  simp only
  split
  · exact ⟨(h.next hl).wrong _ _, by simp, by simp⟩
  · split
    · exact ⟨(h.next hl).wrong _ _, by simp, by simp⟩
    · rename_i h1 _
      have a := (h.next hl).next (by simp at h1 ⊢; omega)
      refine ⟨?_, ?_, sign1_len _ _ _⟩
      · rcases len4_r (G := G) t.next.next t.i (runeAt G t.next.i) with e | e <;> rw [e]
        · exact a
        · exact a.wrong _ _
      · rcases len4_r (G := G) t.next.next t.i (runeAt G t.next.i) with e | e <;> rw [e] <;> simp <;> omega
theorem partF_adv {s t : Ps} (h : Adv G s t) (hl : t.i < G.length) : Adv G s (partF G t).1 ∧ ((partF G t).2.1 ≠ [] → t.i < (partF G t).1.i) ∧ (partF G t).2.1.length ≤ 8 := by
  unfold partF
  split
  · exact ⟨h.wrong _ _, by simp, by simp⟩
  · simp only
    split
    · obtain ⟨a, b, c⟩ := signF_adv h hl
      exact ⟨a, fun _ => b, c⟩
    · split
      · exact ⟨h, by simp, by simp⟩
      · exact ⟨h.next hl, fun _ => by simp, by simp⟩
theorem item2_adv {s t : Ps} (h : Adv G s t) (a : List Rg) (one : Bool) (frm : Nat) : Adv G s (item2 G a one frm t).1 ∧ t.i ≤ (item2 G a one frm t).1.i ∧ (item2 G a one frm t).2.length ≤ 8 := by
  have key : Adv G s (if t.i < G.length then partF G t else (t, [], false)).1 ∧ t.i ≤ (if t.i < G.length then partF G t else (t, [], false)).1.i := by
    split
    · rename_i hl
      refine ⟨(partF_adv h hl).1, ?_⟩
      exact ((partF_adv (Adv.refl (s := t) h.len h.gm) hl).1).le
    · exact ⟨h, Nat.le_refl _⟩
  unfold item2
  simp only
  generalize (if t.i < G.length then partF G t else (t, [], false)) = b at key
  obtain ⟨k1, k2⟩ := key
  repeat' split
  all_goals first | exact ⟨k1.wrong _ _, by simpa using k2, by simp⟩ | exact ⟨k1, k2, by simp⟩
theorem itemF_adv {s t : Ps} (h : Adv G s t) (hl : t.i < G.length) : Adv G s (itemF G t).1 ∧ ((itemF G t).1.err = 0 → t.i < (itemF G t).1.i) ∧ (itemF G t).2.length ≤ 8 := by
  obtain ⟨k1, k2, k3⟩ := partF_adv h hl
  have k1' := (partF_adv (Adv.refl (s := t) h.len h.gm) hl).1
  unfold itemF
  simp only
  split
  · rename_i he
    exact ⟨k1, fun e => absurd e he, by simp⟩
  · split
    · exact ⟨k1.wrong _ _, fun e => absurd e (wrong_err _ _ (by decide)), by simp⟩
    · rename_i _ hne
      have k4 := k2 hne
      split
      · rename_i hR
        obtain ⟨a1, a2, a3⟩ := item2_adv (k1.next (isR_lt hR)) (partF G t).2.1 (partF G t).2.2 t.i
        exact ⟨a1, fun _ => by simp at a2; omega, a3⟩
      · exact ⟨k1, fun _ => k4, k3⟩
theorem clsGo_adv {s : Ps} (frm : Nat) : ∀ (n : Nat) (t : Ps) (l : List Rg) (b : Bool), Adv G s t → Adv G s (clsGo G frm n t l b).1 ∧ t.i ≤ (clsGo G frm n t l b).1.i
  | 0, t, l, b, h => ⟨h, Nat.le_refl _⟩
  | n + 1, t, l, b, h => by
    unfold clsGo
    split
    · split
      · exact ⟨h.wrong _ _, by simp⟩
      · rename_i h2
        have hl : t.i < G.length := by omega
        have a := itemF_adv h hl
        have a' := (itemF_adv (Adv.refl (s := t) h.len h.gm) hl).1.le
        have b := clsGo_adv frm n (itemF G t).1 (l ++ (itemF G t).2) false a.1
        exact ⟨b.1, Nat.le_trans a' b.2⟩
    · exact ⟨h, Nat.le_refl _⟩
/-- With so much fuel the loop ends where it should: it stands before the ], or something is wrong. -/
theorem clsGo_end (frm : Nat) : ∀ (n : Nat) (t : Ps) (l : List Rg) (b : Bool), t.i ≤ G.length → t.groups ≤ 4 → (G.length + 1 < n + t.i ∨ t.err ≠ 0 ∧ 0 < n) → (clsGo G frm n t l b).1.err ≠ 0 ∨ isR G (clsGo G frm n t l b).1 93 = true
  | 0, t, l, b, h, hg, hn => by omega
  | n + 1, t, l, b, h, hg, hn => by
    unfold clsGo
    split
    · split
      · exact .inl (wrong_err _ _ (by decide))
      · rename_i h1 h2
        have hl : t.i < G.length := by omega
        obtain ⟨a1, a2, a3⟩ := itemF_adv (Adv.refl (s := t) h hg) hl
        refine clsGo_end frm n _ _ _ a1.len a1.gm ?_
        by_cases he : (itemF G t).1.err = 0
        · have := a2 he
          left; omega
        · right
          refine ⟨he, ?_⟩
          omega
    · rename_i h1
      by_cases he : t.err = 0
      · right
        cases hR : isR G t 93
        · exact absurd ⟨he, hR⟩ h1
        · rfl
      · exact .inl he
theorem digGo_le : ∀ (n i : Nat) (b : List UInt8), i ≤ (digGo G n i b).1 ∧ ((digGo G n i b).1 ≤ G.length ∨ (digGo G n i b).1 = i) ∧ (digGo G n i b).2.length + i ≤ b.length + (digGo G n i b).1
  | 0, i, b => ⟨Nat.le_refl _, .inr rfl, Nat.le_refl _⟩
  | n + 1, i, b => by
    unfold digGo
    split
    · rename_i h
      obtain ⟨h1, h2, h3⟩ := digGo_le n (i + 1) (if 48 < runeAt G i ∨ b ≠ [] then b ++ [UInt8.ofNat (runeAt G i).toNat] else b)
      refine ⟨by omega, by omega, ?_⟩
      split at h3
      · rename_i hc
        rw [if_pos hc]
        simp at h3
        omega
      · rename_i hc
        rw [if_neg hc]
        omega
    · exact ⟨Nat.le_refl _, .inr rfl, Nat.le_refl _⟩
theorem digS_adv {s t : Ps} (h : Adv G s t) : Adv G s (digS G t) ∧ t.i ≤ (digS G t).i := by
  have a := digGo_le (G := G) (G.length - t.i) t.i []
  have h1 : t.i ≤ (digS G t).i := a.1
  have h2 : (digS G t).i ≤ G.length := by
    rcases a.2.1 with e | e
    · exact e
    · show (digGo G _ _ _).1 ≤ _
      rw [e]; exact h.len
  exact ⟨⟨Nat.le_trans h.le h1, h2, h.op, h.gr, h.gm⟩, h1⟩
theorem often2_adv {s t : Ps} (h : Adv G s t) (frm : Nat) (m n : List UInt8) (ok en : Bool) : Adv G s (often2 G frm t m n ok en).1 ∧ t.i ≤ (often2 G frm t m n ok en).1.i := by
  unfold often2
  split
  · exact ⟨h.wrong _ _, by simp⟩
  · split
    · exact ⟨h.wrong _ _, by simp⟩
    · rename_i hR
      have a := h.next (isR_lt (by simpa using hR))
      split
      · exact ⟨a.wrong _ _, by simp⟩
      · simp only
        by_cases hv : (valF m).2 = false ∨ (valF (if en = true then [] else n)).2 = false
        · rw [if_pos hv]
          exact ⟨a.wrong _ _, by simp⟩
        · rw [if_neg hv]
          exact ⟨a, by simp⟩
theorem oftenF_adv {s t : Ps} (h : Adv G s t) (hl : t.i < G.length) : Adv G s (oftenF G t).1 ∧ t.i < (oftenF G t).1.i := by
  obtain ⟨a1, a2⟩ := digS_adv (h.next hl)
  simp only [next_i] at a2
  unfold oftenF
  simp only
  split
  · rename_i hc
    obtain ⟨b1, b2⟩ := digS_adv (a1.next (isR_lt hc.2))
    simp only [next_i] at b2
    obtain ⟨c1, c2⟩ := often2_adv b1 t.i (digB G t.next) (digB G (digS G t.next).next) (digK G t.next) (!digK G (digS G t.next).next)
    exact ⟨c1, by omega⟩
  · obtain ⟨c1, c2⟩ := often2_adv a1 t.i (digB G t.next) (digB G t.next) (digK G t.next) false
    exact ⟨c1, by omega⟩
theorem clsF_adv {s t : Ps} (h : Adv G s t) (hl : t.i < G.length) : Adv G s (clsF G t).1 ∧ t.i < (clsF G t).1.i ∧ (clsF G t).2.length ≤ 1 := by
  have h1 := (h.next hl).skip 94
  have e1 : t.i < (skipS G t.next 94).i := by unfold skipS; split <;> simp <;> omega
  obtain ⟨a1, a2⟩ := clsGo_adv t.i (G.length + 2 - (skipS G t.next 94).i) _ ([] : List Rg) true h1
  have a3 := clsGo_end (G := G) t.i (G.length + 2 - (skipS G t.next 94).i) (skipS G t.next 94) [] true h1.len h1.gm (by have := h1.len; omega)
  unfold clsF
  simp only
  generalize clsGo G t.i (G.length + 2 - (skipS G t.next 94).i) (skipS G t.next 94) [] true = c at a1 a2 a3
  split
  · exact ⟨a1, by show t.i < c.1.i; omega, by simp⟩
  · split
    · exact ⟨a1, by show t.i < c.1.i; omega, by simp⟩
    · rename_i he
      split
      · exact ⟨a1.wrong _ _, by simp; omega, by simp⟩
      · have he' : c.1.err = 0 := by simpa using he
        have hR : isR G c.1 93 = true := by rcases a3 with h | h; exact absurd he' h; exact h
        exact ⟨a1.next (isR_lt hR), by simp; omega, by simp⟩
/-- What is asked of the reading of what stands in brackets. -/
def AltOk (G : List Gt) (alt : Ps → Ps × List Nd) : Prop := ∀ s, s.i ≤ G.length → s.groups ≤ 4 → Adv G s (alt s).1 ∧ (alt s).2.length ≤ 3 * ((alt s).1.i - s.i) + 1
variable {alt : Ps → Ps × List Nd}
theorem groupF_adv (A : AltOk G alt) {t : Ps} (hl : t.i < G.length) (hg : t.groups ≤ 4) : Adv G t (groupF G alt t).1 ∧ ((groupF G alt t).1.err = 0 → t.i < (groupF G alt t).1.i) ∧ (groupF G alt t).2.length ≤ 3 * ((groupF G alt t).1.i - t.i) := by
  have h1 : Adv G t t.next := (Adv.refl (Nat.le_of_lt hl) hg).next hl
  unfold groupF
  simp only
  generalize hfree : isR G t.next 63 = free
  generalize hs2 : (if free = true then t.next.next else t.next) = s2
  have h2 : Adv G t s2 ∧ t.i < s2.i := by
    subst hs2
    split
    · rename_i hf
      subst hf
      exact ⟨h1.next (isR_lt hfree), by simp; omega⟩
    · exact ⟨h1, by simp⟩
  split
  · exact ⟨h2.1.wrong _ _, fun e => absurd e (wrong_err _ _ (by decide)), by simp⟩
  · rename_i hno
    generalize hs3 : (if free = true then s2.next else s2) = s3
    have h3 : Adv G t s3 ∧ t.i < s3.i := by
      subst hs3
      split
      · rename_i hf
        have : isR G s2 58 = true := by
          cases hR : isR G s2 58
          · exact absurd ⟨hf, hR⟩ hno
          · rfl
        exact ⟨h2.1.next (isR_lt this), by simp; omega⟩
      · exact h2
    split
    · exact ⟨h3.1.wrong _ _, fun e => absurd e (wrong_err _ _ (by decide)), by simp⟩
    · split
      · exact ⟨h3.1.wrong _ _, fun e => absurd e (wrong_err _ _ (by decide)), by simp⟩
      · rename_i hno2
        generalize hs4 : (if free = true then s3 else ({ s3 with groups := s3.groups + 1 } : Ps)) = s4
        have h4 : s4.i = s3.i ∧ s4.opens = s3.opens ∧ s3.groups ≤ s4.groups ∧ s4.groups ≤ 4 := by
          subst hs4
          have := h3.1.gm
          split
          · exact ⟨rfl, rfl, Nat.le_refl _, this⟩
          · rename_i hf
            have : ¬ 4 ≤ s3.groups := fun h => hno2 ⟨by simpa using hf, h⟩
            exact ⟨rfl, rfl, by simp, by simp; omega⟩
        have h3l := h3.1.len
        obtain ⟨b1, b2⟩ := A { s4 with opens := s4.opens + 1 } (by simp [h4.1, h3l]) h4.2.2.2
        generalize alt { s4 with opens := s4.opens + 1 } = a at b1 b2
        simp only [h4.1] at b2
        have b1l := b1.le
        simp only [h4.1] at b1l
        have h5 : Adv G t ({ a.1 with opens := a.1.opens - 1 } : Ps) := by
          refine ⟨?_, b1.len, ?_, ?_, b1.gm⟩
          · have := h3.2; simp; omega
          · have := b1.op; have := h3.1.op; simp at *; omega
          · have := b1.gr; have := h3.1.gr; simp at *; omega
        split
        · exact ⟨h5.wrong _ _, fun e => absurd e (wrong_err _ _ (by decide)), by simp⟩
        · rename_i hno3
          have h6 : Adv G t (if a.1.err = 0 then ({ a.1 with opens := a.1.opens - 1 } : Ps).next else ({ a.1 with opens := a.1.opens - 1 } : Ps)) ∧ a.1.i ≤ (if a.1.err = 0 then ({ a.1 with opens := a.1.opens - 1 } : Ps).next else ({ a.1 with opens := a.1.opens - 1 } : Ps)).i ∧ (a.1.err = 0 → (if a.1.err = 0 then ({ a.1 with opens := a.1.opens - 1 } : Ps).next else ({ a.1 with opens := a.1.opens - 1 } : Ps)).i = a.1.i + 1) := by
            split
            · rename_i he
              have hR : isR G ({ a.1 with opens := a.1.opens - 1 } : Ps) 41 = true := by
                cases hR : isR G ({ a.1 with opens := a.1.opens - 1 } : Ps) 41
                · exact absurd ⟨he, hR⟩ hno3
                · rfl
              exact ⟨h5.next (isR_lt hR), by simp, fun _ => rfl⟩
            · rename_i he
              exact ⟨h5, by simp, fun e => absurd e he⟩
          have hlen : a.2.length + 1 ≤ 3 * ((if a.1.err = 0 then ({ a.1 with opens := a.1.opens - 1 } : Ps).next else ({ a.1 with opens := a.1.opens - 1 } : Ps)).i - t.i) := by
            have := h6.2.1; have := h3.2; omega
          generalize (if a.1.err = 0 then ({ a.1 with opens := a.1.opens - 1 } : Ps).next else ({ a.1 with opens := a.1.opens - 1 } : Ps)) = s6 at h6 hlen
          have := h3.2
          split
          · exact ⟨h6.1, fun _ => by have := h6.2.1; simp; omega, by simp; omega⟩
          · exact ⟨h6.1, fun _ => by have := h6.2.1; simp; omega, by simp; omega⟩
theorem atomF_adv (A : AltOk G alt) {t : Ps} (hl : t.i < G.length) (hg : t.groups ≤ 4) : Adv G t (atomF G alt t).1 ∧ ((atomF G alt t).1.err = 0 → t.i < (atomF G alt t).1.i) ∧ (atomF G alt t).2.length ≤ 3 * ((atomF G alt t).1.i - t.i) := by
  have h0 : Adv G t t := Adv.refl (Nat.le_of_lt hl) hg
  have h1 : Adv G t t.next := h0.next hl
  have hw : Adv G t (t.wrong G t.i 4) ∧ ((t.wrong G t.i 4).err = 0 → t.i < (t.wrong G t.i 4).i) ∧ ([] : List Nd).length ≤ 3 * ((t.wrong G t.i 4).i - t.i) := ⟨h0.wrong _ _, fun e => absurd e (wrong_err _ _ (by decide)), by simp⟩
  have hn : ∀ x : Nd, Adv G t t.next ∧ (t.next.err = 0 → t.i < t.next.i) ∧ [x].length ≤ 3 * (t.next.i - t.i) := fun x => ⟨h1, fun _ => by simp, by simp⟩
  unfold atomF
  split
  · exact hw
  · simp only
    split
    · exact groupF_adv A hl hg
    · split
      · obtain ⟨a, b, c⟩ := clsF_adv h0 hl
        exact ⟨a, fun _ => b, by omega⟩
      · split
        · obtain ⟨a, b, c⟩ := signF_adv h0 hl
          exact ⟨a, fun _ => b, by simp; omega⟩
        · split
          · exact hn _
          · split
            · exact hn _
            · split
              · exact hn _
              · split
                · exact hw
                · exact hn _
theorem rep2_adv {s t : Ps} (h : Adv G s t) (mn mx : Int) (x : List Nd) : Adv G s (rep2 G t mn mx x).1 ∧ t.i ≤ (rep2 G t mn mx x).1.i ∧ (rep2 G t mn mx x).2.length ≤ x.length + 1 := by
  unfold rep2
  split
  · exact ⟨h, Nat.le_refl _, by simp⟩
  · refine ⟨h.skip 63, ?_, by simp⟩
    unfold skipS
    split <;> simp
theorem repF_adv (A : AltOk G alt) {t : Ps} (hl : t.i < G.length) (hg : t.groups ≤ 4) : Adv G t (repF G alt t).1 ∧ ((repF G alt t).1.err = 0 → t.i < (repF G alt t).1.i) ∧ (repF G alt t).2.length ≤ 3 * ((repF G alt t).1.i - t.i) := by
  obtain ⟨a1, a2, a3⟩ := atomF_adv A hl hg
  unfold repF
  simp only
  generalize atomF G alt t = a at a1 a2 a3
  have al := a1.le
  split
  · rename_i he
    exact ⟨a1, fun e => absurd e he, by simp⟩
  · rename_i he
    have he' : a.1.err = 0 := by simpa using he
    have key : ∀ (r mn mx : Int), isR G a.1 r = true → Adv G t (rep2 G a.1.next mn mx a.2).1 ∧ ((rep2 G a.1.next mn mx a.2).1.err = 0 → t.i < (rep2 G a.1.next mn mx a.2).1.i) ∧ (rep2 G a.1.next mn mx a.2).2.length ≤ 3 * ((rep2 G a.1.next mn mx a.2).1.i - t.i) := fun r mn mx hR => by
      obtain ⟨b1, b2, b3⟩ := rep2_adv (a1.next (isR_lt hR)) mn mx a.2
      simp only [next_i] at b2
      exact ⟨b1, fun _ => by omega, by omega⟩
    split
    · rename_i hR; exact key _ _ _ hR
    · split
      · rename_i hR; exact key _ _ _ hR
      · split
        · rename_i hR; exact key _ _ _ hR
        · split
          · rename_i hR
            obtain ⟨c1, c2⟩ := oftenF_adv a1 (isR_lt hR)
            obtain ⟨b1, b2, b3⟩ := rep2_adv c1 (oftenF G a.1).2.1 (oftenF G a.1).2.2 a.2
            exact ⟨b1, fun _ => by omega, by omega⟩
          · exact ⟨a1, a2, a3⟩
def total (ps : List (List Nd)) : Nat := ps.flatten.length
theorem total_snoc (ps : List (List Nd)) (x : List Nd) : total (ps ++ [x]) = total ps + x.length := by simp [total]
theorem joined_len (op : Int) : ∀ ps : List (List Nd), (joined op ps).length ≤ total ps + 1
  | [] => by simp [joined, total]
  | [x] => by simp [joined, total]
  | x :: y :: ps => by simp [joined, total]
theorem joined_one (op : Int) (x : List Nd) : joined op [x] = x := rfl
theorem catGo_adv (A : AltOk G alt) {s : Ps} : ∀ (n : Nat) (t : Ps) (ps : List (List Nd)), Adv G s t → total ps ≤ 3 * (t.i - s.i) → Adv G s (catGo G alt n t ps).1 ∧ total (catGo G alt n t ps).2 ≤ 3 * ((catGo G alt n t ps).1.i - s.i)
  | 0, t, ps, h, hp => ⟨h, hp⟩
  | n + 1, t, ps, h, hp => by
    unfold catGo
    split
    · rename_i hc
      obtain ⟨a1, a2, a3⟩ := repF_adv A hc.2.1 h.gm
      have l1 := a1.le
      have l2 := h.le
      refine catGo_adv A n _ _ (h.trans a1) ?_
      rw [total_snoc]
      omega
    · exact ⟨h, hp⟩
theorem catF_adv (A : AltOk G alt) {s : Ps} (hl : s.i ≤ G.length) (hg : s.groups ≤ 4) : Adv G s (catF G alt s).1 ∧ (catF G alt s).2.length ≤ 3 * ((catF G alt s).1.i - s.i) + 1 := by
  obtain ⟨a1, a2⟩ := catGo_adv A (G.length + 2 - s.i) s [] (Adv.refl hl hg) (by simp [total])
  exact ⟨a1, Nat.le_trans (joined_len _ _) (by show total (catGo G alt (G.length + 2 - s.i) s []).2 + 1 ≤ _; exact Nat.succ_le_succ a2)⟩
theorem altGo_adv (A : AltOk G alt) {s : Ps} : ∀ (n : Nat) (t : Ps) (ps : List (List Nd)), Adv G s t → 0 < ps.length → total ps + 2 * ps.length ≤ 3 * (t.i - s.i) + 3 → Adv G s (altGo G alt n t ps).1 ∧ 0 < (altGo G alt n t ps).2.length ∧ total (altGo G alt n t ps).2 + 2 * (altGo G alt n t ps).2.length ≤ 3 * ((altGo G alt n t ps).1.i - s.i) + 3
  | 0, t, ps, h, h0, hp => ⟨h, h0, hp⟩
  | n + 1, t, ps, h, h0, hp => by
    unfold altGo
    split
    · rename_i hc
      have hn := h.next (isR_lt hc.2)
      obtain ⟨a1, a2⟩ := catF_adv A (s := t.next) hn.len hn.gm
      have l1 := a1.le
      have l2 := h.le
      simp only [next_i] at l1 a2
      refine altGo_adv A n _ _ (hn.trans a1) (by simp) ?_
      rw [total_snoc, List.length_append]
      simp only [List.length_singleton]
      omega
    · exact ⟨h, h0, hp⟩
theorem joined_len2 (op : Int) (ps : List (List Nd)) (h : 0 < ps.length) : (joined op ps).length + 2 ≤ total ps + 2 * ps.length := by
  match ps, h with
  | [x], _ => simp [joined, total]
  | x :: y :: ps, _ => simp [joined, total]; omega
theorem alt1_adv (A : AltOk G alt) {s : Ps} (hl : s.i ≤ G.length) (hg : s.groups ≤ 4) : Adv G s (alt1 G alt s).1 ∧ (alt1 G alt s).2.length ≤ 3 * ((alt1 G alt s).1.i - s.i) + 1 := by
  obtain ⟨a1, a2⟩ := catF_adv A (s := s) hl hg
  unfold alt1
  simp only
  generalize catF G alt s = c at a1 a2
  obtain ⟨b1, b2, b3⟩ := altGo_adv A (G.length + 2 - c.1.i) c.1 [c.2] a1 (by simp) (by simp [total]; omega)
  have := joined_len2 4 _ b2
  exact ⟨b1, by omega⟩
theorem altF_ok : ∀ n, AltOk G (altF G n)
  | 0 => fun s h hg => ⟨Adv.refl h hg, by simp [altF]⟩
  | n + 1 => fun s h hg => alt1_adv (altF_ok n) h hg
end
end Go.Proofs.YtooockbfagkknaaGreatDoor.syn
