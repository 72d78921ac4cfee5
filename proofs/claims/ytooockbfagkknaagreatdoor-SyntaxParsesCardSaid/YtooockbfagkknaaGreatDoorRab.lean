/- How far the document's parser goes, and how much it makes. -/
import Derived.Test.YtooockbfagkknaaGreatDoorPln
import Derived.Test.YtooockbfagkknaaGreatDoorInv
import Derived.Test.YtooockbfagkknaaGreatDoorR10m
namespace Go.Proofs.YtooockbfagkknaaGreatDoor.syn
open Go.RowKit Go.Proofs.YtooockbfagkknaaGreatDoor.sl Go.Proofs.YtooockbfagkknaaGreatDoor.cls
section
variable {G : List Gt}
/-- From s on to t, by no more than m behind the end. -/
structure RAd (G : List Gt) (m : Nat) (s t : Ps) : Prop where
  le : s.i ≤ t.i
  top : t.i ≤ G.length + m
  ok : t.err = 0 → t.i ≤ G.length
  gm : t.groups ≤ 4
theorem RAd.refl {m : Nat} {s : Ps} (h : s.i ≤ G.length) (hg : s.groups ≤ 4) : RAd G m s s := ⟨Nat.le_refl _, by omega, fun _ => h, hg⟩
theorem RAd.mono {m n : Nat} {s t : Ps} (h : RAd G m s t) (hm : m ≤ n) : RAd G n s t := ⟨h.le, by have := h.top; omega, h.ok, h.gm⟩
theorem RAd.trans {m : Nat} {s t u : Ps} (h : s.i ≤ t.i) (h' : RAd G m t u) : RAd G m s u := ⟨Nat.le_trans h h'.le, h'.top, h'.ok, h'.gm⟩
theorem RAd.wrong {m : Nat} {s t : Ps} (h : RAd G m s t) (k : Nat) {e : Int} (he : e ≠ 0) : RAd G m s (t.wrong G k e) := ⟨by simpa using h.le, by simpa using h.top, fun h0 => absurd h0 (wrong_err t k he), by simpa using h.gm⟩
theorem RAd.skip {m : Nat} {s t : Ps} (h : RAd G m s t) (r : Int) : RAd G m s (skipS G t r) := by
  unfold skipS
  split
  · rename_i h'
    have := isR_lt h'
    exact ⟨by have := h.le; simp; omega, by simp; omega, fun _ => by simp; omega, h.gm⟩
  · exact h
/-- Within the text, the groups as they were. -/
structure Inn (G : List Gt) (s t : Ps) : Prop where
  le : s.i ≤ t.i
  top : t.i ≤ G.length
  gr : t.groups = s.groups
theorem Inn.refl {s : Ps} (h : s.i ≤ G.length) : Inn G s s := ⟨Nat.le_refl _, h, rfl⟩
theorem Inn.wrong {s t : Ps} (h : Inn G s t) (k : Nat) (e : Int) : Inn G s (t.wrong G k e) := ⟨by simpa using h.le, by simpa using h.top, by simpa using h.gr⟩
theorem Inn.next {s t : Ps} (h : Inn G s t) (hl : t.i < G.length) : Inn G s t.next := ⟨by have := h.le; simp; omega, by simp; omega, h.gr⟩
theorem Inn.trans {s t u : Ps} (h : Inn G s t) (h' : Inn G t u) : Inn G s u := ⟨Nat.le_trans h.le h'.le, h'.top, h'.gr.trans h.gr⟩
theorem Inn.rad {s t : Ps} (h : Inn G s t) (hg : s.groups ≤ 4) (m : Nat) : RAd G m s t := ⟨h.le, by have := h.top; omega, fun _ => h.top, by rw [h.gr]; exact hg⟩
theorem Inn.skip {s t : Ps} (h : Inn G s t) (r : Int) : Inn G s (skipS G t r) := by
  unfold skipS
  split
  · rename_i h'
    exact h.next (isR_lt h')
  · exact h
theorem rEsc_inn {s : Ps} (h : s.i ≤ G.length) (f : Nat) : Inn G s (rEsc G s f).1 ∧ (rEsc G s f).2.length ≤ 8 := by
  unfold rEsc
  simp only
  repeat' split
  all_goals first
    | exact ⟨(Inn.refl h).wrong _ _, by simp⟩
    | exact ⟨(Inn.refl h).next (by omega), Nat.le_trans (makeF_len _) (by simp)⟩
    | exact ⟨(Inn.refl h).next (by omega), by simp⟩
    | exact ⟨((Inn.refl h).next (by omega)).wrong _ _, by simp⟩
theorem rItem_inn {s : Ps} (h : s.i < G.length) : Inn G s.next (rItem G s).1 ∧ (rItem G s).2.length ≤ 8 := by
  have h0 : s.next.i ≤ G.length := by simp; omega
  unfold rItem
  simp only
  repeat' split
  all_goals first
    | exact ⟨(Inn.refl h0).wrong _ _, by simp⟩
    | exact rEsc_inn h0 _
    | exact ⟨Inn.refl h0, by simp⟩
theorem rMore_inn {s : Ps} (h : s.i ≤ G.length) (f : Nat) (a l : List Rg) : Inn G s (rMore G s f a l).1 := by
  unfold rMore
  split
  · exact Inn.refl h
  · rename_i h1
    have h2 : isR G s 45 = true := by
      cases hb : isR G s 45
      · exact absurd (.inr hb) h1
      · rfl
    have hn := (Inn.refl h).next (isR_lt h2)
    simp only
    split
    · exact hn.wrong _ _
    · rename_i h3
      have h4 : s.next.i < G.length := by
        rcases Nat.lt_or_ge s.next.i G.length with h | h
        · exact h
        · exact absurd (.inl h) h3
      have h5 := (rItem_inn h4).1
      have h6 : Inn G s (rItem G s.next).1 := ⟨by have := h5.le; simp at this; omega, h5.top, h5.gr⟩
      repeat' split
      all_goals first
        | exact h6.wrong _ _
        | exact h6
theorem rClsGo_inn : ∀ (n : Nat) (s : Ps) (l : List Rg) (any : Bool), s.i ≤ G.length → Inn G s (rClsGo G n s l any).1
  | 0, s, l, any, h => Inn.refl h
  | n + 1, s, l, any, h => by
    unfold rClsGo
    split
    · rename_i hc
      have h1 := (rItem_inn hc.2.1).1
      have h2 := rMore_inn h1.top s.i (rItem G s).2 l
      have h3 : Inn G s (rMore G (rItem G s).1 s.i (rItem G s).2 l).1 := ⟨by have := h1.le; have := h2.le; simp at *; omega, h2.top, by rw [h2.gr, h1.gr]; rfl⟩
      simp only
      split
      · exact h3
      · exact h3.trans (rClsGo_inn n _ _ _ h3.top)
    · exact Inn.refl h
theorem rCls_rad {s : Ps} (h : s.i ≤ G.length) (hg : s.groups ≤ 4) (f : Nat) : RAd G 1 s (rCls G s f).1 ∧ s.i + 1 ≤ (rCls G s f).1.i := by
  have h1 := (Inn.refl h).skip 94
  have h2 := h1.trans (rClsGo_inn (G.length + 2 - (skipS G s 94).i) (skipS G s 94) [] false h1.top)
  unfold rCls
  simp only
  generalize rClsGo G (G.length + 2 - (skipS G s 94).i) (skipS G s 94) [] false = c at h2
  have l1 := h2.le
  have l2 := h2.top
  have l3 := h2.gr
  split
  · refine ⟨⟨by simp; omega, by simp; omega, fun h0 => ?_, by simp; omega⟩, by simp; omega⟩
    exact absurd h0 (wrong_err c.1 f (by decide))
  · rename_i hc
    refine ⟨⟨by simp; omega, by simp; omega, fun h0 => ?_, by simp; omega⟩, by simp; omega⟩
    have : isR G c.1 93 = true := by
      cases hb : isR G c.1 93
      · exact absurd ⟨h0, .inr hb⟩ hc
      · rfl
    have := isR_lt this
    simp
    omega
theorem rCounts2_rad {s : Ps} (h : s.i ≤ G.length) (hg : s.groups ≤ 4) (f : Nat) (m n : List UInt8) (ok op : Bool) : RAd G 1 s (rCounts2 G f s m n ok op).1 ∧ s.i + 1 ≤ (rCounts2 G f s m n ok op).1.i := by
  have key : ∀ t : Ps, t.i = s.i → t.groups = s.groups → (t.err = 0 → t.i < G.length) → RAd G 1 s t.next ∧ s.i + 1 ≤ t.next.i := fun t e1 e2 e3 =>
    ⟨⟨by simp; omega, by simp; omega, fun h0 => by have := e3 h0; simp; omega, by simp; omega⟩, by simp; omega⟩
  unfold rCounts2
  simp only
  have h1 : ∀ t : Ps, RAd G 1 s t.next ∧ s.i + 1 ≤ t.next.i → ∀ (p : Prop) [Decidable p], RAd G 1 s (if p then t.next.wrong G f 2 else t.next) ∧ s.i + 1 ≤ (if p then t.next.wrong G f 2 else t.next).i := by
    intro t ht p _
    split
    · exact ⟨ht.1.wrong _ (by decide), by simpa using ht.2⟩
    · exact ht
  apply h1
  split
  · exact key _ (by simp) (by simp) fun h0 => absurd h0 (wrong_err s f (by decide))
  · rename_i hc
    refine key _ rfl rfl fun _ => ?_
    have : isR G s 125 = true := by
      cases hb : isR G s 125
      · exact absurd (.inr (.inl hb)) hc
      · rfl
    exact isR_lt this
theorem digS_inn {s t : Ps} (h : Inn G s t) : Inn G s (digS G t) := by
  have hd := digGo_le (G := G) (G.length - t.i) t.i []
  have e1 : (digS G t).i = (digGo G (G.length - t.i) t.i []).1 := rfl
  have l1 := h.le
  have l2 := h.top
  refine ⟨by omega, ?_, h.gr⟩
  rw [e1]
  rcases hd.2.1 with h0 | h0 <;> omega
theorem rCounts_rad {s : Ps} (h : s.i < G.length) (hg : s.groups ≤ 4) : RAd G 1 s (rCounts G s).1 ∧ s.i + 1 ≤ (rCounts G s).1.i := by
  have h1 := (Inn.refl (Nat.le_of_lt h)).next h
  have h2 := digS_inn h1
  have hi : s.i + 1 ≤ (digS G s.next).i := by have := (digS_inn (Inn.refl h1.top)).le; simpa using this
  have h0 := h2.gr
  unfold rCounts
  simp only
  split
  · rename_i hc
    have h3 := digS_inn (h2.next (isR_lt hc.2))
    have h4 := h3.gr
    obtain ⟨a, b⟩ := rCounts2_rad h3.top (by omega) s.i (digB G s.next) (digB G (digS G s.next).next) (digK G s.next) (!digK G (digS G s.next).next)
    have := h3.le
    exact ⟨RAd.trans this a, by omega⟩
  · obtain ⟨a, b⟩ := rCounts2_rad h2.top (by omega) s.i (digB G s.next) (digB G s.next) (digK G s.next) false
    exact ⟨RAd.trans h2.le a, by omega⟩
theorem rClosed_rad {m : Nat} {s t : Ps} (h : RAd G m s t) (f : Nat) : RAd G (m + 1) s (rClosed G t f) ∧ (rClosed G t f).i = t.i + 1 := by
  unfold rClosed
  have l1 := h.le
  have l2 := h.top
  have l3 := h.gm
  split
  · exact ⟨⟨by simp; omega, by simp; omega, fun h0 => absurd h0 (wrong_err t f (by decide)), by simpa using l3⟩, by simp⟩
  · rename_i hc
    refine ⟨⟨by simp; omega, by simp; omega, fun h0 => ?_, by simpa using l3⟩, by simp⟩
    have : isR G t 41 = true := by
      cases hb : isR G t 41
      · exact absurd ⟨h0, hb⟩ hc
      · rfl
    have := isR_lt this
    simp
    omega
def AltRA (G : List Gt) (m : Nat) (alt : Ps → Ps × List Nd) : Prop := ∀ s : Ps, s.i ≤ G.length → s.groups ≤ 4 → RAd G m s (alt s).1 ∧ (alt s).2.length ≤ 3 * ((alt s).1.i - s.i) + 1
variable {m deep : Nat} {alt : Ps → Ps × List Nd}
theorem rGroup_rad (A : AltRA G m alt) {s : Ps} (h : s.i ≤ G.length) (hg : s.groups ≤ 4) (f : Nat) : RAd G (m + 1) s (rGroup G alt deep s f).1 ∧ (rGroup G alt deep s f).2.length ≤ 3 * ((rGroup G alt deep s f).1.i - s.i) := by
  unfold rGroup
  simp only
  split
  · exact ⟨(RAd.refl h hg).wrong _ (by decide), by simp⟩
  · rename_i h1
    split
    · exact ⟨(RAd.refl h hg).wrong _ (by decide), by simp⟩
    · split
      · rename_i h3
        have h4 : isR G s.next 58 = true := by
          cases hb : isR G s.next 58
          · exact absurd ⟨h3, hb⟩ h1
          · rfl
        have h5 := isR_lt h4
        simp only [next_i] at h5
        obtain ⟨a, b⟩ := A s.next.next (by simp; omega) hg
        obtain ⟨c, d⟩ := rClosed_rad a f
        have e := a.le
        simp only [next_i] at e b
        exact ⟨RAd.trans (by simp; omega) c, by simp only [d]; omega⟩
      · split
        · exact ⟨(RAd.refl h hg).wrong _ (by decide), by simp⟩
        · rename_i h6
          obtain ⟨a, b⟩ := A { s with groups := s.groups + 1 } h (by simp only; omega)
          obtain ⟨c, d⟩ := rClosed_rad a f
          have e := a.le
          simp only at e b
          exact ⟨RAd.trans (by simp only; omega) c, by simp only [d, List.length_cons]; omega⟩
theorem rAtom_rad (A : AltRA G m alt) {s : Ps} (h : s.i < G.length) (hg : s.groups ≤ 4) : RAd G (m + 1) s (rAtom G alt deep s).1 ∧ s.i + 1 ≤ (rAtom G alt deep s).1.i ∧ (rAtom G alt deep s).2.length ≤ 3 * ((rAtom G alt deep s).1.i - s.i) := by
  have h0 := (Inn.refl (Nat.le_of_lt h)).next h
  have hr := h0.rad hg (m + 1)
  have e0 : s.next.i = s.i + 1 := rfl
  unfold rAtom
  simp only
  split
  · exact ⟨hr.wrong _ (by decide), by simp, by simp⟩
  · split
    · obtain ⟨a, b⟩ := rGroup_rad (deep := deep) A h0.top hg s.i
      have c := a.le
      exact ⟨RAd.trans h0.le a, by omega, by omega⟩
    · split
      · obtain ⟨a, b⟩ := rCls_rad h0.top hg s.i
        exact ⟨(RAd.trans h0.le a).mono (by omega), by simp only; omega, by simp only [List.length_singleton]; omega⟩
      · repeat' split
        all_goals first
          | exact ⟨hr, by simp, by simp⟩
          | exact ⟨hr.wrong _ (by decide), by simp, by simp⟩
          | (have a := (rEsc_inn h0.top s.i).1
             have b := a.le
             exact ⟨(h0.trans a).rad hg _, by simp only; omega, by simp only [List.length_singleton]; omega⟩)
theorem rRep2_rad {m : Nat} {s t : Ps} (h : RAd G m s t) (mn mx : Int) (x : List Nd) : RAd G m s (rRep2 G t mn mx x).1 ∧ t.i ≤ (rRep2 G t mn mx x).1.i ∧ (rRep2 G t mn mx x).2.length = x.length + 1 := by
  refine ⟨h.skip 63, ?_, rfl⟩
  show t.i ≤ (skipS G t 63).i
  unfold skipS
  split <;> simp
theorem rRep_rad (A : AltRA G m alt) {s : Ps} (h : s.i < G.length) (hg : s.groups ≤ 4) : RAd G (m + 1) s (rRep G alt deep s).1 ∧ s.i + 1 ≤ (rRep G alt deep s).1.i ∧ (rRep G alt deep s).2.length ≤ 3 * ((rRep G alt deep s).1.i - s.i) := by
  obtain ⟨a, b, c⟩ := rAtom_rad (deep := deep) A h hg
  unfold rRep
  simp only
  generalize rAtom G alt deep s = x at a b c
  split
  · exact ⟨a, b, c⟩
  · rename_i h1
    have h2 : x.1.i < G.length := by
      rcases Nat.lt_or_ge x.1.i G.length with h | h
      · exact h
      · exact absurd (.inr h) h1
    have h3 : RAd G (m + 1) s x.1.next := ⟨by simp; omega, by simp; omega, fun _ => by simp; omega, a.gm⟩
    have e3 : x.1.next.i = x.1.i + 1 := rfl
    split
    · obtain ⟨d, e, f⟩ := rRep2_rad h3 0 (-1) x.2
      exact ⟨d, by omega, by omega⟩
    · split
      · obtain ⟨d, e, f⟩ := rRep2_rad h3 1 (-1) x.2
        exact ⟨d, by omega, by omega⟩
      · split
        · obtain ⟨d, e, f⟩ := rRep2_rad h3 0 1 x.2
          exact ⟨d, by omega, by omega⟩
        · split
          · obtain ⟨k, l⟩ := rCounts_rad h2 a.gm
            obtain ⟨d, e, f⟩ := rRep2_rad ((RAd.trans (by omega) k).mono (n := m + 1) (by omega) : RAd G (m + 1) s _) (rCounts G x.1).2.1 (rCounts G x.1).2.2 x.2
            exact ⟨d, by omega, by omega⟩
          · exact ⟨a, b, c⟩
theorem rCatGo_rad (A : AltRA G m alt) {s : Ps} : ∀ (n : Nat) (t : Ps) (ps : List (List Nd)), RAd G (m + 1) s t → total ps ≤ 3 * (t.i - s.i) → RAd G (m + 1) s (rCatGo G alt deep n t ps).1 ∧ total (rCatGo G alt deep n t ps).2 ≤ 3 * ((rCatGo G alt deep n t ps).1.i - s.i)
  | 0, t, ps, h, hp => ⟨h, hp⟩
  | n + 1, t, ps, h, hp => by
    unfold rCatGo
    split
    · rename_i hc
      obtain ⟨a1, a2, a3⟩ := rRep_rad (deep := deep) A hc.2.1 h.gm
      have l2 := h.le
      refine rCatGo_rad A n _ _ (RAd.trans l2 a1) ?_
      rw [total_snoc]
      omega
    · exact ⟨h, hp⟩
theorem rCat_rad (A : AltRA G m alt) {s : Ps} (hl : s.i ≤ G.length) (hg : s.groups ≤ 4) : RAd G (m + 1) s (rCat G alt deep s).1 ∧ (rCat G alt deep s).2.length ≤ 3 * ((rCat G alt deep s).1.i - s.i) + 1 := by
  obtain ⟨a1, a2⟩ := rCatGo_rad (deep := deep) A (G.length + 2 - s.i) s [] (RAd.refl hl hg) (by simp [total])
  exact ⟨a1, Nat.le_trans (joined_len _ _) (by show total (rCatGo G alt deep (G.length + 2 - s.i) s []).2 + 1 ≤ _; exact Nat.succ_le_succ a2)⟩
theorem rAltGo_rad (A : AltRA G m alt) {s : Ps} : ∀ (n : Nat) (t : Ps) (ps : List (List Nd)), RAd G (m + 1) s t → 0 < ps.length → total ps + 2 * ps.length ≤ 3 * (t.i - s.i) + 3 → RAd G (m + 1) s (rAltGo G alt deep n t ps).1 ∧ 0 < (rAltGo G alt deep n t ps).2.length ∧ total (rAltGo G alt deep n t ps).2 + 2 * (rAltGo G alt deep n t ps).2.length ≤ 3 * ((rAltGo G alt deep n t ps).1.i - s.i) + 3
  | 0, t, ps, h, h0, hp => ⟨h, h0, hp⟩
  | n + 1, t, ps, h, h0, hp => by
    unfold rAltGo
    split
    · rename_i hc
      have hn := isR_lt hc.2
      obtain ⟨a1, a2⟩ := rCat_rad (deep := deep) A (s := t.next) (by simp; omega) h.gm
      have l1 := a1.le
      have l2 := h.le
      simp only [next_i] at l1 a2
      refine rAltGo_rad A n _ _ (RAd.trans (by simp; omega) a1) (by simp) ?_
      rw [total_snoc, List.length_append]
      simp only [List.length_singleton]
      omega
    · exact ⟨h, h0, hp⟩
theorem rAlt1_rad (A : AltRA G m alt) {s : Ps} (hl : s.i ≤ G.length) (hg : s.groups ≤ 4) : RAd G (m + 1) s (rAlt1 G alt deep s).1 ∧ (rAlt1 G alt deep s).2.length ≤ 3 * ((rAlt1 G alt deep s).1.i - s.i) + 1 := by
  obtain ⟨a1, a2⟩ := rCat_rad (deep := deep) A (s := s) hl hg
  unfold rAlt1
  simp only
  generalize rCat G alt deep s = c at a1 a2
  obtain ⟨b1, b2, b3⟩ := rAltGo_rad (deep := deep) A (G.length + 2 - c.1.i) c.1 [c.2] a1 (by simp) (by simp [total]; omega)
  have := joined_len2 4 _ b2
  exact ⟨b1, by omega⟩
theorem rAlt_rad : ∀ n deep, AltRA G n (rAlt G n deep)
  | 0, deep => fun s h hg => ⟨RAd.refl h hg, by simp [rAlt]⟩
  | n + 1, deep => fun s h hg => rAlt1_rad (rAlt_rad n (deep + 1)) h hg
end
end Go.Proofs.YtooockbfagkknaaGreatDoor.syn
/- spoorref10: below, small, number, counts. -/
namespace Go.Proofs.YtooockbfagkknaaGreatDoor.syn
open Go.RowKit Go.Proofs.YtooockbfagkknaaGreatDoor.sl Go.Proofs.YtooockbfagkknaaGreatDoor.cls
variable {c : Cx} {w : World} {s : Ps}
set_option maxHeartbeats 4000000 in
theorem belowRC (a b : List UInt8) (ha : a.length ≤ 1000000) (hb : b.length ≤ 1000000) (w : World) : Calls Tryz.prog 90 #[str a, str b] w fun e w' => e = .returned (.bool (lessB a b)) ∧ w' = w := by
  obtain ⟨x, hx⟩ : ∃ x : ByteArray, x = ⟨a.toArray⟩ := ⟨_, rfl⟩
  obtain ⟨y, hy⟩ : ∃ y : ByteArray, y = ⟨b.toArray⟩ := ⟨_, rfl⟩
  have e1 : lessB a b = (decide (x.size < y.size) || (x.size == y.size && Op.bytesLess x.toList y.toList)) := by
    rw [hx, hy, str_size, str_size, str_toList, str_toList]; rfl
  have s1 : x.size ≤ 1000000 := by rw [hx, str_size]; exact ha
  have s2 : y.size ≤ 1000000 := by rw [hy, str_size]; exact hb
  show Calls Tryz.prog 90 #[.string ⟨a.toArray⟩, .string ⟨b.toArray⟩] w _
  rw [← hx, ← hy, e1]
  clear hx hy e1
  rcases Nat.lt_trichotomy x.size y.size with h | h | h
  · have e2 : decide (x.size < y.size) = true := by simpa using h
    rw [e2]
    have i1 : (x.size : Int) < (y.size : Int) := by omega
    clear e2
    go_enter Tryz.func90, Tryz.ntmps90
    go_wp2_with fail
    go_ret
    exact ⟨rfl, rfl⟩
  · have e2 : decide (x.size < y.size) = false := by simp; omega
    have e3 : (x.size == y.size) = true := by simpa using h
    rw [e2, e3]
    have H := Lib.hid h
    generalize hm : x.size = m at *
    generalize hn : y.size = n at *
    clear e2 e3
    subst h
    go_enter Tryz.func90, Tryz.ntmps90
    go_wp2_with fail
    go_ret
    exact ⟨rfl, rfl⟩
  · have e2 : decide (x.size < y.size) = false := by simp; omega
    have e3 : (x.size == y.size) = false := by simp; omega
    rw [e2, e3]
    have i1 : (y.size : Int) < (x.size : Int) := by omega
    have i2 : ((x.size : Int) == (y.size : Int)) = false := by rw [beq_eq_false_iff_ne]; omega
    have E2 := Lib.hid e2
    clear e2 e3
    go_enter Tryz.func90, Tryz.ntmps90
    go_wp2_with fail
    go_ret
    refine ⟨?_, rfl⟩
    show Ending.returned (.bool (decide (x.size < y.size))) = _
    rw [E2.out]
    rfl
set_option maxHeartbeats 4000000 in
theorem smallRC (l : List UInt8) (hd : DigB l) (hl : l.length ≤ 1000000) (w : World) : Calls Tryz.prog 91 #[str l] w fun e w' => e = .returned (.tuple #[.int .i64 (valF l).1, .bool (valF l).2]) ∧ w' = w := by
  rcases l with _ | ⟨x, _ | ⟨y, _ | ⟨z, t⟩⟩⟩
  · go_enter Tryz.func91, Tryz.ntmps91
    go_wp2_with fail
    refine wp_loop_rounds 1 ?_
    rw [rounds_succ]
    go_wp2_with fail
    go_ret2
    exact ⟨rfl, rfl⟩
  · have h1 := hd x (by simp)
    have hv : valF [x] = (((x.toNat : Int) - 48), decide ((x.toNat : Int) - 48 ≤ 30)) := by simp [valF, valGo]
    rw [hv]
    clear hd hv
    go_enter Tryz.func91, Tryz.ntmps91
    go_wp2_with fail
    refine wp_loop_rounds 2 ?_
    rw [rounds_succ]
    go_wp2_with fail
    rw [rounds_succ]
    go_wp2_with fail
    go_ret2
    refine ⟨?_, rfl⟩
    have e : ((x.toNat : Int) - 48) % 256 = x.toNat - 48 := by omega
    show Ending.returned (.tuple #[.int .i64 (((x.toNat : Int) - 48) % 256), .bool (decide (((x.toNat : Int) - 48) % 256 ≤ 30))]) = _
    rw [e]
  · have h1 := hd x (by simp)
    have h2 := hd y (by simp)
    have hv : valF [x, y] = (10 * ((x.toNat : Int) - 48) + ((y.toNat : Int) - 48), decide (10 * ((x.toNat : Int) - 48) + ((y.toNat : Int) - 48) ≤ 30)) := by simp [valF, valGo]
    rw [hv]
    clear hd hv
    go_enter Tryz.func91, Tryz.ntmps91
    go_wp2_with fail
    refine wp_loop_rounds 3 ?_
    rw [rounds_succ]
    go_wp2_with fail
    rw [rounds_succ]
    go_wp2_with fail
    rw [rounds_succ]
    go_wp2_with fail
    go_ret2
    refine ⟨?_, rfl⟩
    have e : ((x.toNat : Int) - 48) % 256 = x.toNat - 48 := by omega
    have e' : ((y.toNat : Int) - 48) % 256 = y.toNat - 48 := by omega
    show Ending.returned (.tuple #[.int .i64 (((x.toNat : Int) - 48) % 256 * 10 + ((y.toNat : Int) - 48) % 256), .bool (decide (((x.toNat : Int) - 48) % 256 * 10 + ((y.toNat : Int) - 48) % 256 ≤ 30))]) = _
    rw [e, e', Int.mul_comm]
  · have hv : valF (x :: y :: z :: t) = (0, false) := by simp [valF]
    rw [hv]
    obtain ⟨bs, hbs⟩ : ∃ bs : ByteArray, bs = ⟨(x :: y :: z :: t).toArray⟩ := ⟨_, rfl⟩
    have sz : bs.size = (x :: y :: z :: t).length := by rw [hbs, str_size]
    have sz2 : 2 < (x :: y :: z :: t).length := by simp
    show Calls Tryz.prog 91 #[.string ⟨(x :: y :: z :: t).toArray⟩] w _
    rw [← hbs]
    have i1 : (2 : Int) < (bs.size : Int) := by omega
    have i2 : (bs.size : Int) ≤ 1000000 := by omega
    clear hbs sz sz2 hd hl hv
    go_enter Tryz.func91, Tryz.ntmps91
    go_wp2_with fail
    go_ret2
    exact ⟨rfl, rfl⟩
theorem dig_rn {G : List Gt} {i : Nat} (h : 48 ≤ runeAt G i ∧ runeAt G i ≤ 57) : rnR G i = runeAt G i := by
  unfold rnR
  cases hb : badB G i
  · rfl
  · exfalso
    unfold badB at hb
    unfold runeAt at h
    rw [List.getD_eq_getElem?_getD] at h
    cases hg : G[i]? with
    | none => rw [hg] at hb; cases hb
    | some g =>
      rw [hg] at hb h
      simp only [Bool.and_eq_true, beq_iff_eq] at hb
      simp only [Option.getD_some] at h
      omega
theorem rn_dig {G : List Gt} {i : Nat} (h : 48 ≤ rnR G i ∧ rnR G i ≤ 57) : rnR G i = runeAt G i := by
  unfold rnR at h ⊢
  cases hb : badB G i
  · rfl
  · rw [hb, if_pos rfl] at h
    omega
theorem enc_dig {y : UInt8} (h : y.toNat < 128) : Utf8.encode (y.toNat : Int) = ⟨#[y]⟩ := by
  have hv : Utf8.valid (y.toNat : Int) = true := by unfold Utf8.valid; simp; omega
  unfold Utf8.encode
  simp only [hv, if_true]
  rw [if_pos (by omega)]
  simp
set_option maxHeartbeats 8000000 in
set_option maxRecDepth 100000 in
theorem numberRC (h : Qz c w s) (hi0 : s.i ≤ c.G.length) : Calls Tryz.prog 89 #[.pointer (some ⟨c.P, 0, none⟩)] w fun e w' => e = .returned (.tuple #[str (digB c.G s), .bool (digK c.G s)]) ∧ Qz c w' (digS c.G s) ∧ Kp c.P w w' := by
  have c2 := h.c2
  have hln := h.len
  have hle := h.le
  have H := Lib.hid h
  clear h
  suffices key : ∀ D, digGo c.G (c.G.length - s.i) s.i [] = D → Calls Tryz.prog 89 #[.pointer (some ⟨c.P, 0, none⟩)] w fun e w' => e = .returned (.tuple #[str D.2, .bool (decide (s.i < D.1))]) ∧ Qz c w' { s with i := D.1 } ∧ Kp c.P w w' from key _ rfl
  intro D hD
  have HD := Lib.hid hD
  clear hD
  go_enter Tryz.func89, Tryz.ntmps89
  go_wp2_with fail
  go_loopg [4, 5] (c.G.length - s.i) (fun g sv av wr => ∃ (i : Nat) (l : List UInt8) (bs : ByteArray) (any : Bool), g = c.G.length - i ∧ sv = .string bs ∧ bs = ⟨l.toArray⟩ ∧ av = .bool any ∧ any = decide (s.i < i) ∧ Qz c wr { s with i := i } ∧ Kp c.P w wr ∧ digGo c.G (c.G.length - i) i l = D ∧ l.length ≤ i ∧ i ≤ c.G.length ∧ s.i ≤ i)
  case atStart => exact ⟨s.i, [], ⟨#[]⟩, false, rfl, rfl, rfl, rfl, by simp, H.out, Kp.refl _ _, HD.out, by simp, hi0, Nat.le_refl _⟩
  case round =>
    clear HD c2
    obtain ⟨i, l, bs, any, rfl, rfl, hbs, rfl, hany, p, k, hgo, hl, hiG, hsi⟩ := hrel
    have P := Lib.hid p
    have K := Lib.hid k
    have GO := Lib.hid hgo
    have HBS := Lib.hid hbs
    have ANY := Lib.hid hany
    have hbz : bs.size ≤ 1000 := by rw [hbs, str_size]; omega
    have c0 := p.c0
    have c2 := p.c2
    simp only at c2
    clear p k hgo hbs hany
    by_cases hi : i < c.G.length
    · have i1 : (i : Int) < (c.G.length : Int) := by omega
      obtain ⟨b, off, hga, hbP, hbl, r0⟩ := P.out.rune hi
      rw [hga] at c0
      have HGA := Lib.hid hga
      clear hga
      by_cases hx1 : 48 ≤ rnR c.G i
      · by_cases hx2 : rnR c.G i ≤ 57
        · have er := rn_dig ⟨hx1, hx2⟩
          have hg := digGo_go (G := c.G) (b := l) (i := i) ⟨hi, by rw [← er]; exact hx1, by rw [← er]; exact hx2⟩
          rw [GO.out, ← er] at hg
          have HG := Lib.hid hg
          obtain ⟨y, hy⟩ : ∃ y : UInt8, rnR c.G i = (y.toNat : Int) := ⟨UInt8.ofNat (rnR c.G i).toNat, by simp [UInt8.toNat_ofNat']; omega⟩
          rw [hy] at r0 hx1 hx2 HG
          have k1 : decide ((48 : Int) ≤ (y.toNat : Int)) = true := by simpa using hx1
          have k2 : decide ((y.toNat : Int) ≤ 57) = true := by simpa using hx2
          have k3 : decide (i < c.G.length) = true := by simpa using hi
          clear hg hy GO er
          go_wp2_with fail
          go_quiet (fail)
          have P4 := Lib.hid (P.out.drewN nq)
          have K4 := Lib.hid (K.out.trans (Kp.below (drewN_below (Below.refl wr.heap.size wr) nq)))
          have r4 : (wr.drewN nq).cell? ⟨b, off + i, none⟩ = some (.int .i32 y.toNat) := r0
          clear P K c0 c2 r0
          generalize wr.drewN nq = w4 at P4 K4 r4 ⊢
          have c0 := P4.out.c0
          have c2 := P4.out.c2
          rw [HGA.out] at c0
          simp only at c2
          have he := enc_dig (y := y) (by omega)
          have hez : (⟨#[y]⟩ : ByteArray).size = 1 := rfl
          by_cases hl0 : l = []
          · subst hl0
            have hb0 : bs = ⟨#[]⟩ := HBS.out
            subst hb0
            by_cases hy48 : (y.toNat : Int) = 48
            · have hg2 := HG.out
              rw [if_neg (by simp; omega)] at hg2
              have HG2 := Lib.hid hg2.symm
              have n48 : ((y.toNat : Int) != 48) = false := by simp; omega
              clear HG hg2 hy48
              go_wp2_with fail
              go_quiet (fail)
              go_upto_region 5 with fail
              have P5 := Lib.hid (P4.out.drewN nq)
              have K5 := Lib.hid (K4.out.trans (Kp.below (drewN_below (Below.refl w4.heap.size w4) nq)))
              have r5 : (w4.drewN nq).cell? ⟨b, off + i, none⟩ = some (.int .i32 y.toNat) := r4
              clear P4 K4 c0 c2 r4
              generalize w4.drewN nq = w5 at P5 K5 r5 ⊢
              have c0 := P5.out.c0
              have c2 := P5.out.c2
              rw [HGA.out] at c0
              simp only at c2
              have f2 := P5.out.fz 2
              have PN := Lib.hid (P5.out.step (by simp only; omega))
              have KN := Lib.hid (K5.out.trans (Kp.set c.P 2 w5 (.int .i64 ((i : Int) + 1))))
              go_wp2_with fail
              go_roundg (c.G.length - (i + 1))
              case measure => omega
              case rel => exact ⟨i + 1, [], _, true, rfl, rfl, rfl, rfl, by simp; omega, PN.out, KN.out, HG2.out, by first | (simp; done) | (simp; omega), by omega, by omega⟩
            · have hg2 := HG.out
              rw [if_pos (.inl (by omega)), show UInt8.ofNat (y.toNat : Int).toNat = y by simp] at hg2
              have HG2 := Lib.hid hg2.symm
              have n48 : ((y.toNat : Int) != 48) = true := by simp; omega
              clear HG hg2 hy48
              go_wp2_with fail
              go_quiet (fail)
              go_upto_region 4 with fail
              have P5 := Lib.hid (P4.out.drewN nq)
              have K5 := Lib.hid (K4.out.trans (Kp.below (drewN_below (Below.refl w4.heap.size w4) nq)))
              have r5 : (w4.drewN nq).cell? ⟨b, off + i, none⟩ = some (.int .i32 y.toNat) := r4
              clear P4 K4 c0 c2 r4
              generalize w4.drewN nq = w5 at P5 K5 r5 ⊢
              have c0 := P5.out.c0
              have c2 := P5.out.c2
              rw [HGA.out] at c0
              simp only at c2
              go_wp2_with fail
              go_quiet (fail)
              go_upto_region 5 with fail
              have P6 := Lib.hid (P5.out.drewN nq)
              have K6 := Lib.hid (K5.out.trans (Kp.below (drewN_below (Below.refl w5.heap.size w5) nq)))
              have r6 : (w5.drewN nq).cell? ⟨b, off + i, none⟩ = some (.int .i32 y.toNat) := r5
              clear P5 K5 c0 c2 r5
              generalize w5.drewN nq = w6 at P6 K6 r6 ⊢
              have c0 := P6.out.c0
              have c2 := P6.out.c2
              rw [HGA.out] at c0
              simp only at c2
              have f2 := P6.out.fz 2
              have PN := Lib.hid (P6.out.step (by simp only; omega))
              have KN := Lib.hid (K6.out.trans (Kp.set c.P 2 w6 (.int .i64 ((i : Int) + 1))))
              go_wp2_with fail
              go_roundg (c.G.length - (i + 1))
              case measure => omega
              case rel => exact ⟨i + 1, [] ++ [y], _, true, rfl, rfl, (by first | rfl | (apply ByteArray.ext; simp)), rfl, by simp; omega, PN.out, KN.out, HG2.out, by first | (simp; done) | (simp; omega), by omega, by omega⟩
          · have ht1 : ¬ bs.toList = [] := by rw [HBS.out, str_toList]; exact hl0
            have ht2 : (!bs.toList.isEmpty) = true := by simpa using ht1
            have hg2 := HG.out
            rw [if_pos (.inr hl0), show UInt8.ofNat (y.toNat : Int).toNat = y by simp] at hg2
            have HG2 := Lib.hid hg2.symm
            clear HG hg2
            go_wp2_with fail
            go_quiet (fail)
            go_upto_region 4 with fail
            have P5 := Lib.hid (P4.out.drewN nq)
            have K5 := Lib.hid (K4.out.trans (Kp.below (drewN_below (Below.refl w4.heap.size w4) nq)))
            have r5 : (w4.drewN nq).cell? ⟨b, off + i, none⟩ = some (.int .i32 y.toNat) := r4
            clear P4 K4 c0 c2 r4
            generalize w4.drewN nq = w5 at P5 K5 r5 ⊢
            have c0 := P5.out.c0
            have c2 := P5.out.c2
            rw [HGA.out] at c0
            simp only at c2
            go_wp2_with fail
            go_quiet (fail)
            go_upto_region 5 with fail
            have P6 := Lib.hid (P5.out.drewN nq)
            have K6 := Lib.hid (K5.out.trans (Kp.below (drewN_below (Below.refl w5.heap.size w5) nq)))
            have r6 : (w5.drewN nq).cell? ⟨b, off + i, none⟩ = some (.int .i32 y.toNat) := r5
            clear P5 K5 c0 c2 r5
            generalize w5.drewN nq = w6 at P6 K6 r6 ⊢
            have c0 := P6.out.c0
            have c2 := P6.out.c2
            rw [HGA.out] at c0
            simp only at c2
            have f2 := P6.out.fz 2
            have PN := Lib.hid (P6.out.step (by simp only; omega))
            have KN := Lib.hid (K6.out.trans (Kp.set c.P 2 w6 (.int .i64 ((i : Int) + 1))))
            go_wp2_with fail
            go_roundg (c.G.length - (i + 1))
            case measure => omega
            case rel => exact ⟨i + 1, l ++ [y], _, true, rfl, rfl, (by rw [HBS.out]; apply ByteArray.ext; simp), rfl, by simp; omega, PN.out, KN.out, HG2.out, by first | (simp; done) | (simp; omega), by omega, by omega⟩
        · have er : ¬ (48 ≤ runeAt c.G i ∧ runeAt c.G i ≤ 57) := fun h => by rw [← dig_rn h] at h; exact hx2 h.2
          have k1 : decide ((48 : Int) ≤ rnR c.G i) = true := by simpa using hx1
          have k2 : decide (rnR c.G i ≤ 57) = false := by simpa using hx2
          have k3 : decide (i < c.G.length) = true := by simpa using hi
          have hg := GO.out
          rw [digGo_stop (fun h => er h.2)] at hg
          have HG := Lib.hid hg
          clear hg GO
          clear er hx1 hx2
          generalize rnR c.G i = x at r0 k1 k2
          go_wp2_with fail
          go_quiet (fail)
          go_wp2_with fail
          go_ret2
          rw [← HG.out]
          exact ⟨by rw [HBS.out, ANY.out]; rfl, P.out.drewN _, K.out.trans (Kp.below (drewN_below (Below.refl _ _) _))⟩
      · have er : ¬ (48 ≤ runeAt c.G i ∧ runeAt c.G i ≤ 57) := fun h => by rw [← dig_rn h] at h; exact hx1 h.1
        have k1 : decide ((48 : Int) ≤ rnR c.G i) = false := by simpa using hx1
        have k3 : decide (i < c.G.length) = true := by simpa using hi
        have hg := GO.out
        rw [digGo_stop (fun h => er h.2)] at hg
        have HG := Lib.hid hg
        clear hg GO
        clear er hx1
        generalize rnR c.G i = x at r0 k1
        go_wp2_with fail
        go_quiet (fail)
        go_wp2_with fail
        go_ret2
        rw [← HG.out]
        exact ⟨by rw [HBS.out, ANY.out]; rfl, P.out.drewN _, K.out.trans (Kp.below (drewN_below (Below.refl _ _) _))⟩
    · have i1 : ¬ (i : Int) < (c.G.length : Int) := by omega
      have k3 : decide (i < c.G.length) = false := by simpa using hi
      have hg := GO.out
      rw [digGo_stop (fun h => hi h.1)] at hg
      have HG := Lib.hid hg
      clear hg GO

      go_wp2_with fail
      go_quiet (fail)
      go_wp2_with fail
      go_ret2
      rw [← HG.out]
      exact ⟨by rw [HBS.out, ANY.out]; rfl, P.out.drewN _, K.out.trans (Kp.below (drewN_below (Below.refl _ _) _))⟩
end Go.Proofs.YtooockbfagkknaaGreatDoor.syn
/- spoorref10: counts. -/
namespace Go.Proofs.YtooockbfagkknaaGreatDoor.syn
open Go.RowKit Go.Proofs.YtooockbfagkknaaGreatDoor.sl Go.Proofs.YtooockbfagkknaaGreatDoor.cls
variable {c : Cx} {w : World} {s : Ps}
def QfPost (c : Cx) (w : World) (r : Ps × Int × Int) (e : Ending) (w' : World) : Prop :=
  e = .returned (.tuple #[.int .i64 r.2.1, .int .i64 r.2.2]) ∧ Qz c w' r.1 ∧ Kp c.P w w'
theorem rCounts_no {G : List Gt} (h : ¬ (digK G s.next = true ∧ isR G (digS G s.next) 44 = true)) : rCounts G s = rCounts2 G s.i (digS G s.next) (digB G s.next) (digB G s.next) (digK G s.next) false := by
  simp only [rCounts]
  rw [if_neg h]
theorem rCounts_two {G : List Gt} (h : digK G s.next = true) (hR : isR G (digS G s.next) 44 = true) : rCounts G s = rCounts2 G s.i (digS G (digS G s.next).next) (digB G s.next) (digB G (digS G s.next).next) true (!digK G (digS G s.next).next) := by
  simp only [rCounts]
  rw [if_pos ⟨h, hR⟩, h]
def cntA (G : List Gt) (frm : Nat) (t : Ps) (m n : List UInt8) (ok op : Bool) : Ps := if ok = false ∨ isR G t 125 = false ∨ (op = false ∧ lessB n m = true) then t.wrong G frm 4 else t
def cntB (G : List Gt) (frm : Nat) (t : Ps) (lo hi : Int × Bool) : Ps := if lo.2 = false ∨ hi.2 = false then t.next.wrong G frm 2 else t.next
theorem rCounts2_eq {G : List Gt} (frm : Nat) (t : Ps) (m n : List UInt8) (ok op : Bool) : rCounts2 G frm t m n ok op = (cntB G frm (cntA G frm t m n ok op) (valF m) (if op then (-1, true) else valF n), (valF m).1, (if op then (-1, true) else valF n).1) := rfl
set_option maxHeartbeats 8000000 in
set_option maxRecDepth 100000 in
theorem countsRC (h : Qz c w s) (hi0 : s.i < c.G.length) : Calls Tryz.prog 72 #[.pointer (some ⟨c.P, 0, none⟩)] w (QfPost c w (rCounts c.G s)) := by
  have hln := h.len
  have hPw := h.lt
  have P0 := Lib.hid h
  clear h
  suffices key : ∀ r, rCounts c.G s = r → Calls Tryz.prog 72 #[.pointer (some ⟨c.P, 0, none⟩)] w (QfPost c w r) from key _ rfl
  intro r hr
  have HQ := Lib.hid hr
  clear hr
  go_enter Tryz.func72, Tryz.ntmps72
  go_wp2_with fail
  refine (hereRC P0.out (by omega)).mono ?_
  rintro e w1 ⟨rfl, n1, rfl⟩
  have P1 := Lib.hid (P0.out.drewN n1)
  have K1 := Lib.hid (Kp.below (P := c.P) (drewN_below (Below.refl w.heap.size w) n1))
  clear P0
  generalize w.drewN n1 = w1 at P1 K1 ⊢
  have c2 := P1.out.c2
  have f2 := P1.out.fz 2
  have P2 := Lib.hid (P1.out.step (by omega))
  have K2 := Lib.hid (K1.out.trans (Kp.set c.P 2 w1 (.int .i64 ((s.i : Int) + 1))))
  go_upto_region 3 with fail
  clear P1 K1 c2 f2
  generalize w1.setCell ⟨c.P, 2, none⟩ (.int .i64 ((s.i : Int) + 1)) = w2 at P2 K2 ⊢
  have DA := digS_adv (G := c.G) (s := { s.next with groups := 0 }) (t := { s.next with groups := 0 }) (Adv.refl (by simp only [next_i]; omega) (by simp))
  have hd1 : (digS c.G s.next).i ≤ c.G.length := DA.1.len
  have hbd : DigB (digB c.G s.next) := digB_dig
  have hbl : (digB c.G s.next).length ≤ 1000000 := digB_len (by simp only [next_i]; omega) hln
  go_wp2_with fail
  refine (numberRC P2.out (by simp only [next_i]; omega)).mono ?_
  rintro e w3 ⟨rfl, P3, K3⟩
  have P3' := Lib.hid P3
  have K3' := Lib.hid (K2.out.trans K3)
  clear P3 K3 P2 K2 DA
  have HB := Lib.hid hbd
  have NO := Lib.hid (rCounts_no (G := c.G) (s := s))
  have TWO := Lib.hid (rCounts_two (G := c.G) (s := s))
  clear hbd
  generalize digS c.G s.next = t at P3' hd1 NO TWO
  generalize digB c.G s.next = m at HB hbl NO TWO ⊢
  generalize digK c.G s.next = ok at NO TWO ⊢
  have IA := Lib.hid (isRC P3'.out 44 (by decide) (by decide))
  cases ok
  · have hq := NO.out (by simp)
    rw [HQ.out] at hq
    replace HQ := Lib.hid hq.symm
    clear hq NO TWO IA
    have PU := P3'
    have KU := K3'
    clear P3' K3'
    have hui := hd1
    generalize t = u at PU hui HQ
    have hq := HQ.out
    rw [rCounts2_eq, show cntA c.G s.i u m m false false = u.wrong c.G s.i 4 from by simp [cntA], if_neg (by decide)] at hq
    replace HQ := Lib.hid hq
    clear hq
    go_wp2_with fail
    refine (failRC PU.out s.i 4).mono ?_
    rintro e wt ⟨rfl, PT, kt⟩
    have KT := Lib.hid (KU.out.trans kt)
    have PT := Lib.hid PT
    have hti : (u.wrong c.G s.i 4).i ≤ c.G.length := by simpa using hui
    clear kt PU KU
    generalize u.wrong c.G s.i 4 = v at PT hti HQ
    have c2 := PT.out.c2
    have f2 := PT.out.fz 2
    have P8 := Lib.hid (PT.out.step (by omega))
    have K8 := Lib.hid (KT.out.trans (Kp.set c.P 2 wt (.int .i64 ((v.i : Int) + 1))))
    go_upto_region 12 with fail
    clear PT KT c2 f2
    generalize wt.setCell ⟨c.P, 2, none⟩ (.int .i64 ((v.i : Int) + 1)) = w8 at P8 K8 ⊢
    go_wp2_with fail
    refine (smallRC m HB.out hbl w8).mono ?_
    rintro e w9 ⟨rfl, e9⟩
    subst e9
    go_wp2_with fail
    refine (smallRC m HB.out hbl w9).mono ?_
    rintro e w10 ⟨rfl, e10⟩
    subst e10
    generalize valF m = vm at HQ ⊢
    obtain ⟨v1, v2⟩ := vm
    cases v2
    · have hq := HQ.out
      rw [show cntB c.G s.i v (v1, false) (v1, false) = v.next.wrong c.G s.i 2 from by simp [cntB]] at hq
      have HQ2 := Lib.hid hq
      clear hq HQ
      go_wp2_with fail
      refine (failRC P8.out s.i 2).mono ?_
      rintro e w11 ⟨rfl, P11, K11⟩
      go_wp2_with fail
      go_ret2
      rw [← HQ2.out]
      exact ⟨rfl, P11, K8.out.trans K11⟩
    · have hq := HQ.out
      rw [show cntB c.G s.i v (v1, true) (v1, true) = v.next from by simp [cntB]] at hq
      have HQ2 := Lib.hid hq
      clear hq HQ
      go_wp2_with fail
      go_ret2
      rw [← HQ2.out]
      exact ⟨rfl, P8.out, K8.out⟩
  · cases hR44 : isR c.G t 44
    · have hq := NO.out (by rw [hR44]; simp)
      rw [HQ.out] at hq
      replace HQ := Lib.hid hq.symm
      rw [hR44] at IA
      clear hq hR44 NO TWO
      go_wp2_with fail
      refine IA.out.mono ?_
      rintro e w4 ⟨rfl, n4, rfl⟩
      have PU := Lib.hid (P3'.out.drewN n4)
      have KU := Lib.hid (K3'.out.trans (Kp.below (drewN_below (Below.refl w3.heap.size w3) n4)))
      clear P3' K3' IA
      generalize w3.drewN n4 = wu at PU KU ⊢
      have hui := hd1
      generalize t = u at PU hui HQ
      have IB := Lib.hid (isRC PU.out 125 (by decide) (by decide))
      cases hR : isR c.G u 125
      · rw [hR] at IB
        have hq := HQ.out
        rw [rCounts2_eq, show cntA c.G s.i u m m true false = u.wrong c.G s.i 4 from by simp [cntA, hR], if_neg (by decide)] at hq
        replace HQ := Lib.hid hq
        clear hq
        clear hR
        go_wp2_with fail
        refine IB.out.mono ?_
        rintro e w4 ⟨rfl, n4, rfl⟩
        have PU' := Lib.hid (PU.out.drewN n4)
        have KU' := Lib.hid (KU.out.trans (Kp.below (drewN_below (Below.refl wu.heap.size wu) n4)))
        clear PU KU IB
        generalize wu.drewN n4 = w4 at PU' KU' ⊢
        have PU := PU'
        have KU := KU'
        clear PU' KU'
        go_wp2_with fail
        refine (failRC PU.out s.i 4).mono ?_
        rintro e wt ⟨rfl, PT, kt⟩
        have KT := Lib.hid (KU.out.trans kt)
        have PT := Lib.hid PT
        have hti : (u.wrong c.G s.i 4).i ≤ c.G.length := by simpa using hui
        clear kt PU KU
        generalize u.wrong c.G s.i 4 = v at PT hti HQ
        have c2 := PT.out.c2
        have f2 := PT.out.fz 2
        have P8 := Lib.hid (PT.out.step (by omega))
        have K8 := Lib.hid (KT.out.trans (Kp.set c.P 2 wt (.int .i64 ((v.i : Int) + 1))))
        go_upto_region 12 with fail
        clear PT KT c2 f2
        generalize wt.setCell ⟨c.P, 2, none⟩ (.int .i64 ((v.i : Int) + 1)) = w8 at P8 K8 ⊢
        go_wp2_with fail
        refine (smallRC m HB.out hbl w8).mono ?_
        rintro e w9 ⟨rfl, e9⟩
        subst e9
        go_wp2_with fail
        refine (smallRC m HB.out hbl w9).mono ?_
        rintro e w10 ⟨rfl, e10⟩
        subst e10
        generalize valF m = vm at HQ ⊢
        obtain ⟨v1, v2⟩ := vm
        cases v2
        · have hq := HQ.out
          rw [show cntB c.G s.i v (v1, false) (v1, false) = v.next.wrong c.G s.i 2 from by simp [cntB]] at hq
          have HQ2 := Lib.hid hq
          clear hq HQ
          go_wp2_with fail
          refine (failRC P8.out s.i 2).mono ?_
          rintro e w11 ⟨rfl, P11, K11⟩
          go_wp2_with fail
          go_ret2
          rw [← HQ2.out]
          exact ⟨rfl, P11, K8.out.trans K11⟩
        · have hq := HQ.out
          rw [show cntB c.G s.i v (v1, true) (v1, true) = v.next from by simp [cntB]] at hq
          have HQ2 := Lib.hid hq
          clear hq HQ
          go_wp2_with fail
          go_ret2
          rw [← HQ2.out]
          exact ⟨rfl, P8.out, K8.out⟩
      · rw [hR] at IB
        have BC := Lib.hid (fun w' => belowRC m m hbl hbl w')
        cases hL : lessB m m
        · rw [hL] at BC
          have hq := HQ.out
          rw [rCounts2_eq, show cntA c.G s.i u m m true false = u from by simp [cntA, hR, hL], if_neg (by decide)] at hq
          replace HQ := Lib.hid hq
          clear hq
          clear hR hL
          go_wp2_with fail
          refine IB.out.mono ?_
          rintro e w4 ⟨rfl, n4, rfl⟩
          have PU' := Lib.hid (PU.out.drewN n4)
          have KU' := Lib.hid (KU.out.trans (Kp.below (drewN_below (Below.refl wu.heap.size wu) n4)))
          clear PU KU IB
          generalize wu.drewN n4 = w4 at PU' KU' ⊢
          have PU := PU'
          have KU := KU'
          clear PU' KU'
          go_wp2_with fail
          refine (BC.out w4).mono ?_
          rintro e w5 ⟨rfl, e5⟩
          subst e5
          have c2 := PU.out.c2
          have f2 := PU.out.fz 2
          have P8 := Lib.hid (PU.out.step (by omega))
          have K8 := Lib.hid (KU.out.trans (Kp.set c.P 2 w5 (.int .i64 ((u.i : Int) + 1))))
          go_upto_region 12 with fail
          clear PU KU c2 f2
          generalize w5.setCell ⟨c.P, 2, none⟩ (.int .i64 ((u.i : Int) + 1)) = w8 at P8 K8 ⊢
          go_wp2_with fail
          refine (smallRC m HB.out hbl w8).mono ?_
          rintro e w9 ⟨rfl, e9⟩
          subst e9
          go_wp2_with fail
          refine (smallRC m HB.out hbl w9).mono ?_
          rintro e w10 ⟨rfl, e10⟩
          subst e10
          generalize valF m = vm at HQ ⊢
          obtain ⟨v1, v2⟩ := vm
          cases v2
          · have hq := HQ.out
            rw [show cntB c.G s.i u (v1, false) (v1, false) = u.next.wrong c.G s.i 2 from by simp [cntB]] at hq
            have HQ2 := Lib.hid hq
            clear hq HQ
            go_wp2_with fail
            refine (failRC P8.out s.i 2).mono ?_
            rintro e w11 ⟨rfl, P11, K11⟩
            go_wp2_with fail
            go_ret2
            rw [← HQ2.out]
            exact ⟨rfl, P11, K8.out.trans K11⟩
          · have hq := HQ.out
            rw [show cntB c.G s.i u (v1, true) (v1, true) = u.next from by simp [cntB]] at hq
            have HQ2 := Lib.hid hq
            clear hq HQ
            go_wp2_with fail
            go_ret2
            rw [← HQ2.out]
            exact ⟨rfl, P8.out, K8.out⟩
        · rw [hL] at BC
          have hq := HQ.out
          rw [rCounts2_eq, show cntA c.G s.i u m m true false = u.wrong c.G s.i 4 from by simp [cntA, hR, hL], if_neg (by decide)] at hq
          replace HQ := Lib.hid hq
          clear hq
          clear hR hL
          go_wp2_with fail
          refine IB.out.mono ?_
          rintro e w4 ⟨rfl, n4, rfl⟩
          have PU' := Lib.hid (PU.out.drewN n4)
          have KU' := Lib.hid (KU.out.trans (Kp.below (drewN_below (Below.refl wu.heap.size wu) n4)))
          clear PU KU IB
          generalize wu.drewN n4 = w4 at PU' KU' ⊢
          have PU := PU'
          have KU := KU'
          clear PU' KU'
          go_wp2_with fail
          refine (BC.out w4).mono ?_
          rintro e w5 ⟨rfl, e5⟩
          subst e5
          go_wp2_with fail
          refine (failRC PU.out s.i 4).mono ?_
          rintro e wt ⟨rfl, PT, kt⟩
          have KT := Lib.hid (KU.out.trans kt)
          have PT := Lib.hid PT
          have hti : (u.wrong c.G s.i 4).i ≤ c.G.length := by simpa using hui
          clear kt PU KU
          generalize u.wrong c.G s.i 4 = v at PT hti HQ
          have c2 := PT.out.c2
          have f2 := PT.out.fz 2
          have P8 := Lib.hid (PT.out.step (by omega))
          have K8 := Lib.hid (KT.out.trans (Kp.set c.P 2 wt (.int .i64 ((v.i : Int) + 1))))
          go_upto_region 12 with fail
          clear PT KT c2 f2
          generalize wt.setCell ⟨c.P, 2, none⟩ (.int .i64 ((v.i : Int) + 1)) = w8 at P8 K8 ⊢
          go_wp2_with fail
          refine (smallRC m HB.out hbl w8).mono ?_
          rintro e w9 ⟨rfl, e9⟩
          subst e9
          go_wp2_with fail
          refine (smallRC m HB.out hbl w9).mono ?_
          rintro e w10 ⟨rfl, e10⟩
          subst e10
          generalize valF m = vm at HQ ⊢
          obtain ⟨v1, v2⟩ := vm
          cases v2
          · have hq := HQ.out
            rw [show cntB c.G s.i v (v1, false) (v1, false) = v.next.wrong c.G s.i 2 from by simp [cntB]] at hq
            have HQ2 := Lib.hid hq
            clear hq HQ
            go_wp2_with fail
            refine (failRC P8.out s.i 2).mono ?_
            rintro e w11 ⟨rfl, P11, K11⟩
            go_wp2_with fail
            go_ret2
            rw [← HQ2.out]
            exact ⟨rfl, P11, K8.out.trans K11⟩
          · have hq := HQ.out
            rw [show cntB c.G s.i v (v1, true) (v1, true) = v.next from by simp [cntB]] at hq
            have HQ2 := Lib.hid hq
            clear hq HQ
            go_wp2_with fail
            go_ret2
            rw [← HQ2.out]
            exact ⟨rfl, P8.out, K8.out⟩
    · have hq := TWO.out rfl hR44
      rw [HQ.out] at hq
      replace HQ := Lib.hid hq.symm
      have hti := isR_lt hR44
      rw [hR44] at IA
      clear hq hR44 NO TWO
      go_wp2_with fail
      refine IA.out.mono ?_
      rintro e w4 ⟨rfl, n4, rfl⟩
      have P4 := Lib.hid (P3'.out.drewN n4)
      have K4 := Lib.hid (K3'.out.trans (Kp.below (drewN_below (Below.refl w3.heap.size w3) n4)))
      clear P3' K3' IA
      generalize w3.drewN n4 = w4 at P4 K4 ⊢
      have c2 := P4.out.c2
      have f2 := P4.out.fz 2
      have P5 := Lib.hid (P4.out.step (by omega))
      have K5 := Lib.hid (K4.out.trans (Kp.set c.P 2 w4 (.int .i64 ((t.i : Int) + 1))))
      go_upto_region 7 with fail
      clear P4 K4 c2 f2
      generalize w4.setCell ⟨c.P, 2, none⟩ (.int .i64 ((t.i : Int) + 1)) = w5 at P5 K5 ⊢
      have DA := digS_adv (G := c.G) (s := { t.next with groups := 0 }) (t := { t.next with groups := 0 }) (Adv.refl (by simp only [next_i]; omega) (by simp))
      have hd2 : (digS c.G t.next).i ≤ c.G.length := DA.1.len
      have hbd2 : DigB (digB c.G t.next) := digB_dig
      have hbl2 : (digB c.G t.next).length ≤ 1000000 := digB_len (by simp only [next_i]; omega) hln
      go_wp2_with fail
      refine (numberRC P5.out (by simp only [next_i]; omega)).mono ?_
      rintro e wu ⟨rfl, P6, K6⟩
      have KU := Lib.hid (K5.out.trans K6)
      have PU := Lib.hid P6
      have HB2 := Lib.hid hbd2
      clear P6 K6 P5 K5 DA hbd2
      have hui := hd2
      clear hd2
      generalize digS c.G t.next = u at PU hui HQ
      generalize digB c.G t.next = n at HB2 hbl2 HQ ⊢
      generalize digK c.G t.next = any at HQ ⊢
      cases any
      · replace HQ : Hid (rCounts2 c.G s.i u m n true true = r) := HQ
        have IB := Lib.hid (isRC PU.out 125 (by decide) (by decide))
        cases hR : isR c.G u 125
        · rw [hR] at IB
          have hq := HQ.out
          rw [rCounts2_eq, show cntA c.G s.i u m n true true = u.wrong c.G s.i 4 from by simp [cntA, hR], if_pos rfl] at hq
          replace HQ := Lib.hid hq
          clear hq
          clear hR
          go_wp2_with fail
          refine IB.out.mono ?_
          rintro e w4 ⟨rfl, n4, rfl⟩
          have PU' := Lib.hid (PU.out.drewN n4)
          have KU' := Lib.hid (KU.out.trans (Kp.below (drewN_below (Below.refl wu.heap.size wu) n4)))
          clear PU KU IB
          generalize wu.drewN n4 = w4 at PU' KU' ⊢
          have PU := PU'
          have KU := KU'
          clear PU' KU'
          go_wp2_with fail
          refine (failRC PU.out s.i 4).mono ?_
          rintro e wt ⟨rfl, PT, kt⟩
          have KT := Lib.hid (KU.out.trans kt)
          have PT := Lib.hid PT
          have hti : (u.wrong c.G s.i 4).i ≤ c.G.length := by simpa using hui
          clear kt PU KU
          generalize u.wrong c.G s.i 4 = v at PT hti HQ
          have c2 := PT.out.c2
          have f2 := PT.out.fz 2
          have P8 := Lib.hid (PT.out.step (by omega))
          have K8 := Lib.hid (KT.out.trans (Kp.set c.P 2 wt (.int .i64 ((v.i : Int) + 1))))
          go_upto_region 12 with fail
          clear PT KT c2 f2
          generalize wt.setCell ⟨c.P, 2, none⟩ (.int .i64 ((v.i : Int) + 1)) = w8 at P8 K8 ⊢
          go_wp2_with fail
          refine (smallRC m HB.out hbl w8).mono ?_
          rintro e w9 ⟨rfl, e9⟩
          subst e9
          go_wp2_with fail
          refine (smallRC n HB2.out hbl2 w9).mono ?_
          rintro e w10 ⟨rfl, e10⟩
          subst e10
          generalize valF m = vm at HQ ⊢
          obtain ⟨v1, v2⟩ := vm
          generalize valF n = vn
          obtain ⟨x1, x2⟩ := vn
          cases v2
          · have hq := HQ.out
            rw [show cntB c.G s.i v (v1, false) (-1, true) = v.next.wrong c.G s.i 2 from by simp [cntB]] at hq
            have HQ2 := Lib.hid hq
            clear hq HQ
            go_wp2_with fail
            refine (failRC P8.out s.i 2).mono ?_
            rintro e w11 ⟨rfl, P11, K11⟩
            go_wp2_with fail
            go_ret2
            rw [← HQ2.out]
            exact ⟨rfl, P11, K8.out.trans K11⟩
          · have hq := HQ.out
            rw [show cntB c.G s.i v (v1, true) (-1, true) = v.next from by simp [cntB]] at hq
            have HQ2 := Lib.hid hq
            clear hq HQ
            go_wp2_with fail
            go_ret2
            rw [← HQ2.out]
            exact ⟨rfl, P8.out, K8.out⟩
        · rw [hR] at IB
          have hq := HQ.out
          rw [rCounts2_eq, show cntA c.G s.i u m n true true = u from by simp [cntA, hR], if_pos rfl] at hq
          replace HQ := Lib.hid hq
          clear hq
          clear hR
          go_wp2_with fail
          refine IB.out.mono ?_
          rintro e w4 ⟨rfl, n4, rfl⟩
          have PU' := Lib.hid (PU.out.drewN n4)
          have KU' := Lib.hid (KU.out.trans (Kp.below (drewN_below (Below.refl wu.heap.size wu) n4)))
          clear PU KU IB
          generalize wu.drewN n4 = w4 at PU' KU' ⊢
          have PU := PU'
          have KU := KU'
          clear PU' KU'
          have c2 := PU.out.c2
          have f2 := PU.out.fz 2
          have P8 := Lib.hid (PU.out.step (by omega))
          have K8 := Lib.hid (KU.out.trans (Kp.set c.P 2 w4 (.int .i64 ((u.i : Int) + 1))))
          go_upto_region 12 with fail
          clear PU KU c2 f2
          generalize w4.setCell ⟨c.P, 2, none⟩ (.int .i64 ((u.i : Int) + 1)) = w8 at P8 K8 ⊢
          go_wp2_with fail
          refine (smallRC m HB.out hbl w8).mono ?_
          rintro e w9 ⟨rfl, e9⟩
          subst e9
          go_wp2_with fail
          refine (smallRC n HB2.out hbl2 w9).mono ?_
          rintro e w10 ⟨rfl, e10⟩
          subst e10
          generalize valF m = vm at HQ ⊢
          obtain ⟨v1, v2⟩ := vm
          generalize valF n = vn
          obtain ⟨x1, x2⟩ := vn
          cases v2
          · have hq := HQ.out
            rw [show cntB c.G s.i u (v1, false) (-1, true) = u.next.wrong c.G s.i 2 from by simp [cntB]] at hq
            have HQ2 := Lib.hid hq
            clear hq HQ
            go_wp2_with fail
            refine (failRC P8.out s.i 2).mono ?_
            rintro e w11 ⟨rfl, P11, K11⟩
            go_wp2_with fail
            go_ret2
            rw [← HQ2.out]
            exact ⟨rfl, P11, K8.out.trans K11⟩
          · have hq := HQ.out
            rw [show cntB c.G s.i u (v1, true) (-1, true) = u.next from by simp [cntB]] at hq
            have HQ2 := Lib.hid hq
            clear hq HQ
            go_wp2_with fail
            go_ret2
            rw [← HQ2.out]
            exact ⟨rfl, P8.out, K8.out⟩
      · replace HQ : Hid (rCounts2 c.G s.i u m n true false = r) := HQ
        have IB := Lib.hid (isRC PU.out 125 (by decide) (by decide))
        cases hR : isR c.G u 125
        · rw [hR] at IB
          have hq := HQ.out
          rw [rCounts2_eq, show cntA c.G s.i u m n true false = u.wrong c.G s.i 4 from by simp [cntA, hR], if_neg (by decide)] at hq
          replace HQ := Lib.hid hq
          clear hq
          clear hR
          go_wp2_with fail
          refine IB.out.mono ?_
          rintro e w4 ⟨rfl, n4, rfl⟩
          have PU' := Lib.hid (PU.out.drewN n4)
          have KU' := Lib.hid (KU.out.trans (Kp.below (drewN_below (Below.refl wu.heap.size wu) n4)))
          clear PU KU IB
          generalize wu.drewN n4 = w4 at PU' KU' ⊢
          have PU := PU'
          have KU := KU'
          clear PU' KU'
          go_wp2_with fail
          refine (failRC PU.out s.i 4).mono ?_
          rintro e wt ⟨rfl, PT, kt⟩
          have KT := Lib.hid (KU.out.trans kt)
          have PT := Lib.hid PT
          have hti : (u.wrong c.G s.i 4).i ≤ c.G.length := by simpa using hui
          clear kt PU KU
          generalize u.wrong c.G s.i 4 = v at PT hti HQ
          have c2 := PT.out.c2
          have f2 := PT.out.fz 2
          have P8 := Lib.hid (PT.out.step (by omega))
          have K8 := Lib.hid (KT.out.trans (Kp.set c.P 2 wt (.int .i64 ((v.i : Int) + 1))))
          go_upto_region 12 with fail
          clear PT KT c2 f2
          generalize wt.setCell ⟨c.P, 2, none⟩ (.int .i64 ((v.i : Int) + 1)) = w8 at P8 K8 ⊢
          go_wp2_with fail
          refine (smallRC m HB.out hbl w8).mono ?_
          rintro e w9 ⟨rfl, e9⟩
          subst e9
          go_wp2_with fail
          refine (smallRC n HB2.out hbl2 w9).mono ?_
          rintro e w10 ⟨rfl, e10⟩
          subst e10
          generalize valF m = vm at HQ ⊢
          obtain ⟨v1, v2⟩ := vm
          generalize valF n = vn at HQ ⊢
          obtain ⟨x1, x2⟩ := vn
          cases v2
          · cases x2
            · have hq := HQ.out
              rw [show cntB c.G s.i v (v1, false) (x1, false) = v.next.wrong c.G s.i 2 from by simp [cntB]] at hq
              have HQ2 := Lib.hid hq
              clear hq HQ
              go_wp2_with fail
              refine (failRC P8.out s.i 2).mono ?_
              rintro e w11 ⟨rfl, P11, K11⟩
              go_wp2_with fail
              go_ret2
              rw [← HQ2.out]
              exact ⟨rfl, P11, K8.out.trans K11⟩
            · have hq := HQ.out
              rw [show cntB c.G s.i v (v1, false) (x1, true) = v.next.wrong c.G s.i 2 from by simp [cntB]] at hq
              have HQ2 := Lib.hid hq
              clear hq HQ
              go_wp2_with fail
              refine (failRC P8.out s.i 2).mono ?_
              rintro e w11 ⟨rfl, P11, K11⟩
              go_wp2_with fail
              go_ret2
              rw [← HQ2.out]
              exact ⟨rfl, P11, K8.out.trans K11⟩
          · cases x2
            · have hq := HQ.out
              rw [show cntB c.G s.i v (v1, true) (x1, false) = v.next.wrong c.G s.i 2 from by simp [cntB]] at hq
              have HQ2 := Lib.hid hq
              clear hq HQ
              go_wp2_with fail
              refine (failRC P8.out s.i 2).mono ?_
              rintro e w11 ⟨rfl, P11, K11⟩
              go_wp2_with fail
              go_ret2
              rw [← HQ2.out]
              exact ⟨rfl, P11, K8.out.trans K11⟩
            · have hq := HQ.out
              rw [show cntB c.G s.i v (v1, true) (x1, true) = v.next from by simp [cntB]] at hq
              have HQ2 := Lib.hid hq
              clear hq HQ
              go_wp2_with fail
              go_ret2
              rw [← HQ2.out]
              exact ⟨rfl, P8.out, K8.out⟩
        · rw [hR] at IB
          have BC := Lib.hid (fun w' => belowRC n m hbl2 hbl w')
          cases hL : lessB n m
          · rw [hL] at BC
            have hq := HQ.out
            rw [rCounts2_eq, show cntA c.G s.i u m n true false = u from by simp [cntA, hR, hL], if_neg (by decide)] at hq
            replace HQ := Lib.hid hq
            clear hq
            clear hR hL
            go_wp2_with fail
            refine IB.out.mono ?_
            rintro e w4 ⟨rfl, n4, rfl⟩
            have PU' := Lib.hid (PU.out.drewN n4)
            have KU' := Lib.hid (KU.out.trans (Kp.below (drewN_below (Below.refl wu.heap.size wu) n4)))
            clear PU KU IB
            generalize wu.drewN n4 = w4 at PU' KU' ⊢
            have PU := PU'
            have KU := KU'
            clear PU' KU'
            go_wp2_with fail
            refine (BC.out w4).mono ?_
            rintro e w5 ⟨rfl, e5⟩
            subst e5
            have c2 := PU.out.c2
            have f2 := PU.out.fz 2
            have P8 := Lib.hid (PU.out.step (by omega))
            have K8 := Lib.hid (KU.out.trans (Kp.set c.P 2 w5 (.int .i64 ((u.i : Int) + 1))))
            go_upto_region 12 with fail
            clear PU KU c2 f2
            generalize w5.setCell ⟨c.P, 2, none⟩ (.int .i64 ((u.i : Int) + 1)) = w8 at P8 K8 ⊢
            go_wp2_with fail
            refine (smallRC m HB.out hbl w8).mono ?_
            rintro e w9 ⟨rfl, e9⟩
            subst e9
            go_wp2_with fail
            refine (smallRC n HB2.out hbl2 w9).mono ?_
            rintro e w10 ⟨rfl, e10⟩
            subst e10
            generalize valF m = vm at HQ ⊢
            obtain ⟨v1, v2⟩ := vm
            generalize valF n = vn at HQ ⊢
            obtain ⟨x1, x2⟩ := vn
            cases v2
            · cases x2
              · have hq := HQ.out
                rw [show cntB c.G s.i u (v1, false) (x1, false) = u.next.wrong c.G s.i 2 from by simp [cntB]] at hq
                have HQ2 := Lib.hid hq
                clear hq HQ
                go_wp2_with fail
                refine (failRC P8.out s.i 2).mono ?_
                rintro e w11 ⟨rfl, P11, K11⟩
                go_wp2_with fail
                go_ret2
                rw [← HQ2.out]
                exact ⟨rfl, P11, K8.out.trans K11⟩
              · have hq := HQ.out
                rw [show cntB c.G s.i u (v1, false) (x1, true) = u.next.wrong c.G s.i 2 from by simp [cntB]] at hq
                have HQ2 := Lib.hid hq
                clear hq HQ
                go_wp2_with fail
                refine (failRC P8.out s.i 2).mono ?_
                rintro e w11 ⟨rfl, P11, K11⟩
                go_wp2_with fail
                go_ret2
                rw [← HQ2.out]
                exact ⟨rfl, P11, K8.out.trans K11⟩
            · cases x2
              · have hq := HQ.out
                rw [show cntB c.G s.i u (v1, true) (x1, false) = u.next.wrong c.G s.i 2 from by simp [cntB]] at hq
                have HQ2 := Lib.hid hq
                clear hq HQ
                go_wp2_with fail
                refine (failRC P8.out s.i 2).mono ?_
                rintro e w11 ⟨rfl, P11, K11⟩
                go_wp2_with fail
                go_ret2
                rw [← HQ2.out]
                exact ⟨rfl, P11, K8.out.trans K11⟩
              · have hq := HQ.out
                rw [show cntB c.G s.i u (v1, true) (x1, true) = u.next from by simp [cntB]] at hq
                have HQ2 := Lib.hid hq
                clear hq HQ
                go_wp2_with fail
                go_ret2
                rw [← HQ2.out]
                exact ⟨rfl, P8.out, K8.out⟩
          · rw [hL] at BC
            have hq := HQ.out
            rw [rCounts2_eq, show cntA c.G s.i u m n true false = u.wrong c.G s.i 4 from by simp [cntA, hR, hL], if_neg (by decide)] at hq
            replace HQ := Lib.hid hq
            clear hq
            clear hR hL
            go_wp2_with fail
            refine IB.out.mono ?_
            rintro e w4 ⟨rfl, n4, rfl⟩
            have PU' := Lib.hid (PU.out.drewN n4)
            have KU' := Lib.hid (KU.out.trans (Kp.below (drewN_below (Below.refl wu.heap.size wu) n4)))
            clear PU KU IB
            generalize wu.drewN n4 = w4 at PU' KU' ⊢
            have PU := PU'
            have KU := KU'
            clear PU' KU'
            go_wp2_with fail
            refine (BC.out w4).mono ?_
            rintro e w5 ⟨rfl, e5⟩
            subst e5
            go_wp2_with fail
            refine (failRC PU.out s.i 4).mono ?_
            rintro e wt ⟨rfl, PT, kt⟩
            have KT := Lib.hid (KU.out.trans kt)
            have PT := Lib.hid PT
            have hti : (u.wrong c.G s.i 4).i ≤ c.G.length := by simpa using hui
            clear kt PU KU
            generalize u.wrong c.G s.i 4 = v at PT hti HQ
            have c2 := PT.out.c2
            have f2 := PT.out.fz 2
            have P8 := Lib.hid (PT.out.step (by omega))
            have K8 := Lib.hid (KT.out.trans (Kp.set c.P 2 wt (.int .i64 ((v.i : Int) + 1))))
            go_upto_region 12 with fail
            clear PT KT c2 f2
            generalize wt.setCell ⟨c.P, 2, none⟩ (.int .i64 ((v.i : Int) + 1)) = w8 at P8 K8 ⊢
            go_wp2_with fail
            refine (smallRC m HB.out hbl w8).mono ?_
            rintro e w9 ⟨rfl, e9⟩
            subst e9
            go_wp2_with fail
            refine (smallRC n HB2.out hbl2 w9).mono ?_
            rintro e w10 ⟨rfl, e10⟩
            subst e10
            generalize valF m = vm at HQ ⊢
            obtain ⟨v1, v2⟩ := vm
            generalize valF n = vn at HQ ⊢
            obtain ⟨x1, x2⟩ := vn
            cases v2
            · cases x2
              · have hq := HQ.out
                rw [show cntB c.G s.i v (v1, false) (x1, false) = v.next.wrong c.G s.i 2 from by simp [cntB]] at hq
                have HQ2 := Lib.hid hq
                clear hq HQ
                go_wp2_with fail
                refine (failRC P8.out s.i 2).mono ?_
                rintro e w11 ⟨rfl, P11, K11⟩
                go_wp2_with fail
                go_ret2
                rw [← HQ2.out]
                exact ⟨rfl, P11, K8.out.trans K11⟩
              · have hq := HQ.out
                rw [show cntB c.G s.i v (v1, false) (x1, true) = v.next.wrong c.G s.i 2 from by simp [cntB]] at hq
                have HQ2 := Lib.hid hq
                clear hq HQ
                go_wp2_with fail
                refine (failRC P8.out s.i 2).mono ?_
                rintro e w11 ⟨rfl, P11, K11⟩
                go_wp2_with fail
                go_ret2
                rw [← HQ2.out]
                exact ⟨rfl, P11, K8.out.trans K11⟩
            · cases x2
              · have hq := HQ.out
                rw [show cntB c.G s.i v (v1, true) (x1, false) = v.next.wrong c.G s.i 2 from by simp [cntB]] at hq
                have HQ2 := Lib.hid hq
                clear hq HQ
                go_wp2_with fail
                refine (failRC P8.out s.i 2).mono ?_
                rintro e w11 ⟨rfl, P11, K11⟩
                go_wp2_with fail
                go_ret2
                rw [← HQ2.out]
                exact ⟨rfl, P11, K8.out.trans K11⟩
              · have hq := HQ.out
                rw [show cntB c.G s.i v (v1, true) (x1, true) = v.next from by simp [cntB]] at hq
                have HQ2 := Lib.hid hq
                clear hq HQ
                go_wp2_with fail
                go_ret2
                rw [← HQ2.out]
                exact ⟨rfl, P8.out, K8.out⟩
end Go.Proofs.YtooockbfagkknaaGreatDoor.syn
/- spoorref10: escape, item. -/
namespace Go.Proofs.YtooockbfagkknaaGreatDoor.syn
open Go.RowKit Go.Proofs.YtooockbfagkknaaGreatDoor.sl Go.Proofs.YtooockbfagkknaaGreatDoor.cls
variable {c : Cx} {w : World} {s : Ps}
def QlPost (c : Cx) (w : World) (r : Ps × List Rg) (e : Ending) (w' : World) : Prop :=
  ∃ v, e = .returned v ∧ Qz c w' r.1 ∧ Kp c.P w w' ∧ OwnR w.heap.size w' v r.2
theorem qlPost_nil {w2 : World} {t : Ps} (P : Qz c w2 t) (K : Kp c.P w w2) : QlPost c w (t, []) (.returned (.slice none 0 0)) w2 := ⟨_, rfl, P, K, Own.nil _ _ _ _ _⟩
theorem qlPost_lit {w2 : World} {t : Ps} (P : Qz c w2 t) (K : Kp c.P w w2) (a b : Int) : QlPost c w (t, [(a, b)]) (.returned (.slice (some ⟨w2.heap.size, 0, none⟩) 1 1)) (w2.alloc (.cells #[.int .i32 a, .int .i32 b] 58)) :=
  ⟨_, rfl, P.keep ((Below.refl w2.heap.size w2).alloc (Nat.le_refl _) _), K.trans (Kp.below ((Below.refl w2.heap.size w2).alloc (Nat.le_refl _) _)), own_lit w2 _ [(a, b)] 1 rfl er_len rfl K.size (by omega)⟩
theorem qlPost_make {w2 w3 : World} {t : Ps} {o : Obj} {v : Value} {l : List Rg} (P : Qz c w2 t) (K : Kp c.P w w2) (h : OwnR (w2.alloc o).heap.size w3 v l) (b : Below (w2.alloc o).heap.size (w2.alloc o) w3) : QlPost c w (t, l) (.returned v) w3 :=
  ⟨_, rfl, P.keep (below_alloc b), K.trans (Kp.below (below_alloc b)), (own_alloc h).mono K.size⟩
theorem rEsc_end {G : List Gt} {f : Nat} (h : G.length ≤ s.i) : rEsc G s f = (s.wrong G f 4, []) := by simp only [rEsc, if_pos h]
theorem rEsc_bad {G : List Gt} {f : Nat} (h : ¬ G.length ≤ s.i) (hb : badB G s.i = true) : rEsc G s f = (s.wrong G s.i 4, []) := by simp only [rEsc, if_neg h, if_pos hb]
def rEsc1 (G : List Gt) (t : Ps) (frm : Nat) (r : Int) : Ps × List Rg :=
  if r = 110 then (t, [(10, 10)])
  else if r = 116 then (t, [(9, 9)])
  else if r = 114 then (t, [(13, 13)])
  else if r = 100 then (t, [(48, 57)])
  else if r = 115 then (t, makeF [(9, 10), (13, 13), (32, 32)])
  else if r = 119 then (t, makeF [(48, 57), (65, 90), (95, 95), (97, 122)])
  else if markB r then (t, [(r, r)])
  else (t.wrong G frm 4, [])
theorem rEsc_go {G : List Gt} {f : Nat} (h : ¬ G.length ≤ s.i) (hb : badB G s.i = false) : rEsc G s f = rEsc1 G s.next f (runeAt G s.i) := by
  simp only [rEsc, if_neg h]
  rw [if_neg (by rw [hb]; decide)]
  rfl
theorem rn_good {G : List Gt} {i : Nat} (hb : badB G i = false) : rnR G i = runeAt G i := by unfold rnR; rw [hb]; rfl
theorem rn_bad {G : List Gt} {i : Nat} (hb : badB G i = true) : rnR G i = -1 := by unfold rnR; rw [hb]; rfl
/-- What the runes are: none below nought. -/
def Pos (G : List Gt) : Prop := ∀ i, 0 ≤ runeAt G i
set_option maxHeartbeats 8000000 in
set_option maxRecDepth 100000 in
theorem escapeRC (hG : Pos c.G) (h : Qz c w s) (hi : s.i ≤ c.G.length) (f : Nat) : Calls Tryz.prog 88 #[.pointer (some ⟨c.P, 0, none⟩), .int .i64 (place c.G f)] w (QlPost c w (rEsc c.G s f)) := by
  have c0 := h.c0
  have c2 := h.c2
  have hln := h.len
  have H := Lib.hid h
  clear h
  suffices key : ∀ r, rEsc c.G s f = r → Calls Tryz.prog 88 #[.pointer (some ⟨c.P, 0, none⟩), .int .i64 (place c.G f)] w (QlPost c w r) from key _ rfl
  intro r hr
  by_cases hn : c.G.length ≤ s.i
  · rw [rEsc_end hn] at hr
    have HR := Lib.hid hr
    have i1 : (c.G.length : Int) ≤ (s.i : Int) := by omega
    have FC := Lib.hid (fun (w' : World) (p : Qz c w' s) => failRC p f 4)
    clear hr
    generalize place c.G f = pf at FC
    go_enter Tryz.func88, Tryz.ntmps88
    go_wp2_with fail
    go_quiet (fail)
    go_wp2_with fail
    refine (FC.out _ (H.out.drewN nq)).mono ?_
    rintro e w2 ⟨rfl, P2, K2⟩
    go_wp2_with fail
    go_ret
    rw [← HR.out]
    exact qlPost_nil P2 ((Kp.below (drewN_below (Below.refl _ _) nq)).trans K2)
  · have hn' : s.i < c.G.length := by omega
    have i1 : (s.i : Int) < (c.G.length : Int) := by omega
    obtain ⟨b, off, hga, hbP, hbl, r0⟩ := H.out.rune hn'
    rw [hga] at c0
    have HGA := Lib.hid hga
    clear hga
    cases hb : badB c.G s.i
    · rw [rEsc_go hn hb] at hr
      rw [rn_good hb] at r0
      have hx0 := hG s.i
      have HR := Lib.hid hr
      have FC := Lib.hid (fun (w' : World) (p : Qz c w' s.next) => failRC p f 4)
      clear hr hb
      generalize place c.G f = pf at FC
      generalize runeAt c.G s.i = x at r0 HR hx0
      have nm : (x == -1) = false := by rw [beq_eq_false_iff_ne]; omega
      go_enter Tryz.func88, Tryz.ntmps88
      go_wp2_with fail
      go_quiet (fail)
      have P1 := Lib.hid (H.out.drewN nq)
      have K1 := Lib.hid (Kp.below (P := c.P) (drewN_below (Below.refl w.heap.size w) nq))
      have r1 : (w.drewN nq).cell? ⟨b, off + s.i, none⟩ = some (.int .i32 x) := r0
      clear c0 c2 r0 H
      generalize w.drewN nq = w1 at P1 K1 r1 ⊢
      have c0 := P1.out.c0
      have c2 := P1.out.c2
      rw [HGA.out] at c0
      go_wp2_with fail
      go_quiet (fail)
      have P2 := Lib.hid (P1.out.drewN nq)
      have K2 := Lib.hid (K1.out.trans (Kp.below (drewN_below (Below.refl w1.heap.size w1) nq)))
      clear c0 c2 r1 P1 K1
      generalize w1.drewN nq = w2 at P2 K2 ⊢
      have c2 := P2.out.c2
      have f2 := P2.out.fz 2
      have P3 := Lib.hid (P2.out.step (by omega))
      have K3 := Lib.hid (K2.out.trans (Kp.set c.P 2 w2 (.int .i64 ((s.i : Int) + 1))))
      go_upto_region 9 with fail
      clear c2 f2 P2 K2
      generalize w2.setCell ⟨c.P, 2, none⟩ (.int .i64 ((s.i : Int) + 1)) = w3 at P3 K3 ⊢
      generalize s.next = t at P3 HR FC
      unfold rEsc1 at HR
      by_cases h0 : x = 110
      · subst h0
        rw [if_pos rfl] at HR
        go_wp2_with fail
        go_ret
        rw [← HR.out]
        exact qlPost_lit P3.out K3.out 10 10
      rw [if_neg h0] at HR
      have n0 : (x == 110) = false := by simpa using h0
      by_cases h1 : x = 116
      · subst h1
        rw [if_pos rfl] at HR
        go_wp2_with fail
        go_ret
        rw [← HR.out]
        exact qlPost_lit P3.out K3.out 9 9
      rw [if_neg h1] at HR
      have n1 : (x == 116) = false := by simpa using h1
      by_cases h2 : x = 114
      · subst h2
        rw [if_pos rfl] at HR
        go_wp2_with fail
        go_ret
        rw [← HR.out]
        exact qlPost_lit P3.out K3.out 13 13
      rw [if_neg h2] at HR
      have n2 : (x == 114) = false := by simpa using h2
      by_cases h3 : x = 100
      · subst h3
        rw [if_pos rfl] at HR
        go_wp2_with fail
        go_ret
        rw [← HR.out]
        exact qlPost_lit P3.out K3.out 48 57
      rw [if_neg h3] at HR
      have n3 : (x == 100) = false := by simpa using h3
      by_cases h4 : x = 115
      · subst h4
        rw [if_pos rfl] at HR
        go_wp2_with fail
        refine (refMakeC (some ⟨w3.heap.size, 0, none⟩) [(9, 10), (13, 13), (32, 32)] 3 _ (Rd.built [(9, 10), (13, 13), (32, 32)] 3 rfl rfl (by omega)) (by simp)).mono ?_
        rintro e w5 ⟨v, rfl, o5, b5⟩
        go_wp2_with fail
        go_ret
        rw [← HR.out]
        exact qlPost_make P3.out K3.out o5 b5
      rw [if_neg h4] at HR
      have n4 : (x == 115) = false := by simpa using h4
      by_cases h5 : x = 119
      · subst h5
        rw [if_pos rfl] at HR
        go_wp2_with fail
        refine (refMakeC (some ⟨w3.heap.size, 0, none⟩) [(48, 57), (65, 90), (95, 95), (97, 122)] 4 _ (Rd.built [(48, 57), (65, 90), (95, 95), (97, 122)] 4 rfl rfl (by omega)) (by simp)).mono ?_
        rintro e w5 ⟨v, rfl, o5, b5⟩
        go_wp2_with fail
        go_ret
        rw [← HR.out]
        exact qlPost_make P3.out K3.out o5 b5
      rw [if_neg h5] at HR
      have n5 : (x == 119) = false := by simpa using h5
      go_wp2_with fail
      refine (punctC x _).mono ?_
      rintro e w5 ⟨rfl, rfl⟩
      cases hm : markB x
      · rw [if_neg (by simp [hm])] at HR
        go_wp2_with fail
        refine (FC.out _ P3.out).mono ?_
        rintro e w6 ⟨rfl, P4, K4⟩
        go_wp2_with fail
        go_ret
        rw [← HR.out]
        exact qlPost_nil P4 (K3.out.trans K4)
      · rw [if_pos hm] at HR
        clear hm
        go_wp2_with fail
        go_ret
        rw [← HR.out]
        exact qlPost_lit P3.out K3.out x x
    · rw [rEsc_bad hn hb] at hr
      rw [rn_bad hb] at r0
      have HR := Lib.hid hr
      clear hr hb
      go_enter Tryz.func88, Tryz.ntmps88
      go_wp2_with fail
      go_quiet (fail)
      have P1 := Lib.hid (H.out.drewN nq)
      have K1 := Lib.hid (Kp.below (P := c.P) (drewN_below (Below.refl w.heap.size w) nq))
      have r1 : (w.drewN nq).cell? ⟨b, off + s.i, none⟩ = some (.int .i32 (-1)) := r0
      clear c0 c2 r0 H
      generalize w.drewN nq = w1 at P1 K1 r1 ⊢
      have c0 := P1.out.c0
      have c2 := P1.out.c2
      rw [HGA.out] at c0
      go_wp2_with fail
      go_quiet (fail)
      have P2 := Lib.hid (P1.out.drewN nq)
      have K2 := Lib.hid (K1.out.trans (Kp.below (drewN_below (Below.refl w1.heap.size w1) nq)))
      clear c0 c2 r1 P1 K1
      generalize w1.drewN nq = w2 at P2 K2 ⊢
      go_wp2_with fail
      refine (hereRC P2.out hi).mono ?_
      rintro e w3 ⟨rfl, n3, rfl⟩
      go_wp2_with fail
      refine (failRC (P2.out.drewN n3) s.i 4).mono ?_
      rintro e w4 ⟨rfl, P4, K4⟩
      go_wp2_with fail
      go_ret
      rw [← HR.out]
      exact qlPost_nil P4 ((K2.out.trans (Kp.below (drewN_below (Below.refl _ _) n3))).trans K4)
/-- Ranges that are told, and where they began. -/
def QiPost (c : Cx) (w : World) (pl : Int) (r : Ps × List Rg) (e : Ending) (w' : World) : Prop :=
  ∃ v, e = .returned (.tuple #[v, .int .i64 pl]) ∧ Qz c w' r.1 ∧ Kp c.P w w' ∧ OwnR w.heap.size w' v r.2
theorem qiPost_nil {w2 : World} {t : Ps} {pl : Int} (P : Qz c w2 t) (K : Kp c.P w w2) : QiPost c w pl (t, []) (.returned (.tuple #[.slice none 0 0, .int .i64 pl])) w2 := ⟨_, rfl, P, K, Own.nil _ _ _ _ _⟩
theorem rItem_bad {G : List Gt} (hb : badB G s.i = true) : rItem G s = (s.next.wrong G s.i 4, []) := by simp only [rItem, if_pos hb]
theorem rItem_go {G : List Gt} (hb : badB G s.i = false) : rItem G s = if runeAt G s.i = 92 then rEsc G s.next s.i else if runeAt G s.i = 91 ∨ runeAt G s.i = 45 then (s.next.wrong G s.i 4, []) else (s.next, [(runeAt G s.i, runeAt G s.i)]) := by
  simp only [rItem]
  rw [if_neg (by rw [hb]; decide)]
set_option maxHeartbeats 8000000 in
set_option maxRecDepth 100000 in
theorem itemRC (hG : Pos c.G) (h : Qz c w s) (hi : s.i < c.G.length) : Calls Tryz.prog 101 #[.pointer (some ⟨c.P, 0, none⟩)] w (QiPost c w (place c.G s.i) (rItem c.G s)) := by
  have hln := h.len
  have H := Lib.hid h
  clear h
  suffices key : ∀ r pf, rItem c.G s = r → place c.G s.i = pf → Calls Tryz.prog 101 #[.pointer (some ⟨c.P, 0, none⟩)] w (QiPost c w pf r) from key _ _ rfl rfl
  intro r pf hr hpf
  have HPF := Lib.hid hpf
  clear hpf
  have EC := Lib.hid (fun (w' : World) (p : Qz c w' s.next) => escapeRC hG p (by simp only [next_i]; omega) s.i)
  have FC := Lib.hid (fun (w' : World) (p : Qz c w' s.next) => failRC p s.i 4)
  have i1 : (s.i : Int) < (c.G.length : Int) := by omega
  have hx0 := hG s.i
  have HG := Lib.hid hG
  clear hG
  have HB : Hid ((badB c.G s.i = true ∧ (s.next.wrong c.G s.i 4, []) = r ∧ rnR c.G s.i = -1) ∨ (0 ≤ rnR c.G s.i ∧ (if rnR c.G s.i = 92 then rEsc c.G s.next s.i else if rnR c.G s.i = 91 ∨ rnR c.G s.i = 45 then (s.next.wrong c.G s.i 4, []) else (s.next, [(rnR c.G s.i, rnR c.G s.i)])) = r)) := Lib.hid (by
    cases hb : badB c.G s.i
    · right
      rw [rn_good hb, ← rItem_go hb]
      exact ⟨hx0, hr⟩
    · left
      rw [← rItem_bad hb]
      exact ⟨rfl, hr, rn_bad hb⟩)
  clear hr hx0
  go_enter Tryz.func101, Tryz.ntmps101
  go_wp2_with fail
  refine (hereRC H.out (by omega)).mono ?_
  rintro e w1 ⟨rfl, n1, rfl⟩
  rw [HPF.out]
  rw [HPF.out] at EC FC
  have P1 := Lib.hid (H.out.drewN n1)
  have K1 := Lib.hid (Kp.below (P := c.P) (drewN_below (Below.refl w.heap.size w) n1))
  clear H HPF
  generalize w.drewN n1 = w1 at P1 K1 ⊢
  have c0 := P1.out.c0
  have c2 := P1.out.c2
  obtain ⟨b, off, hga, hbP, hbl, r0⟩ := P1.out.rune hi
  rw [hga] at c0
  clear hga
  generalize rnR c.G s.i = x at r0 HB
  go_wp2_with fail
  go_quiet (fail)
  have P2 := Lib.hid (P1.out.drewN nq)
  have K2 := Lib.hid (K1.out.trans (Kp.below (drewN_below (Below.refl w1.heap.size w1) nq)))
  clear c0 c2 r0 P1 K1
  generalize w1.drewN nq = w2 at P2 K2 ⊢
  have c2 := P2.out.c2
  have f2 := P2.out.fz 2
  have P3 := Lib.hid (P2.out.step (by omega))
  have K3 := Lib.hid (K2.out.trans (Kp.set c.P 2 w2 (.int .i64 ((s.i : Int) + 1))))
  go_upto_region 4 with fail
  clear c2 f2 P2 K2
  generalize w2.setCell ⟨c.P, 2, none⟩ (.int .i64 ((s.i : Int) + 1)) = w3 at P3 K3 ⊢
  rcases HB.out with ⟨-, hr, rfl⟩ | ⟨hx0, hr⟩
  · have HR := Lib.hid hr
    clear hr HB
    go_wp2_with fail
    refine (FC.out _ P3.out).mono ?_
    rintro e w4 ⟨rfl, P4, K4⟩
    go_wp2_with fail
    go_ret2
    rw [← HR.out]
    exact qiPost_nil P4 (K3.out.trans K4)
  · have HR := Lib.hid hr
    clear hr HB
    have nm : (x == -1) = false := by rw [beq_eq_false_iff_ne]; omega
    by_cases h1 : x = 92
    · subst h1
      rw [if_pos rfl] at HR
      go_wp2_with fail
      refine (EC.out _ P3.out).mono ?_
      rintro e w4 ⟨v, rfl, P4, K4, o4⟩
      go_wp2_with fail
      go_ret2
      rw [← HR.out]
      exact ⟨v, rfl, P4, K3.out.trans K4, o4.mono K3.out.size⟩
    · rw [if_neg h1] at HR
      have n1 : (x == 92) = false := by simpa using h1
      by_cases h2 : x = 91
      · subst h2
        rw [if_pos (.inl rfl)] at HR
        go_wp2_with fail
        refine (FC.out _ P3.out).mono ?_
        rintro e w4 ⟨rfl, P4, K4⟩
        go_wp2_with fail
        go_ret2
        rw [← HR.out]
        exact qiPost_nil P4 (K3.out.trans K4)
      · have n2 : (x == 91) = false := by simpa using h2
        by_cases h3 : x = 45
        · subst h3
          rw [if_pos (.inr rfl)] at HR
          go_wp2_with fail
          refine (FC.out _ P3.out).mono ?_
          rintro e w4 ⟨rfl, P4, K4⟩
          go_wp2_with fail
          go_ret2
          rw [← HR.out]
          exact qiPost_nil P4 (K3.out.trans K4)
        · have n3 : (x == 45) = false := by simpa using h3
          rw [if_neg (by simp [h2, h3])] at HR
          go_wp2_with fail
          go_ret2
          rw [← HR.out]
          exact ⟨_, rfl, P3.out.keep ((Below.refl w3.heap.size w3).alloc (Nat.le_refl _) _), K3.out.trans (Kp.below ((Below.refl w3.heap.size w3).alloc (Nat.le_refl _) _)), own_lit w3 _ [(x, x)] 1 rfl er_len rfl K3.out.size (by omega)⟩
end Go.Proofs.YtooockbfagkknaaGreatDoor.syn
