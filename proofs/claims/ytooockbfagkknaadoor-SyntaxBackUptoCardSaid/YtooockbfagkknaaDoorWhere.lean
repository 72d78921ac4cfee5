/- Where a text is refused: within it. -/
import Derived.Test.YtooockbfagkknaaDoorParse
namespace Go.Proofs.YtooockbfagkknaaDoor.syn
open Go.RowKit Go.Proofs.YtooockbfagkknaaDoor.sl Go.Proofs.YtooockbfagkknaaDoor.cls
section
variable {G : List Gt} {alt : Ps → Ps × List Nd}
/-- The place that is kept is the place of some rune. -/
def Wh (G : List Gt) (s : Ps) : Prop := ∃ i, s.wh = place G i
theorem Wh.wrong {s : Ps} (h : Wh G s) (k : Nat) (e : Int) : Wh G (s.wrong G k e) := by
  unfold Ps.wrong
  split
  · exact ⟨k, rfl⟩
  · exact h
theorem Wh.same {s t : Ps} (h : Wh G s) (e : t.wh = s.wh) : Wh G t := by
  obtain ⟨i, hi⟩ := h
  exact ⟨i, e.trans hi⟩
theorem Wh.next {s : Ps} (h : Wh G s) : Wh G s.next := h.same rfl
theorem Wh.skip {s : Ps} (h : Wh G s) (r : Int) : Wh G (skipS G s r) := by
  unfold skipS
  split
  · exact h.next
  · exact h
theorem Wh.sign {s : Ps} (h : Wh G s) : Wh G (signF G s).1 := by
  unfold signF
  simp only
  split
  · exact h.next.wrong _ _
  · split
    · exact h.next.wrong _ _
    · rcases len4_r (G := G) s.next.next s.i (runeAt G s.next.i) with e | e <;> rw [e]
      · exact h.next.next
      · exact h.next.next.wrong _ _
theorem Wh.part {s : Ps} (h : Wh G s) : Wh G (partF G s).1 := by
  unfold partF
  split
  · exact h.wrong _ _
  · simp only
    split
    · exact h.sign
    · split
      · exact h
      · exact h.next
theorem Wh.item2 {s : Ps} (h : Wh G s) (a : List Rg) (one : Bool) (frm : Nat) : Wh G (item2 G a one frm s).1 := by
  have hb : Wh G (if s.i < G.length then partF G s else (s, [], false)).1 := by
    split
    · exact h.part
    · exact h
  unfold syn.item2
  simp only
  generalize (if s.i < G.length then partF G s else (s, [], false)) = b at hb
  repeat' split
  all_goals first | exact hb.wrong _ _ | exact hb
theorem Wh.item {s : Ps} (h : Wh G s) : Wh G (itemF G s).1 := by
  unfold itemF
  simp only
  split
  · exact h.part
  · split
    · exact h.part.wrong _ _
    · split
      · exact h.part.next.item2 _ _ _
      · exact h.part
theorem Wh.clsGo (frm : Nat) : ∀ (n : Nat) (s : Ps) (l : List Rg) (b : Bool), Wh G s → Wh G (clsGo G frm n s l b).1
  | 0, _, _, _, h => h
  | n + 1, s, l, b, h => by
    unfold syn.clsGo
    split
    · split
      · exact h.wrong _ _
      · exact Wh.clsGo frm n _ _ _ h.item
    · exact h
theorem Wh.cls {s : Ps} (h : Wh G s) : Wh G (clsF G s).1 := by
  have hc := Wh.clsGo (G := G) s.i (G.length + 2 - (skipS G s.next 94).i) (skipS G s.next 94) [] true (h.next.skip 94)
  unfold clsF
  simp only
  generalize syn.clsGo G s.i (G.length + 2 - (skipS G s.next 94).i) (skipS G s.next 94) [] true = c at hc
  repeat' split
  all_goals first | exact hc | exact hc.wrong _ _ | exact hc.next
theorem Wh.often2 {s : Ps} (h : Wh G s) (frm : Nat) (m n : List UInt8) (ok en : Bool) : Wh G (often2 G frm s m n ok en).1 := by
  unfold syn.often2
  split
  · exact h.wrong _ _
  split
  · exact h.wrong _ _
  split
  · exact h.next.wrong _ _
  simp only
  by_cases hv : (valF m).2 = false ∨ (valF (if en = true then [] else n)).2 = false
  · rw [if_pos hv]; exact h.next.wrong _ _
  · rw [if_neg hv]; exact h.next
theorem Wh.often {s : Ps} (h : Wh G s) : Wh G (oftenF G s).1 := by
  have hd : Wh G (digS G s.next) := h.same rfl
  unfold oftenF
  simp only
  split
  · exact Wh.often2 (s := digS G (digS G s.next).next) (hd.same rfl) _ _ _ _ _
  · exact hd.often2 _ _ _ _ _
/-- The reading of what stands in brackets keeps the place. -/
def WhA (G : List Gt) (alt : Ps → Ps × List Nd) : Prop := ∀ s, Wh G s → Wh G (alt s).1
theorem Wh.group {s : Ps} (A : WhA G alt) (h : Wh G s) : Wh G (groupF G alt s).1 := by
  unfold groupF
  simp only
  have h2 : Wh G (if isR G s.next 63 = true then s.next.next else s.next) := by
    split
    · exact h.next.next
    · exact h.next
  generalize (if isR G s.next 63 = true then s.next.next else s.next) = s2 at h2
  split
  · exact h2.wrong _ _
  have h3 : Wh G (if isR G s.next 63 = true then s2.next else s2) := by
    split
    · exact h2.next
    · exact h2
  generalize (if isR G s.next 63 = true then s2.next else s2) = s3 at h3
  split
  · exact h3.wrong _ _
  split
  · exact h3.wrong _ _
  have h4 : Wh G (if isR G s.next 63 = true then s3 else ({ s3 with groups := s3.groups + 1 } : Ps)) := by
    split
    · exact h3
    · exact h3.same rfl
  generalize (if isR G s.next 63 = true then s3 else ({ s3 with groups := s3.groups + 1 } : Ps)) = s4 at h4
  have ha := A { s4 with opens := s4.opens + 1 } (h4.same rfl)
  generalize alt { s4 with opens := s4.opens + 1 } = a at ha
  have h5 : Wh G ({ a.1 with opens := a.1.opens - 1 } : Ps) := ha.same rfl
  split
  · exact h5.wrong _ _
  have h6 : Wh G (if a.1.err = 0 then ({ a.1 with opens := a.1.opens - 1 } : Ps).next else ({ a.1 with opens := a.1.opens - 1 } : Ps)) := by
    split
    · exact h5.next
    · exact h5
  split
  · exact h6
  · exact h6
theorem Wh.atom {s : Ps} (A : WhA G alt) (h : Wh G s) : Wh G (atomF G alt s).1 := by
  unfold atomF
  simp only
  repeat' split
  all_goals first | exact h.wrong _ _ | exact h.next | exact h.group A | exact h.cls | exact h.sign
theorem Wh.rep2 {s : Ps} (h : Wh G s) (mn mx : Int) (x : List Nd) : Wh G (rep2 G s mn mx x).1 := by
  unfold syn.rep2
  split
  · exact h
  · exact h.skip _
theorem Wh.rep {s : Ps} (A : WhA G alt) (h : Wh G s) : Wh G (repF G alt s).1 := by
  have ha := h.atom A
  unfold repF
  simp only
  repeat' split
  all_goals first | exact ha | exact ha.next.rep2 _ _ _ | exact ha.often.rep2 _ _ _
theorem Wh.catGo (A : WhA G alt) : ∀ (n : Nat) (s : Ps) (ps : List (List Nd)), Wh G s → Wh G (catGo G alt n s ps).1
  | 0, _, _, h => h
  | n + 1, s, ps, h => by
    unfold syn.catGo
    split
    · exact Wh.catGo A n _ _ (h.rep A)
    · exact h
theorem Wh.cat {s : Ps} (A : WhA G alt) (h : Wh G s) : Wh G (catF G alt s).1 := Wh.catGo A _ _ _ h
theorem Wh.altGo (A : WhA G alt) : ∀ (n : Nat) (s : Ps) (ps : List (List Nd)), Wh G s → Wh G (altGo G alt n s ps).1
  | 0, _, _, h => h
  | n + 1, s, ps, h => by
    unfold syn.altGo
    split
    · exact Wh.altGo A n _ _ (h.next.cat A)
    · exact h
theorem Wh.alt1 (A : WhA G alt) : WhA G (alt1 G alt) := fun s h => by
  unfold syn.alt1
  simp only
  exact Wh.altGo A _ _ _ (h.cat A)
theorem whA_alt : ∀ n, WhA G (altF G n)
  | 0 => fun _ h => h
  | n + 1 => Wh.alt1 (whA_alt n)
theorem parse_where : ∃ i, (parseG G).2.2 = place G i := by
  have h0 : Wh G (altF G 21 ps0).1 := whA_alt 21 ps0 ⟨0, rfl⟩
  unfold parseG
  simp only
  have h1 : Wh G (if (altF G 21 ps0).1.err = 0 ∧ (altF G 21 ps0).1.i < G.length then (altF G 21 ps0).1.wrong G (altF G 21 ps0).1.i 4 else (altF G 21 ps0).1) := by
    split
    · exact h0.wrong _ _
    · exact h0
  generalize (if (altF G 21 ps0).1.err = 0 ∧ (altF G 21 ps0).1.i < G.length then (altF G 21 ps0).1.wrong G (altF G 21 ps0).1.i 4 else (altF G 21 ps0).1) = q at h1
  split
  · exact h1
  · exact ⟨0, rfl⟩
end
theorem sum_le : ∀ (n : Nat) (l : List UInt8) (i : Nat), (((allGo n l).take i).map (·.2)).sum ≤ (l.length : Int) ∧ 0 ≤ (((allGo n l).take i).map (·.2)).sum
  | n, [], i => by rw [allGo_nil]; simp
  | 0, c :: l, i => by rw [allGo]; simp; omega
  | n + 1, c :: l, 0 => by simp; omega
  | n + 1, c :: l, i + 1 => by
    have hne : c :: l ≠ [] := by simp
    rcases firstF_len (c :: l) with h0 | ⟨m, hm, h1, h2, _⟩
    · rw [allGo_bad hne h0]
      have := sum_le n l i
      simp only [List.drop_succ_cons, List.drop_zero, List.take_succ_cons, List.map_cons, List.sum_cons, List.length_cons]
      omega
    · rw [allGo_ok hne hm h1]
      have := sum_le n ((c :: l).drop m) i
      rw [List.length_drop] at this
      simp only [List.take_succ_cons, List.map_cons, List.sum_cons, hm]
      omega
theorem parse_at (l : List UInt8) : 0 ≤ (parseF l).2.2 ∧ (parseF l).2.2 ≤ (l.length : Int) := by
  unfold parseF
  split
  · exact ⟨Int.le_refl _, by show (0 : Int) ≤ _; omega⟩
  · obtain ⟨i, hi⟩ := parse_where (G := allF l)
    rw [hi]
    have := sum_le l.length l i
    exact ⟨this.2, this.1⟩
end Go.Proofs.YtooockbfagkknaaDoor.syn
