/- The bytes of a pattern in brackets are read as its runes in brackets. -/
import Derived.Test.YtooockbfagkknaaDoorSynRuns
namespace Go.Proofs.YtooockbfagkknaaDoor.syn
open Go.RowKit Go.Proofs.YtooockbfagkknaaDoor.sl Go.Proofs.YtooockbfagkknaaDoor.cls
theorem cont_app : ∀ (k : Nat) (r : Int) (lo hi : Nat) (t : List UInt8), 128 ≤ lo → contGo k r lo hi (t ++ [41]) = contGo k r lo hi t
  | 0, r, lo, hi, t, h => by rw [contGo, contGo]
  | k + 1, r, lo, hi, [], h => by
    rw [List.nil_append, contGo, contGo, if_pos (.inl (by show 41 < lo; omega))]
  | k + 1, r, lo, hi, b :: t, h => by
    rw [List.cons_append, contGo, contGo, cont_app k _ 128 191 t (Nat.le_refl _)]
theorem more_lo (c : Nat) : (moreF c).1 ≤ 0 ∨ 128 ≤ (moreF c).2.1 := by
  unfold moreF
  repeat' split
  all_goals simp
theorem first_app {l : List UInt8} (h : l ≠ []) : firstF (l ++ [41]) = firstF l := by
  obtain ⟨c, t, rfl⟩ := List.exists_cons_of_ne_nil h
  simp only [List.cons_append, firstF]
  by_cases h0 : (moreF c.toNat).1 < 0
  · rw [if_pos h0, if_pos h0]
  · rw [if_neg h0, if_neg h0]
    rcases more_lo c.toNat with h1 | h1
    · rw [show (moreF c.toNat).1.toNat = 0 by omega, contGo, contGo]
    · rw [cont_app _ _ _ _ _ h1]
theorem allGo_app : ∀ (n : Nat) (l : List UInt8), l.length ≤ n → allGo (n + 1) (l ++ [41]) = allGo n l ++ [(41, 1)]
  | n, [], _ => by
    rw [allGo_nil, List.nil_append, List.nil_append]
    have hf : firstF [41] = (41, 1) := rfl
    rw [allGo_ok (by simp) (m := 1) (by rw [hf]; rfl) (by omega), hf]
    show (41, 1) :: allGo n [] = _
    rw [allGo_nil]
  | 0, c :: l, h => by simp at h
  | n + 1, c :: l, h => by
    have hne : c :: l ≠ [] := by simp
    have hne2 : c :: l ++ [41] ≠ [] := by simp
    have hf := first_app hne
    rcases firstF_len (c :: l) with h0 | ⟨m, hm, h1, h2, _⟩
    · rw [allGo_bad hne h0, allGo_bad hne2 (by rw [hf]; exact h0), List.cons_append]
      congr 1
      exact allGo_app n l (by simpa using h)
    · rw [allGo_ok hne hm h1, allGo_ok hne2 (by rw [hf]; exact hm) h1, hf, List.cons_append]
      congr 1
      rw [show c :: (l ++ [41]) = (c :: l) ++ [41] from rfl, List.drop_append_of_le_length h2]
      exact allGo_app n _ (by rw [List.length_drop]; simp at h ⊢; omega)
theorem allF_app (l : List UInt8) : allF (l ++ [41]) = allF l ++ [(41, 1)] := by
  unfold allF
  rw [List.length_append]
  exact allGo_app l.length l (Nat.le_refl _)
theorem allF_pre {c : UInt8} (l : List UInt8) (h : c.toNat < 128) : allF (c :: l) = ((c.toNat : Int), 1) :: allF l := by
  have hf : firstF (c :: l) = ((c.toNat : Int), 1) := by
    have hm : moreF c.toNat = (0, 0, 0) := by unfold moreF; rw [if_pos h]
    simp [firstF, hm, contGo, start]
  unfold allF
  rw [List.length_cons, allGo_ok (by simp) (m := 1) (by rw [hf]; rfl) (by omega), hf]
  rfl
theorem not_q {G : List Gt} {L : List Nd} (h : parseG G = (L, 0, 0)) : isR G ps0 63 = false := by
  cases hq : isR G ps0 63
  · rfl
  exfalso
  have hg : ∃ g, G[0]? = some g ∧ g.1 = 63 := by
    unfold isR at hq
    rw [show ps0.i = 0 from rfl] at hq
    split at hq
    · rename_i g hg; exact ⟨g, hg, by simpa using hq⟩
    · cases hq
  obtain ⟨g, hg, hg1⟩ := hg
  have hl : 0 < G.length := (List.getElem?_eq_some_iff.1 hg).1
  have hwe : (ps0.wrong G 0 4).err ≠ 0 := wrong_err ps0 0 (by decide)
  have hat : atomF G (altF G 20) ps0 = (ps0.wrong G 0 4, []) := by
    have hb : badB G ps0.i = false := by
      unfold badB
      rw [show ps0.i = 0 from rfl, hg]
      simp [hg1]
    have hr : runeAt G ps0.i = 63 := by
      unfold runeAt
      rw [show ps0.i = 0 from rfl, List.getD_eq_getElem?_getD, hg]
      exact hg1
    unfold atomF
    simp only [hb, hr]
    rfl
  have hrep : repF G (altF G 20) ps0 = (ps0.wrong G 0 4, []) := by
    unfold repF
    simp only [hat]
    rw [if_pos hwe]
  have hcat : (catF G (altF G 20) ps0).1 = ps0.wrong G 0 4 := by
    unfold catF
    have n124 : isR G ps0 124 = false := by
      unfold isR
      rw [show ps0.i = 0 from rfl, hg]
      simp [hg1]
    have hn : G.length + 2 - ps0.i = (G.length + 1) + 1 := by show G.length + 2 - 0 = _; omega
    rw [hn, catGo, if_pos ⟨rfl, hl, n124, fun k => absurd k.2 (by decide)⟩, hrep, catGo_err hwe]
  have halt : (altF G 21 ps0).1 = ps0.wrong G 0 4 := by
    show (alt1 G (altF G 20) ps0).1 = _
    unfold alt1
    simp only [hcat]
    rw [altGo_err hwe]
  unfold parseG at h
  simp only [halt] at h
  rw [if_neg (c := (ps0.wrong G 0 4).err = 0 ∧ (ps0.wrong G 0 4).i < G.length) (fun k => hwe k.1), if_pos hwe] at h
  simp only [Prod.mk.injEq] at h
  exact hwe h.2.1
theorem nst_of {G pre : List Gt} (d : Nat) : Nst G (pre ++ G ++ [(41, 1)]) pre.length d where
  in_ i hi := by
    rw [List.append_assoc, List.getElem?_append_right (by omega), Nat.add_sub_cancel, List.getElem?_append_left hi]
  end_ := by
    rw [List.getElem?_append_right (by simp; omega)]
    simp [Nat.add_comm]
  len := by simp; omega
theorem free_bytes {s : List UInt8} {L : List Nd} (hl : s.length ≤ 116) (h : parseF s = (L, 0, 0)) : parseF ([40, 63, 58] ++ s ++ [41]) = (L, 0, 0) ∨ (parseF ([40, 63, 58] ++ s ++ [41])).2.1 = 10 := by
  unfold parseF at h ⊢
  rw [if_neg (by omega)] at h
  rw [if_neg (by simp; omega)]
  have e : allF ([40, 63, 58] ++ s ++ [41]) = [(40, 1), (63, 1), (58, 1)] ++ allF s ++ [(41, 1)] := by
    rw [allF_app]
    show allF (40 :: 63 :: 58 :: s) ++ _ = _
    rw [allF_pre _ (by decide), allF_pre _ (by decide), allF_pre _ (by decide)]
    rfl
  rw [e]
  exact nested_free ix (nst_of (pre := [(40, 1), (63, 1), (58, 1)]) 0) rfl rfl rfl h
theorem group_bytes {s : List UInt8} {L : List Nd} (hl : s.length ≤ 116) (hg : grpN L < 4) (h : parseF s = (L, 0, 0)) : parseF ([40] ++ s ++ [41]) = ({ nd 6 with cap := 1, kids := 1 } :: L.map (shN 1), 0, 0) ∨ (parseF ([40] ++ s ++ [41])).2.1 = 10 := by
  unfold parseF at h ⊢
  rw [if_neg (by omega)] at h
  rw [if_neg (by simp; omega)]
  have e : allF ([40] ++ s ++ [41]) = [(40, 1)] ++ allF s ++ [(41, 1)] := by
    rw [allF_app]
    show allF (40 :: s) ++ _ = _
    rw [allF_pre _ (by decide)]
    rfl
  rw [e]
  refine nested_group ix (nst_of (pre := [(40, 1)]) 1) rfl ?_ hg h
  have hq := not_q h
  unfold isR at hq ⊢
  show (match ([(40, 1)] ++ allF s ++ [(41, 1)])[1]? with
    | some g => g.1 == 63
    | none => false) = false
  rw [show ps0.i = 0 from rfl] at hq
  cases hc : allF s with
  | nil => rfl
  | cons g t => rw [hc] at hq; exact hq
end Go.Proofs.YtooockbfagkknaaDoor.syn
