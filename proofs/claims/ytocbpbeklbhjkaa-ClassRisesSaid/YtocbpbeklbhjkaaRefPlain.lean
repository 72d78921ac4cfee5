/- Between two marks nothing turns: what spoorref7.Make and Not answer, plainly. -/
import Derived.Test.YtocbpbeklbhjkaaRefMake
import Derived.Test.YtocbpbeklbhjkaaNot
namespace Go.Proofs.Ytocbpbeklbhjkaa.cls
open Go.RowKit Go.Proofs.Ytocbpbeklbhjkaa.sl
theorem adj {m : List Int} (h : m.Pairwise (· ≤ ·)) {k : Nat} (hk : k + 1 < m.length) {y : Int} (hy : y ∈ m) : y ≤ m.getD k 0 ∨ m.getD (k + 1) 0 ≤ y := by
  obtain ⟨i, hi, rfl⟩ := List.getElem_of_mem hy
  have pw := List.pairwise_iff_getElem.1 h
  have e1 : m.getD k 0 = m[k] := by simp [List.getD_eq_getElem?_getD, List.getElem?_eq_getElem (show k < m.length by omega)]
  have e2 : m.getD (k + 1) 0 = m[k + 1] := by simp [List.getD_eq_getElem?_getD, List.getElem?_eq_getElem hk]
  rw [e1, e2]
  rcases Nat.lt_trichotomy i k with hlt | rfl | hgt
  · exact .inl (pw i k hi (by omega) hlt)
  · exact .inl (Int.le_refl _)
  · rcases Nat.lt_or_ge (k + 1) i with h2 | h2
    · exact .inr (pw (k + 1) i hk hi h2)
    · obtain rfl : i = k + 1 := by omega
      exact .inr (Int.le_refl _)
theorem pieceF_good {out : List Rg} {lo hi : Int} (h : Good out) (hp : InP (lo, hi)) (hlt : ∀ p ∈ out, p.2 < lo) :
    Good (pieceF out lo hi) ∧ (∀ p ∈ pieceF out lo hi, p.2 ≤ hi) ∧ ∀ r, hasB (pieceF out lo hi) r = (hasB out r || (decide (lo ≤ r) && decide (r ≤ hi))) := by
  unfold InP at hp
  simp only at hp
  rcases List.eq_nil_or_concat out with rfl | ⟨o0, p, rfl⟩
  · refine ⟨⟨fun q hq => ?_, by simp [pieceF]⟩, fun q hq => ?_, fun r => ?_⟩
    · simp [pieceF] at hq; subst hq; exact hp
    · simp [pieceF] at hq; subst hq; exact Int.le_refl _
    · simp [pieceF, hasB]
  · rw [List.concat_eq_append] at *
    have hpf : pieceF (o0 ++ [p]) lo hi = if p.2 + 1 = lo then o0 ++ [(p.1, hi)] else o0 ++ [p] ++ [(lo, hi)] := by simp [pieceF]
    have ip := h.1 p (by simp)
    have hpl := hlt p (by simp)
    have pw := List.pairwise_append.1 h.2
    have hlo : ∀ q ∈ o0, q.2 + 1 < p.1 := fun q hq => pw.2.2 q hq p (by simp)
    unfold InP at ip
    rw [hpf]
    by_cases hq : p.2 + 1 = lo
    · rw [if_pos hq]
      refine ⟨⟨fun q hq' => ?_, ?_⟩, fun q hq' => ?_, fun r => ?_⟩
      · rcases List.mem_append.1 hq' with hq' | hq'
        · exact h.1 q (by simp [hq'])
        · simp at hq'; subst hq'; simp only [InP]; omega
      · refine List.pairwise_append.2 ⟨pw.1, by simp, fun a ha b hb => ?_⟩
        simp at hb; subst hb; exact hlo a ha
      · rcases List.mem_append.1 hq' with hq' | hq'
        · have := hlt q (by simp [hq']); omega
        · simp at hq'; subst hq'; exact Int.le_refl _
      · rw [has_append, has_append, Bool.or_assoc]
        congr 1
        rw [Bool.eq_iff_iff]
        simp [hasB]
        omega
    · rw [if_neg hq]
      refine ⟨⟨fun q hq' => ?_, ?_⟩, fun q hq' => ?_, fun r => ?_⟩
      · rcases List.mem_append.1 hq' with hq' | hq'
        · exact h.1 q hq'
        · simp at hq'; subst hq'; exact hp
      · refine List.pairwise_append.2 ⟨h.2, by simp, fun a ha b hb => ?_⟩
        simp at hb; subst hb
        rcases List.mem_append.1 ha with ha | ha
        · have := hlo a ha; simp only; omega
        · simp at ha; subst ha; simp only; omega
      · rcases List.mem_append.1 hq' with hq' | hq'
        · have := hlt q hq'; omega
        · simp at hq'; subst hq'; exact Int.le_refl _
      · rw [has_append]
        congr 1
        simp [hasB]
/-- Nothing turns between two marks. -/
def Still (c : Int → Bool) (m : List Int) : Prop := ∀ k, k + 1 < m.length → ∀ r, m.getD k 0 ≤ r → r < m.getD (k + 1) 0 → c r = c (m.getD k 0)
theorem still_has {l : List Rg} {m : List Int} (hp : m.Perm (marks0 l)) (hpw : m.Pairwise (· ≤ ·)) : Still (fun r => hasB l r) m := by
  intro k hk r h1 h2
  have b0 := marks_bd _ (hp.mem_iff.1 (List.mem_of_getElem? (getD_eq (show k < m.length by omega) 0)))
  have b1 := marks_bd _ (hp.mem_iff.1 (List.mem_of_getElem? (getD_eq hk 0)))
  have mk : ∀ x ∈ l, ∀ y ∈ markF x, y ≤ m.getD k 0 ∨ m.getD (k + 1) 0 ≤ y := fun x hx y hy =>
    adj hpw hk (hp.mem_iff.2 (by simp only [marks0, List.mem_append, List.mem_flatMap]; exact .inr ⟨x, hx, hy⟩))
  generalize m.getD k 0 = A at *
  generalize m.getD (k + 1) 0 = C at *
  show hasB l r = hasB l A
  rw [Bool.eq_iff_iff, has_iff, has_iff]
  constructor
  · rintro ⟨x, hx, e1, e2⟩
    refine ⟨x, hx, ?_, by omega⟩
    rcases (show A < x.1 ∨ x.1 ≤ A by omega) with hA | hA
    · have hm : m1 x = true := by simp [m1]; omega
      have := mk x hx x.1 (by simp [markF, hm])
      omega
    · exact hA
  · rintro ⟨x, hx, e1, e2⟩
    refine ⟨x, hx, by omega, ?_⟩
    rcases (show x.2 < r ∨ r ≤ x.2 by omega) with hA | hA
    · have hm : m2 x = true := by simp [m2]; omega
      have := mk x hx (x.2 + 1) (by simp [markF, hm])
      omega
    · exact hA
theorem ref_step {c : Int → Bool} {out : List Rg} {A C : Int} (i1 : Good out) (i2 : ∀ p ∈ out, p.2 < A) (i3 : ∀ r, hasB out r = (decide (r < A) && (validB r && c r))) (bA : 0 ≤ A ∧ A ≤ 1114112) (bC : 0 ≤ C ∧ C ≤ 1114112) (hle : A ≤ C)
    (a1 : 55296 ≤ A ∨ C ≤ 55296) (a2 : 57344 ≤ A ∨ C ≤ 57344) (hcc : ∀ r, A ≤ r → r < C → c r = c A) :
    Good (if (decide (A < C) && (decide (A < 55296) || decide (57343 < A)) && c A) = true then pieceF out A (C - 1) else out) ∧
    (∀ p ∈ (if (decide (A < C) && (decide (A < 55296) || decide (57343 < A)) && c A) = true then pieceF out A (C - 1) else out), p.2 < C) ∧
    ∀ r, hasB (if (decide (A < C) && (decide (A < 55296) || decide (57343 < A)) && c A) = true then pieceF out A (C - 1) else out) r = (decide (r < C) && (validB r && c r)) := by
  by_cases hcond : (decide (A < C) && (decide (A < 55296) || decide (57343 < A)) && c A) = true
  · rw [if_pos hcond]
    simp only [Bool.and_eq_true, Bool.or_eq_true, decide_eq_true_eq] at hcond
    obtain ⟨⟨h1, h2⟩, h3⟩ := hcond
    obtain ⟨g1, g2, g3⟩ := pieceF_good (lo := A) (hi := C - 1) i1 (by simp only [InP]; omega) i2
    refine ⟨g1, fun p hp' => by have := g2 p hp'; omega, fun r => ?_⟩
    rw [g3, i3]
    by_cases hr : A ≤ r ∧ r < C
    · have hv : validB r = true := (valid_iff r).2 (by omega)
      rw [hcc r hr.1 hr.2, h3, hv]
      rw [Bool.eq_iff_iff]
      simp
      omega
    · have e : (decide (A ≤ r) && decide (r ≤ C - 1)) = false := by simp; omega
      have e2 : decide (r < A) = decide (r < C) := by rw [decide_eq_decide]; omega
      rw [e, e2, Bool.or_false]
  · rw [if_neg hcond]
    refine ⟨i1, fun p hp' => by have := i2 p hp'; omega, fun r => ?_⟩
    rw [i3]
    by_cases hr : A ≤ r ∧ r < C
    · have e : decide (r < A) = false := by simp; omega
      rw [e, Bool.false_and]
      symm
      rw [Bool.and_eq_false_iff]
      right
      rw [hcc r hr.1 hr.2]
      rw [Bool.and_eq_false_iff]
      rcases h3 : c A with _ | _
      · exact .inr rfl
      · left
        rw [h3] at hcond
        simp only [Bool.and_true, Bool.and_eq_true, Bool.or_eq_true, decide_eq_true_eq] at hcond
        rcases hv : validB r with _ | _
        · rfl
        · have := (valid_iff r).1 hv
          omega
    · have e2 : decide (r < A) = decide (r < C) := by rw [decide_eq_decide]; omega
      rw [e2]
theorem refF_good {c : Int → Bool} {l : List Rg} {m : List Int} (hp : m.Perm (marks0 l)) (hpw : m.Pairwise (· ≤ ·)) (hc : Still c m) :
    ∀ k, k + 1 ≤ m.length → Good (refF c m k) ∧ (∀ p ∈ refF c m k, p.2 < m.getD k 0) ∧ ∀ r, hasB (refF c m k) r = (decide (r < m.getD k 0) && (validB r && c r)) := by
  have mem : ∀ y ∈ [0, 55296, 57344, 1114112], (y : Int) ∈ m := fun y hy => hp.mem_iff.2 (by simp only [marks0, List.mem_append]; exact .inl hy)
  have bd : ∀ k, k < m.length → 0 ≤ m.getD k 0 ∧ m.getD k 0 ≤ 1114112 := fun k hk => marks_bd _ (hp.mem_iff.1 (List.mem_of_getElem? (getD_eq hk 0)))
  intro k
  induction k with
  | zero =>
    intro hk
    have h0 : m.getD 0 0 = 0 := by
      have b := bd 0 hk
      obtain ⟨i, hi, he⟩ := List.getElem_of_mem (mem 0 (by simp))
      have pw := List.pairwise_iff_getElem.1 hpw
      rcases Nat.eq_zero_or_pos i with rfl | hpos
      · simpa [List.getD_eq_getElem?_getD, List.getElem?_eq_getElem hi] using he
      · have := pw 0 i hk hi hpos
        have e1 : m.getD 0 0 = m[0] := by simp [List.getD_eq_getElem?_getD, List.getElem?_eq_getElem (show 0 < m.length by omega)]
        rw [he] at this
        omega
    refine ⟨⟨by simp [refF], by simp [refF]⟩, by simp [refF], fun r => ?_⟩
    rw [h0]
    rcases hv : validB r with _ | _
    · simp [refF, hasB]
    · have := (valid_iff r).1 hv
      simp [refF, hasB]
      omega
  | succ k ih =>
    intro hk
    obtain ⟨i1, i2, i3⟩ := ih (by omega)
    have bA := bd k (by omega)
    have bC := bd (k + 1) (by omega)
    have hle : m.getD k 0 ≤ m.getD (k + 1) 0 := by
      have pw := List.pairwise_iff_getElem.1 hpw k (k + 1) (by omega) (by omega) (by omega)
      simpa [List.getD_eq_getElem?_getD, List.getElem?_eq_getElem (show k < m.length by omega), List.getElem?_eq_getElem (show k + 1 < m.length by omega)] using pw
    have a1 := adj hpw (show k + 1 < m.length by omega) (mem 55296 (by simp))
    have a2 := adj hpw (show k + 1 < m.length by omega) (mem 57344 (by simp))
    have hcc := hc k (by omega)
    exact ref_step i1 i2 i3 bA bC hle a1 a2 hcc
theorem refF_end {c : Int → Bool} {l : List Rg} {m : List Int} (hp : m.Perm (marks0 l)) (hpw : m.Pairwise (· ≤ ·)) (hc : Still c m) :
    Good (refF c m (m.length - 1)) ∧ ∀ r, hasB (refF c m (m.length - 1)) r = (validB r && c r) := by
  have hl : 1 ≤ m.length := by have := hp.length_eq; simp [marks0] at this; omega
  obtain ⟨g1, _, g3⟩ := refF_good hp hpw hc (m.length - 1) (by omega)
  have mem : (1114112 : Int) ∈ m := hp.mem_iff.2 (by simp [marks0])
  have hlast : m.getD (m.length - 1) 0 = 1114112 := by
    have b := marks_bd _ (hp.mem_iff.1 (List.mem_of_getElem? (getD_eq (show m.length - 1 < m.length by omega) 0)))
    obtain ⟨i, hi, he⟩ := List.getElem_of_mem mem
    have pw := List.pairwise_iff_getElem.1 hpw
    have e1 : m.getD (m.length - 1) 0 = m[m.length - 1] := by simp [List.getD_eq_getElem?_getD, List.getElem?_eq_getElem (show m.length - 1 < m.length by omega)]
    rcases Nat.lt_or_ge i (m.length - 1) with hlt | hge
    · have := pw i (m.length - 1) hi (by omega) hlt
      rw [he] at this
      omega
    · have : i = m.length - 1 := by omega
      subst this
      rw [e1, he]
  refine ⟨g1, fun r => ?_⟩
  rw [g3, hlast]
  rcases hv : validB r with _ | _
  · simp
  · have := (valid_iff r).1 hv
    simp
    omega
theorem refMakeC (a : Option Addr) (l : List Rg) (cap : Nat) (w : World) (h : Rd er w a l cap) (hl : l.length ≤ 100000) :
    Calls Try.prog 17 #[.slice a l.length cap] w fun e w' => ∃ v, e = .returned v ∧ OwnR w.heap.size w' v (makeF l) ∧ Below w.heap.size w w' := by
  refine (refMake a l cap w h hl).mono ?_
  rintro e w' ⟨v, m, rfl, hp, hpw, ho, hb⟩
  obtain ⟨g, hh⟩ := refF_end hp hpw (still_has hp hpw)
  have hm := makeF_makes l
  have e : refF (fun r => hasB l r) m (m.length - 1) = makeF l := good_uniq g hm.1 fun r => by rw [hh, hm.2.1]
  rw [e] at ho
  exact ⟨v, rfl, ho, hb⟩
theorem refNotC (a : Option Addr) (l n : List Rg) (cap : Nat) (w : World) (h : Rd er w a l cap) (hl : l.length ≤ 100000) (hn : Nots l n) :
    Calls Try.prog 18 #[.slice a l.length cap] w fun e w' => ∃ v, e = .returned v ∧ OwnR w.heap.size w' v n ∧ Below w.heap.size w w' := by
  refine (refNot a l cap w h hl).mono ?_
  rintro e w' ⟨v, m, rfl, hp, hpw, ho, hb⟩
  have hs := still_has hp hpw
  obtain ⟨g, hh⟩ := refF_end (c := fun r => !hasB l r) hp hpw (fun k hk r h1 h2 => by have := hs k hk r h1 h2; simp only at this; simp only [this])
  have e : refF (fun r => !hasB l r) m (m.length - 1) = n := good_uniq g hn.1 fun r => by rw [hh, hn.2.1]
  rw [e] at ho
  exact ⟨v, rfl, ho, hb⟩
end Go.Proofs.Ytocbpbeklbhjkaa.cls
