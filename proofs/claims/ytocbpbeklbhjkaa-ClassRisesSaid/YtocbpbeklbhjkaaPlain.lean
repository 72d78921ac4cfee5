/- Lists of ranges, plainly: what is in; the form that Make answers in; there is but one list of a form with the same runes. -/
import Derived.Test.YtocbpbeklbhjkaaMake
namespace Go.Proofs.Ytocbpbeklbhjkaa.cls
open Go.RowKit
def InP (p : Rg) : Prop := 0 ≤ p.1 ∧ p.1 ≤ p.2 ∧ p.2 ≤ 1114111 ∧ (p.2 < 55296 ∨ 57343 < p.1)
def Good (l : List Rg) : Prop := (∀ p ∈ l, InP p) ∧ l.Pairwise (fun p q => p.2 + 1 < q.1)
theorem has_iff (l : List Rg) (r : Int) : hasB l r = true ↔ ∃ p ∈ l, p.1 ≤ r ∧ r ≤ p.2 := by
  simp [hasB, List.any_eq_true]
theorem has_cons (p : Rg) (l : List Rg) (r : Int) : hasB (p :: l) r = ((decide (p.1 ≤ r) && decide (r ≤ p.2)) || hasB l r) := rfl
theorem has_append (l m : List Rg) (r : Int) : hasB (l ++ m) r = (hasB l r || hasB m r) := by simp [hasB]
theorem has_perm {l m : List Rg} (h : l.Perm m) (r : Int) : hasB l r = hasB m r := by
  rw [Bool.eq_iff_iff, has_iff, has_iff]
  constructor
  · rintro ⟨p, hp, h1⟩; exact ⟨p, h.mem_iff.1 hp, h1⟩
  · rintro ⟨p, hp, h1⟩; exact ⟨p, h.mem_iff.2 hp, h1⟩
theorem valid_iff (r : Int) : validB r = true ↔ 0 ≤ r ∧ r ≤ 1114111 ∧ (r < 55296 ∨ 57343 < r) := by
  simp [validB]
  omega
theorem good_tail {p : Rg} {l : List Rg} (h : Good (p :: l)) : Good l := ⟨fun q hq => h.1 q (by simp [hq]), (List.pairwise_cons.1 h.2).2⟩
theorem good_low {p : Rg} {l : List Rg} (h : Good (p :: l)) {r : Int} (hr : hasB l r = true) : p.2 + 1 < r := by
  obtain ⟨q, hq, h1, h2⟩ := (has_iff _ _).1 hr
  have := (List.pairwise_cons.1 h.2).1 q hq
  omega
theorem good_first {p : Rg} {l : List Rg} (h : Good (p :: l)) {r : Int} (hr : hasB (p :: l) r = true) : p.1 ≤ r := by
  rw [has_cons, Bool.or_eq_true] at hr
  rcases hr with hr | hr
  · simp at hr; omega
  · have := good_low h hr
    have := h.1 p (by simp)
    unfold InP at this
    omega
theorem good_uniq : ∀ {l m : List Rg}, Good l → Good m → (∀ r, hasB l r = hasB m r) → l = m
  | [], [], _, _, _ => rfl
  | [], q :: u, _, hm, h => by
    have := h q.1
    have hq := hm.1 q (by simp)
    unfold InP at hq
    rw [has_cons] at this
    simp [hasB] at this
    omega
  | p :: t, [], hl, _, h => by
    have := h p.1
    have hq := hl.1 p (by simp)
    unfold InP at hq
    rw [has_cons] at this
    simp [hasB] at this
    omega
  | p :: t, q :: u, hl, hm, h => by
    have ip := hl.1 p (by simp)
    have iq := hm.1 q (by simp)
    unfold InP at ip iq
    have inp : ∀ r, p.1 ≤ r → r ≤ p.2 → hasB (p :: t) r = true := fun r a b => by rw [has_cons]; simp [a, b]
    have inq : ∀ r, q.1 ≤ r → r ≤ q.2 → hasB (q :: u) r = true := fun r a b => by rw [has_cons]; simp [a, b]
    have e1 : p.1 = q.1 := by
      have a := good_first hm ((h p.1).symm.trans (inp p.1 (by omega) (by omega)))
      have b := good_first hl ((h q.1).trans (inq q.1 (by omega) (by omega)))
      omega
    have e2 : p.2 = q.2 := by
      rcases Int.lt_trichotomy p.2 q.2 with hlt | he | hlt
      · have a := (h (p.2 + 1)).trans (inq (p.2 + 1) (by omega) (by omega))
        rw [has_cons, Bool.or_eq_true] at a
        rcases a with a | a
        · simp at a; omega
        · have := good_low hl a; omega
      · exact he
      · have a := (h (q.2 + 1)).symm.trans (inp (q.2 + 1) (by omega) (by omega))
        rw [has_cons, Bool.or_eq_true] at a
        rcases a with a | a
        · simp at a; omega
        · have := good_low hm a; omega
    have epq : p = q := Prod.ext e1 e2
    subst epq
    congr 1
    refine good_uniq (good_tail hl) (good_tail hm) fun r => ?_
    by_cases hr : p.1 ≤ r ∧ r ≤ p.2
    · have f1 : hasB t r = false := by
        rcases ht : hasB t r with _ | _
        · rfl
        · have := good_low hl ht; omega
      have f2 : hasB u r = false := by
        rcases ht : hasB u r with _ | _
        · rfl
        · have := good_low hm ht; omega
      rw [f1, f2]
    · have := h r
      rw [has_cons, has_cons] at this
      have e : (decide (p.1 ≤ r) && decide (r ≤ p.2)) = false := by simp; omega
      rw [e] at this
      simpa using this
theorem mergeStep_good {out : List Rg} {r : Rg} (h : Good out) (hr : InP r) (hlast : ∀ p ∈ out, p.1 ≤ r.1) : Good (mergeStep out r) ∧ (∀ p ∈ mergeStep out r, p.1 ≤ r.1) ∧ ∀ x, hasB (mergeStep out r) x = (hasB out x || (decide (r.1 ≤ x) && decide (x ≤ r.2))) := by
  rcases List.eq_nil_or_concat out with rfl | ⟨o0, p, rfl⟩
  · refine ⟨⟨?_, by simp [mergeStep]⟩, ?_, fun x => ?_⟩
    · intro q hq
      simp [mergeStep] at hq
      subst hq; exact hr
    · intro q hq
      simp [mergeStep] at hq
      subst hq; exact Int.le_refl _
    · simp [mergeStep, hasB]
  · rw [List.concat_eq_append] at *
    have hst : mergeStep (o0 ++ [p]) r = if r.1 ≤ p.2 + 1 then o0 ++ [(p.1, max p.2 r.2)] else o0 ++ [p] ++ [r] := by simp [mergeStep]
    have ip := h.1 p (by simp)
    have hpr := hlast p (by simp)
    have pw := List.pairwise_append.1 h.2
    have hlo : ∀ q ∈ o0, q.2 + 1 < p.1 := fun q hq => pw.2.2 q hq p (by simp)
    unfold InP at ip hr
    rw [hst]
    by_cases hq : r.1 ≤ p.2 + 1
    · rw [if_pos hq]
      refine ⟨⟨fun q hq' => ?_, ?_⟩, fun q hq' => ?_, fun x => ?_⟩
      · rcases List.mem_append.1 hq' with hq' | hq'
        · exact h.1 q (by simp [hq'])
        · simp at hq'
          subst hq'
          simp only [InP]
          omega
      · refine List.pairwise_append.2 ⟨pw.1, by simp, fun a ha b hb => ?_⟩
        simp at hb
        subst hb
        exact hlo a ha
      · rcases List.mem_append.1 hq' with hq' | hq'
        · exact hlast q (by simp [hq'])
        · simp at hq'
          subst hq'
          exact hpr
      · rw [has_append, has_append, Bool.or_assoc]
        congr 1
        rw [Bool.eq_iff_iff]
        simp [hasB]
        omega
    · rw [if_neg hq]
      refine ⟨⟨fun q hq' => ?_, ?_⟩, fun q hq' => ?_, fun x => ?_⟩
      · rcases List.mem_append.1 hq' with hq' | hq'
        · exact h.1 q hq'
        · simp at hq'
          subst hq'
          exact hr
      · refine List.pairwise_append.2 ⟨h.2, by simp, fun a ha b hb => ?_⟩
        simp at hb
        subst hb
        rcases List.mem_append.1 ha with ha | ha
        · have := hlo a ha; omega
        · simp at ha
          subst ha
          omega
      · rcases List.mem_append.1 hq' with hq' | hq'
        · exact hlast q hq'
        · simp at hq'
          subst hq'
          exact Int.le_refl _
      · rw [has_append]
        congr 1
        simp [hasB]
theorem mergeF_good {s : List Rg} (hs : ∀ p ∈ s, InP p) (hpw : s.Pairwise (fun a b => a.1 ≤ b.1)) : Good (mergeF s) ∧ ∀ x, hasB (mergeF s) x = hasB s x := by
  have gen : ∀ (s out : List Rg), (∀ p ∈ s, InP p) → s.Pairwise (fun a b => a.1 ≤ b.1) → Good out → (∀ p ∈ out, ∀ x ∈ s, p.1 ≤ x.1) → Good (s.foldl mergeStep out) ∧ ∀ x, hasB (s.foldl mergeStep out) x = (hasB out x || hasB s x) := by
    intro s
    induction s with
    | nil => intro out _ _ h _; exact ⟨h, fun x => by simp [hasB]⟩
    | cons r t ih =>
      intro out hs hpw ho hl
      obtain ⟨g1, g2, g3⟩ := mergeStep_good ho (hs r (by simp)) (fun p hp => hl p hp r (by simp))
      have pw := List.pairwise_cons.1 hpw
      obtain ⟨k1, k2⟩ := ih _ (fun p hp => hs p (by simp [hp])) pw.2 g1 (fun p hp x hx => Int.le_trans (g2 p hp) (pw.1 x hx))
      refine ⟨k1, fun x => ?_⟩
      rw [List.foldl_cons, k2, g3, has_cons, Bool.or_assoc]
  have := gen s [] hs hpw ⟨by simp, by simp⟩ (by simp)
  simpa [hasB, mergeF] using this
theorem runes_inP (x : Rg) : ∀ r ∈ runesF x, InP r := by
  intro r hr
  simp only [runesF, List.mem_flatMap] at hr
  obtain ⟨p, hp, hr⟩ := hr
  unfold clip at hr
  split at hr
  · simp at hr
    subst hr
    simp [parts] at hp
    rcases hp with rfl | rfl <;> simp [InP] <;> omega
  · simp at hr
theorem clip_has (x p : Rg) (r : Int) : hasB (clip x p) r = (decide (x.1 ≤ r) && decide (r ≤ x.2) && (decide (p.1 ≤ r) && decide (r ≤ p.2))) := by
  unfold clip
  split
  · rw [Bool.eq_iff_iff]; simp [hasB]; omega
  · rw [Bool.eq_iff_iff]; simp [hasB]; omega
theorem runes_has (x : Rg) (r : Int) : hasB (runesF x) r = (validB r && (decide (x.1 ≤ r) && decide (r ≤ x.2))) := by
  simp only [runesF, parts, List.flatMap_cons, List.flatMap_nil, List.append_nil, has_append, clip_has]
  rw [Bool.eq_iff_iff]
  simp [validB]
  omega
theorem flat_has (l : List Rg) (r : Int) : hasB (l.flatMap runesF) r = (validB r && hasB l r) := by
  induction l with
  | nil => simp [hasB]
  | cons x t ih =>
    rw [List.flatMap_cons, has_append, ih, runes_has, has_cons]
    cases validB r <;> simp
/-- What Make answers: the form, and the runes. -/
def Makes (l m : List Rg) : Prop := Good m ∧ (∀ r, hasB m r = (validB r && hasB l r)) ∧ m.length ≤ 2 * l.length
theorem makes_of {l s : List Rg} (hp : s.Perm (l.flatMap runesF)) (hpw : s.Pairwise (fun a b => a.1 ≤ b.1)) : Makes l (mergeF s) := by
  have hin : ∀ p ∈ s, InP p := fun p hp' => by
    obtain ⟨x, _, hx⟩ := List.mem_flatMap.1 (hp.mem_iff.1 hp')
    exact runes_inP x p hx
  obtain ⟨g, hh⟩ := mergeF_good hin hpw
  refine ⟨g, fun r => ?_, ?_⟩
  · rw [hh, has_perm hp, flat_has]
  · have h1 := mergeF_len s
    have h2 := hp.length_eq
    have h3 := sl.flat_len_le runesF 2 runes_len l
    omega
theorem makes_uniq {l m m' : List Rg} (h : Makes l m) (h' : Makes l m') : m = m' := good_uniq h.1 h'.1 fun r => by rw [h.2.1, h'.2.1]
def leLo (a b : Rg) : Bool := decide (a.1 ≤ b.1)
def makeF (l : List Rg) : List Rg := mergeF ((l.flatMap runesF).mergeSort leLo)
theorem makeF_makes (l : List Rg) : Makes l (makeF l) := by
  refine makes_of (List.mergeSort_perm _ _) ?_
  have := List.pairwise_mergeSort (le := leLo) (fun a b c h1 h2 => by simp [leLo] at *; omega) (fun a b => by simp [leLo]; omega) (l.flatMap runesF)
  exact this.imp fun h => by simpa [leLo] using h
theorem makes_eq {l m : List Rg} (h : Makes l m) : m = makeF l := makes_uniq h (makeF_makes l)
theorem make (a : Option Addr) (l : List Rg) (cap : Nat) (w : World) (h : sl.Rd er w a l cap) (hl : l.length ≤ 100000000) :
    Calls Try.prog 9 #[.slice a l.length cap] w fun e w' => ∃ v m, e = .returned v ∧ Makes l m ∧ OwnR w.heap.size w' v m ∧ Below w.heap.size w w' :=
  (makeLoop a l cap w h hl).mono fun _ _ ⟨v, s, he, hp, hpw, ho, hb⟩ => ⟨v, mergeF s, he, makes_of hp hpw, ho, hb⟩
end Go.Proofs.Ytocbpbeklbhjkaa.cls
