/- How many runes are in: plain counting. -/
import Derived.Test.YtocbpbeklbhjkaaRunsW
namespace Go.Proofs.Ytocbpbeklbhjkaa.cls
open Go.RowKit Go.Proofs.Ytocbpbeklbhjkaa.sl
def total : List Rg → Int
  | [] => 0
  | x :: t => (x.2 - x.1 + 1) + total t
theorem total_app (l m : List Rg) : total (l ++ m) = total l + total m := by
  induction l with
  | nil => simp [total]
  | cons x t ih => simp only [List.cons_append, total, ih]; omega
theorem total_step {l : List Rg} {k : Nat} {x : Rg} (h : l[k]? = some x) : total (l.take (k + 1)) = total (l.take k) + x.2 - x.1 + 1 := by
  rw [List.take_add_one, h, total_app]
  simp only [Option.toList, total]; omega
theorem total_bd {l : List Rg} (h : ∀ p ∈ l, InP p) : 0 ≤ total l ∧ total l ≤ (l.length : Int) * 1114112 := by
  induction l with
  | nil => simp [total]
  | cons x t ih =>
    have hx := h x (by simp)
    unfold InP at hx
    have := ih fun p hp => h p (by simp [hp])
    simp only [total, List.length_cons]
    omega
theorem count_or {p q : Nat → Bool} {L : List Nat} (h : ∀ r ∈ L, ¬ (p r = true ∧ q r = true)) : L.countP (fun r => p r || q r) = L.countP p + L.countP q := by
  induction L with
  | nil => rfl
  | cons x t ih =>
    have hx := h x (by simp)
    have := ih fun r hr => h r (by simp [hr])
    simp only [List.countP_cons, this]
    cases hp : p x <;> cases hq : q x <;> simp [hp, hq] at hx ⊢ <;> omega
theorem count_iv (A B : Nat) (h : A ≤ B + 1) : ∀ N, (List.range N).countP (fun r : Nat => decide ((A : Int) ≤ (r : Int)) && decide ((r : Int) ≤ (B : Int))) = min N (B + 1) - min N A := by
  intro N
  induction N with
  | zero => simp
  | succ N ih =>
    rw [List.range_succ, List.countP_append, ih, List.countP_singleton]
    by_cases h1 : A ≤ N <;> by_cases h2 : N ≤ B <;> simp [h1, h2] <;> omega
def all : List Nat := List.range 1114112
theorem all_lt {r : Nat} (h : r ∈ all) : r < 1114112 := List.mem_range.1 h
theorem count_good : ∀ {m : List Rg}, Good m → ((all.countP fun r : Nat => hasB m (r : Int) : Nat) : Int) = total m
  | [], _ => by
    have : (all.countP fun r : Nat => hasB [] (r : Int)) = 0 := by rw [List.countP_eq_zero]; intro r _; simp [hasB]
    simp [this, total]
  | p :: t, hg => by
    have ip := hg.1 p (by simp)
    have pw := List.pairwise_cons.1 hg.2
    have ih := count_good (m := t) ⟨fun q hq => hg.1 q (by simp [hq]), pw.2⟩
    have e : (fun r : Nat => hasB (p :: t) (r : Int)) = fun r : Nat => ((decide (p.1 ≤ (r : Int)) && decide ((r : Int) ≤ p.2)) || hasB t (r : Int)) := by
      funext r; rw [has_cons]
    rw [e, count_or (p := fun r : Nat => decide (p.1 ≤ (r : Int)) && decide ((r : Int) ≤ p.2)) (q := fun r : Nat => hasB t (r : Int)) ?_]
    · obtain ⟨a, b⟩ := p
      unfold InP at ip
      obtain ⟨A, rfl⟩ := Int.eq_ofNat_of_zero_le ip.1
      obtain ⟨B, rfl⟩ := Int.eq_ofNat_of_zero_le (show (0 : Int) ≤ b by simp only at ip; omega)
      simp only at ip ⊢
      have := count_iv A B (by omega) 1114112
      unfold all at ih ⊢
      rw [this]
      simp only [total]
      push_cast
      rw [ih]
      omega
    · rintro r _ ⟨h1, h2⟩
      obtain ⟨q, hq, h3, h4⟩ := (has_iff _ _).1 h2
      have := pw.1 q hq
      simp at h1
      omega
def runesAll : List Rg := [(0, 55295), (57344, 1114111)]
theorem runesAll_good : Good runesAll := ⟨by simp [runesAll, InP], by simp [runesAll]⟩
theorem runesAll_has (r : Int) : hasB runesAll r = validB r := by rw [Bool.eq_iff_iff]; simp [runesAll, hasB, validB]; omega
theorem total_two (l : List Rg) : total (makeF l) + total (notF l) = 1112064 := by
  have hm := makeF_makes l
  have hn := notF_nots l
  rw [← count_good hm.1, ← count_good hn.1]
  have e : all.countP (fun r : Nat => hasB (makeF l) (r : Int) || hasB (notF l) (r : Int)) = all.countP (fun r : Nat => hasB (makeF l) (r : Int)) + all.countP (fun r : Nat => hasB (notF l) (r : Int)) :=
    count_or (p := fun r : Nat => hasB (makeF l) (r : Int)) (q := fun r : Nat => hasB (notF l) (r : Int)) (by
      rintro r _ ⟨h1, h2⟩
      rw [hm.2.1] at h1
      rw [hn.2.1] at h2
      cases hv : hasB l (r : Int) <;> simp [hv] at h1 h2)
  have e2 : (fun r : Nat => hasB (makeF l) (r : Int) || hasB (notF l) (r : Int)) = fun r : Nat => hasB runesAll (r : Int) := by
    funext r
    rw [hm.2.1, hn.2.1, runesAll_has]
    cases validB (r : Int) <;> cases hasB l (r : Int) <;> rfl
  rw [e2] at e
  have := count_good runesAll_good
  rw [e] at this
  rw [← Int.natCast_add, this]
  rfl
theorem both_none (l : List Rg) : bothF (makeF l) (notF l) = [] :=
  bothF_is ⟨by simp, by simp⟩ fun r => by
    rw [(makeF_makes l).2.1, (notF_nots l).2.1]
    cases validB r <;> cases hasB l r <;> rfl
theorem make_all (l : List Rg) : makeF (makeF l ++ notF l) = runesAll :=
  makeF_is runesAll_good fun r => by
    rw [runesAll_has, has_append, (makeF_makes l).2.1, (notF_nots l).2.1]
    cases validB r <;> cases hasB l r <;> rfl
end Go.Proofs.Ytocbpbeklbhjkaa.cls
