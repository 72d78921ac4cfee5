/- What right nodes are written as: every rune is valid. -/
import Derived.Test.YtooockbfagkknaaDoorDecode
import Derived.Test.YtooockbfagkknaaDoorBck
import Derived.Test.YtooockbfagkknaaDoorParse
namespace Go.Proofs.YtooockbfagkknaaDoor.syn
open Go.RowKit Go.Proofs.YtooockbfagkknaaDoor.sl Go.Proofs.YtooockbfagkknaaDoor.cls
section
def AllV (l : List Int) : Prop := ∀ r ∈ l, validB r = true
theorem AllV.app {x y : List Int} (h : AllV x) (k : AllV y) : AllV (x ++ y) := fun r hr => (List.mem_append.1 hr).elim (h r) (k r)
theorem allv_nil : AllV [] := fun _ h => nomatch h
theorem allv_one {r : Int} (h : validB r = true) : AllV [r] := fun s hs => by
  have e : s = r := by simpa [AllV] using hs
  rw [e]
  exact h
theorem AllV.cons {r : Int} {l : List Int} (h : validB r = true) (k : AllV l) : AllV (r :: l) := AllV.app (x := [r]) (allv_one h) k
theorem allv_low {l : List Int} (h : ∀ c ∈ l, 0 ≤ c ∧ c < 128) : AllV l := fun r hr => by
  have := h r hr
  rw [valid_iff]
  omega
theorem allv_shown {r : Int} (h : validB r = true) : AllV (shownR r) := by
  rcases shown_cases r with ⟨c, e, hc⟩ | ⟨e, _⟩
  · rw [e]
    refine AllV.cons (by decide) (allv_one ?_)
    rcases hc with ⟨rfl, _⟩ | ⟨rfl, _⟩ | ⟨rfl, _⟩ | ⟨rfl, _⟩
    · decide
    · decide
    · decide
    · exact h
  · rw [e]; exact allv_one h
theorem allv_ranges {l : List Rg} (h : ∀ x ∈ l, validB x.1 = true ∧ validB x.2 = true) : AllV (rangesR l) := by
  induction l with
  | nil => exact allv_nil
  | cons x l ih =>
    rw [rangesR_cons]
    refine AllV.app ?_ (ih fun y hy => h y (by simp [hy]))
    have := h x (by simp)
    unfold rangeR
    refine AllV.app (allv_shown this.1) ?_
    split
    · exact AllV.cons (by decide) (allv_shown this.2)
    · exact allv_nil
theorem allv_classed {l : List Rg} (h : l = makeF l) : AllV (classedR l) := by
  have hg : ∀ x ∈ l, validB x.1 = true ∧ validB x.2 = true := fun x hx => (bx.good l h x hx).2
  have hn : ∀ x ∈ notF [], validB x.1 = true ∧ validB x.2 = true := fun x hx => (bx.good _ bx.full.symm x hx).2
  unfold classedR
  split
  · exact allv_one (by decide)
  · split
    · exact AllV.app (AllV.app (allv_low (by simp)) (allv_ranges hn)) (allv_one (by decide))
    · split
      · rename_i h1
        refine allv_shown ?_
        obtain ⟨x, hx⟩ := List.length_eq_one_iff.1 h1.1
        subst hx
        exact (hg x (by simp)).1
      · exact AllV.app (AllV.app (allv_one (by decide)) (allv_ranges hg)) (allv_one (by decide))
theorem allv_it {n : Int} (h0 : 0 ≤ n) (h : n ≤ 30) : AllV (itR n) := by
  unfold itR
  rw [if_neg (by omega)]
  exact allv_low fun c hc => by have := dgs_dig n.toNat (by omega) c hc; omega
theorem allv_sizes (x : Nd) (h1 : 0 ≤ x.mn) (h2 : x.mn ≤ 30) (h3 : x.mx = -1 ∨ (x.mn ≤ x.mx ∧ x.mx ≤ 30)) : AllV (sizesR x) := by
  have qm := allv_it h1 h2
  have q : ∀ {c : Int}, 0 ≤ c ∧ c < 128 → AllV [c] := fun h => allv_one (by rw [valid_iff]; omega)
  unfold sizesR
  refine AllV.app ?_ ?_
  · split
    · exact q (by decide)
    split
    · exact q (by decide)
    split
    · exact q (by decide)
    split
    · exact ((q (by decide)).app qm).app (allv_low (by simp))
    rename_i c4
    split
    · exact ((q (by decide)).app qm).app (q (by decide))
    · exact ((((q (by decide)).app qm).app (q (by decide))).app (allv_it (by omega) (by omega))).app (q (by decide))
  · split
    · exact q (by decide)
    · exact allv_nil
theorem allv_wrap {x : List Int} (h : AllV x) (b : Bool) : AllV (wrapR b x) := by
  unfold wrapR
  cases b
  · exact h
  · exact ((allv_low (by simp)).app h).app (allv_one (by decide))
theorem allv_kids {L : List Nd} {n : Nat} {over : Int} {sep : List Int} (hs : AllV sep) (H : ∀ a b, rWalk L n a = some b → AllV (textR L n a).1) : ∀ (k a b : Nat), rKids (rWalk L n) k a = some b → AllV (kidsR (kidR L (textR L n) over) sep k a).1
  | 0, a, b, h => allv_nil
  | k + 1, a, b, h => by
    rw [rKids] at h
    split at h
    · cases h
    · rename_i c hc
      rw [kidsR]
      have h1 : (kidR L (textR L n) over a).2 = c := text_end L n a c hc
      rw [h1]
      have hk : AllV (kidR L (textR L n) over a).1 := by
        unfold kidR
        exact allv_wrap (H a c hc) _
      exact (hs.app hk).app (allv_kids (over := over) hs H k c b h)
theorem text_valid (L : List Nd) : ∀ (n a b : Nat), rWalk L n a = some b → AllV (textR L n a).1
  | 0, a, b, h => nomatch h
  | n + 1, a, b, h => by
    rw [rWalk] at h
    split at h
    · cases h
    rename_i hl
    split at h
    · cases h
    rename_i k hk
    rw [textR]
    simp only
    have hs := shape_sh hk
    generalize L.getD a (nd 0) = x at hs ⊢
    have ih := text_valid L n
    have hw : ∀ over c, rWalk L n (a + 1) = some c → AllV (kidR L (textR L n) over (a + 1)).1 := fun over c hc => allv_wrap (ih _ _ hc) _
    have one : ∀ over, rKids (rWalk L n) 1 (a + 1) = some b → AllV (kidR L (textR L n) over (a + 1)).1 := fun over h' => by
      rw [rKids] at h'
      split at h'
      · cases h'
      · rename_i c hc; exact hw over c hc
    cases hs with
    | leaf ho e hk0 =>
      rw [if_neg (by omega)]
      rcases ho with ho | ho | ho
      · rw [if_neg (by omega), if_neg (by omega), if_neg (by omega), if_neg (by omega), if_neg (by omega)]
        exact allv_low (by simp)
      · rw [if_pos ho]
        exact allv_one (by decide)
      · rw [if_neg (by omega), if_pos ho]
        exact allv_one (by decide)
    | cls e hg hk0 =>
      have ho : x.op = 2 := by rw [e]; rfl
      rw [if_pos ho]
      exact allv_classed hg
    | rep e h1 h2 h3 hk0 =>
      subst hk0
      have ho : x.op = 5 := by rw [e]; rfl
      rw [if_neg (by omega), if_neg (by omega), if_neg (by omega), if_pos ho]
      exact (one 5 h).app (allv_sizes x h1 h2 h3)
    | grp e h1 h2 hk0 =>
      subst hk0
      have ho : x.op = 6 := by rw [e]; rfl
      rw [if_neg (by omega), if_neg (by omega), if_neg (by omega), if_neg (by omega), if_pos ho]
      exact ((allv_one (by decide)).app (one 6 h)).app (allv_one (by decide))
    | many hop e h2 hk0 =>
      subst hk0
      have n2 : ¬ x.op = 2 := by omega
      have n5 : ¬ x.op = 5 := by omega
      have n6 : ¬ x.op = 6 := by omega
      have n7 : ¬ x.op = 7 := by omega
      have n8 : ¬ x.op = 8 := by omega
      simp only [n2, n5, n6, n7, n8, hop, if_false, if_true]
      obtain ⟨m, hm⟩ : ∃ m : Nat, x.kids = (m : Int) + 1 := ⟨(x.kids - 1).toNat, by omega⟩
      rw [show x.kids.toNat = m + 1 by omega] at h
      rw [show (x.kids - 1).toNat = m by omega]
      rw [rKids] at h
      split at h
      · cases h
      rename_i c hc
      have hk2 : (kidR L (textR L n) x.op (a + 1)).2 = c := text_end L n (a + 1) c hc
      rw [hk2]
      refine (hw x.op c hc).app (allv_kids ?_ ih m c b h)
      split
      · exact allv_one (by decide)
      · exact allv_nil
theorem print_valid {L : List Nd} (h : rRight L = true) : AllV (printR L) := by
  unfold rRight at h
  simp only [Bool.and_eq_true, beq_iff_eq] at h
  exact text_valid L 241 0 L.length h.1.2
theorem utf_ne {rs : List Int} (h : AllV rs) (hne : rs ≠ []) : bsL rs ≠ [] := by
  obtain ⟨r, t, rfl⟩ := List.exists_cons_of_ne_nil hne
  have := (utf_len (h r (by simp))).1
  intro e
  have e2 : bsL (r :: t) = utfB r ++ bsL t := by simp [bsL]
  have h0 := congrArg List.length e
  rw [e2, List.length_append, List.length_nil] at h0
  omega
/-- What right nodes are printed as is read as these nodes, where it is not too long and not too deep. -/
theorem back_parse {L : List Nd} (h : rRight L = true) (hl : (bsL (printR L)).length ≤ 120) (hn : nestB (bsL (printR L)) ≤ 20) : parseF (bsL (printR L)) = (L, 0, 0) := by
  have hv := print_valid h
  have hd := print_deep h
  have hn2 : ((depR L 241 0 : Nat) : Int) ≤ 20 := by
    have e : nestB (bsL (printR L)) = (nestR (printR L) (false, 0, 0)).2.2 := by unfold nestB; rw [nest_bs _ _ hv]
    rw [e, hd] at hn
    exact hn
  unfold parseF
  rw [if_neg (by omega)]
  exact parse_print bx (seg_bs hv) (len_bs hv) h (by omega)
theorem print_nonempty {L : List Nd} (h : rRight L = true) : bsL (printR L) ≠ [] := utf_ne (print_valid h) (print_ne bx h)
end
end Go.Proofs.YtooockbfagkknaaDoor.syn
