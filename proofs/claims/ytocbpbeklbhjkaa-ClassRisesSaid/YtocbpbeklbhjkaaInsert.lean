/- The insertion sort of spoorref7.marks, in plain lists: one swap, and what a round keeps. -/
import Derived.Test.YtocbpbeklbhjkaaRef1
namespace Go.Proofs.Ytocbpbeklbhjkaa.cls
open Go.RowKit Go.Proofs.Ytocbpbeklbhjkaa.sl
/-- Places j and j + 1 exchanged. -/
def swap (m : List Int) (j : Nat) : List Int := (m.set j (m.getD (j + 1) 0)).set (j + 1) (m.getD j 0)
theorem swap_len (m : List Int) (j : Nat) : (swap m j).length = m.length := by simp [swap]
theorem swap_get (m : List Int) (j i : Nat) (h : j + 1 < m.length) : (swap m j).getD i 0 = if i = j + 1 then m.getD j 0 else if i = j then m.getD (j + 1) 0 else m.getD i 0 := by
  unfold swap
  simp only [List.getD_eq_getElem?_getD, List.getElem?_set, List.length_set]
  by_cases h1 : i = j + 1
  · subst h1
    simp [h]
  · have h1' : ¬ j + 1 = i := fun e => h1 e.symm
    by_cases h2 : i = j
    · subst h2
      simp [show i < m.length by omega]
    · have h2' : ¬ j = i := fun e => h2 e.symm
      simp [h1, h2, h1', h2']
theorem swap_perm (m : List Int) (j : Nat) (h : j + 1 < m.length) : (swap m j).Perm m := by
  have e1 : m = m.take j ++ (m.getD j 0 :: m.getD (j + 1) 0 :: m.drop (j + 2)) := by
    apply List.ext_getElem?
    intro i
    by_cases h1 : i < j
    · rw [List.getElem?_append_left (by simp; omega), List.getElem?_take_of_lt h1]
    · rw [List.getElem?_append_right (by simp; omega)]
      simp only [List.length_take, show min j m.length = j by omega]
      rcases hd : i - j with _ | _ | n
      · obtain rfl : i = j := by omega
        simp [List.getD_eq_getElem?_getD, List.getElem?_eq_getElem (show i < m.length by omega)]
      · obtain rfl : i = j + 1 := by omega
        simp [List.getD_eq_getElem?_getD, List.getElem?_eq_getElem h]
      · simp only [List.getElem?_cons_succ, List.getElem?_drop]
        congr 1; omega
  have e2 : swap m j = m.take j ++ (m.getD (j + 1) 0 :: m.getD j 0 :: m.drop (j + 2)) := by
    unfold swap
    generalize hA : m.getD j 0 = A at *
    generalize hB : m.getD (j + 1) 0 = C at *
    conv => lhs; rw [e1]
    rw [List.set_append_right _ _ (by simp; omega)]
    simp only [List.length_take, show min j m.length = j by omega, Nat.sub_self, List.set_cons_zero]
    rw [List.set_append_right _ _ (by simp; omega)]
    simp only [List.length_take, show min j m.length = j by omega, show j + 1 - j = 1 by omega]
    rfl
  rw [e2]
  conv => rhs; rw [e1]
  exact List.Perm.append_left _ (List.Perm.swap _ _ _)
/-- All pairs up to i are in order but those that end at k. -/
def Almost (m : List Int) (k i : Nat) : Prop := ∀ a b, a < b → b ≤ i → b ≠ k → m.getD a 0 ≤ m.getD b 0
def Upto (m : List Int) (i : Nat) : Prop := ∀ a b, a < b → b < i → m.getD a 0 ≤ m.getD b 0
theorem almost_start {m : List Int} {i : Nat} (h : Upto m i) : Almost m i i := fun a b h1 h2 h3 => h a b h1 (by omega)
theorem almost_swap {m : List Int} {j i : Nat} (h : Almost m (j + 1) i) (hi : i < m.length) (hj : j + 1 ≤ i) (hgt : m.getD (j + 1) 0 < m.getD j 0) : Almost (swap m j) j i := by
  intro a b h1 h2 h3
  rw [swap_get m j a (by omega), swap_get m j b (by omega)]
  by_cases hb : b = j + 1
  · subst hb
    rw [if_pos rfl, if_neg (by omega)]
    by_cases ha : a = j
    · rw [if_pos ha]; omega
    · rw [if_neg ha]; exact h a j (by omega) (by omega) (by omega)
  · rw [if_neg hb, if_neg h3]
    by_cases ha : a = j + 1
    · rw [if_pos ha]; exact h j b (by omega) h2 hb
    · rw [if_neg ha]
      by_cases ha2 : a = j
      · rw [if_pos ha2]; exact h (j + 1) b (by omega) h2 hb
      · rw [if_neg ha2]; exact h a b h1 h2 hb
theorem almost_end {m : List Int} {k i : Nat} (h : Almost m k i) (hk : k = 0 ∨ m.getD (k - 1) 0 ≤ m.getD k 0) : Upto m (i + 1) := by
  intro a b h1 h2
  by_cases hb : b = k
  · subst hb
    rcases hk with rfl | hk
    · omega
    · by_cases ha : a = b - 1
      · subst ha; exact hk
      · have := h a (b - 1) (by omega) (by omega) (by omega); omega
  · exact h a b h1 (by omega) hb
theorem upto_all {m : List Int} (h : Upto m m.length) : m.Pairwise (· ≤ ·) := by
  rw [List.pairwise_iff_getElem]
  intro i j hi hj hij
  have := h i j hij hj
  simpa [List.getD_eq_getElem?_getD, List.getElem?_eq_getElem hi, List.getElem?_eq_getElem hj] using this
end Go.Proofs.Ytocbpbeklbhjkaa.cls
