/- ClassRuns walked. -/
import Derived.Test.YtocbpbeklbhjkaaClsRuns
namespace Go.Proofs.Ytocbpbeklbhjkaa.cls
open Go.RowKit Go.Proofs.Ytocbpbeklbhjkaa.sl
theorem sameT (a b : Option Addr) (l m : List Rg) (c1 c2 : Nat) (w : World) (h : Rd er w a l c1) (h' : Rd er w b m c2) (e : l = m) :
    Calls Try.prog 10 #[.slice a l.length c1, .slice b m.length c2] w fun e w' => e = .returned (.bool true) ∧ Below w.heap.size w w' :=
  (same a b l m c1 c2 w h h').mono fun _ _ ⟨he, hb⟩ => ⟨by rw [he, decide_eq_true e], hb⟩
theorem has1 (a : Option Addr) (cap : Nat) (w : World) (h : Rd er w a [(97, 107)] cap) : Calls Try.prog 13 #[.slice a 1 cap, .int .i32 98] w fun e w' => e = .returned (.bool true) ∧ Below w.heap.size w w' :=
  has a [(97, 107)] cap 98 w h
theorem has2 (a : Option Addr) (cap : Nat) (w : World) (h : Rd er w a [(97, 107)] cap) : Calls Try.prog 13 #[.slice a 1 cap, .int .i32 108] w fun e w' => e = .returned (.bool false) ∧ Below w.heap.size w w' :=
  has a [(97, 107)] cap 108 w h
theorem right1 (a : Option Addr) (cap : Nat) (w : World) (h : Rd er w a [(97, 107)] cap) : Calls Try.prog 14 #[.slice a 1 cap] w fun e w' => e = .returned (.bool true) ∧ Below w.heap.size w w' :=
  (rightC a [(97, 107)] cap w h (by simp)).mono fun _ _ ⟨he, hb⟩ => ⟨by rw [he, decide_eq_true m6_is.symm], hb⟩
set_option maxHeartbeats 4000000 in
set_option maxRecDepth 100000 in
theorem runs (w : World) : Calls Try.prog 3 #[] w fun e w' => e = .returned (.bool true) ∧ Below w.heap.size w w' := by
  go_enter Try.func3, Try.ntmps3
  go_wp2_with fail
  refine (makeC _ [(99, 102), (97, 98), (120, 119), (101, 107)] 4 _ (Rd.built _ 4 rfl rfl (by omega)) (by simp)).mono ?_
  rw [m1_is]
  rintro e w1 ⟨v1, rfl, o1, b1⟩
  obtain ⟨a1, c1, rfl, r1, -⟩ := o1.rd
  have B1 := below_next (Below.refl w.heap.size w) b1
  clear b1 o1
  go_wp2_with fail
  refine (makeC _ [(-5, 2), (53248, 57345), (1114111, 2097152)] 3 _ (Rd.built _ 3 rfl rfl (by omega)) (by simp)).mono ?_
  rw [m2_is]
  rintro e w2 ⟨v2, rfl, o2, b2⟩
  obtain ⟨a2, c2, rfl, r2, -⟩ := o2.rd
  have B2 := below_next B1 b2
  replace r1 := Rd.next r1 b2
  clear b2 o2 B1
  go_wp2_with fail
  refine (sameT a1 _ [(97, 107)] [(97, 107)] c1 1 _ (Rd.alloc r1 _) (Rd.built _ 1 rfl rfl (by omega)) rfl).mono ?_
  rintro e w3 ⟨rfl, b3⟩
  have B3 := below_next B2 b3
  replace r1 := Rd.next r1 b3
  replace r2 := Rd.next r2 b3
  clear b3 B2
  go_wp2_with fail
  refine (makeC none [] 0 _ (Rd.nil er _) (by simp)).mono ?_
  rw [m3_is]
  rintro e w4 ⟨v4, rfl, o4, b4⟩
  obtain ⟨a4, c4, rfl, -, -⟩ := o4.rd
  have B4 := B3.trans (b4.mono B3.size)
  replace r1 := r1.kept b4
  replace r2 := r2.kept b4
  clear b4 B3 o4
  go_wp2_with fail
  refine (notC none [] 0 _ (Rd.nil er _) (by simp)).mono ?_
  rw [m4_is]
  rintro e w5 ⟨v5, rfl, o5, b5⟩
  obtain ⟨a5, c5, rfl, r5, -⟩ := o5.rd
  have B5 := B4.trans (b5.mono B4.size)
  replace r1 := r1.kept b5
  replace r2 := r2.kept b5
  clear b5 B4 o5
  go_wp2_with fail
  refine (sameT a5 _ [(0, 55295), (57344, 1114111)] [(0, 55295), (57344, 1114111)] c5 2 _ (Rd.alloc r5 _) (Rd.built _ 2 rfl rfl (by omega)) rfl).mono ?_
  rintro e w6 ⟨rfl, b6⟩
  have B6 := below_next B5 b6
  replace r1 := Rd.next r1 b6
  replace r2 := Rd.next r2 b6
  clear b6 B5 r5
  go_wp2_with fail
  refine (sameT a2 _ [(0, 2), (53248, 55295), (57344, 57345), (1114111, 1114111)] [(0, 2), (53248, 55295), (57344, 57345), (1114111, 1114111)] c2 4 _ (Rd.alloc r2 _) (Rd.built _ 4 rfl rfl (by omega)) rfl).mono ?_
  rintro e w7 ⟨rfl, b7⟩
  have B7 := below_next B6 b7
  replace r1 := Rd.next r1 b7
  clear b7 B6 r2
  go_wp2_with fail
  refine (bothC a1 _ [(97, 107)] [(103, 122)] c1 1 _ (Rd.alloc r1 _) (Rd.built _ 1 rfl rfl (by omega)) (by simp) (by simp)).mono ?_
  rw [m5_is]
  rintro e w8 ⟨v8, rfl, o8, b8⟩
  obtain ⟨a8, c8, rfl, r8, -⟩ := o8.rd
  have B8 := below_next B7 b8
  replace r1 := Rd.next r1 b8
  clear b8 B7 o8
  go_wp2_with fail
  refine (sameT a8 _ [(103, 107)] [(103, 107)] c8 1 _ (Rd.alloc r8 _) (Rd.built _ 1 rfl rfl (by omega)) rfl).mono ?_
  rintro e w9 ⟨rfl, b9⟩
  have B9 := below_next B8 b9
  replace r1 := Rd.next r1 b9
  clear b9 B8 r8
  go_wp2_with fail
  refine (has1 a1 c1 _ r1).mono ?_
  rintro e w10 ⟨rfl, b10⟩
  have B10 := B9.trans (b10.mono B9.size)
  replace r1 := r1.kept b10
  clear b10 B9
  go_wp2_with fail
  refine (has2 a1 c1 _ r1).mono ?_
  rintro e w11 ⟨rfl, b11⟩
  have B11 := B10.trans (b11.mono B10.size)
  replace r1 := r1.kept b11
  clear b11 B10
  go_wp2_with fail
  refine (right1 a1 c1 _ r1).mono ?_
  rintro e w12 ⟨rfl, b12⟩
  have B12 := B11.trans (b12.mono B11.size)
  go_wp2_with fail
  go_ret
  exact ⟨rfl, B12⟩
end Go.Proofs.Ytocbpbeklbhjkaa.cls
