/- ClassMakes walked. -/
import Derived.Test.YtocbpbeklbhjkaaIntact
namespace Go.Proofs.Ytocbpbeklbhjkaa.cls
open Go.RowKit Go.Proofs.Ytocbpbeklbhjkaa.sl
theorem good_valid {m : List Rg} (h : Good m) {r : Int} (hr : hasB m r = true) : validB r = true := by
  obtain ⟨p, hp, h1, h2⟩ := (has_iff m r).1 hr
  have ip := h.1 p hp
  unfold InP at ip
  exact (valid_iff r).2 (by omega)
theorem makeF_good {m : List Rg} (h : Good m) : makeF m = m :=
  makeF_is h fun r => by
    cases hr : hasB m r
    · simp
    · rw [good_valid h hr]; rfl
theorem right_good (a : Option Addr) (m : List Rg) (cap : Nat) (w : World) (h : Rd er w a m cap) (hl : m.length ≤ 100000000) (hg : Good m) :
    Calls Try.prog 14 #[.slice a m.length cap] w fun e w' => e = .returned (.bool true) ∧ Below w.heap.size w w' :=
  (rightC a m cap w h hl).mono fun _ _ ⟨he, hb⟩ => ⟨by rw [he, decide_eq_true (makeF_good hg).symm], hb⟩
theorem rd_left {w : World} {a : Option Addr} {l m : List Rg} {cap : Nat} (h : Rd er w a (l ++ m) cap) : Rd er w a l cap := by
  have := Rd.take (n := l.length) h; rwa [List.take_left] at this
set_option maxHeartbeats 8000000 in
set_option maxRecDepth 100000 in
theorem makes (a : Option Addr) (l : List Rg) (cap : Nat) (w : World) (h : Rd er w a l cap) :
    Calls Try.prog 4 #[.slice a l.length cap] w fun e w' => e = .returned (.bool true) ∧ Below w.heap.size w w' := by
  have cf := Lib.hid (few a l cap w h)
  have hlen : (l.take 40).length ≤ 40 := by simp; omega
  have H0 := Rd.take (n := 40) h
  clear h
  generalize l.take 40 = L at cf hlen H0
  have H := Lib.hid H0
  clear H0
  go_enter Try.func4, Try.ntmps4
  go_wp2_with fail
  refine cf.out.mono ?_
  rintro e w' ⟨rfl, rfl⟩
  clear cf
  go_wp2_with fail
  refine (roomy a L cap w' H.out (by omega)).mono ?_
  rintro e w1 ⟨g, c1, rfl, o1, b1⟩
  have hpl := pad_len L
  have o1' := o1
  rw [← hpl] at o1'
  have rf := rd_of_own o1'
  have hcap : L.length + 80 ≤ c1 := by have := rf.le; omega
  have hcm := rf.max
  unfold maxLen at hcm
  have RF := Lib.hid rf
  have RO := Lib.hid (rd_left rf)
  have RL := Lib.hid (H.out.kept b1)
  have B1 := Lib.hid b1
  clear o1 o1' rf b1 H hpl
  go_wp2_with fail
  refine (makeC _ L c1 w1 RO.out (by omega)).mono ?_
  rintro e w2 ⟨v2, rfl, o2, b2⟩
  have hml := (makeF_makes L).2.2
  have G1 := Lib.hid (makeF_makes L).1
  obtain ⟨a2, c2, rfl, rd2, -⟩ := o2.rd
  have RO2 := Lib.hid (RO.out.kept b2)
  have RL2 := Lib.hid (RL.out.kept b2)
  have W2 := Lib.hid b2
  have O2 := Lib.hid o2
  clear o2 b2 rd2
  go_wp2_with fail
  refine (notC _ L c1 w2 RO2.out (by omega)).mono ?_
  rintro e w3 ⟨v3, rfl, o3, b3⟩
  have hnl := (notF_nots L).2.2
  have G2 := Lib.hid (notF_nots L).1
  obtain ⟨a3, c3, rfl, rd3, -⟩ := o3.rd
  have RO3 := Lib.hid (RO2.out.kept b3)
  have RL3 := Lib.hid (RL2.out.kept b3)
  have RN3 := Lib.hid rd3
  have W3 := Lib.hid (W2.out.trans (b3.mono W2.out.size))
  have O3 := Lib.hid (O2.out.below b3 (Nat.le_refl _))
  clear o3 b3 rd3 O2 W2 RO2 RL2
  go_wp2_with fail
  refine (refMakeC a L cap w3 RL3.out (by omega)).mono ?_
  rintro e w4 ⟨v4, rfl, o4, b4⟩
  obtain ⟨a4, c4, rfl, rd4, -⟩ := o4.rd
  have RO4 := Lib.hid (RO3.out.kept b4)
  have RL4 := Lib.hid (RL3.out.kept b4)
  have RN4 := Lib.hid (RN3.out.kept b4)
  have RR4 := Lib.hid rd4
  have W4 := Lib.hid (W3.out.trans (b4.mono W3.out.size))
  have O4 := Lib.hid (O3.out.below b4 (Nat.le_refl _))
  clear o4 b4 rd4 O3 W3 RO3 RL3 RN3
  go_wp2_with fail
  refine (sameT a2 a4 (makeF L) (makeF L) c2 c4 w4 (rd_of_own O4.out) RR4.out rfl).mono ?_
  rintro e w5 ⟨rfl, b5⟩
  have RO5 := Lib.hid (RO4.out.kept b5)
  have RL5 := Lib.hid (RL4.out.kept b5)
  have RN5 := Lib.hid (RN4.out.kept b5)
  have W5 := Lib.hid (W4.out.trans (b5.mono W4.out.size))
  have O5 := Lib.hid (O4.out.below b5 (Nat.le_refl _))
  clear b5 O4 W4 RO4 RL4 RN4 RR4
  go_wp2_with fail
  refine (refNotC a L (notF L) cap w5 RL5.out (by omega) (notF_nots L)).mono ?_
  rintro e w6 ⟨v6, rfl, o6, b6⟩
  obtain ⟨a6, c6, rfl, rd6, -⟩ := o6.rd
  have RO6 := Lib.hid (RO5.out.kept b6)
  have RL6 := Lib.hid (RL5.out.kept b6)
  have RN6 := Lib.hid (RN5.out.kept b6)
  have RR6 := Lib.hid rd6
  have W6 := Lib.hid (W5.out.trans (b6.mono W5.out.size))
  have O6 := Lib.hid (O5.out.below b6 (Nat.le_refl _))
  clear o6 b6 rd6 O5 W5 RO5 RL5 RN5
  go_wp2_with fail
  refine (sameT a3 a6 (notF L) (notF L) c3 c6 w6 RN6.out RR6.out rfl).mono ?_
  rintro e w7 ⟨rfl, b7⟩
  have RO7 := Lib.hid (RO6.out.kept b7)
  have RL7 := Lib.hid (RL6.out.kept b7)
  have RN7 := Lib.hid (RN6.out.kept b7)
  have W7 := Lib.hid (W6.out.trans (b7.mono W6.out.size))
  have O7 := Lib.hid (O6.out.below b7 (Nat.le_refl _))
  clear b7 O6 W6 RO6 RL6 RN6 RR6
  go_wp2_with fail
  refine (rightC _ L c1 w7 RO7.out (by omega)).mono ?_
  rintro e w8 ⟨rfl, b8⟩
  have RL8 := Lib.hid (RL7.out.kept b8)
  have RN8 := Lib.hid (RN7.out.kept b8)
  have W8 := Lib.hid (W7.out.trans (b8.mono W7.out.size))
  have O8 := Lib.hid (O7.out.below b8 (Nat.le_refl _))
  clear b8 O7 W7 RO7 RL7 RN7
  have CR := Lib.hid (refRight a L cap w8 RL8.out (by omega))
  generalize decide (L = makeF L) = D at CR
  go_wp2_with fail
  refine CR.out.mono ?_
  rintro e w9 ⟨rfl, b9⟩
  have RL9 := Lib.hid (RL8.out.kept b9)
  have RN9 := Lib.hid (RN8.out.kept b9)
  have W9 := Lib.hid (W8.out.trans (b9.mono W8.out.size))
  have O9 := Lib.hid (O8.out.below b9 (Nat.le_refl _))
  clear b9 O8 W8 RL8 RN8 CR
  have hD : (D != D) = false := by simp
  go_wp2_with fail
  refine (right_good a2 (makeF L) c2 w9 (rd_of_own O9.out) (by omega) G1.out).mono ?_
  rintro e w10 ⟨rfl, b10⟩
  have RL10 := Lib.hid (RL9.out.kept b10)
  have RN10 := Lib.hid (RN9.out.kept b10)
  have W10 := Lib.hid (W9.out.trans (b10.mono W9.out.size))
  have O10 := Lib.hid (O9.out.below b10 (Nat.le_refl _))
  clear b10 O9 W9 RL9 RN9
  go_wp2_with fail
  refine (right_good a3 (notF L) c3 w10 RN10.out (by omega) G2.out).mono ?_
  rintro e w11 ⟨rfl, b11⟩
  have RL11 := Lib.hid (RL10.out.kept b11)
  have W11 := Lib.hid (W10.out.trans (b11.mono W10.out.size))
  have O11 := Lib.hid (O10.out.below b11 (Nat.le_refl _))
  clear b11 O10 W10 RL10 RN10 G1 G2
  generalize makeF L = m at hml O11
  go_wp2_with fail
  go_loopg [7] m.length (fun g i wr => ∃ (k : Nat) (C : List Rg), k ≤ m.length ∧ g = m.length - k ∧ i = .int .i64 k ∧ OwnR w1.heap.size wr (.slice a2 m.length c2) C ∧ C.length = m.length ∧ Below w1.heap.size w1 wr)
  case atStart => exact ⟨0, m, by omega, rfl, rfl, O11.out, rfl, W11.out⟩
  case round =>
    obtain ⟨k, C, hk, rfl, rfl, ho, hC, hb⟩ := hrel
    have HC := Lib.hid hC
    clear hC
    by_cases hlt : k < m.length
    · obtain ⟨x, hx⟩ : ∃ x, C[k]? = some x := ⟨_, List.getElem?_eq_getElem (by have := HC.out; omega)⟩
      have eN : m.length = C.length := HC.out.symm
      obtain ⟨g2, hg2, hBg⟩ : ∃ g2, a2 = some ⟨g2, 0, none⟩ ∧ w1.heap.size ≤ g2 := by
        have ho' := ho
        rw [eN] at ho'
        obtain ⟨g2, cap2, e2, h1, _⟩ := ho'.form (fun e => by rw [e] at hx; simp at hx)
        simp only [Value.slice.injEq] at e2
        exact ⟨g2, e2.1, h1⟩
      subst hg2
      have i1 : (k : Int) < (m.length : Int) := by omega
      have o3 := ho.store eN er_len (i := k) (t := 0) (x := x) (y := (-1, x.2)) (u := .int .i32 (-1)) hx (by omega) rfl
      have hx3 : (C.set k (-1, x.2))[k]? = some (-1, x.2) := List.getElem?_set_self (by have := HC.out; omega)
      have eN3 : m.length = (C.set k (-1, x.2)).length := by simpa using eN
      have o4 := o3.store eN3 er_len (i := k) (t := 1) (x := (-1, x.2)) (y := (-1, -1)) (u := .int .i32 (-1)) hx3 (by omega) rfl
      have f1 := ho.cellAt eN er_len (i := k) (t := 0) (x := x) (u := .int .i32 x.1) hx (by omega) rfl
      have f2 := o3.cellAt eN3 er_len (i := k) (t := 1) (x := (-1, x.2)) (u := .int .i32 x.2) hx3 (by omega) rfl
      rw [List.set_set] at o4
      simp only [Nat.add_zero] at o3 o4 f1 f2
      obtain ⟨f1, f1'⟩ := f1
      obtain ⟨f2, f2'⟩ := f2
      have O4 := Lib.hid o4
      have HB4 := Lib.hid ((hb.setCell (p := (⟨g2, k * 2, none⟩ : Addr)) hBg (.int .i32 (-1))).setCell (p := (⟨g2, k * 2 + 1, none⟩ : Addr)) hBg (.int .i32 (-1)))
      clear eN eN3 o3 o4 hx3 hx ho
      go_wp2_with fail
      go_roundg (m.length - (k + 1))
      case measure => omega
      case rel => exact ⟨k + 1, _, by omega, rfl, by go_num, O4.out, by simpa using HC.out, HB4.out⟩
    · obtain rfl : k = m.length := by omega
      have RLw := Lib.hid (RL.out.kept hb)
      have RFw := Lib.hid (RF.out.kept hb)
      have HB := Lib.hid (B1.out.trans (hb.mono B1.out.size))
      clear ho hb
      go_wp2_with fail
      refine (intact _ a L c1 cap wr RFw.out RLw.out).mono ?_
      rintro e w12 ⟨rfl, b12⟩
      have HB12 := Lib.hid (HB.out.trans (b12.mono HB.out.size))
      go_wp2_with fail
      refine (runs w12).mono ?_
      rintro e w13 ⟨rfl, b13⟩
      go_wp2_with fail
      go_ret
      exact ⟨rfl, HB12.out.trans (b13.mono HB12.out.size)⟩
end Go.Proofs.Ytocbpbeklbhjkaa.cls
