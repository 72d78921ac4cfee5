/- ClassEnds walked. -/
import Derived.Test.YtocbpbeklbhjkaaRunsW
namespace Go.Proofs.Ytocbpbeklbhjkaa.cls
open Go.RowKit Go.Proofs.Ytocbpbeklbhjkaa.sl
theorem hasV (b : Bool) (a : Option Addr) (l : List Rg) (cap : Nat) (r : Int) (w : World) (h : Rd er w a l cap) (e : hasB l r = b) :
    Calls Try.prog 13 #[.slice a l.length cap, .int .i32 r] w fun e w' => e = .returned (.bool b) ∧ Below w.heap.size w w' := by subst e; exact has a l cap r w h
theorem validV (b : Bool) (r : Int) (w : World) (e : validB r = b) : Calls Try.prog 21 #[.int .i32 r] w fun e w' => e = .returned (.bool b) ∧ w' = w := by subst e; exact valid r w
theorem Rd.c01 {w : World} {b off : Nat} {l : List Rg} {cap : Nat} (h : Rd er w (some ⟨b, off, none⟩) l cap) {i : Nat} {x : Rg} (hx : l[i]? = some x) :
    w.cell? ⟨b, off + i * 2, none⟩ = some (.int .i32 x.1) ∧ w.cell? ⟨b, off + i * 2 + 1, none⟩ = some (.int .i32 x.2) := by
  obtain ⟨b', o', e, _, h1, h2⟩ := Rd.pair h hx
  cases e
  exact ⟨h1, h2⟩
theorem good_ends {m : List Rg} (h : Good m) {k : Nat} {x : Rg} (hx : m[k]? = some x) :
    hasB m x.1 = true ∧ hasB m x.2 = true ∧ hasB m (x.1 - 1) = false ∧ hasB m (x.2 + 1) = false ∧ validB x.1 = true ∧ validB x.2 = true ∧ InP x := by
  have hmem : x ∈ m := List.mem_of_getElem? hx
  have ix := h.1 x hmem
  have tri : ∀ p ∈ m, p.2 + 1 < x.1 ∨ p = x ∨ x.2 + 1 < p.1 := fun p hp => by
    obtain ⟨j, hj⟩ := List.getElem?_of_mem hp
    have hk := lt_of_some hx
    have hjl := lt_of_some hj
    rw [List.getElem?_eq_getElem hk] at hx
    rw [List.getElem?_eq_getElem hjl] at hj
    cases hx
    cases hj
    rcases Nat.lt_trichotomy j k with hlt | rfl | hlt
    · exact .inl (List.pairwise_iff_getElem.1 h.2 j k hjl hk hlt)
    · exact .inr (.inl rfl)
    · exact .inr (.inr (List.pairwise_iff_getElem.1 h.2 k j hk hjl hlt))
  have v1 : hasB m x.1 = true := (has_iff m x.1).2 ⟨x, hmem, by omega, ix.2.1⟩
  have v2 : hasB m x.2 = true := (has_iff m x.2).2 ⟨x, hmem, ix.2.1, by omega⟩
  unfold InP at ix
  refine ⟨v1, v2, ?_, ?_, (valid_iff _).2 (by omega), (valid_iff _).2 (by omega), ix⟩
  · rw [Bool.eq_false_iff]
    intro h'
    obtain ⟨p, hp, h1, h2⟩ := (has_iff _ _).1 h'
    have ip := h.1 p hp
    unfold InP at ip
    rcases tri p hp with h | rfl | h <;> omega
  · rw [Bool.eq_false_iff]
    intro h'
    obtain ⟨p, hp, h1, h2⟩ := (has_iff _ _).1 h'
    have ip := h.1 p hp
    unfold InP at ip
    rcases tri p hp with h | rfl | h <;> omega
theorem makes_ends {l m : List Rg} (h : Makes l m) {k : Nat} {x : Rg} (hx : m[k]? = some x) :
    hasB l x.1 = true ∧ hasB l x.2 = true ∧ (validB (x.1 - 1) = true → hasB l (x.1 - 1) = false) ∧ (validB (x.2 + 1) = true → hasB l (x.2 + 1) = false) := by
  obtain ⟨h1, h2, h3, h4, h5, h6, _⟩ := good_ends h.1 hx
  rw [h.2.1] at h1 h2 h3 h4
  rw [h5] at h1
  rw [h6] at h2
  refine ⟨by simpa using h1, by simpa using h2, fun hv => by rw [hv] at h3; simpa using h3, fun hv => by rw [hv] at h4; simpa using h4⟩
set_option maxHeartbeats 4000000 in
set_option maxRecDepth 100000 in
theorem ends (a : Option Addr) (l : List Rg) (cap : Nat) (w : World) (h : Rd er w a l cap) :
    Calls Try.prog 7 #[.slice a l.length cap] w fun e w' => e = .returned (.bool true) ∧ Below w.heap.size w w' := by
  have cf := Lib.hid (few a l cap w h)
  have hlen : (l.take 40).length ≤ 40 := by simp; omega
  have H0 := Rd.take (n := 40) h
  clear h
  generalize l.take 40 = L at cf hlen H0
  have H := Lib.hid H0
  clear H0
  go_enter Try.func7, Try.ntmps7
  go_wp2_with fail
  refine cf.out.mono ?_
  rintro e w' ⟨rfl, rfl⟩
  go_wp2_with fail
  refine (makeC a L cap w' H.out (by omega)).mono ?_
  rintro e w1 ⟨v1, rfl, o1, b1⟩
  have hm := makeF_makes L
  have hml := hm.2.2
  generalize makeF L = m at o1 hm hml
  have HM := Lib.hid hm
  clear hm cf
  obtain ⟨a1, c1, rfl, rd1, -⟩ := o1.rd
  have R := Lib.hid rd1
  clear rd1 o1
  have B1 := Lib.hid b1
  clear b1
  go_wp2_with fail
  go_loopg [4] m.length (fun g i wr => ∃ k : Nat, k ≤ m.length ∧ g = m.length - k ∧ i = .int .i64 k ∧ Below w1.heap.size w1 wr)
  case atStart => exact ⟨0, by omega, rfl, rfl, Below.refl _ _⟩
  case round =>
    obtain ⟨k, hk, rfl, rfl, hb⟩ := hrel
    by_cases hlt : k < m.length
    · obtain ⟨x, hx⟩ : ∃ x, m[k]? = some x := ⟨_, List.getElem?_eq_getElem hlt⟩
      have HX := Lib.hid hx
      have HL := Lib.hid (H.out.kept B1.out)
      obtain ⟨q1, q2, q3, q4, _, _, ip⟩ := good_ends HM.out.1 hx
      obtain ⟨q5, q6, q7, q8⟩ := makes_ends HM.out hx
      have Q1 := Lib.hid (And.intro q3 (And.intro q4 (And.intro q5 (And.intro q6 (And.intro q7 q8)))))
      unfold InP at ip
      clear q1 q2 q3 q4 q5 q6 q7 q8
      obtain ⟨b, off, rfl, hbl, c0, c1'⟩ := Rd.pair (R.out.kept hb) hx
      clear hx
      have i1 : (k : Int) < (m.length : Int) := by omega
      go_wp2_with fail
      refine (hasV true a L cap x.1 _ (HL.out.kept hb) Q1.out.2.2.1).mono ?_
      rintro e w2 ⟨rfl, b2⟩
      replace hb := hb.trans (b2.mono hb.size)
      clear c0 c1' b2
      obtain ⟨c0, c1'⟩ := Rd.c01 (R.out.kept hb) HX.out
      go_wp2_with fail
      refine (hasV true a L cap x.2 _ (HL.out.kept hb) Q1.out.2.2.2.1).mono ?_
      rintro e w3 ⟨rfl, b3⟩
      replace hb := hb.trans (b3.mono hb.size)
      clear c0 c1' b3
      obtain ⟨c0, c1'⟩ := Rd.c01 (R.out.kept hb) HX.out
      go_wp2_with fail
      refine (hasV false _ m _ (x.1 - 1) _ (R.out.kept hb) Q1.out.1).mono ?_
      rintro e w4 ⟨rfl, b4⟩
      replace hb := hb.trans (b4.mono hb.size)
      clear c0 c1' b4
      obtain ⟨c0, c1'⟩ := Rd.c01 (R.out.kept hb) HX.out
      go_wp2_with fail
      refine (hasV false _ m _ (x.2 + 1) _ (R.out.kept hb) Q1.out.2.1).mono ?_
      rintro e w5 ⟨rfl, b5⟩
      replace hb := hb.trans (b5.mono hb.size)
      clear c0 c1' b5
      obtain ⟨c0, c1'⟩ := Rd.c01 (R.out.kept hb) HX.out
      go_wp2_with fail
      refine (valid (x.1 - 1) _).mono ?_
      rintro e w6 ⟨rfl, rfl⟩
      cases hv1 : validB (x.1 - 1)
      · go_wp2_with fail
        refine (valid (x.2 + 1) _).mono ?_
        rintro e w7 ⟨rfl, rfl⟩
        cases hv2 : validB (x.2 + 1)
        · go_wp2_with fail
          go_roundg (m.length - (k + 1))
          case measure => omega
          case rel => exact ⟨k + 1, by omega, rfl, by go_num, hb⟩
        · go_wp2_with fail
          refine (hasV false a L cap (x.2 + 1) _ (HL.out.kept hb) (Q1.out.2.2.2.2.2 hv2)).mono ?_
          rintro e w8 ⟨rfl, b8⟩
          go_wp2_with fail
          go_roundg (m.length - (k + 1))
          case measure => omega
          case rel => exact ⟨k + 1, by omega, rfl, by go_num, hb.trans (b8.mono hb.size)⟩
      · go_wp2_with fail
        refine (hasV false a L cap (x.1 - 1) _ (HL.out.kept hb) (Q1.out.2.2.2.2.1 hv1)).mono ?_
        rintro e w9 ⟨rfl, b9⟩
        replace hb := hb.trans (b9.mono hb.size)
        clear c0 c1' b9
        obtain ⟨c0, c1'⟩ := Rd.c01 (R.out.kept hb) HX.out
        go_wp2_with fail
        refine (valid (x.2 + 1) _).mono ?_
        rintro e w7 ⟨rfl, rfl⟩
        cases hv2 : validB (x.2 + 1)
        · go_wp2_with fail
          go_roundg (m.length - (k + 1))
          case measure => omega
          case rel => exact ⟨k + 1, by omega, rfl, by go_num, hb⟩
        · go_wp2_with fail
          refine (hasV false a L cap (x.2 + 1) _ (HL.out.kept hb) (Q1.out.2.2.2.2.2 hv2)).mono ?_
          rintro e w8 ⟨rfl, b8⟩
          go_wp2_with fail
          go_roundg (m.length - (k + 1))
          case measure => omega
          case rel => exact ⟨k + 1, by omega, rfl, by go_num, hb.trans (b8.mono hb.size)⟩
    · obtain rfl : k = m.length := by omega
      have B2 := Lib.hid (B1.out.trans (hb.mono B1.out.size))
      go_wp2_with fail
      refine (runs wr).mono ?_
      rintro e w2 ⟨rfl, b2⟩
      go_wp2_with fail
      go_ret
      exact ⟨rfl, B2.out.trans (b2.mono B2.out.size)⟩
end Go.Proofs.Ytocbpbeklbhjkaa.cls
