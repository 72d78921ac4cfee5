/- classed, sizes, walked. -/
import Derived.Test.YtooockbfagkknaaGreatDoorShow
import Derived.Test.YtooockbfagkknaaGreatDoorPar10
import Derived.Test.YtooockbfagkknaaGreatDoorShelf
namespace Go.Proofs.YtooockbfagkknaaGreatDoor.syn
open Go.RowKit Go.Proofs.YtooockbfagkknaaGreatDoor.sl Go.Proofs.YtooockbfagkknaaGreatDoor.cls
theorem ranges_len4 (l : List Rg) : (rangesR l).length ≤ 5 * l.length := by
  induction l with
  | nil => simp [rangesR]
  | cons x l ih =>
    rw [rangesR_cons, List.length_append, List.length_cons]
    have h2 := shown_len x.1
    have h3 := shown_len x.2
    have h4 : (rangeR x).length ≤ 5 := by
      unfold rangeR
      split <;> simp <;> omega
    omega
theorem ranges_size (l : List Rg) : (bsR (rangesR l)).size ≤ 20 * l.length := by have := bsR_size (rangesR l); have := ranges_len4 l; omega
set_option maxHeartbeats 4000000 in
set_option maxRecDepth 100000 in
theorem classedC (a : Option Addr) (l : List Rg) (cap : Nat) (w : World) (h : Rd er w a l cap) (hl : l.length ≤ 10000000) : Calls Tryz.prog 39 #[.slice a l.length cap] w fun e w' => e = .returned (.string (bsR (classedR l))) ∧ Below w.heap.size w w' := by
  have hm := h.max
  have hle := h.le
  unfold maxLen at hm
  have H := Lib.hid h
  clear h
  have hz := ranges_size l
  suffices key : ∀ s, bsR (classedR l) = s → Calls Tryz.prog 39 #[.slice a l.length cap] w fun e w' => e = .returned (.string s) ∧ Below w.heap.size w w' from key _ rfl
  intro s hs
  have HS := Lib.hid hs
  clear hs
  go_enter Tryz.func39, Tryz.ntmps39
  go_wp2_with fail
  refine (dotC w).mono ?_
  rintro e w1 ⟨v1, rfl, o1, b1⟩
  obtain ⟨av, cv, rfl, rv, -⟩ := o1.rd
  have B1 := Lib.hid b1
  have RV := Lib.hid rv
  clear b1 rv o1
  have EC := Lib.hid (equal a av l dotF cap cv w1 (H.out.kept B1.out) RV.out)
  by_cases hd : l = dotF
  · have e1 := HS.out
    unfold classedR at e1
    rw [if_pos hd] at e1
    have E1 := Lib.hid e1
    rw [decide_eq_true hd] at EC
    clear e1 HS hd
    go_wp2_with fail
    refine EC.out.mono ?_
    rintro e w2 ⟨rfl, b2⟩
    have B2 := Lib.hid (B1.out.trans (b2.mono B1.out.size))
    clear b2
    go_wp2_with fail
    go_ret
    refine ⟨?_, B2.out⟩
    rw [← E1.out]
    rfl
  · have e1 := HS.out
    unfold classedR at e1
    rw [if_neg hd] at e1
    have E1 := Lib.hid e1
    rw [decide_eq_false hd] at EC
    clear e1 HS hd
    go_wp2_with fail
    refine EC.out.mono ?_
    rintro e w2 ⟨rfl, b2⟩
    have B2 := Lib.hid (B1.out.trans (b2.mono B1.out.size))
    clear b2 EC
    have RL := Lib.hid (H.out.kept B2.out)
    by_cases h0 : l.length = 0
    · have hn : l = [] := List.eq_nil_of_length_eq_zero h0
      subst hn
      have e1 := E1.out
      rw [if_pos rfl] at e1
      have E2 := Lib.hid e1
      clear e1 E1
      go_wp2_with fail
      refine (notC none [] 0 w2 (Rd.nil _ _) (by simp)).mono ?_
      rintro e w3 ⟨v3, rfl, o3, b3⟩
      obtain ⟨a3, c3, rfl, r3, -⟩ := o3.rd
      have B3 := Lib.hid (B2.out.trans (b3.mono B2.out.size))
      have R3 := Lib.hid r3
      clear b3 r3 o3
      have hl3 : (notF []).length ≤ 2 := by rw [m4_is]; decide
      have hz3 := ranges_size (notF [])
      have RC := Lib.hid (rangesC a3 (notF []) c3 w3 R3.out (by omega))
      generalize hb3 : bsR (rangesR (notF [])) = s3 at hz3 RC
      have HB3 := Lib.hid hb3
      clear hb3
      have hz4 : s3.size ≤ 40 := by omega
      go_wp2_with fail
      refine RC.out.mono ?_
      rintro e w4 ⟨rfl, b4⟩
      have B4 := Lib.hid (B3.out.trans (b4.mono B3.out.size))
      clear b4 RC
      go_wp2_with fail
      go_ret
      refine ⟨?_, B4.out⟩
      show Ending.returned (Value.string (⟨#[91, 94]⟩ ++ s3 ++ ⟨#[93]⟩)) = _
      rw [← E2.out, bsR_app, bsR_app, HB3.out]
      rfl
    · have hne : l ≠ [] := fun e => h0 (by rw [e]; rfl)
      have e1 := E1.out
      rw [if_neg hne] at e1
      have E2 := Lib.hid e1
      have n0 : ((l.length : Int) == 0) = false := by rw [beq_eq_false_iff_ne]; omega
      clear e1 E1 h0
      by_cases h1 : l.length = 1
      · obtain ⟨x, hx⟩ : ∃ x, l = [x] := List.length_eq_one_iff.1 h1
        subst hx
        obtain ⟨lo, hi⟩ := x
        obtain ⟨b1, o1, rfl, hbl, c0, c1⟩ := Rd.pair RL.out (i := 0) rfl
        simp only [Nat.zero_mul, Nat.add_zero] at c0 c1
        clear hne n0 h1
        have e1 := E2.out
        have e2 : (if ([(lo, hi)] : List Rg).length = 1 ∧ lo0 [(lo, hi)] = (([(lo, hi)] : List Rg).getD 0 (0, 0)).2 then shownR (lo0 [(lo, hi)]) else [91] ++ rangesR [(lo, hi)] ++ [93]) = if lo = hi then shownR lo else [91] ++ rangesR [(lo, hi)] ++ [93] := by
          by_cases hq : lo = hi <;> simp [lo0, hq]
        rw [e2] at e1
        have E3 := Lib.hid e1
        clear e1 e2 E2
        by_cases hq : lo = hi
        · subst hq
          rw [if_pos rfl] at E3
          go_wp2_with fail
          go_quiet (fail)
          have B3 := Lib.hid (drewN_below B2.out nq)
          have c0' : (w2.drewN nq).cell? ⟨b1, o1, none⟩ = some (.int .i32 lo) := c0
          clear c0 c1 RL B2
          generalize w2.drewN nq = w3 at B3 c0' ⊢
          go_wp2_with fail
          refine (shownC lo w3).mono ?_
          rintro e w4 ⟨rfl, rfl⟩
          go_wp2_with fail
          go_ret
          exact ⟨by rw [← E3.out]; rfl, B3.out⟩
        · rw [if_neg hq] at E3
          have nq1 : (lo == hi) = false := by simpa using hq
          clear hq
          have RC := Lib.hid (fun w3 (b : Below w2.heap.size w2 w3) => rangesC (some ⟨b1, o1, none⟩) [(lo, hi)] cap w3 (RL.out.kept b) (by simp))
          generalize hb3 : bsR (rangesR [(lo, hi)]) = s3 at hz RC
          have HB3 := Lib.hid hb3
          clear hb3
          have hz4 : s3.size ≤ 20 := by simpa using hz
          go_wp2_with fail
          go_quiet (fail)
          have B3 := Lib.hid (drewN_below B2.out nq)
          have B23 := Lib.hid (drewN_below (Below.refl w2.heap.size w2) nq)
          clear c0 c1 RL B2
          generalize w2.drewN nq = w3 at B3 B23 ⊢
          go_wp2_with fail
          refine (RC.out w3 B23.out).mono ?_
          rintro e w4 ⟨rfl, b4⟩
          have B4 := Lib.hid (B3.out.trans (b4.mono B3.out.size))
          clear b4 RC
          go_wp2_with fail
          go_ret
          refine ⟨?_, B4.out⟩
          show Ending.returned (Value.string (⟨#[91]⟩ ++ s3 ++ ⟨#[93]⟩)) = _
          rw [← E3.out, bsR_app, bsR_app, HB3.out]
          rfl
      · have n1 : ((l.length : Int) == 1) = false := by rw [beq_eq_false_iff_ne]; omega
        have e1 := E2.out
        rw [if_neg (fun k => h1 k.1)] at e1
        have E3 := Lib.hid e1
        clear e1 E2 h1 hne
        have RC := Lib.hid (fun w3 (b : Below w2.heap.size w2 w3) => rangesC a l cap w3 (RL.out.kept b) (by omega))
        generalize hb3 : bsR (rangesR l) = s3 at hz RC
        have HB3 := Lib.hid hb3
        clear hb3
        go_wp2_with fail
        go_quiet (fail)
        have B3 := Lib.hid (drewN_below B2.out nq)
        have B23 := Lib.hid (drewN_below (Below.refl w2.heap.size w2) nq)
        clear RL B2
        generalize w2.drewN nq = w3 at B3 B23 ⊢
        go_wp2_with fail
        refine (RC.out w3 B23.out).mono ?_
        rintro e w4 ⟨rfl, b4⟩
        have B4 := Lib.hid (B3.out.trans (b4.mono B3.out.size))
        clear b4 RC
        go_wp2_with fail
        go_ret
        refine ⟨?_, B4.out⟩
        show Ending.returned (Value.string (⟨#[91]⟩ ++ s3 ++ ⟨#[93]⟩)) = _
        rw [← E3.out, bsR_app, bsR_app, HB3.out]
        rfl
end Go.Proofs.YtooockbfagkknaaGreatDoor.syn
