/- sign, part, walked. -/
import Derived.Test.YtooockbfagkknaaGreatDoorPar2
import Derived.Deep.CutBlock
namespace Go.Proofs.YtooockbfagkknaaGreatDoor.syn
open Go.RowKit Go.Proofs.YtooockbfagkknaaGreatDoor.sl Go.Proofs.YtooockbfagkknaaGreatDoor.cls
variable {c : Cx} {w : World} {s : Ps}
/-- Ranges that are told, and whether they are a single rune. -/
def RgPost (c : Cx) (w : World) (r : Ps × List Rg × Bool) (e : Ending) (w' : World) : Prop :=
  ∃ v, e = .returned (.tuple #[v, .bool r.2.2]) ∧ Pz c w' r.1 ∧ Kp c.P w w' ∧ OwnR w.heap.size w' v r.2.1 ∧ (r.2.1 = [] → v = .slice none 0 0)
theorem makeF_ne {l : List Rg} {r : Int} (hv : validB r = true) (hh : hasB l r = true) : makeF l ≠ [] := by
  intro e
  have := (makeF_makes l).2.1 r
  rw [e, hv, hh] at this
  simp [hasB] at this
theorem single_ne {r : Int} (h0 : 0 ≤ r) (h1 : r < 55296) : singleF r ≠ [] :=
  makeF_ne (r := r) (by simp [validB]; omega) (by simp [hasB])
theorem mark_valid {r : Int} (h : markB r = true) : 0 ≤ r ∧ r < 55296 := by
  simp [markB] at h
  omega
theorem rgPost_nil {w2 : World} {t : Ps} {b : Bool} (P : Pz c w2 t) (K : Kp c.P w w2) : RgPost c w (t, [], b) (.returned (.tuple #[.slice none 0 0, .bool b])) w2 :=
  ⟨_, rfl, P, K, Own.nil _ _ _ _ _, fun _ => rfl⟩
theorem rgPost_own {w1 w2 : World} {t : Ps} {l : List Rg} {b : Bool} {v : Value} (P : Pz c w1 t) (K : Kp c.P w w1) (o : OwnR w1.heap.size w2 v l) (bl : Below w1.heap.size w1 w2) (hne : l ≠ []) : RgPost c w (t, l, b) (.returned (.tuple #[v, .bool b])) w2 :=
  ⟨_, rfl, P.keep bl, K.trans (Kp.below bl), o.mono K.size, fun e => absurd e hne⟩
theorem below_alloc {w w' : World} {o : Obj} (b : Below (w.alloc o).heap.size (w.alloc o) w') : Below w.heap.size w w' :=
  ((Below.refl w.heap.size w).alloc (Nat.le_refl _) o).trans (b.mono (by simp))
theorem own_alloc {w w' : World} {o : Obj} {v : Value} {l : List Rg} (h : OwnR (w.alloc o).heap.size w' v l) : OwnR w.heap.size w' v l := h.mono (by simp)
theorem signF_end {G : List Gt} (h : G.length ≤ s.next.i) : signF G s = (s.next.wrong G s.i 4, [], false) := by simp only [signF, if_pos h]
theorem signF_bad {G : List Gt} (h : ¬ G.length ≤ s.next.i) (hb : badB G s.next.i = true) : signF G s = (s.next.wrong G s.next.i 4, [], false) := by simp only [signF, if_neg h, if_pos hb]
theorem signF_go {G : List Gt} (h : ¬ G.length ≤ s.next.i) (hb : badB G s.next.i = false) : signF G s = sign1 G s.next.next s.i (runeAt G s.next.i) := by
  simp only [signF, if_neg h]
  rw [if_neg (by rw [hb]; decide)]
set_option maxHeartbeats 8000000 in
set_option maxRecDepth 100000 in
theorem signC (h : Pz c w s) (hi : s.i < c.G.length) : Calls Tryz.prog 80 #[.pointer (some ⟨c.P, 0, none⟩)] w (RgPost c w (signF c.G s)) := by
  have c2 := h.c2
  have f2 := h.fz 2
  have hln := h.len
  have P1 := Lib.hid (h.step hi)
  have K1 := Lib.hid (Kp.set c.P 2 w (.int .i64 ((s.i : Int) + 1)))
  clear h
  have key : ∀ r, signF c.G s = r → Calls Tryz.prog 80 #[.pointer (some ⟨c.P, 0, none⟩)] w (RgPost c w r) := by
    intro r hr
    go_enter Tryz.func80, Tryz.ntmps80
    go_upto_region 3 with fail
    generalize w.setCell ⟨c.P, 2, none⟩ (.int .i64 ((s.i : Int) + 1)) = w1 at P1 K1 ⊢
    clear c2 f2
    by_cases hn : c.G.length ≤ s.next.i
    · rw [signF_end hn] at hr
      have HR := Lib.hid hr
      clear hr
      generalize s.next = s1 at P1 hn HR
      have c0 := P1.out.c0
      have c2 := P1.out.c2
      have i1 : (c.G.length : Int) ≤ (s1.i : Int) := by omega
      go_wp2_with fail
      go_quiet (fail)
      go_wp2_with fail
      refine (wrongC (P1.out.drewN nq) hi 4).mono ?_
      rintro e w2 ⟨rfl, P2, K2⟩
      go_wp2_with fail
      go_ret2
      rw [← HR.out]
      exact rgPost_nil P2 (K1.out.trans ((Kp.below (drewN_below (Below.refl _ _) nq)).trans K2))
    · have hn' : s.next.i < c.G.length := by omega
      cases hb : badB c.G s.next.i
      · rw [signF_go hn hb] at hr
        have HB := Lib.hid hb
        have HR := Lib.hid hr
        clear hr hb
        generalize s.next = s1 at P1 hn hn' HB HR
        have c0 := P1.out.c0
        have c2 := P1.out.c2
        have i1 : (s1.i : Int) < (c.G.length : Int) := by omega
        go_wp2_with fail
        go_quiet (fail)
        have P2 := Lib.hid (P1.out.drewN nq)
        have K2 := Lib.hid (K1.out.trans (Kp.below (drewN_below (Below.refl w1.heap.size w1) nq)))
        clear P1 K1 c0 c2
        generalize w1.drewN nq = w2 at P2 K2 ⊢
        have c0 := P2.out.c0
        have c2 := P2.out.c2
        have f2 := P2.out.fz 2
        go_wp2_with fail
        refine (badC P2.out hn').mono ?_
        rintro e w3 ⟨rfl, rfl⟩
        rw [HB.out]
        obtain ⟨b, off, hga, hbP, hbl, r0, r1⟩ := P2.out.rune hn'
        rw [hga] at c0
        have HGA := Lib.hid hga
        clear hga r1
        generalize hx : runeAt c.G s1.i = x at r0 HR
        have HX := Lib.hid hx
        clear hx
        go_wp2_with fail
        go_quiet (fail)
        go_upto_region 11 with fail
        have P3 := Lib.hid ((P2.out.drewN nq).step hn')
        have K3 := Lib.hid ((K2.out.trans (Kp.below (drewN_below (Below.refl w3.heap.size w3) nq))).trans (Kp.set c.P 2 (w3.drewN nq) (.int .i64 ((s1.i : Int) + 1))))
        clear c0 c2 f2 r0
        generalize (w3.drewN nq).setCell ⟨c.P, 2, none⟩ (.int .i64 ((s1.i : Int) + 1)) = w4 at P3 K3 ⊢
        generalize s1.next = s2 at P3 HR
        unfold sign1 at HR
        by_cases h1 : x = 110
        · subst h1
          rw [if_pos rfl] at HR
          go_wp2_with fail
          refine (singleC 10 _).mono ?_
          rintro e w5 ⟨v, rfl, o5, b5⟩
          go_wp2_with fail
          go_ret2
          rw [← HR.out]
          exact rgPost_own P3.out K3.out o5 b5 (single_ne (by decide) (by decide))
        · rw [if_neg h1] at HR
          have n1 : (x == 110) = false := by simpa using h1
          by_cases h2 : x = 116
          · subst h2
            rw [if_pos rfl] at HR
            go_wp2_with fail
            refine (singleC 9 _).mono ?_
            rintro e w5 ⟨v, rfl, o5, b5⟩
            go_wp2_with fail
            go_ret2
            rw [← HR.out]
            exact rgPost_own P3.out K3.out o5 b5 (single_ne (by decide) (by decide))
          · rw [if_neg h2] at HR
            have n2 : (x == 116) = false := by simpa using h2
            by_cases h3 : x = 114
            · subst h3
              rw [if_pos rfl] at HR
              go_wp2_with fail
              refine (singleC 13 _).mono ?_
              rintro e w5 ⟨v, rfl, o5, b5⟩
              go_wp2_with fail
              go_ret2
              rw [← HR.out]
              exact rgPost_own P3.out K3.out o5 b5 (single_ne (by decide) (by decide))
            · rw [if_neg h3] at HR
              have n3 : (x == 114) = false := by simpa using h3
              by_cases h4 : x = 100
              · subst h4
                rw [if_pos rfl] at HR
                go_wp2_with fail
                refine (makeC (some ⟨w4.heap.size, 0, none⟩) [(48, 57)] 1 _ (Rd.built [(48, 57)] 1 rfl rfl (by omega)) (by simp)).mono ?_
                rintro e w5 ⟨v, rfl, o5, b5⟩
                go_wp2_with fail
                go_ret2
                rw [← HR.out]
                exact rgPost_own P3.out K3.out (own_alloc o5) (below_alloc b5) (makeF_ne (r := 48) rfl rfl)
              · rw [if_neg h4] at HR
                have n4 : (x == 100) = false := by simpa using h4
                by_cases h5 : x = 115
                · subst h5
                  rw [if_pos rfl] at HR
                  go_wp2_with fail
                  refine (makeC (some ⟨w4.heap.size, 0, none⟩) [(9, 10), (13, 13), (32, 32)] 3 _ (Rd.built [(9, 10), (13, 13), (32, 32)] 3 rfl rfl (by omega)) (by simp)).mono ?_
                  rintro e w5 ⟨v, rfl, o5, b5⟩
                  go_wp2_with fail
                  go_ret2
                  rw [← HR.out]
                  exact rgPost_own P3.out K3.out (own_alloc o5) (below_alloc b5) (makeF_ne (r := 9) rfl rfl)
                · rw [if_neg h5] at HR
                  have n5 : (x == 115) = false := by simpa using h5
                  by_cases h6 : x = 119
                  · subst h6
                    rw [if_pos rfl] at HR
                    go_wp2_with fail
                    refine (makeC (some ⟨w4.heap.size, 0, none⟩) [(48, 57), (65, 90), (95, 95), (97, 122)] 4 _ (Rd.built [(48, 57), (65, 90), (95, 95), (97, 122)] 4 rfl rfl (by omega)) (by simp)).mono ?_
                    rintro e w5 ⟨v, rfl, o5, b5⟩
                    go_wp2_with fail
                    go_ret2
                    rw [← HR.out]
                    exact rgPost_own P3.out K3.out (own_alloc o5) (below_alloc b5) (makeF_ne (r := 48) rfl rfl)
                  · rw [if_neg h6] at HR
                    have n6 : (x == 119) = false := by simpa using h6
                    go_wp2_with fail
                    refine (markC x _).mono ?_
                    rintro e w5 ⟨rfl, rfl⟩
                    cases hm : markB x
                    · rw [if_neg (by simp [hm])] at HR
                      go_wp2_with fail
                      refine (wrongC P3.out hi 4).mono ?_
                      rintro e w6 ⟨rfl, P4, K4⟩
                      go_wp2_with fail
                      go_ret2
                      rw [← HR.out]
                      exact rgPost_nil P4 (K3.out.trans K4)
                    · rw [if_pos hm] at HR
                      have hv := mark_valid hm
                      clear hm
                      go_wp2_with fail
                      refine (singleC x _).mono ?_
                      rintro e w6 ⟨v, rfl, o5, b5⟩
                      go_wp2_with fail
                      go_ret2
                      rw [← HR.out]
                      exact rgPost_own P3.out K3.out o5 b5 (single_ne hv.1 hv.2)
      · rw [signF_bad hn hb] at hr
        have HR := Lib.hid hr
        have HB := Lib.hid hb
        clear hb hr
        generalize s.next = s1 at P1 hn hn' HB HR
        have c0 := P1.out.c0
        have c2 := P1.out.c2
        have i1 : (s1.i : Int) < (c.G.length : Int) := by omega
        go_wp2_with fail
        go_quiet (fail)
        have P2 := Lib.hid (P1.out.drewN nq)
        have K2 := Lib.hid (K1.out.trans (Kp.below (drewN_below (Below.refl w1.heap.size w1) nq)))
        clear P1 K1 c0 c2
        generalize w1.drewN nq = w2 at P2 K2 ⊢
        have c2 := P2.out.c2
        go_wp2_with fail
        refine (badC P2.out hn').mono ?_
        rintro e w3 ⟨rfl, rfl⟩
        rw [HB.out]
        go_wp2_with fail
        refine (wrongC P2.out hn' 4).mono ?_
        rintro e w4 ⟨rfl, P4, K4⟩
        go_wp2_with fail
        go_ret2
        rw [← HR.out]
        exact rgPost_nil P4 (K2.out.trans K4)
  exact key _ rfl
theorem partF_bad {G : List Gt} (hb : badB G s.i = true) : partF G s = (s.wrong G s.i 4, [], false) := by simp only [partF, if_pos hb]
theorem partF_go {G : List Gt} (hb : badB G s.i = false) : partF G s = if runeAt G s.i = 92 then signF G s else if runeAt G s.i = 91 ∨ runeAt G s.i = 93 ∨ runeAt G s.i = 45 then (s, [], false) else (s.next, [(runeAt G s.i, runeAt G s.i)], true) := by
  simp only [partF]
  rw [if_neg (by rw [hb]; decide)]
theorem rgPost_pre {w1 w2 : World} {r : Ps × List Rg × Bool} {e : Ending} (K : Kp c.P w w1) (h : RgPost c w1 r e w2) : RgPost c w r e w2 := by
  obtain ⟨v, h1, h2, h3, h4, h5⟩ := h
  exact ⟨v, h1, h2, K.trans h3, h4.mono K.size, h5⟩
set_option maxHeartbeats 8000000 in
set_option maxRecDepth 100000 in
theorem partC (h : Pz c w s) (hi : s.i < c.G.length) : Calls Tryz.prog 108 #[.pointer (some ⟨c.P, 0, none⟩)] w (RgPost c w (partF c.G s)) := by
  have c0 := h.c0
  have c2 := h.c2
  have hln := h.len
  have H := Lib.hid h
  clear h
  have key : ∀ r, partF c.G s = r → Calls Tryz.prog 108 #[.pointer (some ⟨c.P, 0, none⟩)] w (RgPost c w r) := by
    intro r hr
    have i1 : (s.i : Int) < (c.G.length : Int) := by omega
    cases hb : badB c.G s.i
    · rw [partF_go hb] at hr
      have HB := Lib.hid hb
      have HR := Lib.hid hr
      obtain ⟨b, off, hga, hbP, hbl, r0, r1⟩ := H.out.rune hi
      rw [hga] at c0
      have HGA := Lib.hid hga
      clear hr hb hga r1
      generalize runeAt c.G s.i = x at r0 HR
      go_enter Tryz.func108, Tryz.ntmps108
      go_wp2_with fail
      refine (badC H.out hi).mono ?_
      rintro e w1 ⟨rfl, rfl⟩
      rw [HB.out]
      go_wp2_with fail
      go_quiet (fail)
      have P2 := Lib.hid (H.out.drewN nq)
      have K2 := Lib.hid (Kp.below (P := c.P) (drewN_below (Below.refl w1.heap.size w1) nq))
      clear c0 c2 r0
      generalize w1.drewN nq = w2 at P2 K2 ⊢
      have c2 := P2.out.c2
      have f2 := P2.out.fz 2
      by_cases h1 : x = 92
      · subst h1
        rw [if_pos rfl] at HR
        go_wp2_with fail
        refine (signC P2.out hi).mono ?_
        rintro e w3 ⟨v, rfl, h3⟩
        go_wp2_with fail
        go_ret2
        rw [← HR.out]
        exact rgPost_pre K2.out ⟨v, rfl, h3⟩
      · rw [if_neg h1] at HR
        have n1 : (x == 92) = false := by simpa using h1
        by_cases h2 : x = 91
        · subst h2
          rw [if_pos (.inl rfl)] at HR
          go_wp2_with fail
          go_ret2
          rw [← HR.out]
          exact rgPost_nil P2.out K2.out
        · have n2 : (x == 91) = false := by simpa using h2
          by_cases h3 : x = 93
          · subst h3
            rw [if_pos (.inr (.inl rfl))] at HR
            go_wp2_with fail
            go_ret2
            rw [← HR.out]
            exact rgPost_nil P2.out K2.out
          · have n3 : (x == 93) = false := by simpa using h3
            by_cases h4 : x = 45
            · subst h4
              rw [if_pos (.inr (.inr rfl))] at HR
              go_wp2_with fail
              go_ret2
              rw [← HR.out]
              exact rgPost_nil P2.out K2.out
            · have n4 : (x == 45) = false := by simpa using h4
              rw [if_neg (by simp [h2, h3, h4])] at HR
              go_upto_region 7 with fail
              have P3 := Lib.hid (P2.out.step hi)
              have K3 := Lib.hid (K2.out.trans (Kp.set c.P 2 w2 (.int .i64 ((s.i : Int) + 1))))
              generalize w2.setCell ⟨c.P, 2, none⟩ (.int .i64 ((s.i : Int) + 1)) = w3 at P3 K3 ⊢
              go_wp2_with fail
              go_ret2
              rw [← HR.out]
              have b4 := (Below.refl w3.heap.size w3).alloc (Nat.le_refl _) (.cells #[.int .i32 x, .int .i32 x] 58)
              have o4 : OwnR w3.heap.size (w3.alloc (.cells #[.int .i32 x, .int .i32 x] 58)) (.slice (some ⟨w3.heap.size, 0, none⟩) 1 1) [(x, x)] := own_lit w3 _ [(x, x)] 1 rfl er_len rfl (Nat.le_refl _) (by omega)
              exact rgPost_own P3.out K3.out o4 b4 (by simp)
    · rw [partF_bad hb] at hr
      have HB := Lib.hid hb
      have HR := Lib.hid hr
      clear hr hb
      go_enter Tryz.func108, Tryz.ntmps108
      go_wp2_with fail
      refine (badC H.out hi).mono ?_
      rintro e w1 ⟨rfl, rfl⟩
      rw [HB.out]
      go_wp2_with fail
      refine (wrongC H.out hi 4).mono ?_
      rintro e w2 ⟨rfl, P2, K2⟩
      go_wp2_with fail
      go_ret2
      rw [← HR.out]
      exact rgPost_nil P2 K2
  exact key _ rfl
end Go.Proofs.YtooockbfagkknaaGreatDoor.syn
