/- atom, rep, walked. -/
import Derived.Test.YtooockbfagkknaaGreatDoorPar9
namespace Go.Proofs.YtooockbfagkknaaGreatDoor.syn
open Go.RowKit Go.Proofs.YtooockbfagkknaaGreatDoor.sl Go.Proofs.YtooockbfagkknaaGreatDoor.cls
variable {c : Cx} {w : World} {s : Ps}
def atom1 (G : List Gt) (alt : Ps → Ps × List Nd) (s : Ps) (r : Int) : Ps × List Nd :=
  if r = 40 then groupF G alt s
  else if r = 91 then clsF G s
  else if r = 92 then ((signF G s).1, [ndC (signF G s).2.1])
  else if r = 46 then (s.next, [ndC dotF])
  else if r = 94 then (s.next, [nd 7])
  else if r = 36 then (s.next, [nd 8])
  else if r = 42 ∨ r = 43 ∨ r = 63 ∨ r = 41 ∨ r = 93 ∨ r = 123 ∨ r = 125 ∨ r = 124 then (s.wrong G s.i 4, [])
  else (s.next, [ndC (singleF r)])
theorem atomF_bad {G : List Gt} {alt : Ps → Ps × List Nd} (hb : badB G s.i = true) : atomF G alt s = (s.wrong G s.i 4, []) := by simp only [atomF, if_pos hb]
theorem atomF_go {G : List Gt} {alt : Ps → Ps × List Nd} (hb : badB G s.i = false) : atomF G alt s = atom1 G alt s (runeAt G s.i) := by
  simp only [atomF]
  rw [if_neg (by rw [hb]; decide)]
  rfl
theorem ndPost_pre {w1 w2 : World} {r : Ps × List Nd} {e : Ending} (K : Kp c.P w w1) (h : NdPost c w1 r e w2) : NdPost c w r e w2 := by
  obtain ⟨v, h1, h2, h3, h4⟩ := h
  exact ⟨v, h1, h2, K.trans h3, h4.mono K.size⟩
theorem nds_one {B : Nat} {w : World} (hB : B ≤ w.heap.size) (op : Int) : Nds B (w.alloc (.cells #[.int .i64 op, .slice none 0 0, .int .i64 0, .int .i64 0, .bool false, .int .i64 0, .int .i64 0] 35)) (.slice (some ⟨w.heap.size, 0, none⟩) 1 1) [nd op] :=
  ⟨_, rfl, ndsV_one hB ⟨nd op, none, 0, 0⟩ (Own.nil _ _ _ _ _)⟩
set_option maxHeartbeats 8000000 in
set_option maxRecDepth 100000 in
theorem atomC {alt : Ps → Ps × List Nd} (A : AltOk c.G alt) (C : AltC c (s.opens + 1) alt) (h : Pz c w s) (hi : s.i < c.G.length) (he : s.err = 0) : Calls Tryz.prog 67 #[.pointer (some ⟨c.P, 0, none⟩)] w (NdPost c w (atomF c.G alt s)) := by
  have c0 := h.c0
  have c2 := h.c2
  have f2 := h.fz 2
  have hln := h.len
  have hPw := h.lt
  have P2 := Lib.hid h
  have K2 := Lib.hid (Kp.refl c.P w)
  have H0 := Lib.hid he
  have hgr := h.gr
  clear h he
  suffices key : ∀ r, atomF c.G alt s = r → Calls Tryz.prog 67 #[.pointer (some ⟨c.P, 0, none⟩)] w (NdPost c w r) from key _ rfl
  intro r hr
  have i1 : (s.i : Int) < (c.G.length : Int) := by omega
  have BD := Lib.hid (badC P2.out hi)
  cases hb : badB c.G s.i
  · rw [atomF_go hb] at hr
    rw [hb] at BD
    have HQ := Lib.hid hr
    obtain ⟨b, off, hga, hbP, hbl, r0, -⟩ := P2.out.rune hi
    rw [hga] at c0
    have HGA := Lib.hid hga
    clear hr hb hga
    generalize runeAt c.G s.i = x at r0 HQ
    go_enter Tryz.func67, Tryz.ntmps67
    go_wp2_with fail
    refine BD.out.mono ?_
    rintro e w2 ⟨rfl, rfl⟩
    go_upto_region 5 with fail
    clear c0 r0 BD
    unfold atom1 at HQ
    by_cases h1 : x = 40
    · subst h1
      rw [if_pos rfl] at HQ
      go_wp2_with fail
      refine (groupC A C P2.out hi H0.out).mono ?_
      rintro e w3 ⟨v, rfl, h3⟩
      go_wp2_with fail
      go_ret
      rw [← HQ.out]
      exact ndPost_pre K2.out ⟨v, rfl, h3⟩
    · have n1 : (x == 40) = false := by simpa using h1
      rw [if_neg h1] at HQ
      by_cases h2 : x = 91
      · subst h2
        rw [if_pos rfl] at HQ
        go_wp2_with fail
        refine (classC P2.out hi hgr).mono ?_
        rintro e w3 ⟨v, rfl, h3⟩
        go_wp2_with fail
        go_ret
        rw [← HQ.out]
        exact ndPost_pre K2.out ⟨v, rfl, h3⟩
      · have n2 : (x == 91) = false := by simpa using h2
        rw [if_neg h2] at HQ
        by_cases h3 : x = 92
        · subst h3
          rw [if_pos rfl] at HQ
          go_wp2_with fail
          refine (signC P2.out hi).mono ?_
          rintro e w3 ⟨v, rfl, p3, k3, o3, -⟩
          generalize signF c.G s = sg at p3 o3 HQ ⊢
          obtain ⟨t3, l3, b3⟩ := sg
          simp only at p3 o3 HQ ⊢
          have P3 := Lib.hid p3
          have K3 := Lib.hid (K2.out.trans k3)
          have O3 := Lib.hid (o3.mono K2.out.size)
          clear p3 k3 o3 c2 f2
          obtain ⟨a5, n5, cp5, rfl, nd5⟩ := nds_class O3.out K3.out.size
          have b6 := (Below.refl w3.heap.size w3).alloc (Nat.le_refl _) (.cells #[.int .i64 2, .slice a5 n5 cp5, .int .i64 0, .int .i64 0, .bool false, .int .i64 0, .int .i64 0] 35)
          have ND := Lib.hid nd5
          have B6 := Lib.hid b6
          clear nd5 b6
          go_wp2_with fail
          go_ret
          rw [← HQ.out]
          exact ⟨_, rfl, P3.out.keep B6.out, K3.out.trans (Kp.below B6.out), ND.out⟩
        · have n3 : (x == 92) = false := by simpa using h3
          rw [if_neg h3] at HQ
          by_cases h4 : x = 46
          · subst h4
            rw [if_pos rfl] at HQ
            go_upto_region 17 with fail
            have P3 := Lib.hid (P2.out.step hi)
            have K3 := Lib.hid (K2.out.trans (Kp.set c.P 2 w2 (.int .i64 ((s.i : Int) + 1))))
            clear c2 f2
            generalize w2.setCell ⟨c.P, 2, none⟩ (.int .i64 ((s.i : Int) + 1)) = w3 at P3 K3 ⊢
            go_wp2_with fail
            refine (dotC w3).mono ?_
            rintro e w4 ⟨v, rfl, o4, b4⟩
            have P4 := Lib.hid (P3.out.keep b4)
            have K4 := Lib.hid (K3.out.trans (Kp.below b4))
            have O4 := Lib.hid (o4.mono K3.out.size)
            clear o4 b4 P3 K3
            obtain ⟨a5, n5, cp5, rfl, nd5⟩ := nds_class O4.out K4.out.size
            have b6 := (Below.refl w4.heap.size w4).alloc (Nat.le_refl _) (.cells #[.int .i64 2, .slice a5 n5 cp5, .int .i64 0, .int .i64 0, .bool false, .int .i64 0, .int .i64 0] 35)
            have ND := Lib.hid nd5
            have B6 := Lib.hid b6
            clear nd5 b6
            go_wp2_with fail
            go_ret
            rw [← HQ.out]
            exact ⟨_, rfl, P4.out.keep B6.out, K4.out.trans (Kp.below B6.out), ND.out⟩
          · have n4 : (x == 46) = false := by simpa using h4
            rw [if_neg h4] at HQ
            by_cases h5 : x = 94
            · subst h5
              rw [if_pos rfl] at HQ
              go_upto_region 20 with fail
              have P3 := Lib.hid (P2.out.step hi)
              have K3 := Lib.hid (K2.out.trans (Kp.set c.P 2 w2 (.int .i64 ((s.i : Int) + 1))))
              clear c2 f2
              generalize w2.setCell ⟨c.P, 2, none⟩ (.int .i64 ((s.i : Int) + 1)) = w3 at P3 K3 ⊢
              have nd4 := nds_one K3.out.size 7
              have b4 := (Below.refl w3.heap.size w3).alloc (Nat.le_refl _) (.cells #[.int .i64 7, .slice none 0 0, .int .i64 0, .int .i64 0, .bool false, .int .i64 0, .int .i64 0] 35)
              have ND := Lib.hid nd4
              have B4 := Lib.hid b4
              clear nd4 b4
              go_wp2_with fail
              go_ret
              rw [← HQ.out]
              exact ⟨_, rfl, P3.out.keep B4.out, K3.out.trans (Kp.below B4.out), ND.out⟩
            · have n5 : (x == 94) = false := by simpa using h5
              rw [if_neg h5] at HQ
              by_cases h6 : x = 36
              · subst h6
                rw [if_pos rfl] at HQ
                go_upto_region 23 with fail
                have P3 := Lib.hid (P2.out.step hi)
                have K3 := Lib.hid (K2.out.trans (Kp.set c.P 2 w2 (.int .i64 ((s.i : Int) + 1))))
                clear c2 f2
                generalize w2.setCell ⟨c.P, 2, none⟩ (.int .i64 ((s.i : Int) + 1)) = w3 at P3 K3 ⊢
                have nd4 := nds_one K3.out.size 8
                have b4 := (Below.refl w3.heap.size w3).alloc (Nat.le_refl _) (.cells #[.int .i64 8, .slice none 0 0, .int .i64 0, .int .i64 0, .bool false, .int .i64 0, .int .i64 0] 35)
                have ND := Lib.hid nd4
                have B4 := Lib.hid b4
                clear nd4 b4
                go_wp2_with fail
                go_ret
                rw [← HQ.out]
                exact ⟨_, rfl, P3.out.keep B4.out, K3.out.trans (Kp.below B4.out), ND.out⟩
              · have n6 : (x == 36) = false := by simpa using h6
                rw [if_neg h6] at HQ
                by_cases h7 : x = 42
                · subst h7
                  rw [if_pos (by decide)] at HQ
                  go_wp2_with fail
                  refine (wrongC P2.out hi 4).mono ?_
                  rintro e w3 ⟨rfl, P3, K3⟩
                  go_wp2_with fail
                  go_ret
                  rw [← HQ.out]
                  exact ndPost_nil P3 (K2.out.trans K3)
                · have n7 : (x == 42) = false := by simpa using h7
                  by_cases h8 : x = 43
                  · subst h8
                    rw [if_pos (by decide)] at HQ
                    go_wp2_with fail
                    refine (wrongC P2.out hi 4).mono ?_
                    rintro e w3 ⟨rfl, P3, K3⟩
                    go_wp2_with fail
                    go_ret
                    rw [← HQ.out]
                    exact ndPost_nil P3 (K2.out.trans K3)
                  · have n8 : (x == 43) = false := by simpa using h8
                    by_cases h9 : x = 63
                    · subst h9
                      rw [if_pos (by decide)] at HQ
                      go_wp2_with fail
                      refine (wrongC P2.out hi 4).mono ?_
                      rintro e w3 ⟨rfl, P3, K3⟩
                      go_wp2_with fail
                      go_ret
                      rw [← HQ.out]
                      exact ndPost_nil P3 (K2.out.trans K3)
                    · have n9 : (x == 63) = false := by simpa using h9
                      by_cases h10 : x = 41
                      · subst h10
                        rw [if_pos (by decide)] at HQ
                        go_wp2_with fail
                        refine (wrongC P2.out hi 4).mono ?_
                        rintro e w3 ⟨rfl, P3, K3⟩
                        go_wp2_with fail
                        go_ret
                        rw [← HQ.out]
                        exact ndPost_nil P3 (K2.out.trans K3)
                      · have n10 : (x == 41) = false := by simpa using h10
                        by_cases h11 : x = 93
                        · subst h11
                          rw [if_pos (by decide)] at HQ
                          go_wp2_with fail
                          refine (wrongC P2.out hi 4).mono ?_
                          rintro e w3 ⟨rfl, P3, K3⟩
                          go_wp2_with fail
                          go_ret
                          rw [← HQ.out]
                          exact ndPost_nil P3 (K2.out.trans K3)
                        · have n11 : (x == 93) = false := by simpa using h11
                          by_cases h12 : x = 123
                          · subst h12
                            rw [if_pos (by decide)] at HQ
                            go_wp2_with fail
                            refine (wrongC P2.out hi 4).mono ?_
                            rintro e w3 ⟨rfl, P3, K3⟩
                            go_wp2_with fail
                            go_ret
                            rw [← HQ.out]
                            exact ndPost_nil P3 (K2.out.trans K3)
                          · have n12 : (x == 123) = false := by simpa using h12
                            by_cases h13 : x = 125
                            · subst h13
                              rw [if_pos (by decide)] at HQ
                              go_wp2_with fail
                              refine (wrongC P2.out hi 4).mono ?_
                              rintro e w3 ⟨rfl, P3, K3⟩
                              go_wp2_with fail
                              go_ret
                              rw [← HQ.out]
                              exact ndPost_nil P3 (K2.out.trans K3)
                            · have n13 : (x == 125) = false := by simpa using h13
                              by_cases h14 : x = 124
                              · subst h14
                                rw [if_pos (by decide)] at HQ
                                go_wp2_with fail
                                refine (wrongC P2.out hi 4).mono ?_
                                rintro e w3 ⟨rfl, P3, K3⟩
                                go_wp2_with fail
                                go_ret
                                rw [← HQ.out]
                                exact ndPost_nil P3 (K2.out.trans K3)
                              · have n14 : (x == 124) = false := by simpa using h14
                                rw [if_neg (by simp [h7, h8, h9, h10, h11, h12, h13, h14])] at HQ
                                go_upto_region 7 with fail
                                have P3 := Lib.hid (P2.out.step hi)
                                have K3 := Lib.hid (K2.out.trans (Kp.set c.P 2 w2 (.int .i64 ((s.i : Int) + 1))))
                                clear c2 f2
                                generalize w2.setCell ⟨c.P, 2, none⟩ (.int .i64 ((s.i : Int) + 1)) = w3 at P3 K3 ⊢
                                go_wp2_with fail
                                refine (singleC x w3).mono ?_
                                rintro e w4 ⟨v, rfl, o4, b4⟩
                                have P4 := Lib.hid (P3.out.keep b4)
                                have K4 := Lib.hid (K3.out.trans (Kp.below b4))
                                have O4 := Lib.hid (o4.mono K3.out.size)
                                clear o4 b4 P3 K3
                                obtain ⟨a5, n5, cp5, rfl, nd5⟩ := nds_class O4.out K4.out.size
                                have b6 := (Below.refl w4.heap.size w4).alloc (Nat.le_refl _) (.cells #[.int .i64 2, .slice a5 n5 cp5, .int .i64 0, .int .i64 0, .bool false, .int .i64 0, .int .i64 0] 35)
                                have ND := Lib.hid nd5
                                have B6 := Lib.hid b6
                                clear nd5 b6
                                go_wp2_with fail
                                go_ret
                                rw [← HQ.out]
                                exact ⟨_, rfl, P4.out.keep B6.out, K4.out.trans (Kp.below B6.out), ND.out⟩
  · rw [atomF_bad hb] at hr
    rw [hb] at BD
    have HQ := Lib.hid hr
    clear hr hb
    go_enter Tryz.func67, Tryz.ntmps67
    go_wp2_with fail
    refine BD.out.mono ?_
    rintro e w2 ⟨rfl, rfl⟩
    go_wp2_with fail
    refine (wrongC P2.out hi 4).mono ?_
    rintro e w3 ⟨rfl, P3, K3⟩
    go_wp2_with fail
    go_ret
    rw [← HQ.out]
    exact ndPost_nil P3 (K2.out.trans K3)
end Go.Proofs.YtooockbfagkknaaGreatDoor.syn
