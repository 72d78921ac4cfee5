/- shaped, walked. -/
import Derived.Test.YtooockbfagkknaaGreatDoorRight1
namespace Go.Proofs.YtooockbfagkknaaGreatDoor.syn
open Go.RowKit Go.Proofs.YtooockbfagkknaaGreatDoor.sl Go.Proofs.YtooockbfagkknaaGreatDoor.cls
def shapedF (x : Nd) (g : Int) : Int × Bool :=
  if plainB x = false then (0, false)
  else if x.op = 1 ∨ x.op = 7 ∨ x.op = 8 then (0, x.kids == 0)
  else if x.op = 2 then (0, x.kids == 0 && decide (x.r = makeF x.r))
  else if x.op = 3 ∨ x.op = 4 then (x.kids, decide (2 ≤ x.kids))
  else if x.op = 5 then (1, x.kids == 1 && decide (0 ≤ x.mn) && decide (x.mn ≤ 30) && (x.mx == -1 || (decide (x.mn ≤ x.mx) && decide (x.mx ≤ 30))))
  else if x.op = 6 then (1, x.kids == 1 && x.cap == g + 1 && decide (x.cap ≤ 4))
  else (0, false)
set_option maxHeartbeats 8000000 in
set_option maxRecDepth 100000 in
theorem shapedC (y : NdV) (hn : y.n = y.x.r.length) (g : Int) (hg : 0 ≤ g ∧ g ≤ 1000000) (w : World) (hr : Rd er w y.a y.x.r y.c) (hl : y.x.r.length ≤ 2000000) : Calls Tryz.prog 38 #[agN y, .int .i64 g] w fun e w' => e = .returned (.tuple #[.int .i64 (shapedF y.x g).1, .bool (shapedF y.x g).2]) ∧ Below w.heap.size w w' := by
  obtain ⟨hg0, hg1⟩ := hg
  have PC := Lib.hid (plainC y hn (w.alloc (.cells #[.int .i64 y.x.op, .slice y.a y.n y.c, .int .i64 y.x.mn, .int .i64 y.x.mx, .bool y.x.lz, .int .i64 y.x.cap, .int .i64 y.x.kids] 35)))
  obtain ⟨⟨op, r, mn, mx, lz, cap, kids⟩, a, n, c⟩ := y
  simp only at hn hr hl PC
  subst hn
  have HR := Lib.hid hr
  clear hr
  suffices key : ∀ s, shapedF ⟨op, r, mn, mx, lz, cap, kids⟩ g = s → Calls Tryz.prog 38 #[.agg #[.int .i64 op, .slice a r.length c, .int .i64 mn, .int .i64 mx, .bool lz, .int .i64 cap, .int .i64 kids], .int .i64 g] w fun e w' => e = .returned (.tuple #[.int .i64 s.1, .bool s.2]) ∧ Below w.heap.size w w' from key _ rfl
  intro s hs
  have HQ := Lib.hid hs
  clear hs
  unfold shapedF at HQ
  simp only at HQ
  have b0 := (Below.refl w.heap.size w).alloc (Nat.le_refl _) (.cells #[.int .i64 op, .slice a r.length c, .int .i64 mn, .int .i64 mx, .bool lz, .int .i64 cap, .int .i64 kids] 35)
  have nb0 := heap_alloc_new w (.cells #[.int .i64 op, .slice a r.length c, .int .i64 mn, .int .i64 mx, .bool lz, .int .i64 cap, .int .i64 kids] 35)
  have B0 := Lib.hid b0
  have NB0 := Lib.hid nb0
  clear b0 nb0
  go_enter Tryz.func38, Tryz.ntmps38
  go_wp2_with fail
  refine PC.out.mono ?_
  rintro e w2 ⟨rfl, b2⟩
  have NB2 := Lib.hid ((b2.block w.heap.size (by simp)).trans NB0.out)
  have B2 := Lib.hid (B0.out.trans (b2.mono (by simp)))
  clear b2 B0 NB0 PC
  generalize plainB ⟨op, r, mn, mx, lz, cap, kids⟩ = pl at HQ ⊢
  cases pl
  · rw [if_pos rfl] at HQ
    go_wp2_with fail
    go_ret2
    rw [← HQ.out]
    exact ⟨rfl, B2.out⟩
  · rw [if_neg (by decide)] at HQ
    have nb := NB2.out
    have d0 := cell_of_obj (o := 0) (u := .int .i64 op) nb rfl
    have d1 := cell_of_obj (o := 1) (u := .slice a r.length c) nb rfl
    have d2 := cell_of_obj (o := 2) (u := .int .i64 mn) nb rfl
    have d3 := cell_of_obj (o := 3) (u := .int .i64 mx) nb rfl
    have d5 := cell_of_obj (o := 5) (u := .int .i64 cap) nb rfl
    have d6 := cell_of_obj (o := 6) (u := .int .i64 kids) nb rfl
    clear nb NB2
    generalize w.heap.size = Nb at d0 d1 d2 d3 d5 d6 ⊢
    by_cases h1 : op = 1
    · subst h1
      rw [if_pos (by decide)] at HQ
      go_wp2_with fail
      go_quiet (fail)
      go_wp2_with fail
      go_ret2
      rw [← HQ.out]
      exact ⟨rfl, B2.out.trans (drewN_below (Below.refl _ _) _)⟩
    · have n1 : (op == 1) = false := by simpa using h1
      by_cases h2 : op = 7
      · subst h2
        rw [if_pos (by decide)] at HQ
        go_wp2_with fail
        go_quiet (fail)
        go_wp2_with fail
        go_ret2
        rw [← HQ.out]
        exact ⟨rfl, B2.out.trans (drewN_below (Below.refl _ _) _)⟩
      · have n2 : (op == 7) = false := by simpa using h2
        by_cases h3 : op = 8
        · subst h3
          rw [if_pos (by decide)] at HQ
          go_wp2_with fail
          go_quiet (fail)
          go_wp2_with fail
          go_ret2
          rw [← HQ.out]
          exact ⟨rfl, B2.out.trans (drewN_below (Below.refl _ _) _)⟩
        · have n3 : (op == 8) = false := by simpa using h3
          rw [if_neg (by simp [h1, h2, h3])] at HQ
          by_cases h4 : op = 2
          · subst h4
            rw [if_pos rfl] at HQ
            have RC := Lib.hid (rightC a r c w2 (HR.out.kept (B2.out.mono (Nat.le_refl _))) (by omega))
            by_cases hk : kids = 0
            · subst hk
              go_wp2_with fail
              refine RC.out.mono ?_
              rintro e w3 ⟨rfl, b3⟩
              go_wp2_with fail
              go_ret2
              rw [← HQ.out]
              exact ⟨rfl, B2.out.trans (b3.mono B2.out.size)⟩
            · have hk' : (kids == 0) = false := by simpa using hk
              rw [hk'] at HQ
              go_wp2_with fail
              go_ret2
              rw [← HQ.out]
              exact ⟨rfl, B2.out⟩
          · have n4 : (op == 2) = false := by simpa using h4
            rw [if_neg h4] at HQ
            by_cases h5 : op = 3
            · subst h5
              rw [if_pos (by decide)] at HQ
              go_wp2_with fail
              go_quiet (fail)
              go_wp2_with fail
              go_ret2
              rw [← HQ.out]
              exact ⟨rfl, B2.out.trans (drewN_below (Below.refl _ _) _)⟩
            · have n5 : (op == 3) = false := by simpa using h5
              by_cases h6 : op = 4
              · subst h6
                rw [if_pos (by decide)] at HQ
                go_wp2_with fail
                go_quiet (fail)
                go_wp2_with fail
                go_ret2
                rw [← HQ.out]
                exact ⟨rfl, B2.out.trans (drewN_below (Below.refl _ _) _)⟩
              · have n6 : (op == 4) = false := by simpa using h6
                rw [if_neg (by simp [h5, h6])] at HQ
                by_cases h7 : op = 5
                · subst h7
                  rw [if_pos rfl] at HQ
                  by_cases k1 : kids = 1
                  · subst k1
                    by_cases k2 : 0 ≤ mn
                    · have k2' : decide (0 ≤ mn) = true := by simpa using k2
                      by_cases k3 : mn ≤ 30
                      · have k3' : decide (mn ≤ 30) = true := by simpa using k3
                        by_cases k4 : mx = -1
                        · subst k4
                          have HQ2 : Hid ((1, true) = s) := Lib.hid (by rw [← HQ.out]; simp only [Prod.mk.injEq, true_and]; rw [Bool.eq_iff_iff]; simp; try omega)
                          go_wp2_with fail
                          go_quiet (fail)
                          go_wp2_with fail
                          go_ret2
                          rw [← HQ2.out]
                          exact ⟨rfl, B2.out.trans (drewN_below (Below.refl _ _) _)⟩
                        · have k4' : (mx == -1) = false := by simpa using k4
                          by_cases k5 : mn ≤ mx
                          · have k5' : decide (mn ≤ mx) = true := by simpa using k5
                            have HQ2 : Hid ((1, decide (mx ≤ 30)) = s) := Lib.hid (by rw [← HQ.out]; simp only [Prod.mk.injEq, true_and]; rw [Bool.eq_iff_iff]; simp; try omega)
                            go_wp2_with fail
                            go_quiet (fail)
                            go_wp2_with fail
                            go_ret2
                            rw [← HQ2.out]
                            exact ⟨rfl, B2.out.trans (drewN_below (Below.refl _ _) _)⟩
                          · have k5' : decide (mn ≤ mx) = false := by simpa using k5
                            have HQ2 : Hid ((1, false) = s) := Lib.hid (by rw [← HQ.out]; simp only [Prod.mk.injEq, true_and]; rw [Bool.eq_iff_iff]; simp; try omega)
                            go_wp2_with fail
                            go_quiet (fail)
                            go_wp2_with fail
                            go_ret2
                            rw [← HQ2.out]
                            exact ⟨rfl, B2.out.trans (drewN_below (Below.refl _ _) _)⟩
                      · have k3' : decide (mn ≤ 30) = false := by simpa using k3
                        have HQ2 : Hid ((1, false) = s) := Lib.hid (by rw [← HQ.out]; simp only [Prod.mk.injEq, true_and]; rw [Bool.eq_iff_iff]; simp; try omega)
                        go_wp2_with fail
                        go_quiet (fail)
                        go_wp2_with fail
                        go_ret2
                        rw [← HQ2.out]
                        exact ⟨rfl, B2.out.trans (drewN_below (Below.refl _ _) _)⟩
                    · have k2' : decide (0 ≤ mn) = false := by simpa using k2
                      have HQ2 : Hid ((1, false) = s) := Lib.hid (by rw [← HQ.out]; simp only [Prod.mk.injEq, true_and]; rw [Bool.eq_iff_iff]; simp; try omega)
                      go_wp2_with fail
                      go_quiet (fail)
                      go_wp2_with fail
                      go_ret2
                      rw [← HQ2.out]
                      exact ⟨rfl, B2.out.trans (drewN_below (Below.refl _ _) _)⟩
                  · have k1' : (kids == 1) = false := by simpa using k1
                    have HQ2 : Hid ((1, false) = s) := Lib.hid (by rw [← HQ.out]; simp only [Prod.mk.injEq, true_and]; rw [Bool.eq_iff_iff]; simp; try omega)
                    go_wp2_with fail
                    go_quiet (fail)
                    go_wp2_with fail
                    go_ret2
                    rw [← HQ2.out]
                    exact ⟨rfl, B2.out.trans (drewN_below (Below.refl _ _) _)⟩
                · have n7 : (op == 5) = false := by simpa using h7
                  rw [if_neg h7] at HQ
                  by_cases h8 : op = 6
                  · subst h8
                    rw [if_pos rfl] at HQ
                    by_cases k1 : kids = 1
                    · subst k1
                      by_cases k2 : cap = g + 1
                      · subst k2
                        have HQ2 : Hid ((1, decide ((g + 1) ≤ 4)) = s) := Lib.hid (by rw [← HQ.out]; simp only [Prod.mk.injEq, true_and]; rw [Bool.eq_iff_iff]; simp; try omega)
                        go_wp2_with fail
                        go_quiet (fail)
                        go_wp2_with fail
                        go_ret2
                        rw [← HQ2.out]
                        exact ⟨rfl, B2.out.trans (drewN_below (Below.refl _ _) _)⟩
                      · have k2' : (cap == g + 1) = false := by simpa using k2
                        have HQ2 : Hid ((1, false) = s) := Lib.hid (by rw [← HQ.out]; simp only [Prod.mk.injEq, true_and]; rw [Bool.eq_iff_iff]; simp; try omega)
                        go_wp2_with fail
                        go_quiet (fail)
                        go_wp2_with fail
                        go_ret2
                        rw [← HQ2.out]
                        exact ⟨rfl, B2.out.trans (drewN_below (Below.refl _ _) _)⟩
                    · have k1' : (kids == 1) = false := by simpa using k1
                      have HQ2 : Hid ((1, false) = s) := Lib.hid (by rw [← HQ.out]; simp only [Prod.mk.injEq, true_and]; rw [Bool.eq_iff_iff]; simp; try omega)
                      go_wp2_with fail
                      go_quiet (fail)
                      go_wp2_with fail
                      go_ret2
                      rw [← HQ2.out]
                      exact ⟨rfl, B2.out.trans (drewN_below (Below.refl _ _) _)⟩
                  · have n8 : (op == 6) = false := by simpa using h8
                    rw [if_neg h8] at HQ
                    go_wp2_with fail
                    go_ret2
                    rw [← HQ.out]
                    exact ⟨rfl, B2.out⟩
end Go.Proofs.YtooockbfagkknaaGreatDoor.syn
