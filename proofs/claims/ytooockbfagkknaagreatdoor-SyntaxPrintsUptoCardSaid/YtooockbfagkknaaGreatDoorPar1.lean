/- The small functions of the parser, walked. -/
import Derived.Test.YtooockbfagkknaaGreatDoorMem
import Derived.Deep.DeepMust
namespace Go.Proofs.YtooockbfagkknaaGreatDoor.syn
open Go.RowKit Go.Proofs.YtooockbfagkknaaGreatDoor.sl Go.Proofs.YtooockbfagkknaaGreatDoor.cls
variable {c : Cx} {w : World} {s : Ps}
set_option maxHeartbeats 4000000 in
set_option maxRecDepth 100000 in
theorem isC (h : Pz c w s) (r : Int) : Calls Tryz.prog 49 #[.pointer (some ⟨c.P, 0, none⟩), .int .i32 r] w fun e w' => e = .returned (.bool (isR c.G s r)) ∧ ∃ n, w' = w.drewN n := by
  have c0 := h.c0
  have c2 := h.c2
  have hln := h.len
  by_cases hi : s.i < c.G.length
  · obtain ⟨b, off, hga, hbP, hbl, r0, r1⟩ := h.rune hi
    rw [isR_at hi]
    rw [hga] at c0
    have i1 : (s.i : Int) < (c.G.length : Int) := by omega
    clear h hga
    generalize runeAt c.G s.i = x at r0
    go_enter Tryz.func49, Tryz.ntmps49
    go_wp2_with fail
    go_quiet (fail)
    go_wp2_with fail
    go_ret
    exact ⟨rfl, _, rfl⟩
  · rw [isR_out hi]
    have i1 : ¬ (s.i : Int) < (c.G.length : Int) := by omega
    clear h
    go_enter Tryz.func49, Tryz.ntmps49
    go_wp2_with fail
    go_quiet (fail)
    go_wp2_with fail
    go_ret
    exact ⟨rfl, _, rfl⟩
set_option maxHeartbeats 4000000 in
theorem badC (h : Pz c w s) {k : Nat} (hk : k < c.G.length) : Calls Tryz.prog 77 #[.pointer (some ⟨c.P, 0, none⟩), .int .i64 k] w fun e w' => e = .returned (.bool (badB c.G k)) ∧ w' = w := by
  have c0 := h.c0
  have hln := h.len
  obtain ⟨b, off, hga, hbP, hbl, r0, r1⟩ := h.rune hk
  rw [bad_at hk]
  rw [hga] at c0
  have i1 : (k : Int) < (c.G.length : Int) := by omega
  clear h hga
  generalize runeAt c.G k = x at r0
  generalize (c.G.getD k (0, 0)).2 = y at r1
  by_cases hx : x = 65533
  · subst hx
    go_enter Tryz.func77, Tryz.ntmps77
    go_wp2_with fail
    go_ret
    exact ⟨rfl, rfl⟩
  · have hx' : (x == 65533) = false := by simpa using hx
    go_enter Tryz.func77, Tryz.ntmps77
    go_wp2_with fail
    go_ret
    exact ⟨by rw [hx']; rfl, rfl⟩
set_option maxHeartbeats 4000000 in
theorem wrongC (h : Pz c w s) {k : Nat} (hk : k < c.G.length) (er : Int) : Calls Tryz.prog 17 #[.pointer (some ⟨c.P, 0, none⟩), .int .i64 k, .int .i64 er] w fun e w' => e = .returned (.slice none 0 0) ∧ Pz c w' (s.wrong c.G k er) ∧ Kp c.P w w' := by
  have c1 := h.c1
  have c5 := h.c5
  have c6 := h.c6
  have f5 := h.fz 5
  have f6 := h.fz 6
  have hln := h.len
  obtain ⟨b, off, hpa, hbP, hbl, r0⟩ := h.place hk
  have i1 : (k : Int) < (c.G.length : Int) := by omega
  rw [hpa] at c1
  have H := Lib.hid h
  have HP := Lib.hid hpa
  clear h hpa
  unfold Ps.wrong
  by_cases he : s.err = 0
  · rw [if_pos he]
    rw [he] at c5
    have HE := Lib.hid he
    clear he
    generalize place c.G k = x at r0
    go_enter Tryz.func17, Tryz.ntmps17
    go_wp2_with fail
    go_ret
    exact ⟨rfl, (H.out.set_err er).set_wh x, (Kp.set _ _ _ _).trans (Kp.set _ _ _ _)⟩
  · rw [if_neg he]
    have he' : (s.err == 0) = false := by simpa using he
    generalize s.err = x at c5 he he'
    go_enter Tryz.func17, Tryz.ntmps17
    go_wp2_with fail
    go_ret
    exact ⟨rfl, H.out, Kp.refl _ _⟩
theorem Pz.drewN (h : Pz c w s) (n : Nat) : Pz c (w.drewN n) s := h.keep (drewN_below (Below.refl _ _) n)
theorem Pz.step (h : Pz c w s) (hi : s.i < c.G.length) : Pz c (w.setCell ⟨c.P, 2, none⟩ (.int .i64 ((s.i : Int) + 1))) s.next := by
  have := h.set_i (j := s.i + 1) hi
  rwa [Int.natCast_add] at this
set_option maxHeartbeats 4000000 in
theorem skipC (h : Pz c w s) (r : Int) : Calls Tryz.prog 31 #[.pointer (some ⟨c.P, 0, none⟩), .int .i32 r] w fun e w' => e = .returned (.bool (isR c.G s r)) ∧ Pz c w' (skipS c.G s r) ∧ Kp c.P w w' := by
  have c2 := h.c2
  have f2 := h.fz 2
  have hln := h.len
  have hle := h.le
  have H := Lib.hid h
  clear h
  have C := Lib.hid (isC H.out r)
  unfold skipS
  have hi := isR_lt (G := c.G) (s := s) (r := r)
  cases hR : isR c.G s r
  · rw [hR] at C
    rw [if_neg (by simp)]
    clear hi hR
    go_enter Tryz.func31, Tryz.ntmps31
    go_wp2_with fail
    refine C.out.mono ?_
    rintro e w' ⟨rfl, n, rfl⟩
    go_wp2_with fail
    go_ret
    exact ⟨rfl, H.out.drewN n, Kp.below (drewN_below (Below.refl _ _) n)⟩
  · have hi := hi hR
    rw [hR] at C
    rw [if_pos rfl]
    clear hR
    go_enter Tryz.func31, Tryz.ntmps31
    go_wp2_with fail
    refine C.out.mono ?_
    rintro e w' ⟨rfl, n, rfl⟩
    go_wp2_with fail
    go_ret
    exact ⟨rfl, (H.out.drewN n).step hi, (Kp.below (drewN_below (Below.refl _ _) n)).trans (Kp.set _ _ _ _)⟩
set_option maxHeartbeats 4000000 in
theorem markC (r : Int) (w : World) : Calls Tryz.prog 75 #[.int .i32 r] w fun e w' => e = .returned (.bool (markB r)) ∧ w' = w := by
  have key : ∀ b : Bool, markB r = b → Calls Tryz.prog 75 #[.int .i32 r] w fun e w' => e = .returned (.bool b) ∧ w' = w := by
    intro b hb
    have HB := Lib.hid hb
    clear hb
    go_enter Tryz.func75, Tryz.ntmps75
    go_wp2_with fail
    all_goals (go_ret; refine ⟨congrArg _ ?_, rfl⟩; rw [← HB.out]; show Value.bool _ = Value.bool _; congr 1)
    all_goals (rw [Bool.eq_iff_iff]; simp [markB]; try omega)
  exact key _ rfl
set_option maxHeartbeats 4000000 in
theorem singleC (r : Int) (w : World) : Calls Tryz.prog 81 #[.int .i32 r] w fun e w' => ∃ v, e = .returned v ∧ OwnR w.heap.size w' v (singleF r) ∧ Below w.heap.size w w' := by
  go_enter Tryz.func81, Tryz.ntmps81
  go_wp2_with fail
  refine (makeC (some ⟨w.heap.size, 0, none⟩) [(r, r)] 1 _ (Rd.built [(r, r)] 1 rfl rfl (by omega)) (by simp)).mono ?_
  rintro e w' ⟨v, rfl, o, b⟩
  go_wp2_with fail
  go_ret
  exact ⟨_, rfl, o.mono (by simp), ((Below.refl w.heap.size w).alloc (Nat.le_refl _) _).trans (b.mono (by simp))⟩
end Go.Proofs.YtooockbfagkknaaGreatDoor.syn
