/- digits, walked. -/
import Derived.Test.YtooockbfagkknaaGreatDoorPar6
namespace Go.Proofs.YtooockbfagkknaaGreatDoor.syn
open Go.RowKit Go.Proofs.YtooockbfagkknaaGreatDoor.sl Go.Proofs.YtooockbfagkknaaGreatDoor.cls
variable {c : Cx} {w : World} {s : Ps}
theorem digGo_dig {G : List Gt} : ∀ (n i : Nat) (b : List UInt8), DigB b → DigB (digGo G n i b).2
  | 0, i, b, h => h
  | n + 1, i, b, h => by
    unfold digGo
    split
    · rename_i hc
      refine digGo_dig n (i + 1) _ ?_
      split
      · intro x hx
        rcases List.mem_append.1 hx with hx | hx
        · exact h x hx
        · obtain rfl : x = UInt8.ofNat (runeAt G i).toNat := by simpa using hx
          have : (runeAt G i).toNat < 256 := by omega
          have e : (UInt8.ofNat (runeAt G i).toNat).toNat = (runeAt G i).toNat := by simp [UInt8.toNat_ofNat']; omega
          rw [e]
          omega
      · exact h
    · exact h
theorem digGo_stop {G : List Gt} {n i : Nat} {b : List UInt8} (h : ¬ (i < G.length ∧ 48 ≤ runeAt G i ∧ runeAt G i ≤ 57)) : digGo G n i b = (i, b) := by
  rcases n with _ | n
  · rfl
  · rw [digGo, if_neg h]
theorem digGo_go {G : List Gt} {i : Nat} {b : List UInt8} (h : i < G.length ∧ 48 ≤ runeAt G i ∧ runeAt G i ≤ 57) : digGo G (G.length - i) i b = digGo G (G.length - (i + 1)) (i + 1) (if 48 < runeAt G i ∨ b ≠ [] then b ++ [UInt8.ofNat (runeAt G i).toNat] else b) := by
  obtain ⟨m, hm⟩ : ∃ m, G.length - i = m + 1 := ⟨G.length - i - 1, by omega⟩
  rw [hm, digGo, if_pos h, show G.length - (i + 1) = m by omega]
theorem isB_other {N b : Nat} {bs : List Value} {w w' : World} (h : Lib.IsBuilder BT 5 N b bs w) (hk : ∀ k, N ≤ k → w'.heap[k]? = w.heap[k]?) : Lib.IsBuilder BT 5 N b bs w' := by
  have key : ∀ p, Lib.BuilderAt BT 5 N b p bs w → Lib.BuilderAt BT 5 N b p bs w' := by
    rintro p ⟨h1, v, h2, h3, h4⟩
    refine ⟨h1, v, (hk b h1).trans h2, ⟨h3.1, ?_⟩, h4⟩
    rcases h3.2 with h5 | ⟨g, cap, cur, rfl, hB, hg, h6⟩
    · exact .inl h5
    · exact .inr ⟨g, cap, cur, rfl, hB, (hk g hB).trans hg, h6⟩
  rcases h with h | h
  · exact .inl (key _ h)
  · exact .inr (key _ h)
theorem below_drewN {B n : Nat} {w w' : World} (h : Below B (w.drewN n) w') : Below B w w' := ⟨h.os, h.tape, h.output, h.size, h.block⟩
set_option maxHeartbeats 8000000 in
set_option maxRecDepth 100000 in
theorem digitsC (h : Pz c w s) : Calls Tryz.prog 82 #[.pointer (some ⟨c.P, 0, none⟩)] w fun e w' => e = .returned (.tuple #[str (digB c.G s), .bool (digK c.G s)]) ∧ Pz c w' (digS c.G s) ∧ Kp c.P w w' := by
  have c2 := h.c2
  have hln := h.len
  have hle := h.le
  have hPw := h.lt
  have hHw := h.hH
  have H := Lib.hid h
  clear h
  suffices key : ∀ D, digGo c.G (c.G.length - s.i) s.i [] = D → Calls Tryz.prog 82 #[.pointer (some ⟨c.P, 0, none⟩)] w fun e w' => e = .returned (.tuple #[str D.2, .bool (decide (s.i < D.1))]) ∧ Pz c w' { s with i := D.1 } ∧ Kp c.P w w' from key _ rfl
  intro D hD
  have HD := Lib.hid hD
  clear hD
  go_enter Tryz.func82, Tryz.ntmps82
  go_wp2_with fail
  have IB0 := Lib.hid (Lib.fresh_isBuilder BT 5 w)
  have B0 := Lib.hid ((Below.refl w.heap.size w).alloc (Nat.le_refl _) (.cells #[.pointer none, .slice none 0 0] BT))
  go_loopg [] (c.G.length - s.i) (fun g wr => ∃ (i : Nat) (l : List UInt8), g = c.G.length - i ∧ Pz c wr { s with i := i } ∧ Kp c.P w wr ∧ Lib.IsBuilder BT 5 w.heap.size w.heap.size (Lib.byteCells l) wr ∧ digGo c.G (c.G.length - i) i l = D ∧ l.length ≤ i)
  case atStart => exact ⟨s.i, [], rfl, H.out.keep B0.out, Kp.below B0.out, IB0.out, HD.out, by simp⟩
  case round =>
    clear IB0 B0 HD c2
    obtain ⟨i, l, rfl, p, k, ib, hgo, hl⟩ := hrel
    have P := Lib.hid p
    have K := Lib.hid k
    have IB := Lib.hid ib
    have GO := Lib.hid hgo
    have c0 := p.c0
    have c2 := p.c2
    have hile := p.le
    simp only at c2 hile
    have hsz := k.size
    clear p k ib hgo
    by_cases hi : i < c.G.length
    · have i1 : (i : Int) < (c.G.length : Int) := by omega
      obtain ⟨b, off, hga, hbP, hbl, r0, -⟩ := P.out.rune hi
      rw [hga] at c0
      have HGA := Lib.hid hga
      clear hga
      by_cases hx1 : 48 ≤ runeAt c.G i
      · by_cases hx2 : runeAt c.G i ≤ 57
        · have hg := digGo_go (G := c.G) (b := l) ⟨hi, hx1, hx2⟩
          rw [GO.out] at hg
          have HG := Lib.hid hg
          obtain ⟨y, hy⟩ : ∃ y : UInt8, runeAt c.G i = (y.toNat : Int) := ⟨UInt8.ofNat (runeAt c.G i).toNat, by simp [UInt8.toNat_ofNat']; omega⟩
          rw [hy] at r0 hx1 hx2 HG
          clear hg hy GO
          go_wp2_with fail
          go_quiet (fail)
          have P4 := Lib.hid (P.out.drewN nq)
          have K4 := Lib.hid (K.out.trans (Kp.below (drewN_below (Below.refl wr.heap.size wr) nq)))
          have IB4 : Hid (Lib.IsBuilder BT 5 w.heap.size w.heap.size (Lib.byteCells l) (wr.drewN nq)) := Lib.hid (isB_other IB.out fun _ _ => rfl)
          have r4 : (wr.drewN nq).cell? ⟨b, off + i * 2, none⟩ = some (.int .i32 y.toNat) := r0
          clear P K IB c0 c2 r0
          generalize wr.drewN nq = w4 at P4 K4 IB4 r4 ⊢
          have c0 := P4.out.c0
          have c2 := P4.out.c2
          have f2 := P4.out.fz 2
          rw [HGA.out] at c0
          simp only at c2
          have hs4 := K4.out.size
          have hyy : UInt8.ofNat (y.toNat : Int).toNat = y := by simp
          rw [hyy] at HG
          generalize hl2 : (if 48 < (y.toNat : Int) ∨ l ≠ [] then l ++ [y] else l) = l2 at HG
          have hl2n : l2.length ≤ l.length + 1 := by rw [← hl2]; split <;> simp
          have HL2 := Lib.hid hl2
          clear hyy hl2
          have hl2 := HL2.out
          by_cases h48 : 48 < (y.toNat : Int)
          · rw [if_pos (.inl h48)] at hl2
            replace hl2 := hl2.symm
            have d1 : decide (48 < (y.toNat : Int)) = true := by simpa using h48
            have d1n : 48 < y.toNat := by omega
            go_wp2_with fail
            go_quiet (fail)
            have P5 := Lib.hid (P4.out.drewN nq)
            have K5 := Lib.hid (K4.out.trans (Kp.below (drewN_below (Below.refl w4.heap.size w4) nq)))
            have IB5 : Hid (Lib.IsBuilder BT 5 w.heap.size w.heap.size (Lib.byteCells l) (w4.drewN nq)) := Lib.hid (isB_other IB4.out fun _ _ => rfl)
            have r5 : (w4.drewN nq).cell? ⟨b, off + i * 2, none⟩ = some (.int .i32 y.toNat) := r4
            clear P4 K4 IB4 c0 c2 r4 f2
            generalize w4.drewN nq = w5 at P5 K5 IB5 r5 ⊢
            have c0 := P5.out.c0
            have c2 := P5.out.c2
            rw [HGA.out] at c0
            simp only at c2
            have hs5 := K5.out.size
            have hl5 : l.length ≤ 1000000 := by omega
            go_wp2_with fail
            go_still_tail 12, (by kernel_rfl)
            change wpList _ _ _ _ _ w5.drew
            have P6 := Lib.hid (P5.out.drewN 1)
            have K6 := Lib.hid (K5.out.trans (Kp.below (drewN_below (Below.refl w5.heap.size w5) 1)))
            have IB6 : Hid (Lib.IsBuilder BT 5 w.heap.size w.heap.size (Lib.byteCells l) w5.drew) := Lib.hid (isB_other IB5.out fun _ _ => rfl)
            change Hid (Pz c w5.drew _) at P6
            change Hid (Kp c.P w w5.drew) at K6
            have hs6 : w.heap.size ≤ w5.drew.heap.size := hs5
            generalize w5.drew = w6 at P6 K6 IB6 hs6 ⊢
            clear P5 K5 IB5 c0 c2 r5
            go_wp2_with (go_at_call 98; refine (writeC w.heap.size w.heap.size l y w6 IB6.out hl5 hs6).mono ?_; rintro e w7 ⟨rfl, ib7, b7⟩; have P9 := Lib.hid (P6.out.keepB b7 hHw); have K9 := Lib.hid (K6.out.thenB b7 (Nat.le_refl _)); have IB9 : Hid (Lib.IsBuilder BT 5 w.heap.size w.heap.size (Lib.byteCells l2) w7) := Lib.hid (by rw [hl2]; exact ib7); have c2 : w7.cell? ⟨c.P, 2, none⟩ = some (.int .i64 i) := P9.out.c2; have f2 := P9.out.fz 2; clear ib7 b7 P6 K6 IB6)
            go_roundg (c.G.length - (i + 1))
            case measure => omega
            case rel => exact ⟨i + 1, l2, rfl, P9.out.set_i (j := i + 1) hi, K9.out.trans (Kp.set _ _ _ _), isB_other IB9.out fun k hk => Below.heap_setCell _ _ _ _ (by simp; omega), HG.out.symm, by omega⟩
          · have h0 : True := trivial
            have d1 : decide (48 < (y.toNat : Int)) = false := by simp; omega
            have d1n : ¬ 48 < y.toNat := by omega
            have LN := Lib.hid (Tryz.Builder_Len w.heap.size w.heap.size (Lib.byteCells l))
            by_cases hln0 : l = []
            · rw [if_neg (by simp [hln0]; omega)] at hl2
              replace hl2 := hl2.symm
              have e0 : (Lib.byteCells l).length = 0 := by rw [hln0]; rfl
              rw [e0] at LN
              go_wp2_with fail
              go_quiet ((go_at_call 97; exact Calls.quiet_of_same (LN.out _ (isB_other IB4.out fun _ _ => rfl))))
              have P9 := Lib.hid (P4.out.drewN nq)
              have K9 := Lib.hid (K4.out.trans (Kp.below (drewN_below (Below.refl w4.heap.size w4) nq)))
              have IB9 : Hid (Lib.IsBuilder BT 5 w.heap.size w.heap.size (Lib.byteCells l2) (w4.drewN nq)) := Lib.hid (by rw [hl2]; exact isB_other IB4.out fun _ _ => rfl)
              clear P4 K4 IB4 c0 c2 r4 f2
              generalize w4.drewN nq = w9 at P9 K9 IB9 ⊢
              have c2 := P9.out.c2
              have f2 := P9.out.fz 2
              simp only at c2
              go_wp2_with fail
              go_roundg (c.G.length - (i + 1))
              case measure => omega
              case rel => exact ⟨i + 1, l2, rfl, P9.out.set_i (j := i + 1) hi, K9.out.trans (Kp.set _ _ _ _), isB_other IB9.out fun k hk => Below.heap_setCell _ _ _ _ (by simp; omega), HG.out.symm, by omega⟩
            · rw [if_pos (.inr hln0)] at hl2
              replace hl2 := hl2.symm
              have e0 : (Lib.byteCells l).length = l.length := Lib.byteCells_length l
              have hlp : 0 < l.length := List.length_pos_iff.2 hln0
              rw [e0] at LN
              go_wp2_with fail
              go_quiet ((go_at_call 97; exact Calls.quiet_of_same (LN.out _ (isB_other IB4.out fun _ _ => rfl))))
              have P5 := Lib.hid (P4.out.drewN nq)
              have K5 := Lib.hid (K4.out.trans (Kp.below (drewN_below (Below.refl w4.heap.size w4) nq)))
              have IB5 : Hid (Lib.IsBuilder BT 5 w.heap.size w.heap.size (Lib.byteCells l) (w4.drewN nq)) := Lib.hid (isB_other IB4.out fun _ _ => rfl)
              have r5 : (w4.drewN nq).cell? ⟨b, off + i * 2, none⟩ = some (.int .i32 y.toNat) := r4
              clear P4 K4 IB4 c0 c2 r4 f2
              generalize w4.drewN nq = w5 at P5 K5 IB5 r5 ⊢
              have c0 := P5.out.c0
              have c2 := P5.out.c2
              rw [HGA.out] at c0
              simp only at c2
              have hs5 := K5.out.size
              have hl5 : l.length ≤ 1000000 := by omega
              go_wp2_with fail
              go_still_tail 12, (by kernel_rfl)
              change wpList _ _ _ _ _ w5.drew
              have P6 := Lib.hid (P5.out.drewN 1)
              have K6 := Lib.hid (K5.out.trans (Kp.below (drewN_below (Below.refl w5.heap.size w5) 1)))
              have IB6 : Hid (Lib.IsBuilder BT 5 w.heap.size w.heap.size (Lib.byteCells l) w5.drew) := Lib.hid (isB_other IB5.out fun _ _ => rfl)
              change Hid (Pz c w5.drew _) at P6
              change Hid (Kp c.P w w5.drew) at K6
              have hs6 : w.heap.size ≤ w5.drew.heap.size := hs5
              generalize w5.drew = w6 at P6 K6 IB6 hs6 ⊢
              clear P5 K5 IB5 c0 c2 r5
              go_wp2_with (go_at_call 98; refine (writeC w.heap.size w.heap.size l y w6 IB6.out hl5 hs6).mono ?_; rintro e w7 ⟨rfl, ib7, b7⟩; have P9 := Lib.hid (P6.out.keepB b7 hHw); have K9 := Lib.hid (K6.out.thenB b7 (Nat.le_refl _)); have IB9 : Hid (Lib.IsBuilder BT 5 w.heap.size w.heap.size (Lib.byteCells l2) w7) := Lib.hid (by rw [hl2]; exact ib7); have c2 : w7.cell? ⟨c.P, 2, none⟩ = some (.int .i64 i) := P9.out.c2; have f2 := P9.out.fz 2; clear ib7 b7 P6 K6 IB6)
              go_roundg (c.G.length - (i + 1))
              case measure => omega
              case rel => exact ⟨i + 1, l2, rfl, P9.out.set_i (j := i + 1) hi, K9.out.trans (Kp.set _ _ _ _), isB_other IB9.out fun k hk => Below.heap_setCell _ _ _ _ (by simp; omega), HG.out.symm, by omega⟩
        · have hd := digGo_stop (G := c.G) (n := c.G.length - i) (i := i) (b := l) (by omega)
          rw [GO.out] at hd
          have HDD := Lib.hid hd
          clear hd
          go_wp2_with fail
          go_quiet (fail)
          have P4 := Lib.hid (P.out.drewN nq)
          have K4 := Lib.hid (K.out.trans (Kp.below (drewN_below (Below.refl wr.heap.size wr) nq)))
          have IB4 : Hid (Lib.IsBuilder BT 5 w.heap.size w.heap.size (Lib.byteCells l) (wr.drewN nq)) := Lib.hid (isB_other IB.out fun _ _ => rfl)
          clear P K IB c0 c2 r0
          generalize wr.drewN nq = w4 at P4 K4 IB4 ⊢
          have c2 := P4.out.c2
          simp only at c2
          have hs4 := K4.out.size
          go_wp2_with fail
          go_region_held3 (fun w' => w'.cell? ⟨c.P, 2, none⟩ = some (.int .i64 i)) (first | exact c2 | assumption) (first | (go_at_call 99; refine (Tryz.Builder_String_any w.heap.size w.heap.size l w4.drew (isB_other IB4.out fun _ _ => rfl) (show w.heap.size ≤ w4.drew.heap.size from hs4)).mono ?_; rintro e w9 ⟨rfl, b9⟩; have q9 : w9.cell? ⟨c.P, 2, none⟩ = some (.int .i64 i) := (b9.cell (p := ⟨c.P, 2, none⟩) hPw).trans c2))
          all_goals (go_wp2_with fail)
          all_goals go_ret2
          all_goals
            have hD := HDD.out
            subst hD
            refine ⟨?_, P4.out.keepB (below_drewN (n := 1) b9) hHw, K4.out.thenB (below_drewN (n := 1) b9) (Nat.le_refl _)⟩
            rfl
      · have d1 : decide (48 ≤ runeAt c.G i) = false := by simpa using hx1
        have d2 : runeAt c.G i < 48 := by omega
        have hd := digGo_stop (G := c.G) (n := c.G.length - i) (i := i) (b := l) (by omega)
        rw [GO.out] at hd
        have HDD := Lib.hid hd
        clear hd
        go_wp2_with fail
        go_quiet (fail)
        have P4 := Lib.hid (P.out.drewN nq)
        have K4 := Lib.hid (K.out.trans (Kp.below (drewN_below (Below.refl wr.heap.size wr) nq)))
        have IB4 : Hid (Lib.IsBuilder BT 5 w.heap.size w.heap.size (Lib.byteCells l) (wr.drewN nq)) := Lib.hid (isB_other IB.out fun _ _ => rfl)
        clear P K IB c0 c2 r0
        generalize wr.drewN nq = w4 at P4 K4 IB4 ⊢
        have c2 := P4.out.c2
        simp only at c2
        have hs4 := K4.out.size
        go_wp2_with fail
        go_region_held3 (fun w' => w'.cell? ⟨c.P, 2, none⟩ = some (.int .i64 i)) (first | exact c2 | assumption) (first | (go_at_call 99; refine (Tryz.Builder_String_any w.heap.size w.heap.size l w4.drew (isB_other IB4.out fun _ _ => rfl) (show w.heap.size ≤ w4.drew.heap.size from hs4)).mono ?_; rintro e w9 ⟨rfl, b9⟩; have q9 : w9.cell? ⟨c.P, 2, none⟩ = some (.int .i64 i) := (b9.cell (p := ⟨c.P, 2, none⟩) hPw).trans c2))
        all_goals (go_wp2_with fail)
        all_goals go_ret2
        all_goals
          have hD := HDD.out
          subst hD
          refine ⟨?_, P4.out.keepB (below_drewN (n := 1) b9) hHw, K4.out.thenB (below_drewN (n := 1) b9) (Nat.le_refl _)⟩
          rfl
    · have i1 : ¬ (i : Int) < (c.G.length : Int) := by omega
      have hd := digGo_stop (G := c.G) (n := c.G.length - i) (i := i) (b := l) (by omega)
      rw [GO.out] at hd
      have HDD := Lib.hid hd
      clear hd
      go_wp2_with fail
      go_quiet (fail)
      have P4 := Lib.hid (P.out.drewN nq)
      have K4 := Lib.hid (K.out.trans (Kp.below (drewN_below (Below.refl wr.heap.size wr) nq)))
      have IB4 : Hid (Lib.IsBuilder BT 5 w.heap.size w.heap.size (Lib.byteCells l) (wr.drewN nq)) := Lib.hid (isB_other IB.out fun _ _ => rfl)
      clear P K IB c0 c2
      generalize wr.drewN nq = w4 at P4 K4 IB4 ⊢
      have c2 := P4.out.c2
      simp only at c2
      have hs4 := K4.out.size
      go_wp2_with fail
      go_region_held3 (fun w' => w'.cell? ⟨c.P, 2, none⟩ = some (.int .i64 i)) (first | exact c2 | assumption) (first | (go_at_call 99; refine (Tryz.Builder_String_any w.heap.size w.heap.size l w4.drew (isB_other IB4.out fun _ _ => rfl) (show w.heap.size ≤ w4.drew.heap.size from hs4)).mono ?_; rintro e w9 ⟨rfl, b9⟩; have q9 : w9.cell? ⟨c.P, 2, none⟩ = some (.int .i64 i) := (b9.cell (p := ⟨c.P, 2, none⟩) hPw).trans c2))
      all_goals (go_wp2_with fail)
      all_goals go_ret2
      all_goals
        have hD := HDD.out
        subst hD
        refine ⟨?_, P4.out.keepB (below_drewN (n := 1) b9) hHw, K4.out.thenB (below_drewN (n := 1) b9) (Nat.le_refl _)⟩
        rfl
end Go.Proofs.YtooockbfagkknaaGreatDoor.syn
