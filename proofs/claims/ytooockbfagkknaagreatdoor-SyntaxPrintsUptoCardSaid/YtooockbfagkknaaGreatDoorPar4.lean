/- item, walked. -/
import Derived.Test.YtooockbfagkknaaGreatDoorPar3
import Derived.StillTailTactics
namespace Go.Proofs.YtooockbfagkknaaGreatDoor.syn
open Go.RowKit Go.Proofs.YtooockbfagkknaaGreatDoor.sl Go.Proofs.YtooockbfagkknaaGreatDoor.cls
variable {c : Cx} {w : World} {s : Ps}
/-- Ranges that are told. -/
def RlPost (c : Cx) (w : World) (r : Ps × List Rg) (e : Ending) (w' : World) : Prop :=
  ∃ v, e = .returned v ∧ Pz c w' r.1 ∧ Kp c.P w w' ∧ OwnR w.heap.size w' v r.2
theorem own_first {B : Nat} {w : World} {v : Value} {l : List Rg} (h : OwnR B w v l) (hne : l ≠ []) : ∃ g cap, v = .slice (some ⟨g, 0, none⟩) l.length cap ∧ 0 < l.length ∧ w.cell? ⟨g, 0, none⟩ = some (.int .i32 (lo0 l)) := by
  obtain ⟨g, cap, rfl, _, _, _, _⟩ := h.form hne
  rcases l with _ | ⟨x, l⟩
  · exact absurd rfl hne
  · have := (h.cellAt rfl er_len (i := 0) (t := 0) (x := x) (u := .int .i32 x.1) rfl (by omega) rfl).1
    exact ⟨g, cap, rfl, by simp, by simpa [lo0] using this⟩
theorem own_first' {B : Nat} {w : World} {g n cap : Nat} {l : List Rg} (h : OwnR B w (.slice (some ⟨g, 0, none⟩) n cap) l) (hne : l ≠ []) : w.cell? ⟨g, 0, none⟩ = some (.int .i32 (lo0 l)) := by
  obtain ⟨g', cap', e, _, hc⟩ := own_first h hne
  simp only [Value.slice.injEq, Option.some.injEq, Addr.mk.injEq, and_true] at e
  obtain ⟨rfl, _, _⟩ := e
  exact hc
theorem sign1_one {G : List Gt} (t : Ps) (frm : Nat) (r : Int) (h : (sign1 G t frm r).2.2 = true) : (sign1 G t frm r).2.1 ≠ [] := by
  unfold sign1 at h ⊢
  repeat' split at h
  all_goals first | (cases h) | skip
  · rw [if_pos (by assumption)]; exact single_ne (by decide) (by decide)
  · rename_i h1 h2; rw [if_neg h1, if_pos h2]; exact single_ne (by decide) (by decide)
  · rename_i h1 h2 h3; rw [if_neg h1, if_neg h2, if_pos h3]; exact single_ne (by decide) (by decide)
  · rename_i h1 h2 h3 h4 h5 h6 h7
    rw [if_neg h1, if_neg h2, if_neg h3, if_neg h4, if_neg h5, if_neg h6, if_pos h7]
    have := mark_valid h7
    exact single_ne this.1 this.2
theorem signF_one {G : List Gt} {t : Ps} (h : (signF G t).2.2 = true) : (signF G t).2.1 ≠ [] := by
  by_cases hn : G.length ≤ t.next.i
  · rw [signF_end hn] at h; cases h
  · cases hb : badB G t.next.i
    · rw [signF_go hn hb] at h ⊢
      exact sign1_one _ _ _ h
    · rw [signF_bad hn hb] at h; cases h
theorem partF_one {G : List Gt} {t : Ps} (h : (partF G t).2.2 = true) : (partF G t).2.1 ≠ [] := by
  cases hb : badB G t.i
  · rw [partF_go hb] at h ⊢
    by_cases h1 : runeAt G t.i = 92
    · rw [if_pos h1] at h ⊢; exact signF_one h
    · rw [if_neg h1] at h ⊢
      by_cases h2 : runeAt G t.i = 91 ∨ runeAt G t.i = 93 ∨ runeAt G t.i = 45
      · rw [if_pos h2] at h; cases h
      · rw [if_neg h2]; simp
  · rw [partF_bad hb] at h; cases h
theorem rlPost_nil {w2 : World} {t : Ps} (P : Pz c w2 t) (K : Kp c.P w w2) : RlPost c w (t, []) (.returned (.slice none 0 0)) w2 := ⟨_, rfl, P, K, Own.nil _ _ _ _ _⟩
theorem itemF_err {G : List Gt} (h : (partF G s).1.err ≠ 0) : itemF G s = ((partF G s).1, []) := by simp only [itemF, if_pos h]
theorem itemF_nil {G : List Gt} (h : (partF G s).1.err = 0) (hn : (partF G s).2.1 = []) : itemF G s = ((partF G s).1.wrong G s.i 4, []) := by
  simp only [itemF, if_pos hn]
  rw [if_neg (by simp [h])]
theorem itemF_go {G : List Gt} (h : (partF G s).1.err = 0) (hn : (partF G s).2.1 ≠ []) : itemF G s = if isR G (partF G s).1 45 = true then item2 G (partF G s).2.1 (partF G s).2.2 s.i (partF G s).1.next else ((partF G s).1, (partF G s).2.1) := by
  simp only [itemF, if_neg hn]
  rw [if_neg (by simp [h])]
theorem item2_out {G : List Gt} {l : List Rg} {o : Bool} {f : Nat} (h : s.err = 0) (hn : ¬ s.i < G.length) : item2 G l o f s = (s.wrong G f 4, []) := by
  simp [item2, hn, h, wrong_err (G := G) s f (e := 4) (by decide)]
theorem item2_err {G : List Gt} {l : List Rg} {o : Bool} {f : Nat} (hn : s.i < G.length) (h : (partF G s).1.err ≠ 0) : item2 G l o f s = ((partF G s).1, []) := by
  simp [item2, hn, h]
theorem item2_wrong {G : List Gt} {l : List Rg} {o : Bool} {f : Nat} (hn : s.i < G.length) (h : (partF G s).1.err = 0) (hc : o = false ∨ (partF G s).2.2 = false ∨ lo0 (partF G s).2.1 < lo0 l) : item2 G l o f s = ((partF G s).1.wrong G f 4, []) := by
  simp [item2, hn, h, hc, wrong_err (G := G) (partF G s).1 f (e := 4) (by decide)]
theorem item2_ok {G : List Gt} {l : List Rg} {o : Bool} {f : Nat} (hn : s.i < G.length) (h : (partF G s).1.err = 0) (hc : ¬ (o = false ∨ (partF G s).2.2 = false ∨ lo0 (partF G s).2.1 < lo0 l)) : item2 G l o f s = ((partF G s).1, [(lo0 l, lo0 (partF G s).2.1)]) := by
  simp [item2, hn, h, hc]
set_option maxHeartbeats 8000000 in
set_option maxRecDepth 100000 in
theorem itemC (h : Pz c w s) (hi : s.i < c.G.length) : Calls Tryz.prog 96 #[.pointer (some ⟨c.P, 0, none⟩)] w (RlPost c w (itemF c.G s)) := by
  have c2 := h.c2
  have hln := h.len
  have hPw := h.lt
  have H := Lib.hid h
  clear h
  have key : ∀ r, itemF c.G s = r → Calls Tryz.prog 96 #[.pointer (some ⟨c.P, 0, none⟩)] w (RlPost c w r) := by
    intro r hr
    have HR := Lib.hid hr
    clear hr
    have AE := Lib.hid (And.intro (itemF_err (G := c.G) (s := s)) (And.intro (itemF_nil (G := c.G) (s := s)) (itemF_go (G := c.G) (s := s))))
    go_enter Tryz.func96, Tryz.ntmps96
    go_wp2_with fail
    refine (partC H.out hi).mono ?_
    rintro e w1 ⟨v, rfl, p1, k1, o1, n1⟩
    generalize partF c.G s = a at p1 o1 n1 AE
    obtain ⟨t, l, one⟩ := a
    simp only at p1 o1 n1 AE ⊢
    have P1 := Lib.hid p1
    have K1 := Lib.hid k1
    have O1 := Lib.hid o1
    have N1 := Lib.hid n1
    clear p1 k1 o1 n1 c2
    have c5 := P1.out.c5
    by_cases he : t.err = 0
    · by_cases hl : l = []
      · have e1 := AE.out.2.1 he hl
        have hv := N1.out hl
        subst hv
        have hq : ∀ w : World, (binOp .eql 33 (.slice none 0 0) (.slice none 0 0)).run Tryz.prog w = .ok (.bool true) w := fun _ => rfl
        rw [HR.out] at e1
        have E1 := Lib.hid e1
        rw [he] at c5
        have HE := Lib.hid he
        clear e1 he AE
        go_wp2_with fail
        refine (wrongC P1.out hi 4).mono ?_
        rintro e w2 ⟨rfl, P2, K2⟩
        go_wp2_with fail
        go_ret
        rw [E1.out]
        exact rlPost_nil P2 (K1.out.trans K2)
      · have e1 := AE.out.2.2 he hl
        rw [HR.out] at e1
        have E1 := Lib.hid e1
        rw [he] at c5
        have HE := Lib.hid he
        obtain ⟨g, cap, rfl, hpos, ca⟩ := own_first O1.out hl
        have hq : ∀ w : World, (binOp .eql 33 (.slice (some ⟨g, 0, none⟩) l.length cap) (.slice none 0 0)).run Tryz.prog w = .ok (.bool false) w := fun _ => rfl
        clear e1 he AE ca
        have SK := Lib.hid (skipC P1.out 45)
        cases hR : isR c.G t 45
        · rw [hR] at SK E1
          rw [if_neg (by decide)] at E1
          have hs : skipS c.G t 45 = t := by simp [skipS, hR]
          rw [hs] at SK
          clear hR hs
          go_wp2_with fail
          refine SK.out.mono ?_
          rintro e w2 ⟨rfl, P2, K2⟩
          go_wp2_with fail
          go_ret
          rw [E1.out]
          exact ⟨_, rfl, P2, K1.out.trans K2, Own.kp O1.out K2 hPw⟩
        · rw [hR] at SK E1
          rw [if_pos rfl] at E1
          have hs : skipS c.G t 45 = t.next := by simp [skipS, hR]
          rw [hs] at SK
          clear hR hs
          go_wp2_with fail
          refine SK.out.mono ?_
          rintro e w2 ⟨rfl, p2, k2⟩
          have P2 := Lib.hid p2
          have K2 := Lib.hid (K1.out.trans k2)
          have O2 := Lib.hid (Own.kp O1.out k2 hPw)
          have HE2 := Lib.hid (show t.next.err = 0 from HE.out)
          clear p2 k2 P1 K1 O1 c5 SK HE
          generalize t.next = t2 at P2 E1 HE2
          have c0 := P2.out.c0
          have c2 := P2.out.c2
          have c5 := P2.out.c5
          rw [HE2.out] at c5
          by_cases hn : t2.i < c.G.length
          · have i1 : (t2.i : Int) < (c.G.length : Int) := by omega
            have IE := Lib.hid (And.intro (item2_err (G := c.G) (s := t2) (l := l) (o := one) (f := s.i) hn) (And.intro (item2_wrong (G := c.G) (s := t2) (l := l) (o := one) (f := s.i) hn) (item2_ok (G := c.G) (s := t2) (l := l) (o := one) (f := s.i) hn)))
            have PO := Lib.hid (partF_one (G := c.G) (t := t2))
            go_wp2_with fail
            go_quiet (fail)
            go_wp2_with fail
            refine (partC (P2.out.drewN nq) hn).mono ?_
            rintro e w3 ⟨v3, rfl, p3, k3, o3, -⟩
            generalize partF c.G t2 = b at p3 o3 IE PO
            obtain ⟨t3, l3, two⟩ := b
            simp only at p3 o3 IE PO ⊢
            have k3' := (Kp.below (P := c.P) (drewN_below (Below.refl w2.heap.size w2) nq)).trans k3
            have P3 := Lib.hid p3
            have K3 := Lib.hid (K2.out.trans k3')
            have O3 := Lib.hid (o3.mono (show w.heap.size ≤ (w2.drewN nq).heap.size from K2.out.size))
            have O4 := Lib.hid (Own.kp O2.out k3' hPw)
            clear p3 k3 o3 k3' c0 c2 c5 P2 K2 O2
            have c5 := P3.out.c5
            by_cases hbe : t3.err = 0
            · have W := Lib.hid (IE.out.2.1 hbe)
              have OK := Lib.hid (IE.out.2.2 hbe)
              rw [hbe] at c5
              have HB := Lib.hid hbe
              clear hbe IE
              have wr : ∀ (hc : one = false ∨ two = false ∨ lo0 l3 < lo0 l) (w4 : World), Pz c w4 (t3.wrong c.G s.i 4) → Kp c.P w3 w4 → RlPost c w r (.returned (.slice none 0 0)) w4 := fun hc w4 P4 K4 => by
                rw [E1.out, W.out hc]
                exact rlPost_nil P4 (K3.out.trans K4)
              have WR := Lib.hid wr
              clear wr
              cases one
              · go_wp2_with fail
                go_quiet (fail)
                go_wp2_with fail
                refine (wrongC (P3.out.drewN _) hi 4).mono ?_
                rintro e w4 ⟨rfl, p4, k4⟩
                have c5' := p4.c5
                have hne := wrong_err (G := c.G) t3 s.i (e := 4) (by decide)
                have hne' : ((t3.wrong c.G s.i 4).err == 0) = false := by simpa using hne
                have q := WR.out (by simp) w4 p4 ((Kp.below (drewN_below (Below.refl _ _) _)).trans k4)
                have Q4 := Lib.hid q
                clear q hne
                generalize (t3.wrong c.G s.i 4).err = ee at c5' hne'
                go_wp2_with fail
                go_ret
                exact Q4.out
              · cases two
                · go_wp2_with fail
                  go_quiet (fail)
                  go_wp2_with fail
                  refine (wrongC (P3.out.drewN _) hi 4).mono ?_
                  rintro e w4 ⟨rfl, p4, k4⟩
                  have c5' := p4.c5
                  have hne := wrong_err (G := c.G) t3 s.i (e := 4) (by decide)
                  have hne' : ((t3.wrong c.G s.i 4).err == 0) = false := by simpa using hne
                  have q := WR.out (by simp) w4 p4 ((Kp.below (drewN_below (Below.refl _ _) _)).trans k4)
                  have Q4 := Lib.hid q
                  clear q hne
                  generalize (t3.wrong c.G s.i 4).err = ee at c5' hne'
                  go_wp2_with fail
                  go_ret
                  exact Q4.out
                · have hl3 := PO.out rfl
                  obtain ⟨g3, cap3, rfl, hpos3, cb⟩ := own_first O3.out hl3
                  have ca := own_first' O4.out hl
                  by_cases hlt : lo0 l3 < lo0 l
                  · have Q0 := Lib.hid (WR.out (.inr (.inr hlt)))
                    generalize lo0 l = xa at ca hlt
                    generalize lo0 l3 = xb at cb hlt
                    go_wp2_with fail
                    go_quiet (fail)
                    go_wp2_with fail
                    refine (wrongC (P3.out.drewN _) hi 4).mono ?_
                    rintro e w4 ⟨rfl, p4, k4⟩
                    have c5' := p4.c5
                    have hne := wrong_err (G := c.G) t3 s.i (e := 4) (by decide)
                    have hne' : ((t3.wrong c.G s.i 4).err == 0) = false := by simpa using hne
                    have q := Q0.out w4 p4 ((Kp.below (drewN_below (Below.refl _ _) _)).trans k4)
                    have Q4 := Lib.hid q
                    clear q hne
                    generalize (t3.wrong c.G s.i 4).err = ee at c5' hne'
                    go_wp2_with fail
                    go_ret
                    exact Q4.out
                  · have e2 := OK.out (by simp [hlt])
                    rw [← E1.out] at e2
                    have E2 := Lib.hid e2
                    clear e2 E1
                    generalize lo0 l = xa at ca hlt E2
                    generalize lo0 l3 = xb at cb hlt E2
                    go_wp2_with fail
                    go_quiet (fail)
                    have P5 := Lib.hid (P3.out.drewN nq)
                    have K5 := Lib.hid (K3.out.trans (Kp.below (drewN_below (Below.refl w3.heap.size w3) nq)))
                    have ca5 : (w3.drewN nq).cell? ⟨g, 0, none⟩ = some (.int .i32 xa) := ca
                    have cb5 : (w3.drewN nq).cell? ⟨g3, 0, none⟩ = some (.int .i32 xb) := cb
                    clear ca cb c5
                    generalize w3.drewN nq = w5 at P5 K5 ca5 cb5 ⊢
                    have c5 := P5.out.c5
                    rw [HB.out] at c5
                    go_wp2_with fail
                    go_still_tail 9, (by kernel_rfl)
                    change wpList _ _ _ _ _ w5.drew
                    have P6 := Lib.hid (P5.out.drewN 1)
                    have K6 := Lib.hid (K5.out.trans (Kp.below (drewN_below (Below.refl w5.heap.size w5) 1)))
                    change Hid (Pz c w5.drew t3) at P6
                    change Hid (Kp c.P w w5.drew) at K6
                    generalize w5.drew = w6 at P6 K6 ⊢
                    go_wp2_with fail
                    go_ret
                    rw [E2.out]
                    have b7 := (Below.refl w6.heap.size w6).alloc (Nat.le_refl _) (.cells #[.int .i32 xa, .int .i32 xb] 58)
                    have o7 : OwnR w.heap.size (w6.alloc (.cells #[.int .i32 xa, .int .i32 xb] 58)) (.slice (some ⟨w6.heap.size, 0, none⟩) 1 1) [(xa, xb)] := own_lit w6 _ [(xa, xb)] 1 rfl er_len rfl K6.out.size (by omega)
                    exact ⟨_, rfl, P6.out.keep b7, K6.out.trans (Kp.below b7), o7⟩
            · have e2 := IE.out.1 hbe
              rw [← E1.out] at e2
              have E2 := Lib.hid e2
              have hbe' : (t3.err == 0) = false := by simpa using hbe
              clear e2 IE hbe
              generalize t3.err = ee at c5 hbe'
              go_wp2_with fail
              go_quiet (fail)
              go_wp2_with fail
              go_ret
              rw [E2.out]
              exact rlPost_nil (P3.out.drewN _) (K3.out.trans (Kp.below (drewN_below (Below.refl _ _) _)))
          · have i1 : ¬ (t2.i : Int) < (c.G.length : Int) := by omega
            have e2 := item2_out (G := c.G) (s := t2) (l := l) (o := one) (f := s.i) HE2.out hn
            rw [← E1.out] at e2
            have E2 := Lib.hid e2
            clear e2
            have wr : ∀ (w4 : World), Pz c w4 (t2.wrong c.G s.i 4) → Kp c.P w2 w4 → RlPost c w r (.returned (.slice none 0 0)) w4 := fun w4 P4 K4 => by
              rw [E2.out]
              exact rlPost_nil P4 (K2.out.trans K4)
            have WR := Lib.hid wr
            clear wr
            go_wp2_with fail
            go_quiet (fail)
            have P3 := Lib.hid (P2.out.drewN nq)
            have K3 := Lib.hid (Kp.below (P := c.P) (drewN_below (Below.refl w2.heap.size w2) nq))
            clear c0 c2 c5
            generalize w2.drewN nq = w3 at P3 K3 ⊢
            have c5 := P3.out.c5
            rw [HE2.out] at c5
            cases one
            all_goals
              go_wp2_with fail
              go_quiet (fail)
              go_wp2_with fail
              refine (wrongC (P3.out.drewN _) hi 4).mono ?_
              rintro e w4 ⟨rfl, p4, k4⟩
              have c5' := p4.c5
              have hne := wrong_err (G := c.G) t2 s.i (e := 4) (by decide)
              have hne' : ((t2.wrong c.G s.i 4).err == 0) = false := by simpa using hne
              have q := WR.out w4 p4 (K3.out.trans ((Kp.below (drewN_below (Below.refl _ _) _)).trans k4))
              have Q4 := Lib.hid q
              clear q hne
              generalize (t2.wrong c.G s.i 4).err = ee at c5' hne'
              go_wp2_with fail
              go_ret
              exact Q4.out
    · have e1 := AE.out.1 he
      rw [HR.out] at e1
      have E1 := Lib.hid e1
      have he' : (t.err == 0) = false := by simpa using he
      clear e1 he AE
      generalize t.err = ee at c5 he'
      go_wp2_with fail
      go_ret
      rw [E1.out]
      exact rlPost_nil P1.out K1.out
  exact key _ rfl
end Go.Proofs.YtooockbfagkknaaGreatDoor.syn
