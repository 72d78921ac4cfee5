/- class, walked. -/
import Derived.Test.YtooockbfagkknaaGreatDoorPar4
namespace Go.Proofs.YtooockbfagkknaaGreatDoor.syn
open Go.RowKit Go.Proofs.YtooockbfagkknaaGreatDoor.sl Go.Proofs.YtooockbfagkknaaGreatDoor.cls
variable {c : Cx} {w : World} {s : Ps}
/-- Nodes that are told. -/
def NdPost (c : Cx) (w : World) (r : Ps × List Nd) (e : Ending) (w' : World) : Prop :=
  ∃ v, e = .returned v ∧ Pz c w' r.1 ∧ Kp c.P w w' ∧ Nds w.heap.size w' v r.2
theorem ndPost_nil {w2 : World} {t : Ps} (P : Pz c w2 t) (K : Kp c.P w w2) : NdPost c w (t, []) (.returned (.slice none 0 0)) w2 := ⟨_, rfl, P, K, Nds.nil _ _⟩
theorem item2_errnil {G : List Gt} {l : List Rg} {o : Bool} {f : Nat} {t : Ps} (h0 : t.err = 0) (h : (item2 G l o f t).1.err ≠ 0) : (item2 G l o f t).2 = [] := by
  by_cases hn : t.i < G.length
  · by_cases he : (partF G t).1.err = 0
    · by_cases hc : o = false ∨ (partF G t).2.2 = false ∨ lo0 (partF G t).2.1 < lo0 l
      · rw [item2_wrong hn he hc]
      · rw [item2_ok hn he hc] at h
        exact absurd he h
    · rw [item2_err hn he]
  · rw [item2_out h0 hn]
theorem itemF_errnil {G : List Gt} {t : Ps} (h : (itemF G t).1.err ≠ 0) : (itemF G t).2 = [] := by
  by_cases h1 : (partF G t).1.err = 0
  · by_cases h2 : (partF G t).2.1 = []
    · rw [itemF_nil h1 h2]
    · rw [itemF_go h1 h2] at h ⊢
      by_cases h3 : isR G (partF G t).1 45 = true
      · rw [if_pos h3] at h ⊢
        exact item2_errnil h1 h
      · rw [if_neg h3] at h
        exact absurd h1 h
  · rw [itemF_err h1]
/-- The class, behind its loop. -/
def clsEnd (G : List Gt) (frm : Nat) (neg : Bool) (C : Ps × List Rg × Bool × Bool) : Ps × List Nd :=
  if C.2.2.2 then (C.1, [])
  else if C.1.err ≠ 0 then (C.1, [])
  else if C.2.2.1 then (C.1.wrong G frm 4, [])
  else (C.1.next, [ndC (if neg then notF (makeF C.2.1) else makeF C.2.1)])
theorem clsF_end (G : List Gt) (t : Ps) : clsF G t = clsEnd G t.i (isR G t.next 94) (clsGo G t.i (G.length + 2 - (skipS G t.next 94).i) (skipS G t.next 94) [] true) := rfl
theorem clsEnd_out {G : List Gt} {frm : Nat} {neg : Bool} {t : Ps} {l : List Rg} {b : Bool} : clsEnd G frm neg (t, l, b, true) = (t, []) := rfl
theorem clsEnd_err {G : List Gt} {frm : Nat} {neg : Bool} {t : Ps} {l : List Rg} {b : Bool} (h : t.err ≠ 0) : clsEnd G frm neg (t, l, b, false) = (t, []) := by simp [clsEnd, h]
theorem clsEnd_none {G : List Gt} {frm : Nat} {neg : Bool} {t : Ps} {l : List Rg} (h : t.err = 0) : clsEnd G frm neg (t, l, true, false) = (t.wrong G frm 4, []) := by simp [clsEnd, h]
theorem clsEnd_ok {G : List Gt} {frm : Nat} {neg : Bool} {t : Ps} {l : List Rg} (h : t.err = 0) : clsEnd G frm neg (t, l, false, false) = (t.next, [ndC (if neg then notF (makeF l) else makeF l)]) := by simp [clsEnd, h]
theorem clsGo_stop {G : List Gt} {frm n : Nat} {t : Ps} {l : List Rg} {b : Bool} (h : t.err ≠ 0 ∨ isR G t 93 = true) : clsGo G frm (n + 1) t l b = (t, l, b, false) := by
  unfold clsGo
  rw [if_neg]
  rintro ⟨h1, h2⟩
  rcases h with h | h
  · exact h h1
  · rw [h2] at h; cases h
theorem clsGo_out {G : List Gt} {frm n : Nat} {t : Ps} {l : List Rg} {b : Bool} (h : t.err = 0) (hR : isR G t 93 = false) (hl : G.length ≤ t.i) : clsGo G frm (n + 1) t l b = (t.wrong G frm 4, l, b, true) := by
  rw [clsGo, if_pos ⟨h, hR⟩, if_pos hl]
theorem clsGo_go {G : List Gt} {frm n : Nat} {t : Ps} {l : List Rg} {b : Bool} (h : t.err = 0) (hR : isR G t 93 = false) (hl : ¬ G.length ≤ t.i) : clsGo G frm (n + 1) t l b = clsGo G frm n (itemF G t).1 (l ++ (itemF G t).2) false := by
  rw [clsGo, if_pos ⟨h, hR⟩, if_neg hl]
theorem nds_class {B : Nat} {w : World} {v : Value} {l : List Rg} (h : OwnR B w v l) (hB : B ≤ w.heap.size) : ∃ a n cp, v = .slice a n cp ∧
    Nds B (w.alloc (.cells #[.int .i64 2, .slice a n cp, .int .i64 0, .int .i64 0, .bool false, .int .i64 0, .int .i64 0] 35)) (.slice (some ⟨w.heap.size, 0, none⟩) 1 1) [ndC l] := by
  obtain ⟨a, cap, rfl, _, _⟩ := h.rd
  exact ⟨a, l.length, cap, rfl, _, rfl, ndsV_one hB ⟨ndC l, a, l.length, cap⟩ h⟩
set_option maxHeartbeats 8000000 in
set_option maxRecDepth 100000 in
theorem classC (h : Pz c w s) (hi : s.i < c.G.length) (hg : s.groups ≤ 4) : Calls Tryz.prog 79 #[.pointer (some ⟨c.P, 0, none⟩)] w (NdPost c w (clsF c.G s)) := by
  have c2 := h.c2
  have f2 := h.fz 2
  have hln := h.len
  have hPw := h.lt
  have hHw := h.hH
  have P1 := Lib.hid (h.step hi)
  have K1 := Lib.hid (Kp.set c.P 2 w (.int .i64 ((s.i : Int) + 1)))
  clear h
  suffices key : ∀ r, clsF c.G s = r → Calls Tryz.prog 79 #[.pointer (some ⟨c.P, 0, none⟩)] w (NdPost c w r) from key _ rfl
  intro r hr
  rw [clsF_end] at hr
  have HQ := Lib.hid hr
  clear hr
  have hs1 : (skipS c.G s.next 94).i ≤ s.i + 2 := by unfold skipS; split <;> simp
  have A1 := Lib.hid (((Adv.refl (G := c.G) (s := s) (by omega) hg).next hi).skip 94)
  go_enter Tryz.func79, Tryz.ntmps79
  go_upto_region 3 with fail
  generalize w.setCell ⟨c.P, 2, none⟩ (.int .i64 ((s.i : Int) + 1)) = w1 at P1 K1 ⊢
  clear c2 f2
  go_wp2_with fail
  refine (skipC P1.out 94).mono ?_
  rintro e w2 ⟨rfl, P2, K2⟩
  generalize isR c.G s.next 94 = neg at HQ ⊢
  have K2' := Lib.hid (K1.out.trans K2)
  have P2' := Lib.hid P2
  clear P2 K2 P1 K1
  generalize skipS c.G s.next 94 = t0 at P2' A1 hs1 HQ ⊢
  generalize hC : clsGo c.G s.i (c.G.length + 2 - t0.i) t0 [] true = C at HQ
  have HC := Lib.hid hC
  clear hC
  go_wp2_with fail
  go_loopg [5, 6] (c.G.length + 2 - t0.i) (fun g l b wr => ∃ (g0 : Nat) (t : Ps) (ls : List Rg) (nb : Bool), g0 = g ∧ b = .bool nb ∧ Pz c wr t ∧ Kp c.P w wr ∧ OwnR w.heap.size wr l ls ∧ clsGo c.G s.i g t ls nb = C ∧ (c.G.length + 1 < g + t.i ∨ t.err ≠ 0 ∧ 0 < g) ∧ ls.length ≤ 8 * t.i)
  case atStart => exact ⟨_, t0, [], true, rfl, rfl, P2'.out, K2'.out, Own.nil _ _ _ _ _, HC.out, by have := A1.out.len; omega, by simp⟩
  case round =>
    clear P2' K2' HC A1 hs1
    obtain ⟨g, t, ls, nb, rfl, rfl, p, k, o, hgo, hm, hlen⟩ := hrel
    have P := Lib.hid p
    have K := Lib.hid k
    have O := Lib.hid o
    have GO := Lib.hid hgo
    have hti := p.le
    have htg := p.gr
    obtain ⟨n, rfl⟩ : ∃ n, g = n + 1 := ⟨g - 1, by omega⟩
    have c5 := p.c5
    obtain ⟨al, capl, rfl, _, _⟩ := o.rd
    clear p k o hgo
    by_cases he : t.err = 0
    · rw [he] at c5
      have HE := Lib.hid he
      have hm' : c.G.length + 1 < n + 1 + t.i := by omega
      have IC := Lib.hid (isC P.out 93)
      cases hR : isR c.G t 93
      · rw [hR] at IC
        have HR := Lib.hid hR
        clear he hR hm
        go_wp2_with fail
        refine IC.out.mono ?_
        rintro e w3 ⟨rfl, n3, rfl⟩
        have P3 := Lib.hid (P.out.drewN n3)
        have K3 := Lib.hid (K.out.trans (Kp.below (drewN_below (Below.refl wr.heap.size wr) n3)))
        have O3 := Lib.hid (O.out.drewN n3)
        clear P K O c5 IC
        generalize wr.drewN n3 = w3 at P3 K3 O3 ⊢
        have c0 := P3.out.c0
        have c2 := P3.out.c2
        by_cases hl : c.G.length ≤ t.i
        · have i1 : (c.G.length : Int) ≤ (t.i : Int) := by omega
          have e1 := GO.out
          rw [clsGo_out HE.out HR.out hl] at e1
          have E1 := Lib.hid e1
          clear e1
          go_wp2_with fail
          go_quiet (fail)
          go_wp2_with fail
          refine (wrongC (P3.out.drewN _) hi 4).mono ?_
          rintro e w4 ⟨rfl, P4, K4⟩
          go_wp2_with fail
          go_ret
          rw [← HQ.out, ← E1.out, clsEnd_out]
          exact ndPost_nil P4 (K3.out.trans ((Kp.below (drewN_below (Below.refl _ _) _)).trans K4))
        · have i1 : (t.i : Int) < (c.G.length : Int) := by omega
          have hl' : t.i < c.G.length := by omega
          have e1 := GO.out
          rw [clsGo_go HE.out HR.out hl] at e1
          have E1 := Lib.hid e1
          obtain ⟨_, v2, v3⟩ := itemF_adv (Adv.refl (s := t) hti htg) hl'
          have v1 := (itemF_adv (Adv.refl (s := t) hti htg) hl').1.le
          have v4 := itemF_errnil (G := c.G) (t := t)
          clear e1 GO
          go_wp2_with fail
          go_quiet (fail)
          go_wp2_with fail
          refine (itemC (P3.out.drewN nq) hl').mono ?_
          rintro e w4 ⟨v, rfl, p4, k4, o4⟩
          generalize itemF c.G t = I at p4 o4 E1 v1 v2 v3 v4
          obtain ⟨t4, l4⟩ := I
          simp only at p4 o4 E1 v1 v2 v3 v4
          have k4' := (Kp.below (P := c.P) (drewN_below (Below.refl w3.heap.size w3) nq)).trans k4
          have P4 := Lib.hid p4
          have K4 := Lib.hid (K3.out.trans k4')
          have O4 := Lib.hid (Own.kp O3.out k4' hPw)
          obtain ⟨a4, cap4, rfl, rd4, hge⟩ := o4.rd
          have RD4 := Lib.hid rd4
          have hs4 := K4.out.size
          have hmx : ls.length + l4.length ≤ 1000000000 := by omega
          have V4 := Lib.hid v4
          have V2 := Lib.hid v2
          clear p4 k4 o4 k4' rd4 hge P3 K3 O3 c0 c2 v4 v2
          go_wp2_with (at_builtin; go_must (refine wpList_app elem_rg rfl rfl rfl rfl O4.out RD4.out rfl er_len er_one hmx (by omega) hs4 ?_); intro v5 w5 o5 g5)
          have b5 := Below.grow (Below.refl w.heap.size w4) O4.out g5 (Nat.le_refl _) hs4
          have kk := K4.out.thenB b5 (Nat.le_refl _)
          have pp := P4.out.keepB b5 hHw
          go_roundg n
          case measure => omega
          case rel =>
            refine ⟨_, t4, ls ++ l4, false, rfl, rfl, pp, kk, o5, E1.out, ?_, ?_⟩
            · by_cases h4 : t4.err = 0
              · have := V2.out h4
                left; omega
              · right
                exact ⟨h4, by omega⟩
            · by_cases h4 : t4.err = 0
              · have := V2.out h4
                rw [List.length_append]; omega
              · rw [V4.out h4]
                simp; omega
      · rw [hR] at IC
        have e1 := GO.out
        rw [clsGo_stop (.inr hR)] at e1
        have E1 := Lib.hid e1
        have HL := Lib.hid (isR_lt hR)
        clear he hR hm e1 GO
        go_wp2_with fail
        refine IC.out.mono ?_
        rintro e w3 ⟨rfl, n3, rfl⟩
        have P3 := Lib.hid (P.out.drewN n3)
        have K3 := Lib.hid (K.out.trans (Kp.below (drewN_below (Below.refl wr.heap.size wr) n3)))
        have O3 := Lib.hid (O.out.drewN n3)
        clear P K O c5 IC
        generalize wr.drewN n3 = w3 at P3 K3 O3 ⊢
        have c5 := P3.out.c5
        rw [HE.out] at c5
        cases nb
        · have c2 := P3.out.c2
          have f2 := P3.out.fz 2
          go_upto_region 16 with fail
          have P4 := Lib.hid (P3.out.step HL.out)
          have k4 := Kp.set c.P 2 w3 (.int .i64 ((t.i : Int) + 1))
          have K4 := Lib.hid (K3.out.trans k4)
          have o4 := Own.kp O3.out k4 hPw
          obtain ⟨al', capl', el, rd4, _⟩ := o4.rd
          simp only [Value.slice.injEq] at el
          obtain ⟨rfl, -, rfl⟩ := el
          have RD4 := Lib.hid rd4
          clear P3 K3 O3 c5 c2 f2 k4 o4 rd4
          generalize w3.setCell ⟨c.P, 2, none⟩ (.int .i64 ((t.i : Int) + 1)) = w4 at P4 K4 RD4 ⊢
          go_wp2_with fail
          refine (makeC al ls capl w4 RD4.out (by omega)).mono ?_
          rintro e w5 ⟨v5, rfl, o5, b5⟩
          have P5 := Lib.hid (P4.out.keep b5)
          have K5 := Lib.hid (K4.out.trans (Kp.below b5))
          have O5 := Lib.hid (o5.mono K4.out.size)
          have L5 := makeF_len ls
          clear o5 b5 P4 K4 RD4
          have hr := HQ.out
          rw [← E1.out, clsEnd_ok HE.out] at hr
          have HR2 := Lib.hid hr
          clear hr HQ
          cases neg
          · obtain ⟨a5, n5, cp5, rfl, nd5⟩ := nds_class O5.out K5.out.size
            have b6 := (Below.refl w5.heap.size w5).alloc (Nat.le_refl _) (.cells #[.int .i64 2, .slice a5 n5 cp5, .int .i64 0, .int .i64 0, .bool false, .int .i64 0, .int .i64 0] 35)
            have ND := Lib.hid nd5
            have B6 := Lib.hid b6
            clear nd5 b6
            go_wp2_with fail
            go_ret
            rw [← HR2.out]
            exact ⟨_, rfl, P5.out.keep B6.out, K5.out.trans (Kp.below B6.out), ND.out⟩
          · obtain ⟨a5, cap5, rfl, rd5, _⟩ := O5.out.rd
            have RD5 := Lib.hid rd5
            clear rd5
            go_wp2_with fail
            refine (notC a5 (makeF ls) cap5 w5 RD5.out (by omega)).mono ?_
            rintro e w6 ⟨v6, rfl, o6, b6⟩
            have P6 := Lib.hid (P5.out.keep b6)
            have K6 := Lib.hid (K5.out.trans (Kp.below b6))
            obtain ⟨a7, n7, cp7, rfl, nd7⟩ := nds_class (o6.mono K5.out.size) K6.out.size
            have b7 := (Below.refl w6.heap.size w6).alloc (Nat.le_refl _) (.cells #[.int .i64 2, .slice a7 n7 cp7, .int .i64 0, .int .i64 0, .bool false, .int .i64 0, .int .i64 0] 35)
            have ND := Lib.hid nd7
            have B7 := Lib.hid b7
            clear nd7 b7 o6 b6 P5 K5 O5 RD5
            go_wp2_with fail
            go_ret
            rw [← HR2.out]
            exact ⟨_, rfl, P6.out.keep B7.out, K6.out.trans (Kp.below B7.out), ND.out⟩
        · go_wp2_with fail
          refine (wrongC P3.out hi 4).mono ?_
          rintro e w4 ⟨rfl, P4, K4⟩
          go_wp2_with fail
          go_ret
          rw [← HQ.out, ← E1.out, clsEnd_none HE.out]
          exact ndPost_nil P4 (K3.out.trans K4)
    · have he' : (t.err == 0) = false := by simpa using he
      have e1 := GO.out
      rw [clsGo_stop (.inl he)] at e1
      have hr := HQ.out
      rw [← e1, clsEnd_err he] at hr
      have HR2 := Lib.hid hr
      clear e1 GO he hm hr HQ
      generalize t.err = ee at c5 he'
      go_wp2_with fail
      go_ret
      rw [← HR2.out]
      exact ndPost_nil P.out K.out
end Go.Proofs.YtooockbfagkknaaGreatDoor.syn
