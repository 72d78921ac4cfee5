/- cat, alt, walked. -/
import Derived.Test.YtooockbfagkknaaGreatDoorPar11
namespace Go.Proofs.YtooockbfagkknaaGreatDoor.syn
open Go.RowKit Go.Proofs.YtooockbfagkknaaGreatDoor.sl Go.Proofs.YtooockbfagkknaaGreatDoor.cls
variable {c : Cx} {w : World} {s : Ps}
theorem own_apart {α β : Type} {e1 : α → List Value} {e2 : β → List Value} {k1 k2 : Nat} {E1 E2 : TypeId} {B1 B2 : Nat} {v1 v2 : Value} {l1 : List α} {l2 : List β} (h1 : Own e1 k1 E1 B1 w v1 l1) (h2 : Own e2 k2 E2 B2 w v2 l2) (hne : E1 ≠ E2) : Apart v1 v2 := by
  intro g hg hg2
  rcases h1.2 with ⟨rfl, _⟩ | ⟨a, _, _, rfl, _, ha, _⟩
  · cases hg
  · rcases h2.2 with ⟨rfl, _⟩ | ⟨b, _, _, rfl, _, hb, _⟩
    · cases hg2
    · cases hg
      cases hg2
      rw [ha] at hb
      simp only [Option.some.injEq, Obj.cells.injEq] at hb
      exact hne hb.2.1
theorem NdsV.grow {B B2 : Nat} {w' : World} {q v : Value} {ls : List NdV} {pvs : List PV} (h : NdsV B w q ls) (hp : OwnP B2 w v pvs) (g : w.grownBy w' v.ownBlock) : NdsV B w' q ls :=
  ⟨h.1.keep g (own_apart h.1 hp (by decide)), fun y hy => (h.2 y hy).keep g (own_apart (h.2 y hy) hp (by decide))⟩
theorem total_pv (pvs : List PV) : total (pvs.map PV.l) = (pvs.flatMap PV.ls).length := by
  unfold total
  rw [flatten_pv, List.length_map]
theorem pv_snoc (pvs : List PV) (p : PV) : (pvs ++ [p]).map PV.l = pvs.map PV.l ++ [p.l] := by simp
theorem catGo_halt {G : List Gt} {alt : Ps → Ps × List Nd} {n : Nat} {t : Ps} {ps : List (List Nd)} (h : ¬ (t.err = 0 ∧ t.i < G.length ∧ isR G t 124 = false ∧ ¬ (isR G t 41 = true ∧ 0 < t.opens))) : catGo G alt (n + 1) t ps = (t, ps) := by rw [catGo, if_neg h]
theorem catGo_go {G : List Gt} {alt : Ps → Ps × List Nd} {n : Nat} {t : Ps} {ps : List (List Nd)} (h : t.err = 0 ∧ t.i < G.length ∧ isR G t 124 = false ∧ ¬ (isR G t 41 = true ∧ 0 < t.opens)) : catGo G alt (n + 1) t ps = catGo G alt n (repF G alt t).1 (ps ++ [(repF G alt t).2]) := by rw [catGo, if_pos h]
theorem altGo_stop {G : List Gt} {alt : Ps → Ps × List Nd} {n : Nat} {t : Ps} {ps : List (List Nd)} (h : ¬ (t.err = 0 ∧ isR G t 124 = true)) : altGo G alt (n + 1) t ps = (t, ps) := by rw [altGo, if_neg h]
theorem altGo_go {G : List Gt} {alt : Ps → Ps × List Nd} {n : Nat} {t : Ps} {ps : List (List Nd)} (h : t.err = 0 ∧ isR G t 124 = true) : altGo G alt (n + 1) t ps = altGo G alt n (catF G alt t.next).1 (ps ++ [(catF G alt t.next).2]) := by rw [altGo, if_pos h]
def CatRel (c : Cx) (w : World) (pvs : List PV) (v : Value) (t : Ps) (wr : World) : Prop :=
  Pz c wr t ∧ Kp c.P w wr ∧ OwnP w.heap.size wr v pvs ∧ ∀ p ∈ pvs, NdsV w.heap.size wr p.v p.ls
set_option maxHeartbeats 8000000 in
set_option maxRecDepth 100000 in
theorem catC {alt : Ps → Ps × List Nd} (A : AltOk c.G alt) (C : AltC c (s.opens + 1) alt) (h : Pz c w s) : Calls Tryz.prog 30 #[.pointer (some ⟨c.P, 0, none⟩)] w (NdPost c w (catF c.G alt s)) := by
  have hln := h.len
  have hPw := h.lt
  have hHw := h.hH
  have hle := h.le
  have P0 := Lib.hid h
  clear h
  suffices key : ∀ CC, catGo c.G alt (c.G.length + 2 - s.i) s [] = CC → ∀ r, (CC.1, joined 3 CC.2) = r → Calls Tryz.prog 30 #[.pointer (some ⟨c.P, 0, none⟩)] w (NdPost c w r) from key _ rfl _ rfl
  intro CC hCC r hr
  have HC := Lib.hid hCC
  have HQ := Lib.hid hr
  clear hCC hr
  go_enter Tryz.func30, Tryz.ntmps30
  go_wp2_with fail
  go_loopg [3] (c.G.length + 2 - s.i) (fun g v wr => ∃ (g0 : Nat) (t : Ps) (pvs : List PV), g0 = g ∧ CatRel c w pvs v t wr ∧ catGo c.G alt g t (pvs.map PV.l) = CC ∧ t.opens = s.opens ∧ s.i ≤ t.i ∧ (c.G.length + 1 < g + t.i ∨ t.err ≠ 0 ∧ 0 < g) ∧ total (pvs.map PV.l) ≤ 3 * (t.i - s.i) ∧ pvs.length + g ≤ 200)
  case atStart => exact ⟨_, s, [], rfl, ⟨P0.out, Kp.refl _ _, Own.nil _ _ _ _ _, by simp⟩, HC.out, rfl, Nat.le_refl _, by omega, by simp [total], by simp; omega⟩
  case round =>
    clear HC P0
    obtain ⟨g, t, pvs, rfl, ⟨p, k, op, nv⟩, hgo, hopn, hsi, hm, htot, hlen⟩ := hrel
    obtain ⟨ap, capp, rfl, rdp, -⟩ := op.rd
    have P := Lib.hid p
    have K := Lib.hid k
    have OP := Lib.hid op
    have NV := Lib.hid nv
    have RDP := Lib.hid rdp
    have GO := Lib.hid hgo
    have hti := p.le
    have htg := p.gr
    obtain ⟨n, rfl⟩ : ∃ n, g = n + 1 := ⟨g - 1, by omega⟩
    have hmx : (pvs.flatMap PV.ls).length ≤ 100000 := by rw [← total_pv]; omega
    have HOP := Lib.hid hopn
    have HTOT := Lib.hid htot
    have c0 := p.c0
    have c2 := p.c2
    have c3 := p.c3
    have c5 := p.c5
    clear p k op nv rdp hgo hopn htot
    by_cases he : t.err = 0
    · rw [he] at c5
      have HE := Lib.hid he
      have hm' : c.G.length + 1 < n + 1 + t.i := by rcases hm with h | h; exact h; exact absurd he h.1
      clear he hm
      by_cases hi : t.i < c.G.length
      · have i1 : (t.i : Int) < (c.G.length : Int) := by omega
        have IA : Hid (∀ n, Calls Tryz.prog 49 #[.pointer (some ⟨c.P, 0, none⟩), .int .i32 124] (wr.drewN n) fun e w' => e = .returned (.bool (isR c.G t 124)) ∧ ∃ m, w' = (wr.drewN n).drewN m) := Lib.hid fun n => isC (P.out.drewN n) 124
        have IB : Hid (∀ n, Calls Tryz.prog 49 #[.pointer (some ⟨c.P, 0, none⟩), .int .i32 41] (wr.drewN n) fun e w' => e = .returned (.bool (isR c.G t 41)) ∧ ∃ m, w' = (wr.drewN n).drewN m) := Lib.hid fun n => isC (P.out.drewN n) 41
        cases h1 : isR c.G t 124
        · rw [h1] at IA
          have H1 := Lib.hid h1
          clear h1
          cases h2 : isR c.G t 41
          · rw [h2] at IB
            have HC : Hid (t.err = 0 ∧ t.i < c.G.length ∧ isR c.G t 124 = false ∧ ¬ (isR c.G t 41 = true ∧ 0 < t.opens)) := Lib.hid ⟨HE.out, hi, H1.out, fun h => by rw [h2] at h; cases h.1⟩
            clear h2
            go_wp2_with fail
            go_quiet (first | (go_at_call_of 49 (124 : Int); exact Calls.quiet_of (IA.out _)) | (go_at_call_of 49 (41 : Int); exact Calls.quiet_of (IB.out _)))
            have P' := Lib.hid (P.out.drewN nq)
            have K' := Lib.hid (K.out.trans (Kp.below (drewN_below (Below.refl wr.heap.size wr) nq)))
            have NV' : Hid (∀ p ∈ pvs, NdsV w.heap.size (wr.drewN nq) p.v p.ls) := Lib.hid fun p hp => (NV.out p hp).kept (drewN_below (Below.refl _ _) nq)
            have RDP' : Hid (Rd eP (wr.drewN nq) ap pvs capp) := Lib.hid (RDP.out.drewN' nq)
            have OP' : Hid (OwnP w.heap.size (wr.drewN nq) (.slice ap pvs.length capp) pvs) := Lib.hid (OP.out.drewN nq)
            clear P K NV RDP OP c0 c2 c5
            generalize wr.drewN nq = w4 at P' K' NV' RDP' OP' ⊢
            have P := P'
            have K := K'
            have NV := NV'
            have RDP := RDP'
            have OP := OP'
            clear P' K' NV' RDP' OP'
            have e1 := GO.out
            rw [catGo_go HC.out] at e1
            have E1 := Lib.hid e1
            have AV := Lib.hid (repF_adv A hi htg)
            clear e1 GO c3
            go_wp2_with fail
            refine (repC A (by rw [HOP.out]; exact C) P.out hi HE.out).mono ?_
            rintro e w5 ⟨x, rfl, p5, k5, nd5⟩
            generalize repF c.G alt t = rr at p5 nd5 E1 AV
            obtain ⟨t5, l5⟩ := rr
            simp only at p5 nd5 E1 AV
            have P5 := Lib.hid p5
            have K5 := Lib.hid (K.out.trans k5)
            have OP5 := Lib.hid (Own.kp OP.out k5 hPw)
            have NV5 : Hid (∀ p ∈ pvs, NdsV w.heap.size w5 p.v p.ls) := Lib.hid fun p hp => (NV.out p hp).kp k5 hPw
            have hKs := K.out.size
            clear p5 k5 P K OP NV RDP IA IB HC H1
            obtain ⟨ls, hls, hnv0⟩ := nd5
            have hnv := hnv0.mono hKs
            obtain ⟨p, hp1, hp2, hp3⟩ := hnv.pv
            subst hp1
            subst hp2
            rw [show p.v = Value.slice p.a p.n p.c from rfl]
            have HLS := Lib.hid hls
            have HNV : Hid (NdsV w.heap.size w5 p.v p.ls) := Lib.hid hnv
            have hs5 := K5.out.size
            have hpl : pvs.length < 1000000000 := by omega
            clear hls hnv hnv0 hp3
            go_wp2_with (at_builtin; go_must (refine wpList_app1 (v := .slice ap pvs.length capp) elem_pv rfl rfl rfl rfl (by simp) OP5.out p rfl eP_len eP_one hpl (by omega) hs5 ?_; intro v6 w6 o6 g6; have O6 := Lib.hid o6; have G6 := Lib.hid g6; clear o6 g6))
            have b6 := grow_below (Below.refl w.heap.size w5) OP5.out G6.out (Nat.le_refl _) hs5
            have nv6 : ∀ q ∈ pvs ++ [p], NdsV w.heap.size w6 q.v q.ls := fun q hq => by
              have h0 : NdsV w.heap.size w5 q.v q.ls := by
                rcases List.mem_append.1 hq with hq | hq
                · exact NV5.out q hq
                · obtain rfl : q = p := by simpa using hq
                  exact HNV.out
              exact (h0.kept ((Below.refl w5.heap.size w5).alloc (Nat.le_refl _) _)).grow (OP5.out.alloc _) G6.out
            go_roundg n
            case measure => omega
            case rel =>
              have hl5 : p.ls.length = l5.length := by rw [← HLS.out]; simp
              refine ⟨_, t5, pvs ++ [p], rfl, ⟨P5.out.keepB b6 hHw, K5.out.thenB b6 (Nat.le_refl _), O6.out, nv6⟩, ?_, ?_, ?_, ?_, ?_, ?_⟩
              · rw [pv_snoc, show p.l = l5 from HLS.out]; exact E1.out
              · rw [AV.out.1.op, HOP.out]
              · have := AV.out.1.le; omega
              · by_cases h5 : t5.err = 0
                · have := AV.out.2.1 h5
                  left; omega
                · right
                  exact ⟨h5, by omega⟩
              · rw [pv_snoc, total_snoc, show p.l = l5 from HLS.out]
                have h1 := AV.out.2.2
                have h2 := AV.out.1.le
                have h3 := HTOT.out
                omega
              · rw [List.length_append, List.length_singleton]; omega
          · by_cases ho : 0 < t.opens
            · rw [h2] at IB
              have i2 : (0 : Int) < (t.opens : Int) := by omega
              have H2 := Lib.hid h2
              clear h2
              have e1 := GO.out
              rw [catGo_halt (fun h => h.2.2.2 ⟨H2.out, ho⟩)] at e1
              have E1 := Lib.hid e1
              clear e1 GO
              go_wp2_with fail
              go_quiet (first | (go_at_call_of 49 (124 : Int); exact Calls.quiet_of (IA.out _)) | (go_at_call_of 49 (41 : Int); exact Calls.quiet_of (IB.out _)))
              have P' := Lib.hid (P.out.drewN nq)
              have K' := Lib.hid (K.out.trans (Kp.below (drewN_below (Below.refl wr.heap.size wr) nq)))
              have NV' : Hid (∀ p ∈ pvs, NdsV w.heap.size (wr.drewN nq) p.v p.ls) := Lib.hid fun p hp => (NV.out p hp).kept (drewN_below (Below.refl _ _) nq)
              have RDP' : Hid (Rd eP (wr.drewN nq) ap pvs capp) := Lib.hid (RDP.out.drewN' nq)
              have OP' : Hid (OwnP w.heap.size (wr.drewN nq) (.slice ap pvs.length capp) pvs) := Lib.hid (OP.out.drewN nq)
              clear P K NV RDP OP c0 c2 c5
              generalize wr.drewN nq = w4 at P' K' NV' RDP' OP' ⊢
              have P := P'
              have K := K'
              have NV := NV'
              have RDP := RDP'
              have OP := OP'
              clear P' K' NV' RDP' OP'
              go_wp2_with fail
              refine (joinedC (B := w.heap.size) 3 ap pvs capp w4 RDP.out NV.out K.out.size hmx).mono ?_
              rintro e w8 ⟨v8, rfl, nd8, b8⟩
              go_wp2_with fail
              go_ret
              rw [← HQ.out, ← E1.out]
              exact ⟨_, rfl, P.out.keep b8, K.out.trans (Kp.below b8), nd8⟩
            · rw [h2] at IB
              have i2 : ¬ (0 : Int) < (t.opens : Int) := by omega
              have HC : Hid (t.err = 0 ∧ t.i < c.G.length ∧ isR c.G t 124 = false ∧ ¬ (isR c.G t 41 = true ∧ 0 < t.opens)) := Lib.hid ⟨HE.out, hi, H1.out, fun h => ho h.2⟩
              clear h2
              go_wp2_with fail
              go_quiet (first | (go_at_call_of 49 (124 : Int); exact Calls.quiet_of (IA.out _)) | (go_at_call_of 49 (41 : Int); exact Calls.quiet_of (IB.out _)))
              have P' := Lib.hid (P.out.drewN nq)
              have K' := Lib.hid (K.out.trans (Kp.below (drewN_below (Below.refl wr.heap.size wr) nq)))
              have NV' : Hid (∀ p ∈ pvs, NdsV w.heap.size (wr.drewN nq) p.v p.ls) := Lib.hid fun p hp => (NV.out p hp).kept (drewN_below (Below.refl _ _) nq)
              have RDP' : Hid (Rd eP (wr.drewN nq) ap pvs capp) := Lib.hid (RDP.out.drewN' nq)
              have OP' : Hid (OwnP w.heap.size (wr.drewN nq) (.slice ap pvs.length capp) pvs) := Lib.hid (OP.out.drewN nq)
              clear P K NV RDP OP c0 c2 c5
              generalize wr.drewN nq = w4 at P' K' NV' RDP' OP' ⊢
              have P := P'
              have K := K'
              have NV := NV'
              have RDP := RDP'
              have OP := OP'
              clear P' K' NV' RDP' OP'
              have e1 := GO.out
              rw [catGo_go HC.out] at e1
              have E1 := Lib.hid e1
              have AV := Lib.hid (repF_adv A hi htg)
              clear e1 GO c3
              go_wp2_with fail
              refine (repC A (by rw [HOP.out]; exact C) P.out hi HE.out).mono ?_
              rintro e w5 ⟨x, rfl, p5, k5, nd5⟩
              generalize repF c.G alt t = rr at p5 nd5 E1 AV
              obtain ⟨t5, l5⟩ := rr
              simp only at p5 nd5 E1 AV
              have P5 := Lib.hid p5
              have K5 := Lib.hid (K.out.trans k5)
              have OP5 := Lib.hid (Own.kp OP.out k5 hPw)
              have NV5 : Hid (∀ p ∈ pvs, NdsV w.heap.size w5 p.v p.ls) := Lib.hid fun p hp => (NV.out p hp).kp k5 hPw
              have hKs := K.out.size
              clear p5 k5 P K OP NV RDP IA IB HC H1
              obtain ⟨ls, hls, hnv0⟩ := nd5
              have hnv := hnv0.mono hKs
              obtain ⟨p, hp1, hp2, hp3⟩ := hnv.pv
              subst hp1
              subst hp2
              rw [show p.v = Value.slice p.a p.n p.c from rfl]
              have HLS := Lib.hid hls
              have HNV : Hid (NdsV w.heap.size w5 p.v p.ls) := Lib.hid hnv
              have hs5 := K5.out.size
              have hpl : pvs.length < 1000000000 := by omega
              clear hls hnv hnv0 hp3
              go_wp2_with (at_builtin; go_must (refine wpList_app1 (v := .slice ap pvs.length capp) elem_pv rfl rfl rfl rfl (by simp) OP5.out p rfl eP_len eP_one hpl (by omega) hs5 ?_; intro v6 w6 o6 g6; have O6 := Lib.hid o6; have G6 := Lib.hid g6; clear o6 g6))
              have b6 := grow_below (Below.refl w.heap.size w5) OP5.out G6.out (Nat.le_refl _) hs5
              have nv6 : ∀ q ∈ pvs ++ [p], NdsV w.heap.size w6 q.v q.ls := fun q hq => by
                have h0 : NdsV w.heap.size w5 q.v q.ls := by
                  rcases List.mem_append.1 hq with hq | hq
                  · exact NV5.out q hq
                  · obtain rfl : q = p := by simpa using hq
                    exact HNV.out
                exact (h0.kept ((Below.refl w5.heap.size w5).alloc (Nat.le_refl _) _)).grow (OP5.out.alloc _) G6.out
              go_roundg n
              case measure => omega
              case rel =>
                have hl5 : p.ls.length = l5.length := by rw [← HLS.out]; simp
                refine ⟨_, t5, pvs ++ [p], rfl, ⟨P5.out.keepB b6 hHw, K5.out.thenB b6 (Nat.le_refl _), O6.out, nv6⟩, ?_, ?_, ?_, ?_, ?_, ?_⟩
                · rw [pv_snoc, show p.l = l5 from HLS.out]; exact E1.out
                · rw [AV.out.1.op, HOP.out]
                · have := AV.out.1.le; omega
                · by_cases h5 : t5.err = 0
                  · have := AV.out.2.1 h5
                    left; omega
                  · right
                    exact ⟨h5, by omega⟩
                · rw [pv_snoc, total_snoc, show p.l = l5 from HLS.out]
                  have h1 := AV.out.2.2
                  have h2 := AV.out.1.le
                  have h3 := HTOT.out
                  omega
                · rw [List.length_append, List.length_singleton]; omega
        · rw [h1] at IA
          have H1 := Lib.hid h1
          clear h1
          have e1 := GO.out
          rw [catGo_halt (fun h => by rw [H1.out] at h; cases h.2.2.1)] at e1
          have E1 := Lib.hid e1
          clear e1 GO
          go_wp2_with fail
          go_quiet (first | (go_at_call_of 49 (124 : Int); exact Calls.quiet_of (IA.out _)) | (go_at_call_of 49 (41 : Int); exact Calls.quiet_of (IB.out _)))
          have P' := Lib.hid (P.out.drewN nq)
          have K' := Lib.hid (K.out.trans (Kp.below (drewN_below (Below.refl wr.heap.size wr) nq)))
          have NV' : Hid (∀ p ∈ pvs, NdsV w.heap.size (wr.drewN nq) p.v p.ls) := Lib.hid fun p hp => (NV.out p hp).kept (drewN_below (Below.refl _ _) nq)
          have RDP' : Hid (Rd eP (wr.drewN nq) ap pvs capp) := Lib.hid (RDP.out.drewN' nq)
          have OP' : Hid (OwnP w.heap.size (wr.drewN nq) (.slice ap pvs.length capp) pvs) := Lib.hid (OP.out.drewN nq)
          clear P K NV RDP OP c0 c2 c5
          generalize wr.drewN nq = w4 at P' K' NV' RDP' OP' ⊢
          have P := P'
          have K := K'
          have NV := NV'
          have RDP := RDP'
          have OP := OP'
          clear P' K' NV' RDP' OP'
          go_wp2_with fail
          refine (joinedC (B := w.heap.size) 3 ap pvs capp w4 RDP.out NV.out K.out.size hmx).mono ?_
          rintro e w8 ⟨v8, rfl, nd8, b8⟩
          go_wp2_with fail
          go_ret
          rw [← HQ.out, ← E1.out]
          exact ⟨_, rfl, P.out.keep b8, K.out.trans (Kp.below b8), nd8⟩
      · have i1 : ¬ (t.i : Int) < (c.G.length : Int) := by omega
        have e1 := GO.out
        rw [catGo_halt (fun h => hi h.2.1)] at e1
        have E1 := Lib.hid e1
        clear e1 GO
        go_wp2_with fail
        go_quiet (fail)
        have P' := Lib.hid (P.out.drewN nq)
        have K' := Lib.hid (K.out.trans (Kp.below (drewN_below (Below.refl wr.heap.size wr) nq)))
        have NV' : Hid (∀ p ∈ pvs, NdsV w.heap.size (wr.drewN nq) p.v p.ls) := Lib.hid fun p hp => (NV.out p hp).kept (drewN_below (Below.refl _ _) nq)
        have RDP' : Hid (Rd eP (wr.drewN nq) ap pvs capp) := Lib.hid (RDP.out.drewN' nq)
        have OP' : Hid (OwnP w.heap.size (wr.drewN nq) (.slice ap pvs.length capp) pvs) := Lib.hid (OP.out.drewN nq)
        clear P K NV RDP OP c0 c2 c5
        generalize wr.drewN nq = w4 at P' K' NV' RDP' OP' ⊢
        have P := P'
        have K := K'
        have NV := NV'
        have RDP := RDP'
        have OP := OP'
        clear P' K' NV' RDP' OP'
        go_wp2_with fail
        refine (joinedC (B := w.heap.size) 3 ap pvs capp w4 RDP.out NV.out K.out.size hmx).mono ?_
        rintro e w8 ⟨v8, rfl, nd8, b8⟩
        go_wp2_with fail
        go_ret
        rw [← HQ.out, ← E1.out]
        exact ⟨_, rfl, P.out.keep b8, K.out.trans (Kp.below b8), nd8⟩
    · have he' : (t.err == 0) = false := by simpa using he
      have HE := Lib.hid he
      clear he hm
      have H5 := Lib.hid (show ∀ x, t.err = x → True from fun _ _ => trivial)
      generalize hee : t.err = ee at c5 he'
      clear hee H5
      have e1 := GO.out
      rw [catGo_halt (fun h => HE.out h.1)] at e1
      have E1 := Lib.hid e1
      clear e1 GO
      go_wp2_with fail
      go_quiet (fail)
      have P' := Lib.hid (P.out.drewN nq)
      have K' := Lib.hid (K.out.trans (Kp.below (drewN_below (Below.refl wr.heap.size wr) nq)))
      have NV' : Hid (∀ p ∈ pvs, NdsV w.heap.size (wr.drewN nq) p.v p.ls) := Lib.hid fun p hp => (NV.out p hp).kept (drewN_below (Below.refl _ _) nq)
      have RDP' : Hid (Rd eP (wr.drewN nq) ap pvs capp) := Lib.hid (RDP.out.drewN' nq)
      have OP' : Hid (OwnP w.heap.size (wr.drewN nq) (.slice ap pvs.length capp) pvs) := Lib.hid (OP.out.drewN nq)
      clear P K NV RDP OP c0 c2 c5
      generalize wr.drewN nq = w4 at P' K' NV' RDP' OP' ⊢
      have P := P'
      have K := K'
      have NV := NV'
      have RDP := RDP'
      have OP := OP'
      clear P' K' NV' RDP' OP'
      go_wp2_with fail
      refine (joinedC (B := w.heap.size) 3 ap pvs capp w4 RDP.out NV.out K.out.size hmx).mono ?_
      rintro e w8 ⟨v8, rfl, nd8, b8⟩
      go_wp2_with fail
      go_ret
      rw [← HQ.out, ← E1.out]
      exact ⟨_, rfl, P.out.keep b8, K.out.trans (Kp.below b8), nd8⟩
end Go.Proofs.YtooockbfagkknaaGreatDoor.syn
