/- alt, walked; every depth. -/
import Derived.Test.YtooockbfagkknaaGreatDoorPar12
namespace Go.Proofs.YtooockbfagkknaaGreatDoor.syn
open Go.RowKit Go.Proofs.YtooockbfagkknaaGreatDoor.sl Go.Proofs.YtooockbfagkknaaGreatDoor.cls
variable {c : Cx} {w : World} {s : Ps}
set_option maxHeartbeats 8000000 in
set_option maxRecDepth 100000 in
theorem altC {alt : Ps → Ps × List Nd} (A : AltOk c.G alt) (C : AltC c (s.opens + 1) alt) (h : Pz c w s) : Calls Tryz.prog 16 #[.pointer (some ⟨c.P, 0, none⟩)] w (NdPost c w (alt1 c.G alt s)) := by
  have hln := h.len
  have hPw := h.lt
  have hHw := h.hH
  have hle := h.le
  have hgr := h.gr
  have P0 := Lib.hid h
  clear h
  suffices key : ∀ DD, altGo c.G alt (c.G.length + 2 - (catF c.G alt s).1.i) (catF c.G alt s).1 [(catF c.G alt s).2] = DD → ∀ r, (DD.1, joined 4 DD.2) = r → Calls Tryz.prog 16 #[.pointer (some ⟨c.P, 0, none⟩)] w (NdPost c w r) from key _ rfl _ rfl
  intro DD hDD r hr
  have HC := Lib.hid hDD
  have HQ := Lib.hid hr
  have AV := Lib.hid (catF_adv A hle hgr)
  clear hDD hr
  go_enter Tryz.func16, Tryz.ntmps16
  go_wp2_with fail
  refine (catC A C P0.out).mono ?_
  rintro e w1 ⟨x, rfl, p1, k1, nd1⟩
  generalize catF c.G alt s = t0 at p1 nd1 HC AV
  obtain ⟨t0, l0⟩ := t0
  simp only at p1 nd1 HC AV
  obtain ⟨ls0, hls0, hnv0⟩ := nd1
  obtain ⟨p0, hp1, hp2, hp3⟩ := hnv0.pv
  subst hp1
  subst hp2
  rw [show p0.v = Value.slice p0.a p0.n p0.c from rfl]
  have P1 := Lib.hid p1
  have K1 := Lib.hid k1
  have HLS0 := Lib.hid hls0
  have HNV0 : Hid (NdsV w.heap.size w1 p0.v p0.ls) := Lib.hid hnv0
  have o1 : OwnP w.heap.size (w1.alloc (.cells #[.slice p0.a p0.n p0.c] 22)) (.slice (some ⟨w1.heap.size, 0, none⟩) 1 1) [p0] := own_lit w1 _ [p0] 1 rfl eP_len rfl k1.size (by omega)
  have b1 := (Below.refl w1.heap.size w1).alloc (Nat.le_refl _) (.cells #[.slice p0.a p0.n p0.c] 22)
  have O1 := Lib.hid o1
  have B1 := Lib.hid b1
  clear p1 k1 hls0 hnv0 hp3 o1 b1 P0
  go_wp2_with fail
  go_loopg [3] (c.G.length + 2 - t0.i) (fun g v wr => ∃ (g0 : Nat) (t : Ps) (pvs : List PV), g0 = g ∧ CatRel c w pvs v t wr ∧ altGo c.G alt g t (pvs.map PV.l) = DD ∧ t.opens = s.opens ∧ s.i ≤ t.i ∧ (c.G.length + 1 < g + t.i ∨ t.err ≠ 0 ∧ 0 < g) ∧ (0 < pvs.length ∧ total (pvs.map PV.l) + 2 * pvs.length ≤ 3 * (t.i - s.i) + 3) ∧ pvs.length + g ≤ 200)
  case atStart =>
    have hl0 : p0.ls.length = l0.length := by rw [← HLS0.out]; simp
    refine ⟨_, t0, [p0], rfl, ⟨P1.out.keep B1.out, K1.out.trans (Kp.below B1.out), O1.out, fun p hp => ?_⟩, ?_, AV.out.1.op, AV.out.1.le, ?_, ⟨by simp, ?_⟩, ?_⟩
    · obtain rfl : p = p0 := by simpa using hp
      exact HNV0.out.kept B1.out
    · rw [List.map_cons, List.map_nil, show p0.l = l0 from HLS0.out]; exact HC.out
    · have := AV.out.1.len; left; omega
    · have := AV.out.2
      rw [List.map_cons, List.map_nil, show p0.l = l0 from HLS0.out]
      simp [total]
      omega
    · simp; omega
  case round =>
    clear HC P1 K1 HLS0 HNV0 O1 B1 AV
    obtain ⟨g, t, pvs, rfl, ⟨p, k, op, nv⟩, hgo, hopn, hsi, hm, ⟨h0l, htot⟩, hlen⟩ := hrel
    obtain ⟨ap, capp, rfl, rdp, -⟩ := op.rd
    have P := Lib.hid p
    have K := Lib.hid k
    have OP := Lib.hid op
    have NV := Lib.hid nv
    have RDP := Lib.hid rdp
    have GO := Lib.hid hgo
    have hti := p.le
    have htg := p.gr
    obtain ⟨n, rfl⟩ : ∃ n, g = n + 1 := ⟨g - 1, by omega⟩
    have hmx : (pvs.flatMap PV.ls).length ≤ 100000 := by rw [← total_pv]; omega
    have HOP := Lib.hid hopn
    have HTOT := Lib.hid htot
    have c5 := p.c5
    clear p k op nv rdp hgo hopn htot
    by_cases he : t.err = 0
    · rw [he] at c5
      have HE := Lib.hid he
      have hm' : c.G.length + 1 < n + 1 + t.i := by rcases hm with h | h; exact h; exact absurd he h.1
      have SK := Lib.hid (skipC P.out 124)
      clear he hm
      cases h1 : isR c.G t 124
      · rw [h1] at SK
        rw [show skipS c.G t 124 = t by simp [skipS, h1]] at SK
        have e1 := GO.out
        rw [altGo_stop (fun h => by rw [h1] at h; cases h.2)] at e1
        have E1 := Lib.hid e1
        clear e1 GO h1
        go_wp2_with fail
        refine SK.out.mono ?_
        rintro e w4 ⟨rfl, p4, k4⟩
        have P' := Lib.hid p4
        have K' := Lib.hid (K.out.trans k4)
        have NV' : Hid (∀ p ∈ pvs, NdsV w.heap.size w4 p.v p.ls) := Lib.hid fun p hp => (NV.out p hp).kp k4 hPw
        have op4 := Own.kp OP.out k4 hPw
        obtain ⟨ap', capp', ev, rd4, -⟩ := op4.rd
        simp only [Value.slice.injEq] at ev
        obtain ⟨rfl, -, rfl⟩ := ev
        have RDP' := Lib.hid rd4
        clear p4 k4 op4 rd4 P K NV RDP OP SK c5
        have P := P'
        have K := K'
        have NV := NV'
        have RDP := RDP'
        clear P' K' NV' RDP'
        go_wp2_with fail
        refine (joinedC (B := w.heap.size) 4 ap pvs capp w4 RDP.out NV.out K.out.size hmx).mono ?_
        rintro e w8 ⟨v8, rfl, nd8, b8⟩
        go_wp2_with fail
        go_ret
        rw [← HQ.out, ← E1.out]
        exact ⟨_, rfl, P.out.keep b8, K.out.trans (Kp.below b8), nd8⟩
      · have hlt := isR_lt h1
        rw [h1] at SK
        rw [show skipS c.G t 124 = t.next by simp [skipS, h1]] at SK
        have e1 := GO.out
        rw [altGo_go ⟨HE.out, h1⟩] at e1
        have E1 := Lib.hid e1
        clear e1 GO h1
        go_wp2_with fail
        refine SK.out.mono ?_
        rintro e w4 ⟨rfl, p4, k4⟩
        have P' := Lib.hid p4
        have K' := Lib.hid (K.out.trans k4)
        have NV' : Hid (∀ p ∈ pvs, NdsV w.heap.size w4 p.v p.ls) := Lib.hid fun p hp => (NV.out p hp).kp k4 hPw
        have OP' := Lib.hid (Own.kp OP.out k4 hPw)
        have AV := Lib.hid (catF_adv A (s := t.next) p4.le p4.gr)
        clear p4 k4 P K NV RDP OP SK c5
        go_wp2_with fail
        refine (catC A (by rw [show t.next.opens = s.opens from HOP.out]; exact C) P'.out).mono ?_
        rintro e w5 ⟨x, rfl, p5, k5, nd5⟩
        generalize catF c.G alt t.next = rr at p5 nd5 E1 AV
        obtain ⟨t5, l5⟩ := rr
        simp only [next_i] at p5 nd5 E1 AV
        have P5 := Lib.hid p5
        have K5 := Lib.hid (K'.out.trans k5)
        have OP5 := Lib.hid (Own.kp OP'.out k5 hPw)
        have NV5 : Hid (∀ p ∈ pvs, NdsV w.heap.size w5 p.v p.ls) := Lib.hid fun p hp => (NV'.out p hp).kp k5 hPw
        have hKs := K'.out.size
        clear p5 k5 P' K' OP' NV'
        obtain ⟨ls, hls, hnv0⟩ := nd5
        have hnv := hnv0.mono hKs
        obtain ⟨p, hp1, hp2, hp3⟩ := hnv.pv
        subst hp1
        subst hp2
        rw [show p.v = Value.slice p.a p.n p.c from rfl]
        have HLS := Lib.hid hls
        have HNV : Hid (NdsV w.heap.size w5 p.v p.ls) := Lib.hid hnv
        have hs5 := K5.out.size
        have hpl : pvs.length < 1000000000 := by omega
        clear hls hnv hnv0 hp3
        go_wp2_with (at_builtin; go_must (refine wpList_app1 (v := .slice ap pvs.length capp) elem_pv rfl rfl rfl rfl (by simp) OP5.out p rfl eP_len eP_one hpl (by omega) hs5 ?_; intro v6 w6 o6 g6; have O6 := Lib.hid o6; have G6 := Lib.hid g6; clear o6 g6))
        have b6 := grow_below (Below.refl w.heap.size w5) OP5.out G6.out (Nat.le_refl _) hs5
        have nv6 : ∀ q ∈ pvs ++ [p], NdsV w.heap.size w6 q.v q.ls := fun q hq => by
          have h0 : NdsV w.heap.size w5 q.v q.ls := by
            rcases List.mem_append.1 hq with hq | hq
            · exact NV5.out q hq
            · obtain rfl : q = p := by simpa using hq
              exact HNV.out
          exact (h0.kept ((Below.refl w5.heap.size w5).alloc (Nat.le_refl _) _)).grow (OP5.out.alloc _) G6.out
        go_roundg n
        case measure => omega
        case rel =>
          have hl5 : p.ls.length = l5.length := by rw [← HLS.out]; simp
          have h1 := AV.out.1.le
          have h2 := AV.out.2
          simp only [next_i] at h1 h2
          refine ⟨_, t5, pvs ++ [p], rfl, ⟨P5.out.keepB b6 hHw, K5.out.thenB b6 (Nat.le_refl _), O6.out, nv6⟩, ?_, ?_, ?_, ?_, ⟨by simp, ?_⟩, ?_⟩
          · rw [pv_snoc, show p.l = l5 from HLS.out]; exact E1.out
          · rw [AV.out.1.op]; exact HOP.out
          · omega
          · left; omega
          · rw [pv_snoc, total_snoc, show p.l = l5 from HLS.out, List.length_append, List.length_singleton]
            have h3 := HTOT.out
            omega
          · rw [List.length_append, List.length_singleton]; omega
    · have he' : (t.err == 0) = false := by simpa using he
      have e1 := GO.out
      rw [altGo_stop (fun h => he h.1)] at e1
      have E1 := Lib.hid e1
      clear e1 GO he hm
      generalize hee : t.err = ee at c5 he'
      clear hee
      go_wp2_with fail
      refine (joinedC (B := w.heap.size) 4 ap pvs capp wr RDP.out NV.out K.out.size hmx).mono ?_
      rintro e w8 ⟨v8, rfl, nd8, b8⟩
      go_wp2_with fail
      go_ret
      rw [← HQ.out, ← E1.out]
      exact ⟨_, rfl, P.out.keep b8, K.out.trans (Kp.below b8), nd8⟩
theorem alt_all (c : Cx) : ∀ (n k : Nat), k + n = 21 → AltC c k (altF c.G n)
  | 0, k, h => fun s w p hk _ => by have := p.op; omega
  | n + 1, k, h => fun s w p hk _ => altC (altF_ok n) (alt_all c n (s.opens + 1) (by omega)) p
end Go.Proofs.YtooockbfagkknaaGreatDoor.syn
